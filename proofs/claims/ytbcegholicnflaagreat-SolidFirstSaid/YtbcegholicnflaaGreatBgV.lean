import Derived.Test.YtbcegholicnflaaGreatBgT
import Derived.RangeFuncFrom
set_option linter.unusedVariables false
set_option linter.unusedSimpArgs false
namespace Go.Ag
open Go.RowKit
def nxE (n k:Nat) : Nat := if k + 1 < n then k + 1 else 0
def ak5 (P : Program) (gf:Nat) (lb : Array Value) (encs : Nat -> Array Value) (N:Nat) (R : World -> Prop) : Prop :=
  ∀ (n l:Nat) (J : Nat -> World -> Prop) (Jx : World -> Prop) (W : World), (∀ k W, J k W -> R W) ->
    (∀ k W W', J k W -> Keep (fun i => W.heap.size <= i) W W' -> J k W') -> (∀ W W', Jx W -> Keep (fun i => W.heap.size <= i) W W' -> Jx W') ->
    (∀ k W, k < N -> J k W -> YieldAt Fence.wide (n - 1) P l (encs k) W fun e W' => (e = .returned (.bool true) /\ J (k + 1) W') \/ (e = .returned (.bool false) /\ Jx W')) -> J 0 W ->
    CallsIn Fence.wide n P gf (#[.func (.yield l) #[] #[]] ++ lb) W fun e W' => (∃ v, e = .returned v) /\ (J N W' \/ Jx W')
def BI (P : Program) (gf:Nat) (g : List AV -> Option (Prop × Nat × (Nat -> List AV))) : Prop :=
  (∀ args w, (callFunc gf args).run P w = .ok (.enter gf args) w) /\ ∀ cap p N args, g cap = some (p, N, args) -> p -> ∀ (E : Env) lb, VRs E.bare cap lb -> ∀ w, OJ E w ->
    ∃ encs : Nat -> Array Value, (∀ k, k < N -> VRs E.bare (args k) (encs k).toList) /\ ak5 P gf lb.toArray encs N (fun W => OJ E W)
def zo : List Nat -> List AV -> List AV -> List AV
  | p :: ps, a :: as, t => zo ps as (setAt t p a)
  | _, _, t => t
section
variable {C : Ctx} {E : Env} {st : VS} {a : Act} {w w' : World}
theorem VRs.zo {E : Env} : ∀ (ps : List Nat) (as : List AV) (us : List Value) (ts : List AV) (t : Array Value), VRs E as us -> VRs E ts t.toList ->
    VRs E (Ag.zo ps as ts) ((ps.zip us).foldl (fun t (x : Nat × Value) => t.setIfInBounds x.1 x.2) t).toList
  | [], as, us, ts, t, _, h => by unfold Ag.zo; exact h
  | p :: ps, [], us, ts, t, ha, h => by
    unfold VRs at ha
    subst ha
    unfold Ag.zo
    exact h
  | p :: ps, x :: as, us, ts, t, ha, h => by
    unfold VRs at ha
    obtain ⟨v, vs, rfl, h1, h2⟩ := ha
    unfold Ag.zo
    refine VRs.zo ps as vs _ (t.setIfInBounds p v) h2 ?_
    rw [Array.toList_setIfInBounds]
    exact h.set p h1
theorem SR.grown (hs : SR C E st a w) (hk : Keep (fun i => w.heap.size <= i) w w') : SR C E st a w' := by
  have hkk : Keep (La E st.mem w) w w' := hk.mono fun i _ h => .inr h
  exact ⟨hs.tmps, hs.mem.grown hk, hs.Yt hkk, hs.ext, hs.low, hs.nb, hs.df.keep hs.mem hkk, hs.pin, hs.low', fun i hi => Nat.lt_of_lt_of_le (hs.no i hi) hk.size⟩
theorem SR.putObj (hs : SR C E st a w) {r : Nat} {o o' : Obj} (h : w.heap[r]? = some o) (ho : Obj.rX o = true) (ho' : Obj.rX o' = true) (hr : C.W r) (hd : st.df = false) : SR C E st a (w.putObj r o') := by
  have hlt : r < w.heap.size := (Array.getElem?_eq_some_iff.1 h).1
  have hp1 : (w.putObj r o').heap[r]? = some o' := World.putObj_heap_same hlt
  have hp2 : ∀ i, i ≠ r -> (w.putObj r o').heap[i]? = w.heap[i]? := fun i hi => World.putObj_heap_other hi
  have hsz : (w.putObj r o').heap.size = w.heap.size := by simp [World.putObj]
  refine ⟨hs.tmps, hs.mem.putObj h hp1 ho ho' (by rw [hsz]; exact Nat.le_refl _) hp2, hs.keep.trans ⟨rfl, rfl, rfl, by rw [hsz]; exact Nat.le_refl _, fun i hi hw => hp2 i (fun e => hw (by subst e; exact hr))⟩, hs.ext, hs.low, hs.nb, ?_, hs.pin, hs.low', fun i hi => by rw [hsz]; exact hs.no i hi⟩
  have := hs.df
  rw [hd] at this ⊢
  exact this
def Ctx.at (C : Ctx) (w : World) (E : Env) (No : Nat -> Prop) (h : C.N <= w.heap.size) : Ctx := ⟨w, C.E0, E, C.N, No, h⟩
theorem SR.now (hs : SR C E st a w) {No : Nat -> Prop} (hno : ∀ i, No i -> i < w.heap.size) (hno2 : ∀ b x, E.bl b = some x -> (aS .gone st.mem b).own = true -> ¬ No x.blk) {Ep : Env} (hp : Ep.le E) {st' : VS} {a' : Act} (hm : st'.mem = st.mem) (hd : Marks C.N st'.df a' w) (ht : VRs E st'.tmps a'.tmps.toList)
    (hpl : ∀ b x, Ep.bl b = some x -> b < st'.pin) : SR (C.at w Ep No hs.n) E st' a' w := by
  refine ⟨ht, ?_, Keep.refl _ _, hs.ext, hs.low, hs.nb, hd, hp, hpl, hno⟩
  rw [hm]
  exact hs.mem.aaE fun b x e ho => ⟨hs.nb b x e, hno2 b x e ho⟩
end
def VS.back (t : List AV) (pin:Nat) (ms : List Nat) (nm:Nat) (s : VS) (df:Bool) : VS := ⟨t, yu ms 0 nm s.mem, df, pin⟩
def RP (t : List AV) (pin:Nat) (ms : List Nat) (nm:Nat) (c : VS -> Prop) (Q : Exit -> VS -> Prop) (e : Exit) (s : VS) : Prop :=
  cond (okM nm ms 0 nm s.mem && Nat.ble s.pin nm) (match e with
    | .normal => c (VS.back t pin ms nm s false)
    | .ret => Q .ret (VS.back t pin ms nm s true)
    | .exit id => Q (.exit id) (VS.back t pin ms nm s true)
    | _ => False) False
def H8 (k : VS -> Prop) (e : Exit) (s : VS) : Prop :=
  match e with
  | .normal => cond s.df False (k s)
  | _ => False
theorem Ou (n:Nat) : ∀ (i:Nat) (l : List AV), AV.oQ n (EZ [] i l) = true
  | _, [] => by unfold EZ AV.oQ; rfl
  | i, x :: xs => by
    unfold EZ
    simp only [Fe, cond_false]
    unfold AV.oQ
    rw [Ou n (i + 1) xs]
    unfold AV.Af
    rfl
theorem SR.back {C C2 : Ctx} {E E5 : Env} {s s2 : VS} {a a2 : Act} {w w3 : World} {ms : List Nat} {nm : Nat} (hs : SR C E s a w) (hk : Keep C.W w w3) (h2 : SR C2 E5 (s2.mask [] ms nm) a2 w3) (hE0 : C2.E0 = C.E0) (hN : C2.N = C.N) (hW : ∀ i, C2.W i -> C.W i)
    (hle : E.le E5) (hdf : s.df = false) : SR C E5 (VS.back s.tmps s.pin ms nm s2 false) a w3 := by
  refine ⟨VRs.mono hle _ hs.tmps, h2.mem.aaE fun b x e ho => hW _ (h2.mem.ownIn e ho).1, hs.keep.trans hk, fun b o v e => hle.ro b o v (hs.ext b o v e), fun b o v e => ?_, fun b x e => by rw [<- hN]; exact h2.nb b x e, ?_, hs.pin.trans hle, hs.low', fun i hi => Nat.lt_of_lt_of_le (hs.no i hi) hk.size⟩
  . have := h2.low b o v e
    rwa [hE0, hN] at this
  . have := hs.df
    rw [hdf] at this
    exact this
theorem Tr.rangeFunc {X : Cx} (hρ : X.ρ = none) {g : Operand} {ps : Array Tmp} {asg body : Code} {st : VS} {gf : Nat} {cap : List AV} {gi : List AV -> Option (Prop × Nat × (Nat -> List AV))} {p : Prop} {N : Nat} {args : Nat -> List AV}
    (hit : BI X.P gf gi) (hg : st.eval g = .fn gf cap) (hcap : KT (AV.slbs cap) = true) (hgi : gi (AV.Hf [] cap) = some (p, N, args)) (hp : p) (hlen : ∀ k, k < N -> (args k).length = ps.size) (hdf : st.df = false)
    {ms : List Nat} {nm : Nat} (G : Nat -> VS -> Prop) (hG0 : G 0 st) (hGt : ∀ k s, G k s -> s.tmps = st.tmps /\ s.df = false /\ s.pin = st.pin /\ s.mem.length = nm) {Q : Exit -> VS -> Prop}
    (hround : ∀ k s, k < N -> G k s -> ∀ C' l, Tr { X with C := C', ρ := some l } asg ⟨zo ps.toList (args k) s.tmps, s.mem, false, nm⟩ (H8 fun s1 => ∀ C'', Tr { X with C := C'', ρ := some l } body s1 (RP st.tmps st.pin ms nm (G (k + 1)) Q)))
    (hdone : ∀ s, G N s -> Q .normal { s with df := true }) : Tr X (.rangeFunc g ps asg body) st Q := by
  intro n E a w hs
  have hF : FW X.ρ = Fence.wide := by rw [hρ]; rfl
  rw [hF]
  have hv := hs.eval g
  rw [hg] at hv
  unfold VR at hv
  obtain ⟨lb, hval, hlb⟩ := hv
  have hnil : AV.slbs cap = [] := by
    cases h : AV.slbs cap with
    | nil => rfl
    | cons x xs => rw [h] at hcap; cases hcap
  have hlb1 := VRs.frz (E' := E) hs.mem (fun _ _ _ h => h) cap hlb (fun b hb => by rw [hnil] at hb; cases hb)
  rw [AV.Gz (m' := []) cap hnil] at hlb1
  obtain ⟨encs, henc, hiter⟩ := hit.2 _ _ _ _ hgi hp E lb hlb1 w hs.mem.ro
  have hd0 : a.defers = [] := by have := hs.df; rw [hdf] at this; exact this
  refine wpIn_rangeFunc ?_
  intro fn hfn
  obtain ⟨rec, hrec⟩ : ∃ rec : LoopState -> Option Code -> Loop, rec = fun s pe => { state := s, pending := pe, fn, tmps := a.tmps, params := ps, assign := asg, body, defers := w.heap.size } := ⟨_, rfl⟩
  obtain ⟨W1, hW1⟩ : ∃ W1, (w.alloc (.deferred (some []))).alloc (.loop (rec .ready none)) = W1 := ⟨_, rfl⟩
  have hL1 : W1.heap[w.heap.size + 1]? = some (.loop (rec .ready none)) := by
    rw [<- hW1]
    have := World.alloc_heap_new (w.alloc (.deferred (some []))) (.loop (rec .ready none))
    rwa [World.size_alloc] at this
  have hK1 : W1.heap[w.heap.size]? = some (.deferred (some [])) := by
    rw [<- hW1]
    exact (Below.heap_alloc _ _ _ (by simp)).trans (World.alloc_heap_new w _)
  have hkeep1 : Keep (fun i => w.heap.size <= i) w W1 := by
    rw [<- hW1]
    exact (Keep.alloc _ w _).trans ((Keep.alloc (fun _ => False) _ _).mono fun _ _ h => h.elim)
  refine ⟨w.heap.size + 1, [{ target := .collected w.heap.size, args := #[] }], W1, { target := .fn (.func gf) lb.toArray, args := #[.func (.yield (w.heap.size + 1)) #[] #[]] }, W1, gf,
    #[.func (.yield (w.heap.size + 1)) #[] #[]] ++ lb.toArray, W1, ?_, ?_, fun _ _ => trivial, ?_, (fun h => by cases h), ?_⟩
  . rw [<- hW1, hrec]; exact run_enterLoop_outer _ _ _ _ _
  . simp only [resolve, hval]
    simp [go_sem]
  . simp [invoke, go_sem, hit.1]
  . obtain ⟨l, hl⟩ : ∃ l, l = w.heap.size + 1 := ⟨_, rfl⟩
    obtain ⟨l0, hl0⟩ : ∃ l0, l0 = w.heap.size := ⟨_, rfl⟩
    rw [<- hl] at hL1 ⊢
    rw [<- hl0] at hK1 ⊢
    have hll : l ≠ l0 := by omega
    have hNl : X.C.N <= l := Nat.le_trans hs.n (by omega)
    have hNl0 : X.C.N <= l0 := Nat.le_trans hs.n (by omega)
    have hnoC : ¬ X.C.No l := fun h => by have := hs.no l h; omega
    let J : Nat -> World -> Prop := fun k W => ∃ s E2, G k s /\ SR X.C E2 s a W /\ E.le E2 /\ W.heap[l]? = some (.loop (rec .ready none)) /\ W.heap[l0]? = some (.deferred (some []))
    let Jx : World -> Prop := fun W => ∃ (c : Code) (s : VS) (E2 : Env), ((c = .ret /\ Q .ret { s with df := true }) \/ ∃ id, c = .exit id /\ Q (.exit id) { s with df := true }) /\ s.df = false /\ SR X.C E2 s a W /\ W.heap[l]? = some (.loop (rec .done (some c))) /\ W.heap[l0]? = some (.deferred (some []))
    have hown : ∀ {E2 : Env} {s : VS} {a : Act} {C : Ctx} {W : World}, SR C E2 s a W -> ∀ {i : Nat} {o : Obj}, W.heap[i]? = some o -> Obj.rX o = true -> ∀ b x, E2.bl b = some x -> (aS .gone s.mem b).own = true -> x.blk ≠ i := by
      intro E2 s a C W h i o ho hc b x e hw he
      obtain ⟨_, c, t, hh⟩ := h.mem.ownIn e hw
      rw [he, ho] at hh
      cases hh
      cases hc
    refine CallsIn.mono (hiter (n - 1) l J Jx W1 ?_ ?_ ?_ ?_ ?_) ?_
    . rintro k W ⟨s, E2, _, h, hle, _⟩
      exact fun b o v e => h.mem.ro b o v (hle.ro b o v e)
    . rintro k W W' ⟨s, E2, hG, h, hle, h1, h2⟩ hk
      exact ⟨s, E2, hG, h.grown hk, hle, (hk.block _ (Array.getElem?_eq_some_iff.1 h1).1 (by have := (Array.getElem?_eq_some_iff.1 h1).1; omega)).trans h1, (hk.block _ (Array.getElem?_eq_some_iff.1 h2).1 (by have := (Array.getElem?_eq_some_iff.1 h2).1; omega)).trans h2⟩
    . rintro W W' ⟨c, s, E2, hG, hd, h, h1, h2⟩ hk
      exact ⟨c, s, E2, hG, hd, h.grown hk, (hk.block _ (Array.getElem?_eq_some_iff.1 h1).1 (by have := (Array.getElem?_eq_some_iff.1 h1).1; omega)).trans h1, (hk.block _ (Array.getElem?_eq_some_iff.1 h2).1 (by have := (Array.getElem?_eq_some_iff.1 h2).1; omega)).trans h2⟩
    . -- one round
      rintro k W hkN ⟨s, E2, hG, h, hle, h1, h2⟩
      obtain ⟨g1, g2, g3, g4⟩ := hGt k s hG
      have hps : (encs k).size = ps.size := by
        have := (henc k hkN).length
        rw [Array.length_toList] at this
        rw [this, hlen k hkN]
      have hy := run_yield (P := X.P) (args := encs k) h1 (by rw [hrec]; exact hps)
      rw [hrec] at hy
      refine ⟨fn, _, asg, body, hy, roundIn_of_wpIn hfn ?_⟩
      have hlt1 := (Array.getElem?_eq_some_iff.1 h1).1
      have hlt2 := (Array.getElem?_eq_some_iff.1 h2).1
      have hpl : ∀ b x, E2.bl b = some x -> b < nm := fun b x e => by rw [<- g4]; exact (h.mem.dom b x e).1
      obtain ⟨No, hNo⟩ : ∃ No : Nat -> Prop, No = fun i => X.C.No i \/ i = l \/ i = l0 := ⟨_, rfl⟩
      have hsr1 : SR (X.C.at W E2 No h.n) E2 ⟨zo ps.toList (args k) s.tmps, s.mem, false, nm⟩ { tmps := (ps.zip (encs k)).foldl (fun t (x : Nat × Value) => t.setIfInBounds x.1 x.2) a.tmps, defers := [] } W := by
        refine h.now (fun i hi => by rw [hNo] at hi; rcases hi with hi | rfl | rfl <;> first | exact h.no i hi | assumption) (fun b x e ho hi => ?_) (Env.le.refl _) rfl rfl ?_ hpl
        . rw [hNo] at hi
          rcases hi with hi | hi | hi
          . exact (h.mem.ownIn e ho).1.2 hi
          . exact hown h h1 rfl b x e ho hi
          . exact hown h h2 rfl b x e ho hi
        . have hz : (ps.zip (encs k)).foldl (fun t (x : Nat × Value) => t.setIfInBounds x.1 x.2) a.tmps = (ps.toList.zip (encs k).toList).foldl (fun t (x : Nat × Value) => t.setIfInBounds x.1 x.2) a.tmps := by
            rw [<- Array.foldl_toList, Array.toList_zip]
          show VRs E2 _ ((ps.zip (encs k)).foldl _ a.tmps).toList
          rw [hz]
          exact VRs.zo _ _ _ _ _ (VRs.mono (E := E.bare) (E' := E2) ⟨fun b x e => (by cases e), fun b o v e => hle.ro b o v e⟩ _ (henc k hkN)) h.tmps
      have hr1 := hround k s hkN hG _ l (n - 1 - 1) E2 _ W hsr1
      refine wpIn_mono hr1 fun e a1 w1 ⟨E3, s1, q, hs3⟩ => ?_
      cases e with
      | normal =>
        unfold H8 at q
        simp only at q
        cases hd1 : s1.df with
        | true => rw [hd1] at q; exact q.elim
        | false =>
          rw [hd1, cond_false] at q
          have hNo1 : No l := by rw [hNo]; exact .inr (.inl rfl)
          have hNo2 : No l0 := by rw [hNo]; exact .inr (.inr rfl)
          have h1' : w1.heap[l]? = some (.loop (rec .ready none)) := (hs3.keep.block l hlt1 (fun hh => hh.2 hNo1)).trans h1
          have h2' : w1.heap[l0]? = some (.deferred (some [])) := (hs3.keep.block l0 hlt2 (fun hh => hh.2 hNo2)).trans h2
          have hlt1' := (Array.getElem?_eq_some_iff.1 h1').1
          have hlt2' := (Array.getElem?_eq_some_iff.1 h2').1
          have hE23 : E2.le E3 := hs3.pin
          have hs4 : SR ((X.C.at W E2 No h.n).at w1 E2 (fun _ => False) hs3.n) E3 s1 a1 w1 := hs3.now (fun i hi => hi.elim) (fun b x e ho hi => hi) hE23 rfl hs3.df hs3.tmps hs3.low'
          have hs5 := hs4.putObj (o' := .loop { rec .ready none with state := .busy }) h1' rfl rfl ⟨hNl, fun hh => hh⟩ hd1
          obtain ⟨w2, hw2⟩ : ∃ w2, w2 = w1.putObj l (.loop { rec .ready none with state := .busy }) := ⟨_, rfl⟩
          rw [<- hw2] at hs5
          have hl2 : w2.heap[l]? = some (.loop { rec .ready none with state := .busy }) := by rw [hw2]; exact World.putObj_heap_same hlt1'
          have hk2 : w2.heap[l0]? = some (.deferred (some [])) := by rw [hw2]; exact (World.putObj_heap_other (Ne.symm hll)).trans h2'
          have hsz2 : w2.heap.size = w1.heap.size := by rw [hw2]; simp [World.putObj]
          have hs6 : SR (((X.C.at W E2 No h.n).at w1 E2 (fun _ => False) hs3.n).at w2 E2 No hs5.n) E3 s1 a1 w2 := by
            refine hs5.now (fun i hi => ?_) (fun b x e ho hi => ?_) hE23 rfl hs5.df hs5.tmps hs5.low'
            . rw [hNo] at hi
              rw [hsz2]
              rcases hi with hi | rfl | rfl <;> first | exact Nat.lt_of_lt_of_le (h.no i hi) hs3.keep.size | assumption
            . rw [hNo] at hi
              rcases hi with hi | hi | hi
              . exact (hs3.mem.ownIn e ho).1.2 (by show No _; rw [hNo]; exact .inl hi)
              . exact hown hs5 hl2 rfl b x e ho hi
              . exact hown hs5 hk2 rfl b x e ho hi
          have hbr := run_beginRound (P := X.P) h1' (by rw [hrec])
          refine ⟨w2, by rw [hw2]; exact hbr, wpIn_mono (q _ (n - 1 - 1) E3 a1 w2 hs6) fun e2 a2 w3 ⟨E4, s2, q2, hs7⟩ => ?_⟩
          have hl3 : w3.heap[l]? = some (.loop { rec .ready none with state := .busy }) := (hs7.keep.block l (by rw [hsz2]; exact hlt1') (fun hh => hh.2 hNo1)).trans hl2
          have hk3 : w3.heap[l0]? = some (.deferred (some [])) := (hs7.keep.block l0 (by rw [hsz2]; exact hlt2') (fun hh => hh.2 hNo2)).trans hk2
          have hlt3 := (Array.getElem?_eq_some_iff.1 hl3).1
          unfold RP at q2
          cases hok : (okM nm ms 0 nm s2.mem && Nat.ble s2.pin nm) with
          | false => rw [hok] at q2; exact q2.elim
          | true =>
            rw [hok, cond_true] at q2
            rw [Bool.and_eq_true] at hok
            have hfit := (uq (C := ((X.C.at W E2 No h.n).at w1 E2 (fun _ => False) hs3.n).at w2 E2 No hs5.n) (bs := []) (ms := ms) (nm := nm) (s := s2) (K := True) (by unfold Lh; rw [hok.2, Ou, hok.1]; trivial)).1
            obtain ⟨E5, hs8⟩ := hfit E4 a2 w3 hs7
            have hle5 : E2.le E5 := hs8.pin
            have hWW : ∀ i, (X.C.N <= i /\ ¬ No i) -> X.C.W i := fun i hh => ⟨hh.1, fun hi => hh.2 (by rw [hNo]; exact .inl hi)⟩
            have hk12 : Keep X.C.W w1 w2 := by
              rw [hw2]
              exact ⟨rfl, rfl, rfl, by simp [World.putObj], fun i hi hw => World.putObj_heap_other (fun e => hw (by subst e; exact ⟨hNl, hnoC⟩))⟩
            have hkW : Keep X.C.W W w3 := ((hs3.keep.mono fun i _ hh => hWW i hh).trans hk12).trans (hs7.keep.mono fun i _ hh => hWW i hh)
            have hback := h.back (ms := ms) (nm := nm) (s2 := s2) hkW hs8 rfl rfl (fun i hh => hWW i hh) hle5 g2
            rw [g1, g3] at hback
            have hfin : ∀ (stt : LoopState) (jump : Option Code), SR X.C E5 (VS.back st.tmps st.pin ms nm s2 false) a (w3.putObj l (.loop (rec stt jump))) /\ (w3.putObj l (.loop (rec stt jump))).heap[l]? = some (.loop (rec stt jump)) /\ (w3.putObj l (.loop (rec stt jump))).heap[l0]? = some (.deferred (some [])) := fun stt jump =>
              ⟨hback.putObj hl3 rfl rfl ⟨hNl, hnoC⟩ rfl, World.putObj_heap_same hlt3, (World.putObj_heap_other (Ne.symm hll)).trans hk3⟩
            cases e2 with
            | normal =>
              obtain ⟨f1, f2, f3⟩ := hfin .ready none
              refine ⟨.bool true, w3.putObj l (.loop (rec .ready none)), ?_, .inl ⟨rfl, _, E5, q2, f1, hle.trans hle5, f2, f3⟩⟩
              have := run_endRound (P := X.P) none hl3
              rw [hrec] at this ⊢
              exact this
            | ret =>
              obtain ⟨f1, f2, f3⟩ := hfin .done (some .ret)
              refine ⟨.bool false, w3.putObj l (.loop (rec .done (some .ret))), ?_, .inr ⟨rfl, .ret, _, E5, .inl ⟨rfl, q2⟩, rfl, f1, f2, f3⟩⟩
              have := run_endRound (P := X.P) (some .ret) hl3
              rw [hrec] at this ⊢
              exact this
            | exit id =>
              obtain ⟨f1, f2, f3⟩ := hfin .done (some (.exit id))
              refine ⟨.bool false, w3.putObj l (.loop (rec .done (some (.exit id)))), ?_, .inr ⟨rfl, .exit id, _, E5, .inr ⟨id, rfl, q2⟩, rfl, f1, f2, f3⟩⟩
              have := run_endRound (P := X.P) (some (.exit id)) hl3
              rw [hrec] at this ⊢
              exact this
            | goto t => exact q2.elim
            | panic ch => exact q2.elim
            | outgrown => exact q2.elim
      | exit id => exact q.elim
      | goto l => exact q.elim
      | ret => exact q.elim
      | panic ch => exact q.elim
      | outgrown => exact q.elim
    . exact ⟨st, E, hG0, hs.grown hkeep1, Env.le.refl E, hL1, hK1⟩
    . -- behind the iterator
      rintro e W2 ⟨⟨v, rfl⟩, (⟨s, E2, hG, h, hle, h1, h2⟩ | ⟨c, s, E2, hc, hd, h, h1, h2⟩)⟩
      . obtain ⟨g1, g2, g3, g4⟩ := hGt N s hG
        refine ⟨none, _, by have := run_endLoop (P := X.P) h1 (by rw [hrec]; simp); rw [hrec] at this; exact this, ?_⟩
        have h' := h.putObj (o' := .loop { rec .ready none with state := .exhausted }) h1 rfl rfl ⟨hNl, hnoC⟩ g2
        rw [hrec] at h'
        exact ⟨E2, _, hdone s hG, ⟨h'.tmps, h'.mem, h'.keep, h'.ext, h'.low, h'.nb, ⟨l0, by rw [hd0]; rfl, hNl0, (World.putObj_heap_other (Ne.symm hll)).trans h2⟩, h'.pin, h'.low', h'.no⟩⟩
      . refine ⟨some c, _, by have := run_endLoop (P := X.P) h1 (by rw [hrec]; simp); rw [hrec] at this; exact this, ?_⟩
        have h' := h.putObj (o' := .loop { rec .done (some c) with state := .exhausted }) h1 rfl rfl ⟨hNl, hnoC⟩ hd
        rw [hrec] at h'
        have hfin : SR X.C E2 { s with df := true } { a with defers := [{ target := .collected l0, args := #[] }] ++ a.defers } _ :=
          ⟨h'.tmps, h'.mem, h'.keep, h'.ext, h'.low, h'.nb, ⟨l0, by rw [hd0]; rfl, hNl0, (World.putObj_heap_other (Ne.symm hll)).trans h2⟩, h'.pin, h'.low', h'.no⟩
        rcases hc with ⟨rfl, hq⟩ | ⟨id, rfl, hq⟩
        . exact wpIn_ret ⟨E2, _, hq, hfin⟩
        . exact wpIn_exit ⟨E2, _, hq, hfin⟩
theorem Std.with {P : Program} {T : Tab} {Γ : wK} {X : Cx} (h : Std P T Γ X) (C : Ctx) (ρ : Option Nat) : Std P T Γ { X with C := C, ρ := ρ } := ⟨h.P, h.T, h.Γ, h.ok.tab, h.ok.env⟩
theorem Qq {P : Program} {T : Tab} {Γ : wK} {X : Cx} (hX : Std P T Γ X) {asg body c1 c2 : Code} (e1 : asg = c1) (e2 : body = c2) {tr : Nat -> VS -> (Exit -> VS -> Prop) -> Prop} (htr : ∀ X', Std P T Γ X' -> ∀ j st Q, tr j st Q -> TrK X' body j st Q) {R : VS} {Q' : Exit -> VS -> Prop}
    (h : vwp T Γ (fun _ _ _ => False) 0 c1 R (H8 fun s1 => vwp T Γ tr 0 c2 s1 Q')) (C' : Ctx) (l:Nat) : Tr { X with C := C', ρ := some l } asg R (H8 fun s1 => ∀ C'', Tr { X with C := C'', ρ := some l } body s1 Q') := by
  refine (dG (hX.with C' (some l)) e1 (tr := fun _ _ _ => False) (fun _ _ _ h => h.elim) h).mono fun e s q => ?_
  cases e with
  | normal =>
    unfold H8 at q ⊢
    simp only at q ⊢
    cases hd : s.df with
    | true => rw [hd] at q; exact q.elim
    | false =>
      rw [hd, cond_false] at q
      simp only [cond_false]
      intro C''
      exact dG (hX.with C'' (some l)) e2 (htr _ (hX.with C'' (some l))) q
  | exit id => exact q.elim
  | goto l => exact q.elim
  | ret => exact q.elim
  | panic c => exact q.elim
  | outgrown => exact q.elim
theorem aeL {X : Cx} (hρ : X.ρ = none) {b : Code} {k : Nat} {g : Operand} {ps : Array Tmp} {asg body : Code} (hb : dA b k = .rangeFunc g ps asg body) {V : Type} (S : V -> VS) {t : List AV} {pn nm : Nat} {ms : List Nat}
    (hS : ∀ v, (S v).tmps = t /\ (S v).df = false /\ (S v).pin = pn /\ (S v).mem.length = nm) {gf : Nat} {cap : List AV} {gi : List AV -> Option (Prop × Nat × (Nat -> List AV))} {p : Prop} {N : Nat} {args : Nat -> List AV}
    (hit : BI X.P gf gi) (v0 : V) (hg : (S v0).eval g = .fn gf cap) (hcap : KT (AV.slbs cap) = true) (hgi : gi (AV.Hf [] cap) = some (p, N, args)) (hp : p) (hlen : ∀ j, (args j).length = ps.size)
    (W : Nat -> Nat -> V -> Prop) {Q : Exit -> VS -> Prop}
    (hstep : ∀ r j v, W (r + 1) j v -> ∀ C' l, Tr { X with C := C', ρ := some l } asg ⟨zo ps.toList (args j) t, (S v).mem, false, nm⟩ (H8 fun s1 => ∀ C'', Tr { X with C := C'', ρ := some l } body s1 (RP t pn ms nm (fun s => ∃ v', s = S v' /\ W r (j + 1) v') Q)))
    (hend : ∀ j v, W 0 j v -> Q .normal { S v with df := true }) (h : W N 0 v0) : TrK X b k (S v0) Q := by
  rw [Ve]
  show Tr X (dA b k) (S v0) Q
  rw [hb]
  obtain ⟨s1, s2, s3, s4⟩ := hS v0
  refine Tr.rangeFunc hρ hit hg hcap hgi hp (fun j _ => hlen j) s2 (ms := ms) (nm := nm) (fun j s => j <= N /\ ∃ v, s = S v /\ W (N - j) j v) ⟨Nat.zero_le _, v0, rfl, h⟩ ?_ ?_ ?_
  . rintro j s ⟨_, v, rfl, _⟩
    obtain ⟨q1, q2, q3, q4⟩ := hS v
    exact ⟨by rw [q1, s1], q2, by rw [q3, s3], q4⟩
  . rintro j s hj ⟨_, v, rfl, hw⟩ C' l
    have hr : N - j = (N - (j + 1)) + 1 := by omega
    rw [hr] at hw
    have := hstep _ _ _ hw C' l
    rw [(hS v).1, s1, s3]
    refine this.mono fun e s' q => ?_
    cases e with
    | normal =>
      unfold H8 at q ⊢
      simp only at q ⊢
      cases hd : s'.df with
      | true => rw [hd] at q; exact q.elim
      | false =>
        rw [hd, cond_false] at q
        simp only [cond_false]
        intro C''
        refine (q C'').mono fun e2 s2 q2 => ?_
        unfold RP at q2 ⊢
        cases hok : (okM nm ms 0 nm s2.mem && Nat.ble s2.pin nm) with
        | false => rw [hok] at q2; exact q2.elim
        | true =>
          rw [hok, cond_true] at q2
          rw [cond_true]
          cases e2 with
          | normal => exact ⟨by omega, q2⟩
          | exit id => exact q2
          | goto l => exact q2
          | ret => exact q2
          | panic c => exact q2
          | outgrown => exact q2
    | exit id => exact q.elim
    | goto l => exact q.elim
    | ret => exact q.elim
    | panic c => exact q.elim
    | outgrown => exact q.elim
  . rintro s ⟨_, v, rfl, hw⟩
    rw [Nat.sub_self] at hw
    exact hend _ _ hw
end Go.Ag

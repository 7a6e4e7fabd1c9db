import Derived.Test.YtbcegholicnflaaGreatBgH
import Derived.RangeFuncCalls
set_option linter.unusedVariables false
set_option linter.unusedSimpArgs false
namespace Go.Ag
open Go.RowKit
structure Ctx where
  w0 : World
  E0 : Env
  /-- What stays as it is known. -/
  Ep : Env
  N : Nat
  /-- Blocks that are not turned. -/
  No : Nat -> Prop
  hN : N <= w0.heap.size
def Ctx.W (C : Ctx) (i:Nat) : Prop := C.N <= i /\ ¬ C.No i
def La (E : Env) (m : Mem) (w : World) (i:Nat) : Prop := (∃ b x, E.bl b = some x /\ (aS .gone m b).own = true /\ x.blk = i) \/ w.heap.size <= i
def Marks (N:Nat) (df:Bool) (a : Act) (w : World) : Prop :=
  if df then ∃ r, a.defers = [{ target := .collected r, args := #[] }] /\ N <= r /\ w.heap[r]? = some (.deferred (some [])) else a.defers = []
structure SR (C : Ctx) (E : Env) (st : VS) (a : Act) (w : World) : Prop where
  tmps : VRs E st.tmps a.tmps.toList
  mem : bD C.W E st.mem w
  keep : Keep C.W C.w0 w
  ext : ∀ b o v, C.E0.ro b o = some v -> E.ro b o = some v
  low : ∀ b o v, E.ro b o = some v -> C.E0.ro b o = some v \/ C.N <= b
  nb : ∀ b x, E.bl b = some x -> C.N <= x.blk
  df : Marks C.N st.df a w
  pin : C.Ep.le E
  low' : ∀ b x, C.Ep.bl b = some x -> b < st.pin
  no : ∀ i, C.No i -> i < w.heap.size
section
variable {P : Program} {T : Tab} {C : Ctx} {E : Env} {W W' : Nat -> Prop} {m : Mem} {w w' : World} {st : VS} {a : Act}
theorem bD.aaE (h : bD W E m w) (hw : ∀ b x, E.bl b = some x -> (aS .gone m b).own = true -> W' x.blk) : bD W' E m w := by
  refine ⟨fun b x e => ?_, h.inj, h.ro, h.apart⟩
  obtain ⟨h1, h2, h3⟩ := h.dom b x e
  refine ⟨h1, h2, ?_⟩
  rcases h3 with h3 | ⟨g1, g2, g3, g4, g5⟩
  . exact .inl h3
  . exact .inr ⟨g1, g2, g3, g4, fun ho => ⟨hw b x e ho, (g5 ho).2⟩⟩
theorem bD.tight (h : bD W E m w) : bD (La E m w) E m w := h.aaE fun b x e ho => .inl ⟨b, x, e, ho, rfl⟩
theorem bD.ownIn (h : bD W E m w) {b : Nat} {x : Bl} (e : E.bl b = some x) (ho : (aS .gone m b).own = true) : W x.blk /\ ∃ c t, w.heap[x.blk]? = some (.cells c t (0, 0)) := by
  rcases (h.dom b x e).2.2 with h3 | ⟨_, _, _, _, g3⟩
  . rw [h3] at ho; cases ho
  . obtain ⟨a, c, d, _⟩ := g3 ho
    exact ⟨a, c, _, d⟩
theorem SR.n (h : SR C E st a w) : C.N <= w.heap.size := Nat.le_trans C.hN h.keep.size
theorem SR.apH (h : SR C E st a w) {i : Nat} (hi : La E st.mem w i) : C.W i := by
  rcases hi with ⟨b, x, e, ho, rfl⟩ | hi
  . exact (h.mem.ownIn e ho).1
  . exact ⟨Nat.le_trans h.n hi, fun hno => by have := h.no i hno; omega⟩
theorem bD.back {E' : Env} {m' : Mem} (h : SR C E st a w) (hm : bD (La E st.mem w) E' m' w') : bD C.W E' m' w' :=
  hm.aaE fun b x e ho => h.apH (hm.ownIn e ho).1
theorem SR.Yt (h : SR C E st a w) (hk : Keep (La E st.mem w) w w') : Keep C.W C.w0 w' := h.keep.trans (hk.mono fun i _ hi => h.apH hi)
theorem Marks.keep {N : Nat} {df : Bool} (h : Marks N df a w) (hm : bD W E m w) (hk : Keep (La E m w) w w') : Marks N df a w' := by
  unfold Marks at *
  split
  . rename_i hd
    rw [if_pos hd] at h
    obtain ⟨r, h1, h3, h2⟩ := h
    refine ⟨r, h1, h3, ?_⟩
    have hlt : r < w.heap.size := (Array.getElem?_eq_some_iff.1 h2).1
    rw [hk.block r hlt ?_, h2]
    rintro (⟨b, x, e, ho, rfl⟩ | hi)
    . obtain ⟨_, c, t, hc⟩ := hm.ownIn e ho
      rw [hc] at h2; cases h2
    . omega
  . rename_i hd
    rwa [if_neg hd] at h
theorem SR.eval (h : SR C E st a w) (x : Operand) : VR E (st.eval x) (a.eval x) := by
  cases x with
  | tmp t =>
    show VR E (aS .dead st.tmps t) (a.tmps.getD t undef)
    have := h.tmps.get t undef
    rw [show a.tmps.getD t undef = a.tmps.toList.getD t undef by simp [Array.getD, List.getD]; split <;> simp_all]
    exact this
  | const v => exact VR.const v
  | global g => show VR E .dead _; unfold VR; trivial
  | func f => show VR E (.fn f []) (.func (.func f) #[] #[]); unfold VR; exact ⟨[], rfl, VRs.nil E⟩
theorem SR.put (h : SR C E st a w) {d : Option Tmp} {v : AV} {u : Value} (hv : VR E v u) : SR C E (st.put d v) (a.put d u) w := by
  cases d with
  | none => exact h
  | some d =>
    exact ⟨by
      show VRs E (setAt st.tmps d v) (a.tmps.setIfInBounds d u).toList
      rw [Array.toList_setIfInBounds]
      exact h.tmps.set d hv, h.mem, h.keep, h.ext, h.low, h.nb, h.df, h.pin, h.low', h.no⟩
theorem SR.step (h : SR C E st a w) {E' : Env} {m' : Mem} {d : Option Tmp} {v : AV} {u : Value} (he : E.le E') (hm : bD (La E st.mem w) E' m' w') (hk : Keep (La E st.mem w) w w') (hv : VR E' v u)
    (hlow : ∀ b o v, E'.ro b o = some v -> E.ro b o = some v \/ w.heap.size <= b) (hnb : ∀ b x, E'.bl b = some x -> (∃ b' y, E.bl b' = some y /\ y.blk = x.blk) \/ w.heap.size <= x.blk) :
    SR C E' (({ st with mem := m' } : VS).put d v) (a.put d u) w' := by
  refine SR.put (st := { st with mem := m' }) ⟨VRs.mono he _ h.tmps, hm.back h, h.Yt hk, fun b o v e => he.ro b o v (h.ext b o v e), fun b o v e => ?_, fun b x e => ?_, h.df.keep h.mem hk, h.pin.trans he, h.low', fun i hi => Nat.lt_of_lt_of_le (h.no i hi) hk.size⟩ hv
  . rcases hlow b o v e with e | e
    . exact h.low b o v e
    . exact .inr (Nat.le_trans h.n e)
  . rcases hnb b x e with ⟨b', y, e, hy⟩ | e
    . rw [<- hy]; exact h.nb b' y e
    . exact Nat.le_trans h.n e
theorem SR.apI (h : SR C E st a w) {E' : Env} {m' : Mem} {d : Option Tmp} {v : AV} {u : Value} {k : Nat} (he : E.leX k E') (hm : bD (La E st.mem w) E' (tX k m') w') (hk : Keep (La E st.mem w) w w') (hv : VR E' v u) (hro : E'.ro = E.ro) (hpk : st.pin <= k)
    (hnb : ∀ b x, E'.bl b = some x -> (∃ y, E.bl b = some y /\ y.blk = x.blk) \/ w.heap.size <= x.blk) :
    SR C E' (({ st with tmps := AV.kills k st.tmps, mem := tX k m' } : VS).put d v) (a.put d u) w' := by
  refine SR.put (st := { st with tmps := AV.kills k st.tmps, mem := tX k m' }) ⟨VRs.kill he _ h.tmps, hm.back h, h.Yt hk, fun b o v e => he.ro b o v (h.ext b o v e), fun b o v e => ?_, fun b x e => ?_, h.df.keep h.mem hk, ⟨fun b x e => he.bl b x (by have := h.low' b x e; omega) (h.pin.bl b x e), fun b o v e => he.ro b o v (h.pin.ro b o v e)⟩, h.low', fun i hi => Nat.lt_of_lt_of_le (h.no i hi) hk.size⟩ hv
  . rw [hro] at e
    exact h.low b o v e
  . rcases hnb b x e with ⟨y, e, hy⟩ | e
    . rw [<- hy]; exact h.nb b y e
    . exact Nat.le_trans h.n e
theorem SR.drew (h : SR C E st a w) : SR C E st a w.drew :=
  ⟨h.tmps, h.mem.drew, h.keep.trans (Keep.drew _ _), h.ext, h.low, h.nb, h.df, h.pin, h.low', h.no⟩
theorem SR.extend (h : SR C E st a w) (k:Nat) : SR C E { st with mem := Ag.extend st.mem k } a w := ⟨h.tmps, h.mem.extend k, h.keep, h.ext, h.low, h.nb, h.df, h.pin, h.low', h.no⟩
def Fz (E E' : Env) (m : Mem) (w : World) (b:Nat) : Prop := ∀ x, E.bl b = some x -> aS .gone m b ≠ .gone -> ∀ o v, w.cell? ⟨x.blk, o, none⟩ = some v -> E'.ro x.blk o = some v
theorem AB.Xn (ab : AB) : ab.disown.disown = ab.disown := by cases ab <;> rfl
theorem Yu {α : Type} (d : α) (l : List α) (n:Nat) : setAt l n (aS d l n) = l := by
  rw [pR, gy]
  apply List.ext_getElem?
  intro i
  rw [List.getElem?_set]
  split
  . rename_i hi
    subst hi
    split
    . rename_i hl; simp [List.getD, hl]
    . rename_i hl; rw [List.getElem?_eq_none (by omega)]
  . rfl
theorem bD.Xo : ∀ (bs : List Nat) {E : Env} {m : Mem} {w : World}, bD W E m w -> ∃ E' : Env, E.le E' /\ E'.bl = E.bl /\ bD W E' (oP bs m) w /\ (∀ b, b ∈ bs -> Fz E E' m w b) /\
    (∀ b o v, E'.ro b o = some v -> E.ro b o = some v \/ ∃ b' x, E.bl b' = some x /\ x.blk = b) /\ (oP bs m).length = m.length /\ ∀ b, aS .gone (oP bs m) b = aS .gone m b \/ aS .gone (oP bs m) b = (aS .gone m b).disown
  | [], E, m, w, h => ⟨E, Env.le.refl E, rfl, h, (fun b hb => by cases hb), fun b o v e => .inl e, rfl, fun b => .inl rfl⟩
  | b :: bs, E, m, w, h => by
    have step : ∃ E1 : Env, E.le E1 /\ E1.bl = E.bl /\ bD W E1 (setAt m b (aS .gone m b).disown) w /\ Fz E E1 m w b /\ (∀ b o v, E1.ro b o = some v -> E.ro b o = some v \/ ∃ b' x, E.bl b' = some x /\ x.blk = b) := by
      by_cases hg : aS .gone m b = .gone
      . refine ⟨E, Env.le.refl E, rfl, ?_, fun x _ hne => absurd hg hne, fun b o v e => .inl e⟩
        rw [show (aS .gone m b).disown = aS .gone m b by rw [hg]; rfl, Yu]
        exact h
      . cases hx : E.bl b with
        | none => exact ⟨E, Env.le.refl E, rfl, h.U2 hx _, fun x hx' => (by rw [hx] at hx'; cases hx'), fun b o v e => .inl e⟩
        | some x =>
          refine ⟨E.froze x w, Env.PX h x, rfl, h.froze hx hg, fun y hy _ o v hv => ?_, fun b' o v e => ?_⟩
          . rw [hx] at hy
            cases hy
            unfold Env.froze
            simp only [if_true]
            exact hv
          . unfold Env.froze at e
            simp only at e
            split at e
            . rename_i hb; exact .inr ⟨b, x, hx, hb.symm⟩
            . exact .inl e
    obtain ⟨E1, s1, s2, s3, s4, s5⟩ := step
    obtain ⟨E2, t1, t2, t3, t4, t5, t6, t7⟩ := bD.Xo bs s3
    have hgone : ∀ b', aS .gone m b' ≠ .gone -> aS .gone (setAt m b (aS .gone m b).disown) b' ≠ .gone := by
      intro b' hne
      by_cases hb : b = b'
      . subst hb
        have hl : b < m.length := by
          rcases Nat.lt_or_ge b m.length with h | h
          . exact h
          . rw [kZ _ h] at hne; exact absurd rfl hne
        rw [bV _ _ hl, ne_eq, AB.N9]
        exact hne
      . rw [aP _ _ _ hb]; exact hne
    refine ⟨E2, s1.trans t1, t2.trans s2, t3, fun b' hb' => ?_, fun b' o v e => ?_, by show (oP bs _).length = _; rw [t6, cu], fun b' => ?_⟩
    . intro x hx hne o v hv
      rcases List.mem_cons.1 hb' with rfl | hb'
      . exact t1.ro _ _ _ (s4 x hx hne o v hv)
      . exact t4 b' hb' x (by rw [s2]; exact hx) (hgone b' hne) o v hv
    . rcases t5 b' o v e with e | ⟨c, x, hc, hx⟩
      . exact s5 b' o v e
      . exact .inr ⟨c, x, by rw [<- s2]; exact hc, hx⟩
    . show aS .gone (oP bs _) b' = _ \/ aS .gone (oP bs _) b' = _
      by_cases hb : b = b'
      . subst hb
        by_cases hl : b < m.length
        . have := t7 b
          rw [bV _ _ hl, AB.Xn] at this
          exact .inr (this.elim id id)
        . left
          have hle : (oP bs (setAt m b (aS .gone m b).disown)).length <= b := by have := t6.trans (cu _ _ _); omega
          rw [kZ _ hle, kZ _ (by omega)]
      . have := t7 b'
        rw [aP _ _ _ hb] at this
        exact this
theorem Uh (b j:Nat) : (⟨b, j, none⟩ : Addr) = (⟨b, 0, none⟩ : Addr).add j := by
  unfold Addr.add
  by_cases h : j = 0
  . subst h; simp
  . simp [h]
mutual
theorem VR.tV {E' : Env} (hle : ∀ b o v, E.ro b o = some v -> E'.ro b o = some v) : ∀ (a : AV) {v : Value}, VR E a v -> VR E'.bare a.tV v
  | .dead, _, _ => by unfold AV.tV; exact VR.dead
  | .int _ n, _, hv => by unfold AV.tV; unfold VR at *; exact hv
  | .bool b, _, hv => by unfold AV.tV; unfold VR at *; exact hv
  | .nilp, _, hv => by unfold AV.tV; unfold VR at *; exact hv
  | .ptr e b i j, _, _ => by unfold AV.tV; exact VR.dead
  | .nils, _, hv => by unfold AV.tV; unfold VR at *; exact .inl ⟨by simp, rfl, hv⟩
  | .sl q b n s, _, _ => by unfold AV.tV; exact VR.dead
  | .nili, _, hv => by unfold AV.tV; unfold VR at *; exact hv
  | .raw _, _, hv => by unfold AV.tV; unfold VR at *; exact hv
  | .rs q n c, v, hv => by
    have := VR.mono (E := E) (E' := ⟨E.bl, E'.ro⟩) ⟨fun _ _ e => e, hle⟩ _ hv
    unfold AV.tV; unfold VR at *
    rcases this with ⟨_, h2, h3⟩ | ⟨_, h3⟩
    . exact .inl ⟨by simp, h2, h3⟩
    . exact .inr ⟨by simp, h3⟩
  | .rp cs j, v, hv => by
    have := VR.mono (E := E) (E' := ⟨E.bl, E'.ro⟩) ⟨fun _ _ e => e, hle⟩ _ hv
    unfold AV.tV; unfold VR at *
    exact this
  | .agg cs, _, hv => by
    unfold AV.tV; unfold VR at *
    obtain ⟨l, hv, hl⟩ := hv
    exact ⟨l, hv, VRs.tV hle cs hl⟩
  | .tup cs, _, hv => by
    unfold AV.tV; unfold VR at *
    obtain ⟨l, hv, hl⟩ := hv
    exact ⟨l, hv, VRs.tV hle cs hl⟩
  | .ifc t a, _, hv => by
    unfold AV.tV; unfold VR at *
    obtain ⟨y, hv, hy⟩ := hv
    exact ⟨y, hv, VR.tV hle a hy⟩
  | .fn f cap, _, hv => by
    unfold AV.tV; unfold VR at *
    obtain ⟨l, hv, hl⟩ := hv
    exact ⟨l, hv, VRs.tV hle cap hl⟩
theorem VRs.tV {E' : Env} (hle : ∀ b o v, E.ro b o = some v -> E'.ro b o = some v) : ∀ (as : List AV) {l : List Value}, VRs E as l -> VRs E'.bare (AV.JF as) l
  | [], _, hl => by unfold AV.JF; unfold VRs at *; exact hl
  | a :: as, _, hl => by
    unfold AV.JF
    unfold VRs at *
    obtain ⟨v, vs, hl, h1, h2⟩ := hl
    exact ⟨v, vs, hl, VR.tV hle a h1, VRs.tV hle as h2⟩
end
mutual
theorem VR.frz {E' : Env} (hm : bD W E m w) (hle : ∀ b o v, E.ro b o = some v -> E'.ro b o = some v) : ∀ (a : AV) {v : Value}, VR E a v -> (∀ b, b ∈ a.slb -> Fz E E' m w b) -> VR E'.bare (a.frz m) v
  | .dead, _, _, _ => by unfold AV.frz; exact VR.dead
  | .int _ n, _, hv, _ => by unfold AV.frz; unfold VR at *; exact hv
  | .bool b, _, hv, _ => by unfold AV.frz; unfold VR at *; exact hv
  | .nilp, _, hv, _ => by unfold AV.frz; unfold VR at *; exact hv
  | .ptr e b i j, v, hv, hf => by
    unfold AV.frz
    cases e with
    | true => exact VR.dead
    | false =>
      simp only [cond_false]
      cases hi : Nat.beq i 0 with
      | false => exact VR.dead
      | true =>
        have hi := Nat.eq_of_beq_eq_true hi
        subst hi
        simp only [cond_true]
        split
        . rename_i o ty cs hg
          unfold VR at hv ⊢
          obtain ⟨x, hx, hv⟩ := hv
          have hb3 := (hm.dom b x hx).2.2
          rw [hg] at hb3
          rcases hb3 with hb3 | ⟨g1, gl, gc, g2, _⟩
          . cases hb3
          . obtain ⟨l, l1, l2, l3, l4⟩ := g2 0 (by simp [AB.n])
            simp only [AB.sz, AB.env, AB.get] at l1 l2 l4
            refine ⟨⟨x.blk, 0, none⟩, l, by rw [hv]; simp only [Bl.addr, Nat.zero_mul, Nat.zero_add]; rw [Uh], rfl, VRs.tV hle cs l1, fun k hk => ?_⟩
            have := l4 k (by omega)
            rw [List.getElem?_eq_getElem hk] at this ⊢
            have h0 := hf b (by unfold AV.slb; simp) x hx (by rw [hg]; simp) _ _ this
            show E'.ro x.blk (0 + k) = _
            rw [Nat.zero_add]
            simpa [Bl.addr] using h0
        . exact VR.dead
  | .nils, _, hv, _ => by unfold AV.frz; unfold VR at *; exact .inl ⟨by simp, rfl, hv⟩
  | .sl q b n s, v, hv, hf => by
    unfold AV.frz
    split
    . rename_i o ty n' g hg
      unfold VR at *
      rcases hv with ⟨_, hn, hv⟩ | ⟨_, x, hx, hs, hs0, hl, hc, hv⟩
      . exact .inl ⟨by simp, hn, hv⟩
      . refine .inr ⟨by simp, _, _, hv, hc, fun k hk => ?_⟩
        have hb3 := (hm.dom b x hx).2.2
        rw [hg] at hb3
        rcases hb3 with hb3 | ⟨g1, gl, gc, g2, _⟩
        . cases hb3
        . simp only [AB.sz, AB.n] at g1 gl
          obtain ⟨l, l1, l2, l3, l4⟩ := g2 k (by simp only [AB.n]; omega)
          simp only [AB.sz, AB.env, AB.get] at l1 l2 l4
          refine ⟨rfl, by rintro rfl; simp at g1; omega, l, fD.mono hle _ _ ((fD.row (E := E.bare) _ _).1 l1), fun j hj => ?_⟩
          have := l4 j (by omega)
          rw [List.getElem?_eq_getElem hj] at this ⊢
          have h0 := hf b (by simp [AV.slb]) x hx (by rw [hg]; simp) _ _ this
          simp only [Bl.addr, Nat.zero_mul, Nat.zero_add, Nat.add_zero] at h0 ⊢
          rw [l2, <- g1]
          exact h0
    . exact VR.dead
  | .agg cs, _, hv, hf => by
    unfold AV.frz; unfold VR at *
    obtain ⟨l, hv, hl⟩ := hv
    exact ⟨l, hv, VRs.frz hm hle cs hl (fun b hb => hf b (by unfold AV.slb; exact hb))⟩
  | .tup cs, _, hv, hf => by
    unfold AV.frz; unfold VR at *
    obtain ⟨l, hv, hl⟩ := hv
    exact ⟨l, hv, VRs.frz hm hle cs hl (fun b hb => hf b (by unfold AV.slb; exact hb))⟩
  | .ifc t a, _, hv, hf => by
    unfold AV.frz; unfold VR at *
    obtain ⟨y, hv, hy⟩ := hv
    exact ⟨y, hv, VR.frz hm hle a hy (fun b hb => hf b (by unfold AV.slb; exact hb))⟩
  | .nili, _, hv, _ => by unfold AV.frz; unfold VR at *; exact hv
  | .fn f cap, _, hv, hf => by
    unfold AV.frz; unfold VR at *
    obtain ⟨l, hv, hl⟩ := hv
    exact ⟨l, hv, VRs.frz hm hle cap hl (fun b hb => hf b (by unfold AV.slb; exact hb))⟩
  | .raw u, _, hv, _ => by unfold AV.frz; unfold VR at *; exact hv
  | .rs q n cols, _, hv, _ => by unfold AV.frz; exact VR.Pm (E := E) hle hv.U0
  | .rp cells j, _, hv, _ => by unfold AV.frz; exact VR.Pn (E := E) hle hv
theorem VRs.frz {E' : Env} (hm : bD W E m w) (hle : ∀ b o v, E.ro b o = some v -> E'.ro b o = some v) : ∀ (as : List AV) {l : List Value}, VRs E as l -> (∀ b, b ∈ AV.slbs as -> Fz E E' m w b) -> VRs E'.bare (AV.Hf m as) l
  | [], _, hl, _ => by unfold AV.Hf; unfold VRs at *; exact hl
  | a :: as, _, hl, hf => by
    unfold AV.Hf
    unfold VRs at *
    obtain ⟨v, vs, hl, h1, h2⟩ := hl
    exact ⟨v, vs, hl, VR.frz hm hle a h1 (fun b hb => hf b (by unfold AV.slbs; exact List.mem_append_left _ hb)), VRs.frz hm hle as h2 (fun b hb => hf b (by unfold AV.slbs; exact List.mem_append_right _ hb))⟩
end
end
def OJ (E : Env) (w : World) : Prop := ∀ b o v, E.ro b o = some v -> b < w.heap.size /\ w.cell? ⟨b, o, none⟩ = some v
def Lc (P : Program) (f : FuncId) (args : Array Value) (w : World) (R : Ending -> World -> Prop) : Prop :=
  ((callFunc f args).run P w = .ok (.enter f args) w /\ Calls P f args w R) \/ ∃ v w', (callFunc f args).run P w = .ok (.value v) w' /\ R (.returned v) w'
def J4 (E : Env) (w : World) (r : AV) : Ending -> World -> Prop := fun e w' => ∃ (E' : Env) (v : Value), e = .returned v /\ VR E'.bare r v /\ (∀ b o v, E.ro b o = some v -> E'.ro b o = some v) /\
  (∀ b o v, E'.ro b o = some v -> E.ro b o = some v \/ w.heap.size <= b) /\ OJ E' w' /\ Keep (fun i => w.heap.size <= i) w w'
def aU (P : Program) (f : FuncId) : Spec -> Prop
  | .none => True
  | .pure g => ∀ as p r, g as = some (p, r) -> p -> ∀ E w vs, OJ E w -> VRs E.bare as vs -> Lc P f vs.toArray w (J4 E w r.val)
def J5 (P : Program) (Γ : wK) : Prop := ∀ f, aU P f (Γ f)
theorem RT.of {r : RT} {K : AV -> Prop} (h : r.K K) : K r.val := by
  induction r with
  | leaf v => exact h
  | cond b t e ih1 ih2 =>
    unfold RT.K at h
    unfold RT.val
    cases b
    . exact ih2 h
    . exact ih1 h
def FW : Option Nat -> Fence
  | none => Fence.wide
  | some l => Fence.wide.inRound l
theorem aep (ρ : Option Nat) (f : FuncId) : (FW ρ).fn f := by cases ρ <;> trivial
theorem aer (ρ : Option Nat) : (FW ρ).depth = none := by cases ρ <;> rfl
theorem Yv {ρ : Option Nat} {n : Nat} {P : Program} {f : FuncId} {args : Array Value} {w : World} {R : Ending -> World -> Prop} (h : Calls P f args w R) : CallsIn (FW ρ) n P f args w R := by
  cases ρ with
  | none => exact callsIn_wide.2 h
  | some l => exact (callsIn_wide.2 h).inRound l
section
variable {P : Program} {T : Tab} {Γ : wK} {C : Ctx} {E : Env} {w : World} {st : VS} {a : Act} {ρ : Option Nat} {n : Nat}
theorem vH {o : Oper} {next : Act -> World -> Prop} {Q : Exit -> Act -> World -> Prop} (hd : ∀ c, o.op ≠ .defer c) (h : o.uponIn (FW ρ) n P a next Q ((execOp a.eval o).run P w)) : o.wpIn (FW ρ) n P a w next Q := by
  refine ⟨fun f _ => aep ρ f, ?_⟩
  rw [Oper.semAt_eq _ _ _ hd]
  exact h
def Res (E : Env) (slot L:Nat) : Prop := ∀ b, slot <= b -> b < L -> E.bl b = none
theorem U7 {te : TI} {e : TypeId} {s x : AV} {m : Mem} {slot : Nat} : ∀ f args, jM te e s x m slot ≠ .call f args := by
  intro f args
  unfold jM
  (repeat' split) <;> simp
theorem Ui {o : Oper} {slot : Nat} : ∀ f args, gZ T o st slot = .call f args -> ∃ c, o.op = .call c /\ ((∃ g cap, c.callee = .value g /\ st.eval g = .fn f cap /\ args = nT st c.args.toList ++ cap) ∨
      ∃ r name t v, c.callee = .invoke r name /\ st.eval r = .ifc t v /\ T.meth t name = some f /\ args = v :: nT st c.args.toList) := by
  have hB : ∀ op t c x y m, (∀ f args, Tt T op t c x y m ≠ .call f args) := by
    intro op t c x y m
    cases c <;> unfold Tt <;> intros <;> (try simp only [cond_true, cond_false]) <;> (repeat' split) <;> simp
  have hL : ∀ ti a m, (∀ f args, xX ti a m ≠ .call f args) := by
    intro ti a m
    unfold xX
    intros; (repeat' split) <;> simp
  have hS : ∀ ti a v m, (∀ f args, qI ti a v m ≠ .call f args) := by
    intro ti a v m
    unfold qI
    intros; (repeat' split) <;> simp
  have hU : ∀ op x m, (∀ f args, vun op x m ≠ .call f args) := by
    intro op x m
    unfold vun
    intros; (repeat' split) <;> simp
  have hI : ∀ t x y m, (∀ f args, mP T t x y m ≠ .call f args) := by
    intro t x y m
    unfold mP
    intros; (repeat' split) <;> simp
  have hN : ∀ t x m, (∀ f args, Tv T t x m ≠ .call f args) := by
    intro t x m
    unfold Tv
    intros; (repeat' split) <;> simp
  have hC : ∀ t x l u m, (∀ f args, Ac T t x l u m ≠ .call f args) := by
    intro t x l u m
    unfold Ac
    intros; (repeat' split) <;> simp
  have hV : (∀ f args, vop T o st slot = .call f args -> ∃ c, o.op = .call c /\ ((∃ g cap, c.callee = .value g /\ st.eval g = .fn f cap /\ args = nT st c.args.toList ++ cap) ∨
      ∃ r name t v, c.callee = .invoke r name /\ st.eval r = .ifc t v /\ T.meth t name = some f /\ args = v :: nT st c.args.toList)) := by
    intro f args h
    unfold vop at h
    split at h
    all_goals first
      | (exfalso; revert h; (repeat' split) <;> first
          | (intro h; cases h; done)
          | (intro h; exact hB _ _ _ _ _ _ _ _ h)
          | (intro h; exact hL _ _ _ _ _ h)
          | (intro h; exact hS _ _ _ _ _ _ h)
          | (intro h; exact hU _ _ _ _ _ h)
          | (intro h; exact hI _ _ _ _ _ _ h)
          | (intro h; exact hC _ _ _ _ _ _ _ h))
      | skip
    . rename_i c ho
      split at h
      . exfalso; revert h; (repeat' split) <;> first | (intro h; cases h; done) | (intro h; exact hN _ _ _ _ _ h)
      . exfalso; revert h; (repeat' split) <;> (intro h; cases h)
      . exfalso; revert h; (repeat' split) <;> (intro h; cases h)
      . cases h
      . cases h
      . rename_i g hc
        split at h
        . rename_i f' cap hg
          cases h
          exact ⟨c, ho, .inl ⟨g, cap, hc, hg, rfl⟩⟩
        . cases h
      . rename_i r name hc
        split at h
        . rename_i t v hg
          split at h
          . rename_i f' hm
            cases h
            exact ⟨c, ho, .inr ⟨r, name, t, v, hc, hg, hm, rfl⟩⟩
          . cases h
        . cases h
  intro f args h
  unfold gZ at h
  split at h
  . split at h
    . exfalso; revert h; (repeat' split) <;> first | (intro h; cases h; done) | (intro h; exact U7 _ _ h)
    . exact hV f args h
  . exact hV f args h
theorem P8 {c : Call} {o : Oper} {g : Operand} {f : FuncId} {cap : List Value} (ho : o.op = .call c) (hc : c.callee = .value g) (hg : a.eval g = .func (.func f) #[] cap.toArray) :
    (execOp a.eval o).run P w = (callFunc f ((c.args.toList.map a.eval) ++ cap).toArray).run P w := by
  have hargs' : (c.args.map a.eval) = (c.args.toList.map a.eval).toArray := by apply Array.ext'; simp
  simp only [execOp, ho, Sem.run_bind, resolve, hc, hg, Deferred.ofValue, Sem.run_pure, Result.andThen_ok, invoke, hargs']
  congr 2
  apply Array.ext'
  simp
theorem OL (hT : kP P T) {c : Call} {o : Oper} {r : Operand} {name : String} {t : TypeId} {f : FuncId} {v : Value} (ho : o.op = .call c) (hc : c.callee = .invoke r name) (hr : a.eval r = .iface t v) (hm : T.meth t name = some f) :
    (execOp a.eval o).run P w = (callFunc f (v :: c.args.toList.map a.eval).toArray).run P w := by
  have hargs' : (c.args.map a.eval) = (c.args.toList.map a.eval).toArray := by apply Array.ext'; simp
  simp only [execOp, ho, Sem.run_bind, resolve, hc, hr, Sem.run_pure, Result.andThen_ok, invoke]
  have h0 : (#[Value.iface t v] ++ c.args.map a.eval)[0]? = some (.iface t v) := by
    rw [Array.getElem?_append_left (by simp)]; rfl
  rw [h0]
  have hx : (#[Value.iface t v] ++ c.args.map a.eval).extract 1 (#[Value.iface t v] ++ c.args.map a.eval).size = c.args.map a.eval := by
    apply Array.ext'
    simp
    rw [List.take_of_length_le (by simp)]
  rw [hx]
  simp only [callMethod, Sem.run_bind, run_program, Result.andThen_ok, hT.meth t name f hm]
  congr 2
  apply Array.ext'
  simp
theorem Hu {o : Oper} {f : FuncId} {args : Array Value} {R : Ending -> World -> Prop} {next : Act -> World -> Prop} {Q : Exit -> Act -> World -> Prop} (h : Lc P f args w R)
    (hR : ∀ e w', R e w' -> ∃ v, e = .returned v /\ next (a.put o.dst v) w') : o.uponIn (FW ρ) n P a next Q ((callFunc f args).run P w) := by
  rcases h with ⟨h1, h2⟩ | ⟨v, w', h1, h2⟩
  . rw [h1]
    refine ⟨fun hh => (by rw [aer] at hh; cases hh), ?_⟩
    refine (Yv h2).mono fun e w' hr => ?_
    obtain ⟨v, rfl, hn⟩ := hR e w' hr
    exact hn
  . rw [h1]
    obtain ⟨v', e, hn⟩ := hR _ _ h2
    cases e
    exact hn
theorem Xp {o : Oper} {slot : Nat} {f : FuncId} {args : List AV} (hT : kP P T) (hs : SR C E st a w) (hv : gZ T o st slot = .call f args) : (∀ c, o.op ≠ .defer c) /\ allocs o.op = false /\ ∃ vs, VRs E args vs /\ (execOp a.eval o).run P w = (callFunc f vs.toArray).run P w := by
  have hcall := Ui (T := T) (st := st) (o := o) (slot := slot) f args hv
  obtain ⟨c, ho, hcc⟩ := hcall
  refine ⟨by simp [ho], ?_, ?_⟩
  . rcases hcc with ⟨g, cap, hc, _⟩ | ⟨r, name, t, v, hc, _⟩ <;> simp [allocs, ho, hc]
  . rcases hcc with ⟨g, cap, hc, hg, rfl⟩ | ⟨r, name, t, v, hc, hg, hm, rfl⟩
    . have hgv := hs.eval g
      rw [hg] at hgv
      unfold VR at hgv
      obtain ⟨l, hl1, hl2⟩ := hgv
      exact ⟨_, (vG hs.eval c.args.toList).append hl2, P8 ho hc hl1⟩
    . have hgv := hs.eval r
      rw [hg] at hgv
      unfold VR at hgv
      obtain ⟨y, hl1, hl2⟩ := hgv
      exact ⟨_, VRs.cons hl2 (vG hs.eval c.args.toList), OL hT ho hc hl1 hm⟩
theorem SR.froze (hs : SR C E st a w) (bs : List Nat) : ∃ E' : Env, E.le E' /\ E'.bl = E.bl /\ SR C E' { st with mem := oP bs st.mem } a w /\ (∀ b, b ∈ bs -> Fz E E' st.mem w b) /\ (oP bs st.mem).length = st.mem.length := by
  obtain ⟨E', h1, h2, h3, h4, h5, h6, h7⟩ := hs.mem.Xo bs
  refine ⟨E', h1, h2, ⟨VRs.mono h1 _ hs.tmps, h3, hs.keep, fun b o v e => h1.ro b o v (hs.ext b o v e), fun b o v e => ?_, fun b x e => hs.nb b x (by rw [<- h2]; exact e), hs.df, hs.pin.trans h1, hs.low', hs.no⟩, h4, h6⟩
  rcases h5 b o v e with e | ⟨b', x, hb, hx⟩
  . exact hs.low b o v e
  . exact .inr (by rw [<- hx]; exact hs.nb b' x hb)
theorem SR.called (hs : SR C E st a w) {d : Option Tmp} {r : AV} {e : Ending} {w' : World} (h : J4 E w r e w') : ∃ (v : Value) (E' : Env), e = .returned v /\ E'.bl = E.bl /\ SR C E' (st.put d r) (a.put d v) w' := by
  obtain ⟨E1, v, rfl, h1, h2, h3, h4, h5⟩ := h
  have hle : E.le ⟨E.bl, E1.ro⟩ := ⟨fun _ _ e => e, h2⟩
  refine ⟨v, ⟨E.bl, E1.ro⟩, rfl, rfl, ?_⟩
  have hm : bD (La E st.mem w) ⟨E.bl, E1.ro⟩ st.mem w' := by
    have hg := hs.mem.tight.grown h5
    refine ⟨fun b x e => ?_, hg.inj, h4, fun b x e ho o => ?_⟩
    . obtain ⟨g1, g2, g3⟩ := hg.dom b x e
      exact ⟨g1, g2, g3.same hle rfl⟩
    . cases hr : E1.ro x.blk o with
      | none => rfl
      | some v =>
        rcases h3 _ _ _ hr with hr | hr
        . rw [hg.apart b x e ho o] at hr; cases hr
        . have := (hs.mem.dom b x e).2.1; omega
  have := hs.step (d := d) (m' := st.mem) hle hm (h5.mono fun i _ hi => .inr hi) (VR.mono (E := E1.bare) (E' := ⟨E.bl, E1.ro⟩) ⟨fun _ _ e => (by cases e), fun _ _ _ h => h⟩ _ h1) h3 (fun b x e => .inl ⟨b, x, e, rfl⟩)
  exact this
theorem aes (hT : kP P T) (hΓ : J5 P Γ) {o : Oper} {slot L : Nat} {K : VS -> Prop} (hs : SR C E st a w) (hres : Res E slot L) (hL : L <= st.mem.length) (hal : allocs o.op = true -> slot < L)
    (h : ad9 T Γ o st slot K) {next : Act -> World -> Prop} {Q : Exit -> Act -> World -> Prop}
    (hn : ∀ E' st' u w', K st' -> SR C E' st' (a.put o.dst u) w' -> Res E' (cond (allocs o.op) (slot + 1) slot) L -> L <= st'.mem.length -> next (a.put o.dst u) w') : o.wpIn (FW ρ) n P a w next Q := by
  unfold ad9 at h
  have hWn : ∀ i, w.heap.size <= i -> La E st.mem w i := fun i hi => .inr hi
  split at h
  . exact h.elim
  . -- a value
    rename_i p v m' hv
    obtain ⟨hp, hK⟩ := h
    obtain ⟨⟨E', w', r, u, f1, f2, f3, f4, f5, f6, f7, f8, f9, f10⟩, hlen, hnd⟩ := aaD hT hs.mem.tight hs.eval hWn (fun ha => ⟨Nat.lt_of_lt_of_le (hal ha) hL, hres slot (Nat.le_refl _) (hal ha)⟩) hv hp
    have hsr := hs.step (d := o.dst) f3 f4 f5 f6 f9 f10
    have hres' : Res E' (cond (allocs o.op) (slot + 1) slot) L := by
      intro b hb1 hb2
      cases ha : allocs o.op with
      | true =>
        rw [ha] at hb1
        simp only [cond_true] at hb1
        rw [f7 b (by omega)]
        exact hres b (by omega) hb2
      | false =>
        rw [ha] at hb1
        simp only [cond_false] at hb1
        rw [f8 ha]
        exact hres b hb1 hb2
    have hL' : L <= m'.length := by rw [hlen]; exact hL
    have hfin := hn E' _ u w' hK hsr hres' (by cases o.dst <;> exact hL')
    refine vH hnd ?_
    rw [f1]
    rcases f2 with rfl | ⟨rfl, rfl⟩
    . exact hfin
    . exact hfin
  . -- an append
    rename_i p v m' bb hv
    obtain ⟨hp, hK⟩ := h
    obtain ⟨c, ho, hc, e, te, t1, s, x, ⟨d, ht, hd⟩, hg, hte, hat', hpos, hpin, hv⟩ := P7 hv
    have hargs := vG hs.eval c.args.toList
    have hargs' : (c.args.map a.eval) = (c.args.toList.map a.eval).toArray := by apply Array.ext'; simp
    rw [hg] at hargs
    obtain ⟨us, r1, hl, hus, hr1⟩ := hargs.cons_inv
    obtain ⟨ux, r2, rfl, hux, hr2⟩ := hr1.cons_inv
    have := hr2.jO
    subst this
    obtain ⟨hlen, hbs, E', w', u, f1, f2, f3, f4, f5, f6, f7, f8, f9⟩ := ahk (ty0 := o.type) hT ht hd hte hpos hs.mem.tight hus hux hWn hv hp
    have ha : allocs o.op = true := by simp [allocs, ho, hc]
    have hsr := hs.apI (d := o.dst) f2 f3 f4 f5 f7 (aen hv hpin) f9
    have hfin := hn E' _ u w' hK hsr (fun b hb1 hb2 => by
      rw [ha] at hb1
      simp only [cond_true] at hb1
      rw [f6 b ?_]
      . exact hres b (by omega) hb2
      . omega) (by cases o.dst <;> (show L <= (tX bb m').length) <;> rw [rU, hlen] <;> exact hL)
    refine vH (by simp [ho]) ?_
    simp only [execOp, ho, Sem.run_bind, resolve, hc, Sem.run_pure, Result.andThen_ok, invoke, builtin, hargs', hl, hat']
    rw [f1]
    exact hfin
  . -- a call
    rename_i f args hv
    obtain ⟨hnd, hna, vs, hvs, hrun⟩ := Xp hT hs hv
    have hspec := hΓ f
    refine vH hnd ?_
    rw [hrun]
    split at h
    . exact h.elim
    . rename_i g hg
      rw [hg] at hspec
      split at h
      . rename_i p r hgr
        obtain ⟨hp, hK⟩ := h
        have hK := RT.of hK
        obtain ⟨E1, e1, e2, hs1, e3, e4⟩ := hs.froze (AV.slbs args)
        have hvs1 := VRs.frz hs.mem e1.ro args hvs e3
        refine Hu (hspec _ _ _ hgr hp E1 w vs hs1.mem.ro hvs1) (fun e w' hR => ?_)
        obtain ⟨v, E', rfl, hbl, hs'⟩ := hs1.called (d := o.dst) hR
        refine ⟨v, rfl, hn E' _ v w' hK hs' ?_ (by cases o.dst <;> (show L <= (oP _ st.mem).length) <;> rw [e4] <;> exact hL)⟩
        rw [hna]
        intro b hb1 hb2
        rw [hbl, e2]
        exact hres b hb1 hb2
      . exact h.elim
end
end Go.Ag

import Derived.Test.YtbcegholicnflaaGreatBgO
set_option linter.unusedVariables false
set_option linter.unusedSimpArgs false
namespace Go.Ag
open Go.RowKit
def Ko (T : Tab) : List ResultVar -> VS -> List AV -> (List AV -> Prop) -> Prop
  | [], _, acc, K => K acc
  | .tmp t :: r, st, acc, K => Ko T r st (acc ++ [aS .dead st.tmps t]) K
  | .cell a t :: r, st, acc, K => match T.ty t with
    | some ti => match xX ti (aS .dead st.tmps a) st.mem with
      | .val p v _ => p /\ Ko T r st (acc ++ [v]) K
      | _ => False
    | none => False
def HY : List AV -> AV
  | [v] => v
  | vs => .tup vs
def aV (T : Tab) (rs : List ResultVar) (K : AV -> VS -> Prop) (e : Exit) (s : VS) : Prop :=
  match e with
  | .normal => Ko T rs s [] (fun vs => K (HY vs) s)
  | .ret => Ko T rs s [] (fun vs => K (HY vs) s)
  | _ => False
section
variable {P : Program} {T : Tab} {C : Ctx} {E : Env} {st : VS} {a : Act} {w : World}
def rv (tmps : Array Value) : ResultVar -> Sem Value
    | .tmp t => pure (tmps.getD t undef)
    | .cell a t => do loadVar t (<- asAddr (tmps.getD a undef))
theorem YF (fn : Func) (tmps : Array Value) : results fn tmps = (do let vs <- fn.results.mapM (rv tmps); pure (if h : vs.size = 1 then vs[0] else .tuple vs)) := by
  unfold results
  congr 2
theorem SR.tmp (hs : SR C E st a w) (t:Nat) : VR E (aS .dead st.tmps t) (a.tmps.getD t undef) := hs.eval (.tmp t)
theorem qX (hT : kP P T) (hs : SR C E st a w) {x : ResultVar} {r : List ResultVar} {acc : List AV} {K : List AV -> Prop} (h : Ko T (x :: r) st acc K) :
    ∃ u v, (rv a.tmps x).run P w = .ok u w /\ VR E v u /\ Ko T r st (acc ++ [v]) K := by
  cases x with
  | tmp t => exact ⟨_, _, rfl, hs.tmp t, h⟩
  | cell t ty =>
    simp only [Ko] at h
    split at h
    . rename_i ti ht
      split at h
      . rename_i p v m' hl
        have hv := hs.tmp t
        obtain ⟨_, u, h1, h2⟩ := Xi hT ht hs.mem hv hl h.1
        refine ⟨u, v, ?_, h2, h.2⟩
        unfold xX at hl
        split at hl
        . rename_i b i j hg
          rw [hg] at hv
          unfold VR at hv
          obtain ⟨x, hx, hv⟩ := hv
          rw [hv] at h1
          unfold rv
          simp only [hv]
          simpa [Instr.loadAt, Instr.sureAddr, asAddr] using h1
        . rename_i cells j hg
          rw [hg] at hv
          unfold VR at hv
          obtain ⟨x, us, hv, _⟩ := hv
          rw [hv] at h1
          unfold rv
          simp only [hv]
          simpa [Instr.loadAt, Instr.sureAddr, asAddr] using h1
        . cases hl
      . exact h.elim
    . exact h.elim
theorem ak2 (hT : kP P T) (hs : SR C E st a w) {fn : Func} {rs : List ResultVar} (hrs : fn.results = rs.toArray) (hlen : rs.length <= 4) {K : List AV -> Prop} (h : Ko T rs st [] K) :
    ∃ u vs, (results fn a.tmps).run P w = .ok u w /\ VR E (HY vs) u /\ K vs := by
  rw [YF, hrs]
  match rs, hlen, h with
  | [], _, h => exact ⟨_, [], by simp; rfl, by unfold HY VR; exact ⟨[], rfl, VRs.nil E⟩, h⟩
  | [x], _, h =>
    obtain ⟨u, v, h1, h2, h⟩ := qX hT hs h
    exact ⟨u, [v], by simp [h1], h2, h⟩
  | [x, y], _, h =>
    obtain ⟨u, v, h1, h2, h⟩ := qX hT hs h
    obtain ⟨u', v', h1', h2', h⟩ := qX hT hs h
    exact ⟨.tuple #[u, u'], [v, v'], by simp [h1, h1'], by unfold HY VR; exact ⟨[u, u'], rfl, VRs.cons h2 (VRs.cons h2' (VRs.nil E))⟩, h⟩
  | [x, y, z], _, h =>
    obtain ⟨u, v, h1, h2, h⟩ := qX hT hs h
    obtain ⟨u', v', h1', h2', h⟩ := qX hT hs h
    obtain ⟨u2, v2, h12, h22, h⟩ := qX hT hs h
    exact ⟨.tuple #[u, u', u2], [v, v', v2], by simp [h1, h1', h12], by unfold HY VR; exact ⟨[u, u', u2], rfl, VRs.cons h2 (VRs.cons h2' (VRs.cons h22 (VRs.nil E)))⟩, h⟩
  | [x, y, z, t], _, h =>
    obtain ⟨u, v, h1, h2, h⟩ := qX hT hs h
    obtain ⟨u', v', h1', h2', h⟩ := qX hT hs h
    obtain ⟨u2, v2, h12, h22, h⟩ := qX hT hs h
    obtain ⟨u3, v3, h13, h23, h⟩ := qX hT hs h
    exact ⟨.tuple #[u, u', u2, u3], [v, v', v2, v3], by simp [h1, h1', h12, h13], by unfold HY VR; exact ⟨[u, u', u2, u3], rfl, VRs.cons h2 (VRs.cons h2' (VRs.cons h22 (VRs.cons h23 (VRs.nil E))))⟩, h⟩
end
def Obj.rX : Obj -> Bool
  | .cells .. => false
  | _ => true
theorem Un {w w' : World} {r : Nat} {o o' : Obj} (h : w.heap[r]? = some o) (h' : w'.heap[r]? = some o') (ho : Obj.rX o = true) (ho' : Obj.rX o' = true) (hb : ∀ i, i ≠ r -> w'.heap[i]? = w.heap[i]?) (a : Addr) : w'.cell? a = w.cell? a := by
  unfold World.cell?
  by_cases ha : a.block = r
  . rw [ha, h, h']
    cases o <;> cases o' <;> simp [Obj.rX] at ho ho' ⊢
  . rw [hb _ ha]
theorem bD.putObj {W : Nat -> Prop} {E : Env} {m : Mem} {w w' : World} {r : Nat} {o o' : Obj} (hm : bD W E m w) (h : w.heap[r]? = some o) (h' : w'.heap[r]? = some o') (ho : Obj.rX o = true) (ho' : Obj.rX o' = true)
    (hs : w.heap.size <= w'.heap.size) (hb : ∀ i, i ≠ r -> w'.heap[i]? = w.heap[i]?) : bD W E m w' := by
  refine ⟨fun b x e => ?_, hm.inj, fun b o v e => ⟨Nat.lt_of_lt_of_le (hm.ro b o v e).1 hs, (Un h h' ho ho' hb _).trans (hm.ro b o v e).2⟩, hm.apart⟩
  obtain ⟨h1, h2, h3⟩ := hm.dom b x e
  refine ⟨h1, Nat.lt_of_lt_of_le h2 hs, ?_⟩
  rcases h3 with h3 | ⟨g1, gl, gc, g2, g3⟩
  . exact .inl h3
  . refine .inr ⟨g1, gl, gc, fun i hi => ?_, fun hown => ?_⟩
    . obtain ⟨l, a1, a2, a3, a4⟩ := g2 i hi
      exact ⟨l, a1, a2, a3, fun j hj => (Un h h' ho ho' hb _).trans (a4 j hj)⟩
    . obtain ⟨a1, Cc, a4, a5⟩ := g3 hown
      refine ⟨a1, Cc, ?_, a5⟩
      rw [hb _ (fun e => by rw [e, h] at a4; cases a4; simp [Obj.rX] at ho)]
      exact a4
def entry (as : List AV) (n:Nat) : VS := ⟨as ++ List.replicate (n - as.length) .dead, [], false, 0⟩
theorem VRs.replicate (E : Env) : ∀ n, VRs E (List.replicate n AV.dead) (List.replicate n undef)
  | 0 => VRs.nil E
  | n + 1 => VRs.cons (by unfold VR; trivial) (VRs.replicate E n)
theorem SR.entry {E : Env} {w : World} {as : List AV} {vs : List Value} (hr : OJ E w) (hv : VRs E.bare as vs) (k:Nat) :
    SR ⟨w, E.bare, ⟨fun _ => none, fun _ _ => none⟩, w.heap.size, fun _ => False, Nat.le_refl _⟩ E.bare (Ag.entry as k) { tmps := vs.toArray ++ Array.replicate (k - vs.toArray.size) undef, defers := [] } w := by
  have hlen := hv.length
  refine ⟨?_, ⟨fun b x e => (by cases e), fun b b' x x' _ e => (by cases e), hr, fun b x e => (by cases e)⟩, Keep.refl _ _, fun _ _ _ h => h, fun _ _ _ h => .inl h, fun b x e => (by cases e), rfl, ⟨fun b x e => (by cases e), fun b o v e => (by cases e)⟩, fun b x e => (by cases e), fun i h => h.elim⟩
  show VRs _ (as ++ List.replicate (k - as.length) .dead) (vs.toArray ++ Array.replicate (k - vs.toArray.size) undef).toList
  simp only [Array.toList_append, Array.toList_replicate, List.size_toArray, hlen]
  exact hv.append (VRs.replicate _ _)
section
variable {P : Program} {T : Tab} {Γ : wK} {f : FuncId} {fn : Func} {c : Code} {rs : List ResultVar}
theorem rY {vs : Array Value} {w : World} (hf : P.funcs[f]? = some fn) (hb : fn.body = some c) (hnm : (fn.name == "runtime.NumGoroutine") = false) : (callFunc f vs).run P w = .ok (.enter f vs) w := by
  have hn : ¬ fn.name = "runtime.NumGoroutine" := by simpa using hnm
  unfold callFunc
  simp [hf, hn, hb]
theorem Vf {T : Tab} {s : VS} : ∀ (rs : List ResultVar) (acc : List AV) {K : List AV -> Prop}, Ko T rs s acc K -> Ko T rs { s with df := false } acc K
  | [], acc, K, h => h
  | .tmp t :: r, acc, K, h => Vf r (acc ++ [aS .dead s.tmps t]) h
  | .cell a t :: r, acc, K, h => by
    simp only [Ko] at h ⊢
    split at h
    . split at h
      . exact ⟨h.1, Vf r _ h.2⟩
      . exact h.elim
    . exact h.elim
theorem Xv (hT : kP P T) (hrs : fn.results = rs.toArray) (hlen : rs.length <= 4) {C : Ctx} {E' : Env} {s : VS} {a' : Act} {w' : World} {K : AV -> Prop} {R : Ending -> World -> Prop} (hno : ∀ i, ¬ C.No i) (hs' : SR C E' s a' w')
    (h : Ko T rs s [] (fun vs => K (HY vs))) (hfin : ∀ w'' v u, SR C E' { s with df := false } { a' with defers := [] } w'' -> VR E' v u -> K v -> R (.returned u) w'') :
    LeavesInM Fence.wide 0 P fn a'.tmps R a'.defers .returning w' := by
  have key : ∀ w'', SR C E' { s with df := false } { a' with defers := [] } w'' -> LeavesInM Fence.wide 0 P fn a'.tmps R [] .returning w'' := by
    intro w'' hs''
    obtain ⟨u, rv, h1, h2, h3⟩ := ak2 hT hs'' hrs hlen (Vf rs [] h)
    exact ⟨u, h1, hfin w'' _ u hs'' h2 h3⟩
  have hd := hs'.df
  unfold Marks at hd
  split at hd
  . obtain ⟨r, h1, h2, h3⟩ := hd
    rw [h1]
    have hlt : r < w'.heap.size := (Array.getElem?_eq_some_iff.1 h3).1
    refine ⟨by simp, .inl ⟨r, w'.putObj r (.deferred none), rfl, ?_, key _ ?_⟩⟩
    . simp [Instr.takeDeferred, Sem.run_bind, getObj, setObj, Sem.run, h3, Result.andThen, World.putObj]
    . have hp1 : (w'.putObj r (.deferred none)).heap[r]? = some (.deferred none) := World.putObj_heap_same hlt
      have hp2 : ∀ i, i ≠ r -> (w'.putObj r (.deferred none)).heap[i]? = w'.heap[i]? := fun i hi => World.putObj_heap_other hi
      have hsz : (w'.putObj r (.deferred none)).heap.size = w'.heap.size := by simp [World.putObj]
      refine ⟨hs'.tmps, hs'.mem.putObj h3 hp1 rfl rfl (by rw [hsz]; exact Nat.le_refl _) hp2, ?_, hs'.ext, hs'.low, hs'.nb, rfl, hs'.pin, hs'.low', fun i h => (hno i h).elim⟩
      exact hs'.keep.trans ⟨rfl, rfl, rfl, by rw [hsz]; exact Nat.le_refl _, fun i hi hw => hp2 i (fun e => hw (by subst e; exact ⟨h2, hno _⟩))⟩
  . rename_i hdf
    rw [hd]
    exact key _ ⟨hs'.tmps, hs'.mem, hs'.keep, hs'.ext, hs'.low, hs'.nb, rfl, hs'.pin, hs'.low', fun i h => (hno i h).elim⟩
theorem acM (hT : kP P T) (hf : P.funcs[f]? = some fn) (hb : fn.body = some c) (hnm : (fn.name == "runtime.NumGoroutine") = false) (hrs : fn.results = rs.toArray) (hlen : rs.length <= 4)
    {as : List AV} {r : AV} (hw : ∀ C : Ctx, Tr ⟨P, T, Γ, C, none⟩ c (Ag.entry as fn.ntmps) (aV T rs fun v s => v.frz s.mem = r)) :
    ∀ E w vs, OJ E w -> VRs E.bare as vs -> Lc P f vs.toArray w (J4 E w r) := by
  intro E w vs hm hv
  refine .inl ⟨rY hf hb hnm, callsIn_wide.1 (callsIn_of_wp_marks (F := Fence.wide) (n := 0) hf hb trivial ?_)⟩
  have h0 := SR.entry hm hv fn.ntmps
  refine wpIn_mono (hw _ 0 _ _ w h0) fun e a' w' ⟨E', s, q, hs'⟩ => ?_
  have hfin : Ko T rs s [] (fun vs => (HY vs).frz s.mem = r) -> LeavesInM Fence.wide 0 P fn a'.tmps (J4 E w r) a'.defers .returning w' := by
    intro h
    refine Xv hT hrs hlen (K := fun v => v.frz s.mem = r) (fun _ h => h) hs' h ?_
    rintro w'' v u hs'' hv rfl
    obtain ⟨E1, e1, e2, hs1, e3, e4⟩ := hs''.froze v.slb
    have hv1 := VR.frz hs''.mem e1.ro v hv e3
    exact ⟨E1, u, rfl, hv1, hs1.ext, hs1.low, hs1.mem.ro, hs1.keep.mono fun i _ h => h.1⟩
  cases e with
  | normal => exact hfin q
  | ret => exact hfin q
  | exit _ => exact q.elim
  | goto _ => exact q.elim
  | panic _ => exact q.elim
  | outgrown => exact q.elim
end
end Go.Ag

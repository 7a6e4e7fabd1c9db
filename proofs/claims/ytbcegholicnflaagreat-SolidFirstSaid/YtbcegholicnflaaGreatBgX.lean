import Derived.Test.YtbcegholicnflaaGreatBgW
set_option linter.unusedVariables false
set_option linter.unusedSimpArgs false
namespace Go.Ag
open Go.RowKit
mutual
def AV.pad : AV -> AV -> AV
  | .rs _ _ cs, .rs q n [] => .rs q n cs
  | .agg ss, .agg cs => .agg (AV.pads ss cs)
  | .tup ss, .tup cs => .tup (AV.pads ss cs)
  | _, v => v
def AV.pads : List AV -> List AV -> List AV
  | s :: ss, c :: cs => AV.pad s c :: AV.pads ss cs
  | _, l => l
end
theorem VR.ak6 {E : Env} {q : Option Bool} {n : Nat} {cs : List CF} {u : Value} (h : VR E (.rs q n []) u) : VR E (.rs q n cs) u := by
  unfold VR at *
  rcases h with h | ⟨h1, a, cp, h2, h3, h4⟩
  . exact .inl h
  . refine .inr ⟨h1, a, cp, h2, h3, fun i hi => ?_⟩
    exact absurd rfl (h4 i hi).2.1
mutual
theorem VR.pad {E : Env} : ∀ (s v : AV) {u : Value}, VR E v u -> VR E (AV.pad s v) u
  | .rs _ _ cs, .rs q n [], u, h => by
    show VR E (.rs q n cs) u
    exact h.ak6
  | .rs _ _ cs, .rs q n (c :: r), u, h => h
  | .agg ss, .agg l, u, h => by
    show VR E (.agg (AV.pads ss l)) u
    unfold VR at *
    obtain ⟨l, rfl, h2⟩ := h
    exact ⟨l, rfl, VRs.pad ss _ h2⟩
  | .tup ss, .tup l, u, h => by
    show VR E (.tup (AV.pads ss l)) u
    unfold VR at *
    obtain ⟨l, rfl, h2⟩ := h
    exact ⟨l, rfl, VRs.pad ss _ h2⟩
  | .rs .., .dead, u, h => h
  | .rs .., .int .., u, h => h
  | .rs .., .bool .., u, h => h
  | .rs .., .nilp, u, h => h
  | .rs .., .ptr .., u, h => h
  | .rs .., .nils, u, h => h
  | .rs .., .sl .., u, h => h
  | .rs .., .ifc .., u, h => h
  | .rs .., .nili, u, h => h
  | .rs .., .fn .., u, h => h
  | .rs .., .raw .., u, h => h
  | .rs .., .rp .., u, h => h
  | .rs .., .agg .., u, h => h
  | .rs .., .tup .., u, h => h
  | .agg .., .dead, u, h => h
  | .agg .., .int .., u, h => h
  | .agg .., .bool .., u, h => h
  | .agg .., .nilp, u, h => h
  | .agg .., .ptr .., u, h => h
  | .agg .., .nils, u, h => h
  | .agg .., .sl .., u, h => h
  | .agg .., .ifc .., u, h => h
  | .agg .., .nili, u, h => h
  | .agg .., .fn .., u, h => h
  | .agg .., .raw .., u, h => h
  | .agg .., .rp .., u, h => h
  | .agg .., .rs .., u, h => h
  | .agg .., .tup .., u, h => h
  | .tup .., .dead, u, h => h
  | .tup .., .int .., u, h => h
  | .tup .., .bool .., u, h => h
  | .tup .., .nilp, u, h => h
  | .tup .., .ptr .., u, h => h
  | .tup .., .nils, u, h => h
  | .tup .., .sl .., u, h => h
  | .tup .., .ifc .., u, h => h
  | .tup .., .nili, u, h => h
  | .tup .., .fn .., u, h => h
  | .tup .., .raw .., u, h => h
  | .tup .., .rp .., u, h => h
  | .tup .., .rs .., u, h => h
  | .tup .., .agg .., u, h => h
  | .dead, v, u, h => by unfold AV.pad; exact h
  | .int .., v, u, h => by unfold AV.pad; exact h
  | .bool .., v, u, h => by unfold AV.pad; exact h
  | .nilp, v, u, h => by unfold AV.pad; exact h
  | .ptr .., v, u, h => by unfold AV.pad; exact h
  | .nils, v, u, h => by unfold AV.pad; exact h
  | .sl .., v, u, h => by unfold AV.pad; exact h
  | .ifc .., v, u, h => by unfold AV.pad; exact h
  | .nili, v, u, h => by unfold AV.pad; exact h
  | .fn .., v, u, h => by unfold AV.pad; exact h
  | .raw .., v, u, h => by unfold AV.pad; exact h
  | .rp .., v, u, h => by unfold AV.pad; exact h
theorem VRs.pad {E : Env} : ∀ (s l : List AV) {us : List Value}, VRs E l us -> VRs E (AV.pads s l) us
  | [], l, us, h => by unfold AV.pads; exact h
  | s :: ss, [], us, h => by unfold AV.pads; exact h
  | s :: ss, c :: cs, us, h => by
    unfold AV.pads
    obtain ⟨v, vs, rfl, h1, h2⟩ := h.cons_inv
    exact VRs.cons (VR.pad s c h1) (VRs.pad ss cs h2)
end
section
variable {P : Program} {T : Tab} {Γ : wK} {f : FuncId} {fn : Func} {c : Code} {rs : List ResultVar}
theorem Ai (hT : kP P T) (hΓ : J5 P Γ) (hf : P.funcs[f]? = some fn) (hb : fn.body = some c) (hnm : (fn.name == "runtime.NumGoroutine") = false) (hrs : fn.results = rs.toArray) (hlen : rs.length <= 4)
    {ys : List AV} {r sh : AV} (hw : ∀ X : Cx, Std P T Γ X -> X.ρ = none -> Tr X c (Ag.entry ys fn.ntmps) (aV T rs fun v s => AV.pad sh (v.frz s.mem) = r)) :
    ∀ E w vs, OJ E w -> VRs E.bare ys vs -> Lc P f vs.toArray w (J4 E w r) := by
  intro E w vs hm hv
  refine .inl ⟨rY hf hb hnm, callsIn_wide.1 (callsIn_of_wp_marks (F := Fence.wide) (n := 0) hf hb trivial ?_)⟩
  have h0 := SR.entry hm hv fn.ntmps
  refine wpIn_mono (hw _ (Std.mk' hT hΓ) rfl 0 _ _ w h0) fun e a' w' ⟨E', s, q, hs'⟩ => ?_
  have hfin : Ko T rs s [] (fun vs => AV.pad sh ((HY vs).frz s.mem) = r) -> LeavesInM Fence.wide 0 P fn a'.tmps (J4 E w r) a'.defers .returning w' := by
    intro h
    refine Xv hT hrs hlen (K := fun v => AV.pad sh (v.frz s.mem) = r) (fun _ h => h) hs' h ?_
    rintro w'' v u hs'' hv rfl
    obtain ⟨E1, e1, e2, hs1, e3, e4⟩ := hs''.froze v.slb
    have hv1 := VR.frz hs''.mem e1.ro v hv e3
    exact ⟨E1, u, rfl, hv1.pad sh _, hs1.ext, hs1.low, hs1.mem.ro, hs1.keep.mono fun i _ h => h.1⟩
  cases e with
  | normal => exact hfin q
  | ret => exact hfin q
  | exit _ => exact q.elim
  | goto _ => exact q.elim
  | panic _ => exact q.elim
  | outgrown => exact q.elim
end
end Go.Ag

/- PROVED HERE: for every input the law SolidHolds returns true and leaves its input as it was. Conditions: none beyond the given statement's own (its program is the given one; the input is every input that its types allow). -/
import Derived.Test.YtbcegholicnflaaHoldW
import Derived.Test.YtbcegholicnflaaHoldX
import Derived.Test.YtbcegholicnflaaBgU
import Derived.Test.YtbcegholicnflaaRows
set_option linter.unusedVariables false
set_option linter.unusedSimpArgs false
set_option maxRecDepth 100000
namespace Go.Proofs.Ytbcegholicnflaa
open Go.ChangeShapes Go.WideShapes Go.ChangeAt Go.RowKit Go.Ag
theorem wf64 {n : Int} (h : (Lit.int .i64 n).wf = true) : I64 n := by
  unfold I64
  simp only [Lit.wf, Bool.and_eq_true, decide_eq_true_eq] at h
  have e1 : IntKind.min .i64 = -9223372036854775808 := by decide
  have e2 : IntKind.max .i64 = 9223372036854775807 := by decide
  omega
theorem row_lw_SolidHolds {b0 : AV} (h0 : ArgOk true [FT.I .i64, FT.I .i64, FT.I .i64, FT.I .i64, FT.S [FT.I .i64, FT.I .i64]] b0) {b1 : AV} (h1 : ArgOk true [FT.I .i64, FT.I .i64] b1) : ∃ p rt, g_lw_SolidHolds [b0, b1] = some (p, rt) ∧ p ∧ rt.val = .bool true := by
  obtain ⟨_, rfl, _, _, rfl, ⟨x0, rfl, w0⟩, _, _, rfl, ⟨x1, rfl, w1⟩, _, _, rfl, ⟨x2, rfl, w2⟩, _, _, rfl, ⟨x3, rfl, w3⟩, _, _, rfl, ⟨x4, _, rfl, ⟨_, _, rfl, ⟨x5, rfl, w5⟩, ⟨_, _, rfl, ⟨x6, rfl, w6⟩, rfl⟩⟩⟩, rfl⟩ := h0
  obtain ⟨_, rfl, _, _, rfl, ⟨x7, rfl, w7⟩, _, _, rfl, ⟨x8, rfl, w8⟩, rfl⟩ := h1
  have hpl := plain_lw_SolidHolds x0 x1 x2 x3 x4 x5 x6 x7 x8 (wf64 w0) (wf64 w1) (wf64 w2) (wf64 w3) (fun k hk => wf64 (w5 k hk)) (fun k hk => wf64 (w6 k hk)) (wf64 w7) (wf64 w8)
  refine ⟨_, _, rfl, hpl.1, ?_⟩
  show AV.bool (F_lw_SolidHolds_0 x0 x1 x2 x3 x4 x5 x6 x7 x8) = .bool true
  rw [hpl.2]
set_option maxRecDepth 100000 in
theorem lifted_lw_SolidHolds (os : Os) (started : os.Started) (H : Type) (enc : TypeId × Value → H) :
    ReturnsInHanded {} Try.checked os 6 .any (Rows.solidHoldsSpec.pre6 enc Try.prog Try.f6 Rows.solidHoldsRow.domain false) (Rows.solidHoldsSpec.post enc Try.prog Try.f6 false true false false) := by
  refine returnsInHanded_of_change (C := Try.checked) (show ownKnob Try.prog.godebug = none by kernel_rfl) started (by kernel_rfl) Try.func6
    (ChangeSpec.witness6 (enc := enc) (C := Try.checked) false ⟨#[], #[.agg #[.int .i64 0, .int .i64 0, .int .i64 0, .int .i64 0, .slice none 0 0], .agg #[.int .i64 0, .int .i64 0]], []⟩ 8 (by kernel_rfl) (by kernel_rfl) (by kernel_rfl) (by kernel_rfl)) ?_
  intro W base args ds gs before hval0 hW hcnd _
  have hval : ∀ (j : Nat) t v, Try.f6.params[j]? = some t → args[j]? = some v → Value.okWide Try.prog W .any base t v := hval0
  have hW' := hW
  obtain ⟨p, q, hA0, hV, rfl, hfz, hnd⟩ := hW
  have hA : DataW.TrodAll enc Try.prog W 0 (fun _ => true) true Try.f6.params.toList args.toList ds p := hA0
  have hps : Try.f6.params = #[46, 25] := by kernel_rfl
  rw [hps] at hA hval
  obtain ⟨v0, vs0, d0, ds0, p0, q0, hargs, rfl, rfl, h0, r0⟩ := trodAll_cons hA
  obtain ⟨v1, vs1, d1, ds1, p1, q1, rfl, rfl, rfl, h1, r1⟩ := trodAll_cons r0
  obtain ⟨rfl, rfl, rfl⟩ := trodAll_nil r1
  obtain rfl : args = #[v0, v1] := by cases args; simp_all
  obtain ⟨rfl, rfl⟩ := trodVars_none hV
  obtain ⟨b0, k0, l0⟩ := open_arg (n := 8) (hval 0 46 v0 rfl rfl) h0 (show aggT Try.prog 46 = some true by kernel_rfl) (show ftOf Try.prog 8 46 = some [FT.I .i64, FT.I .i64, FT.I .i64, FT.I .i64, FT.S [FT.I .i64, FT.I .i64]] by kernel_rfl)
  obtain ⟨b1, k1, l1⟩ := open_arg (n := 8) (hval 1 25 v1 rfl rfl) h1 (show aggT Try.prog 25 = some true by kernel_rfl) (show ftOf Try.prog 8 25 = some [FT.I .i64, FT.I .i64] by kernel_rfl)
  obtain ⟨pp, rt, hg, hp, hrt⟩ := row_lw_SolidHolds k0 k1
  have hvs : VRs (Ew W) [b0, b1] [v0, v1] := by
    unfold VRs; refine ⟨_, _, rfl, l0, ?_⟩; unfold VRs; refine ⟨_, _, rfl, l1, ?_⟩; unfold VRs; exact rfl
  refine (law_calls (f := 6) (fn := Try.f6) (c := bodyOf Try.f6) S_lw_SolidHolds Try.func6 (by kernel_rfl) rfl hg hp hrt hvs).mono fun e W' ⟨he, hb⟩ => ?_
  subst he
  exact ⟨_, rfl, post_law (show laidOutB Try.prog = true by kernel_rfl) (by rw [hps]; intro t ht; simp only [List.mem_cons, List.not_mem_nil, or_false] at ht; rcases ht with rfl | rfl <;> exact ⟨by kernel_rfl, of_decide_eq_true (by kernel_rfl)⟩) rfl hW' rfl rfl rfl hb (show Try.f6.resultTypes = #[4] by kernel_rfl) (show Try.prog.underlying 4 = some .bool by kernel_rfl)⟩
theorem solidHolds_holds : Rows.SolidHoldsSaid :=
  OpenClaim.holds_of_wide 6 Try.f6 rfl rfl rfl rfl rfl rfl rfl ⟨rfl, rfl, rfl, rfl, rfl⟩ rfl rfl rfl rfl rfl (by kernel_rfl) Try.func6 (by kernel_rfl)
    (of_decide_eq_true (by kernel_rfl)) (by unfold Func.isWrapper; first | (rw [if_pos (by decide +kernel)]; kernel_rfl) | (rw [if_neg (by decide +kernel)]; exact ⟨rfl, rfl⟩))
    (fun os started H enc _ => lifted_lw_SolidHolds os started H enc)
#print axioms solidHolds_holds
end Go.Proofs.Ytbcegholicnflaa

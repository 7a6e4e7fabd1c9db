/- PROVED HERE: for every input the law SolidBoxes returns true and leaves its input as it was; for every input the law SolidJoins returns true and leaves its input as it was. Conditions: none beyond the given statement's own (its program is the given one; the input is every input that its types allow). -/
import Derived.Test.YtbcegholicnflaaBoxW
import Derived.Test.YtbcegholicnflaaBoxX
import Derived.Test.YtbcegholicnflaaBgU
import Derived.Test.YtbcegholicnflaaRows
set_option linter.unusedVariables false
set_option linter.unusedSimpArgs false
set_option maxRecDepth 100000
namespace Go.Proofs.Ytbcegholicnflaa
open Go.ChangeShapes Go.WideShapes Go.ChangeAt Go.RowKit Go.Ag
theorem wf64 {n : Int} (h : (Lit.int .i64 n).wf = true) : I64 n := by
  unfold I64
  simp only [Lit.wf, Bool.and_eq_true, decide_eq_true_eq] at h
  have e1 : IntKind.min .i64 = -9223372036854775808 := by decide
  have e2 : IntKind.max .i64 = 9223372036854775807 := by decide
  omega
theorem row_lw_SolidBoxes {b0 : AV} (h0 : ArgOk true [FT.I .i64, FT.I .i64, FT.I .i64, FT.I .i64] b0) {b1 : AV} (h1 : ArgOk true [FT.I .i64, FT.I .i64, FT.I .i64, FT.I .i64] b1) {b2 : AV} (h2 : ArgOk true [FT.I .i64, FT.I .i64] b2) {b3 : AV} (h3 : ArgOk false [FT.I .i64] b3) {b4 : AV} (h4 : ArgOk false [FT.S [FT.I .i64, FT.I .i64, FT.I .i64, FT.I .i64]] b4) : ∃ p rt, g_lw_SolidBoxes [b0, b1, b2, b3, b4] = some (p, rt) ∧ p ∧ rt.val = .bool true := by
  obtain ⟨_, rfl, _, _, rfl, ⟨x0, rfl, w0⟩, _, _, rfl, ⟨x1, rfl, w1⟩, _, _, rfl, ⟨x2, rfl, w2⟩, _, _, rfl, ⟨x3, rfl, w3⟩, rfl⟩ := h0
  obtain ⟨_, rfl, _, _, rfl, ⟨x4, rfl, w4⟩, _, _, rfl, ⟨x5, rfl, w5⟩, _, _, rfl, ⟨x6, rfl, w6⟩, _, _, rfl, ⟨x7, rfl, w7⟩, rfl⟩ := h1
  obtain ⟨_, rfl, _, _, rfl, ⟨x8, rfl, w8⟩, _, _, rfl, ⟨x9, rfl, w9⟩, rfl⟩ := h2
  obtain ⟨x10, rfl, w10⟩ := h3
  obtain ⟨x11, _, rfl, ⟨_, _, rfl, ⟨x12, rfl, w12⟩, ⟨_, _, rfl, ⟨x13, rfl, w13⟩, ⟨_, _, rfl, ⟨x14, rfl, w14⟩, ⟨_, _, rfl, ⟨x15, rfl, w15⟩, rfl⟩⟩⟩⟩⟩ := h4
  have hpl := plain_lw_SolidBoxes x0 x1 x2 x3 x4 x5 x6 x7 x8 x9 x10 x11 x12 x13 x14 x15 (wf64 w0) (wf64 w1) (wf64 w2) (wf64 w3) (wf64 w4) (wf64 w5) (wf64 w6) (wf64 w7) (wf64 w8) (wf64 w9) (wf64 w10) (fun k hk => wf64 (w12 k hk)) (fun k hk => wf64 (w13 k hk)) (fun k hk => wf64 (w14 k hk)) (fun k hk => wf64 (w15 k hk))
  refine ⟨_, _, rfl, hpl.1, ?_⟩
  show AV.bool (F_lw_SolidBoxes_0 x0 x1 x2 x3 x4 x5 x6 x7 x8 x9 x10 x11 x12 x13 x14 x15) = .bool true
  rw [hpl.2]
set_option maxRecDepth 100000 in
theorem lifted_lw_SolidBoxes (os : Os) (started : os.Started) (H : Type) (enc : TypeId × Value → H) :
    ReturnsInHanded {} Try.checked os 3 .any (Rows.solidBoxesSpec.pre6 enc Try.prog Try.f3 Rows.solidBoxesRow.domain false) (Rows.solidBoxesSpec.post enc Try.prog Try.f3 false true false false) := by
  refine returnsInHanded_of_change (C := Try.checked) (show ownKnob Try.prog.godebug = none by kernel_rfl) started (by kernel_rfl) Try.func3
    (ChangeSpec.witness6 (enc := enc) (C := Try.checked) false ⟨#[], #[.agg #[.int .i64 0, .int .i64 0, .int .i64 0, .int .i64 0], .agg #[.int .i64 0, .int .i64 0, .int .i64 0, .int .i64 0], .agg #[.int .i64 0, .int .i64 0], .int .i64 0, .slice none 0 0], []⟩ 8 (by kernel_rfl) (by kernel_rfl) (by kernel_rfl) (by kernel_rfl)) ?_
  intro W base args ds gs before hval0 hW hcnd _
  have hval : ∀ (j : Nat) t v, Try.f3.params[j]? = some t → args[j]? = some v → Value.okWide Try.prog W .any base t v := hval0
  have hW' := hW
  obtain ⟨p, q, hA0, hV, rfl, hfz, hnd⟩ := hW
  have hA : DataW.TrodAll enc Try.prog W 0 (fun _ => true) true Try.f3.params.toList args.toList ds p := hA0
  have hps : Try.f3.params = #[23, 23, 25, 2, 26] := by kernel_rfl
  rw [hps] at hA hval
  obtain ⟨v0, vs0, d0, ds0, p0, q0, hargs, rfl, rfl, h0, r0⟩ := trodAll_cons hA
  obtain ⟨v1, vs1, d1, ds1, p1, q1, rfl, rfl, rfl, h1, r1⟩ := trodAll_cons r0
  obtain ⟨v2, vs2, d2, ds2, p2, q2, rfl, rfl, rfl, h2, r2⟩ := trodAll_cons r1
  obtain ⟨v3, vs3, d3, ds3, p3, q3, rfl, rfl, rfl, h3, r3⟩ := trodAll_cons r2
  obtain ⟨v4, vs4, d4, ds4, p4, q4, rfl, rfl, rfl, h4, r4⟩ := trodAll_cons r3
  obtain ⟨rfl, rfl, rfl⟩ := trodAll_nil r4
  obtain rfl : args = #[v0, v1, v2, v3, v4] := by cases args; simp_all
  obtain ⟨rfl, rfl⟩ := trodVars_none hV
  obtain ⟨b0, k0, l0⟩ := open_arg (n := 8) (hval 0 23 v0 rfl rfl) h0 (show aggT Try.prog 23 = some true by kernel_rfl) (show ftOf Try.prog 8 23 = some [FT.I .i64, FT.I .i64, FT.I .i64, FT.I .i64] by kernel_rfl)
  obtain ⟨b1, k1, l1⟩ := open_arg (n := 8) (hval 1 23 v1 rfl rfl) h1 (show aggT Try.prog 23 = some true by kernel_rfl) (show ftOf Try.prog 8 23 = some [FT.I .i64, FT.I .i64, FT.I .i64, FT.I .i64] by kernel_rfl)
  obtain ⟨b2, k2, l2⟩ := open_arg (n := 8) (hval 2 25 v2 rfl rfl) h2 (show aggT Try.prog 25 = some true by kernel_rfl) (show ftOf Try.prog 8 25 = some [FT.I .i64, FT.I .i64] by kernel_rfl)
  obtain ⟨b3, k3, l3⟩ := open_arg (n := 8) (hval 3 2 v3 rfl rfl) h3 (show aggT Try.prog 2 = some false by kernel_rfl) (show ftOf Try.prog 8 2 = some [FT.I .i64] by kernel_rfl)
  obtain ⟨b4, k4, l4⟩ := open_arg (n := 8) (hval 4 26 v4 rfl rfl) h4 (show aggT Try.prog 26 = some false by kernel_rfl) (show ftOf Try.prog 8 26 = some [FT.S [FT.I .i64, FT.I .i64, FT.I .i64, FT.I .i64]] by kernel_rfl)
  obtain ⟨pp, rt, hg, hp, hrt⟩ := row_lw_SolidBoxes k0 k1 k2 k3 k4
  have hvs : VRs (Ew W) [b0, b1, b2, b3, b4] [v0, v1, v2, v3, v4] := by
    unfold VRs; refine ⟨_, _, rfl, l0, ?_⟩; unfold VRs; refine ⟨_, _, rfl, l1, ?_⟩; unfold VRs; refine ⟨_, _, rfl, l2, ?_⟩; unfold VRs; refine ⟨_, _, rfl, l3, ?_⟩; unfold VRs; refine ⟨_, _, rfl, l4, ?_⟩; unfold VRs; exact rfl
  refine (law_calls (f := 3) (fn := Try.f3) (c := bodyOf Try.f3) S_lw_SolidBoxes Try.func3 (by kernel_rfl) rfl hg hp hrt hvs).mono fun e W' ⟨he, hb⟩ => ?_
  subst he
  exact ⟨_, rfl, post_law (show laidOutB Try.prog = true by kernel_rfl) (by rw [hps]; intro t ht; simp only [List.mem_cons, List.not_mem_nil, or_false] at ht; rcases ht with rfl | rfl | rfl | rfl | rfl <;> exact ⟨by kernel_rfl, of_decide_eq_true (by kernel_rfl)⟩) rfl hW' rfl rfl rfl hb (show Try.f3.resultTypes = #[4] by kernel_rfl) (show Try.prog.underlying 4 = some .bool by kernel_rfl)⟩
theorem solidBoxes_holds : Rows.SolidBoxesSaid :=
  OpenClaim.holds_of_wide 3 Try.f3 rfl rfl rfl rfl rfl rfl rfl ⟨rfl, rfl, rfl, rfl, rfl⟩ rfl rfl rfl rfl rfl (by kernel_rfl) Try.func3 (by kernel_rfl)
    (of_decide_eq_true (by kernel_rfl)) (by unfold Func.isWrapper; first | (rw [if_pos (by decide +kernel)]; kernel_rfl) | (rw [if_neg (by decide +kernel)]; exact ⟨rfl, rfl⟩))
    (fun os started H enc _ => lifted_lw_SolidBoxes os started H enc)
#print axioms solidBoxes_holds
theorem row_lw_SolidJoins {b0 : AV} (h0 : ArgOk true [FT.I .i64, FT.I .i64, FT.I .i64, FT.I .i64] b0) {b1 : AV} (h1 : ArgOk true [FT.I .i64, FT.I .i64, FT.I .i64, FT.I .i64] b1) {b2 : AV} (h2 : ArgOk true [FT.I .i64, FT.I .i64, FT.I .i64, FT.I .i64] b2) {b3 : AV} (h3 : ArgOk false [FT.I .i64] b3) {b4 : AV} (h4 : ArgOk false [FT.I .i64] b4) : ∃ p rt, g_lw_SolidJoins [b0, b1, b2, b3, b4] = some (p, rt) ∧ p ∧ rt.val = .bool true := by
  obtain ⟨_, rfl, _, _, rfl, ⟨x0, rfl, w0⟩, _, _, rfl, ⟨x1, rfl, w1⟩, _, _, rfl, ⟨x2, rfl, w2⟩, _, _, rfl, ⟨x3, rfl, w3⟩, rfl⟩ := h0
  obtain ⟨_, rfl, _, _, rfl, ⟨x4, rfl, w4⟩, _, _, rfl, ⟨x5, rfl, w5⟩, _, _, rfl, ⟨x6, rfl, w6⟩, _, _, rfl, ⟨x7, rfl, w7⟩, rfl⟩ := h1
  obtain ⟨_, rfl, _, _, rfl, ⟨x8, rfl, w8⟩, _, _, rfl, ⟨x9, rfl, w9⟩, _, _, rfl, ⟨x10, rfl, w10⟩, _, _, rfl, ⟨x11, rfl, w11⟩, rfl⟩ := h2
  obtain ⟨x12, rfl, w12⟩ := h3
  obtain ⟨x13, rfl, w13⟩ := h4
  have hpl := plain_lw_SolidJoins x0 x1 x2 x3 x4 x5 x6 x7 x8 x9 x10 x11 x12 x13 (wf64 w0) (wf64 w1) (wf64 w2) (wf64 w3) (wf64 w4) (wf64 w5) (wf64 w6) (wf64 w7) (wf64 w8) (wf64 w9) (wf64 w10) (wf64 w11) (wf64 w12) (wf64 w13)
  refine ⟨_, _, rfl, hpl.1, ?_⟩
  show AV.bool (F_lw_SolidJoins_0 x0 x1 x2 x3 x4 x5 x6 x7 x8 x9 x10 x11 x12 x13) = .bool true
  rw [hpl.2]
set_option maxRecDepth 100000 in
theorem lifted_lw_SolidJoins (os : Os) (started : os.Started) (H : Type) (enc : TypeId × Value → H) :
    ReturnsInHanded {} Try.checked os 4 .any (Rows.solidJoinsSpec.pre6 enc Try.prog Try.f4 Rows.solidJoinsRow.domain false) (Rows.solidJoinsSpec.post enc Try.prog Try.f4 false true false false) := by
  refine returnsInHanded_of_change (C := Try.checked) (show ownKnob Try.prog.godebug = none by kernel_rfl) started (by kernel_rfl) Try.func4
    (ChangeSpec.witness6 (enc := enc) (C := Try.checked) false ⟨#[], #[.agg #[.int .i64 0, .int .i64 0, .int .i64 0, .int .i64 0], .agg #[.int .i64 0, .int .i64 0, .int .i64 0, .int .i64 0], .agg #[.int .i64 0, .int .i64 0, .int .i64 0, .int .i64 0], .int .i64 0, .int .i64 0], []⟩ 8 (by kernel_rfl) (by kernel_rfl) (by kernel_rfl) (by kernel_rfl)) ?_
  intro W base args ds gs before hval0 hW hcnd _
  have hval : ∀ (j : Nat) t v, Try.f4.params[j]? = some t → args[j]? = some v → Value.okWide Try.prog W .any base t v := hval0
  have hW' := hW
  obtain ⟨p, q, hA0, hV, rfl, hfz, hnd⟩ := hW
  have hA : DataW.TrodAll enc Try.prog W 0 (fun _ => true) true Try.f4.params.toList args.toList ds p := hA0
  have hps : Try.f4.params = #[35, 35, 35, 3, 3] := by kernel_rfl
  rw [hps] at hA hval
  obtain ⟨v0, vs0, d0, ds0, p0, q0, hargs, rfl, rfl, h0, r0⟩ := trodAll_cons hA
  obtain ⟨v1, vs1, d1, ds1, p1, q1, rfl, rfl, rfl, h1, r1⟩ := trodAll_cons r0
  obtain ⟨v2, vs2, d2, ds2, p2, q2, rfl, rfl, rfl, h2, r2⟩ := trodAll_cons r1
  obtain ⟨v3, vs3, d3, ds3, p3, q3, rfl, rfl, rfl, h3, r3⟩ := trodAll_cons r2
  obtain ⟨v4, vs4, d4, ds4, p4, q4, rfl, rfl, rfl, h4, r4⟩ := trodAll_cons r3
  obtain ⟨rfl, rfl, rfl⟩ := trodAll_nil r4
  obtain rfl : args = #[v0, v1, v2, v3, v4] := by cases args; simp_all
  obtain ⟨rfl, rfl⟩ := trodVars_none hV
  obtain ⟨b0, k0, l0⟩ := open_arg (n := 8) (hval 0 35 v0 rfl rfl) h0 (show aggT Try.prog 35 = some true by kernel_rfl) (show ftOf Try.prog 8 35 = some [FT.I .i64, FT.I .i64, FT.I .i64, FT.I .i64] by kernel_rfl)
  obtain ⟨b1, k1, l1⟩ := open_arg (n := 8) (hval 1 35 v1 rfl rfl) h1 (show aggT Try.prog 35 = some true by kernel_rfl) (show ftOf Try.prog 8 35 = some [FT.I .i64, FT.I .i64, FT.I .i64, FT.I .i64] by kernel_rfl)
  obtain ⟨b2, k2, l2⟩ := open_arg (n := 8) (hval 2 35 v2 rfl rfl) h2 (show aggT Try.prog 35 = some true by kernel_rfl) (show ftOf Try.prog 8 35 = some [FT.I .i64, FT.I .i64, FT.I .i64, FT.I .i64] by kernel_rfl)
  obtain ⟨b3, k3, l3⟩ := open_arg (n := 8) (hval 3 3 v3 rfl rfl) h3 (show aggT Try.prog 3 = some false by kernel_rfl) (show ftOf Try.prog 8 3 = some [FT.I .i64] by kernel_rfl)
  obtain ⟨b4, k4, l4⟩ := open_arg (n := 8) (hval 4 3 v4 rfl rfl) h4 (show aggT Try.prog 3 = some false by kernel_rfl) (show ftOf Try.prog 8 3 = some [FT.I .i64] by kernel_rfl)
  obtain ⟨pp, rt, hg, hp, hrt⟩ := row_lw_SolidJoins k0 k1 k2 k3 k4
  have hvs : VRs (Ew W) [b0, b1, b2, b3, b4] [v0, v1, v2, v3, v4] := by
    unfold VRs; refine ⟨_, _, rfl, l0, ?_⟩; unfold VRs; refine ⟨_, _, rfl, l1, ?_⟩; unfold VRs; refine ⟨_, _, rfl, l2, ?_⟩; unfold VRs; refine ⟨_, _, rfl, l3, ?_⟩; unfold VRs; refine ⟨_, _, rfl, l4, ?_⟩; unfold VRs; exact rfl
  refine (law_calls (f := 4) (fn := Try.f4) (c := bodyOf Try.f4) S_lw_SolidJoins Try.func4 (by kernel_rfl) rfl hg hp hrt hvs).mono fun e W' ⟨he, hb⟩ => ?_
  subst he
  exact ⟨_, rfl, post_law (show laidOutB Try.prog = true by kernel_rfl) (by rw [hps]; intro t ht; simp only [List.mem_cons, List.not_mem_nil, or_false] at ht; rcases ht with rfl | rfl | rfl | rfl | rfl <;> exact ⟨by kernel_rfl, of_decide_eq_true (by kernel_rfl)⟩) rfl hW' rfl rfl rfl hb (show Try.f4.resultTypes = #[4] by kernel_rfl) (show Try.prog.underlying 4 = some .bool by kernel_rfl)⟩
theorem solidJoins_holds : Rows.SolidJoinsSaid :=
  OpenClaim.holds_of_wide 4 Try.f4 rfl rfl rfl rfl rfl rfl rfl ⟨rfl, rfl, rfl, rfl, rfl⟩ rfl rfl rfl rfl rfl (by kernel_rfl) Try.func4 (by kernel_rfl)
    (of_decide_eq_true (by kernel_rfl)) (by unfold Func.isWrapper; first | (rw [if_pos (by decide +kernel)]; kernel_rfl) | (rw [if_neg (by decide +kernel)]; exact ⟨rfl, rfl⟩))
    (fun os started H enc _ => lifted_lw_SolidJoins os started H enc)
#print axioms solidJoins_holds
end Go.Proofs.Ytbcegholicnflaa

/- PROVED HERE: for every input the law SolidSpots returns true and leaves its input as it was. Conditions: none beyond the given statement's own (its program is the given one; the input is every input that its types allow). -/
import Derived.Test.YtbcegholicnflaaSpotW
import Derived.Test.YtbcegholicnflaaSpotX
import Derived.Test.YtbcegholicnflaaBgU
import Derived.Test.YtbcegholicnflaaRows
set_option linter.unusedVariables false
set_option linter.unusedSimpArgs false
set_option maxRecDepth 100000
namespace Go.Proofs.Ytbcegholicnflaa
open Go.ChangeShapes Go.WideShapes Go.ChangeAt Go.RowKit Go.Ag
theorem wf64 {n : Int} (h : (Lit.int .i64 n).wf = true) : I64 n := by
  unfold I64
  simp only [Lit.wf, Bool.and_eq_true, decide_eq_true_eq] at h
  have e1 : IntKind.min .i64 = -9223372036854775808 := by decide
  have e2 : IntKind.max .i64 = 9223372036854775807 := by decide
  omega
theorem row_lw_SolidSpots {b0 : AV} (h0 : ArgOk true [FT.I .i64, FT.I .i64] b0) {b1 : AV} (h1 : ArgOk true [FT.I .i64, FT.I .i64] b1) {b2 : AV} (h2 : ArgOk true [FT.I .i64, FT.I .i64] b2) {b3 : AV} (h3 : ArgOk false [FT.S [FT.I .i64, FT.I .i64]] b3) : ∃ p rt, g_lw_SolidSpots [b0, b1, b2, b3] = some (p, rt) ∧ p ∧ rt.val = .bool true := by
  obtain ⟨_, rfl, _, _, rfl, ⟨x0, rfl, w0⟩, _, _, rfl, ⟨x1, rfl, w1⟩, rfl⟩ := h0
  obtain ⟨_, rfl, _, _, rfl, ⟨x2, rfl, w2⟩, _, _, rfl, ⟨x3, rfl, w3⟩, rfl⟩ := h1
  obtain ⟨_, rfl, _, _, rfl, ⟨x4, rfl, w4⟩, _, _, rfl, ⟨x5, rfl, w5⟩, rfl⟩ := h2
  obtain ⟨x6, _, rfl, ⟨_, _, rfl, ⟨x7, rfl, w7⟩, ⟨_, _, rfl, ⟨x8, rfl, w8⟩, rfl⟩⟩⟩ := h3
  have hpl := plain_lw_SolidSpots x0 x1 x2 x3 x4 x5 x6 x7 x8 (wf64 w0) (wf64 w1) (wf64 w2) (wf64 w3) (wf64 w4) (wf64 w5) (fun k hk => wf64 (w7 k hk)) (fun k hk => wf64 (w8 k hk))
  refine ⟨_, _, rfl, hpl.1, ?_⟩
  show AV.bool (F_lw_SolidSpots_0 x0 x1 x2 x3 x4 x5 x6 x7 x8) = .bool true
  rw [hpl.2]
set_option maxRecDepth 100000 in
theorem lifted_lw_SolidSpots (os : Os) (started : os.Started) (H : Type) (enc : TypeId × Value → H) :
    ReturnsInHanded {} Try.checked os 5 .any (Rows.solidSpotsSpec.pre6 enc Try.prog Try.f5 Rows.solidSpotsRow.domain false) (Rows.solidSpotsSpec.post enc Try.prog Try.f5 false true false false) := by
  refine returnsInHanded_of_change (C := Try.checked) (show ownKnob Try.prog.godebug = none by kernel_rfl) started (by kernel_rfl) Try.func5
    (ChangeSpec.witness6 (enc := enc) (C := Try.checked) false ⟨#[], #[.agg #[.int .i64 0, .int .i64 0], .agg #[.int .i64 0, .int .i64 0], .agg #[.int .i64 0, .int .i64 0], .slice none 0 0], []⟩ 8 (by kernel_rfl) (by kernel_rfl) (by kernel_rfl) (by kernel_rfl)) ?_
  intro W base args ds gs before hval0 hW hcnd _
  have hval : ∀ (j : Nat) t v, Try.f5.params[j]? = some t → args[j]? = some v → Value.okWide Try.prog W .any base t v := hval0
  have hW' := hW
  obtain ⟨p, q, hA0, hV, rfl, hfz, hnd⟩ := hW
  have hA : DataW.TrodAll enc Try.prog W 0 (fun _ => true) true Try.f5.params.toList args.toList ds p := hA0
  have hps : Try.f5.params = #[25, 25, 25, 39] := by kernel_rfl
  rw [hps] at hA hval
  obtain ⟨v0, vs0, d0, ds0, p0, q0, hargs, rfl, rfl, h0, r0⟩ := trodAll_cons hA
  obtain ⟨v1, vs1, d1, ds1, p1, q1, rfl, rfl, rfl, h1, r1⟩ := trodAll_cons r0
  obtain ⟨v2, vs2, d2, ds2, p2, q2, rfl, rfl, rfl, h2, r2⟩ := trodAll_cons r1
  obtain ⟨v3, vs3, d3, ds3, p3, q3, rfl, rfl, rfl, h3, r3⟩ := trodAll_cons r2
  obtain ⟨rfl, rfl, rfl⟩ := trodAll_nil r3
  obtain rfl : args = #[v0, v1, v2, v3] := by cases args; simp_all
  obtain ⟨rfl, rfl⟩ := trodVars_none hV
  obtain ⟨b0, k0, l0⟩ := open_arg (n := 8) (hval 0 25 v0 rfl rfl) h0 (show aggT Try.prog 25 = some true by kernel_rfl) (show ftOf Try.prog 8 25 = some [FT.I .i64, FT.I .i64] by kernel_rfl)
  obtain ⟨b1, k1, l1⟩ := open_arg (n := 8) (hval 1 25 v1 rfl rfl) h1 (show aggT Try.prog 25 = some true by kernel_rfl) (show ftOf Try.prog 8 25 = some [FT.I .i64, FT.I .i64] by kernel_rfl)
  obtain ⟨b2, k2, l2⟩ := open_arg (n := 8) (hval 2 25 v2 rfl rfl) h2 (show aggT Try.prog 25 = some true by kernel_rfl) (show ftOf Try.prog 8 25 = some [FT.I .i64, FT.I .i64] by kernel_rfl)
  obtain ⟨b3, k3, l3⟩ := open_arg (n := 8) (hval 3 39 v3 rfl rfl) h3 (show aggT Try.prog 39 = some false by kernel_rfl) (show ftOf Try.prog 8 39 = some [FT.S [FT.I .i64, FT.I .i64]] by kernel_rfl)
  obtain ⟨pp, rt, hg, hp, hrt⟩ := row_lw_SolidSpots k0 k1 k2 k3
  have hvs : VRs (Ew W) [b0, b1, b2, b3] [v0, v1, v2, v3] := by
    unfold VRs; refine ⟨_, _, rfl, l0, ?_⟩; unfold VRs; refine ⟨_, _, rfl, l1, ?_⟩; unfold VRs; refine ⟨_, _, rfl, l2, ?_⟩; unfold VRs; refine ⟨_, _, rfl, l3, ?_⟩; unfold VRs; exact rfl
  refine (law_calls (f := 5) (fn := Try.f5) (c := bodyOf Try.f5) S_lw_SolidSpots Try.func5 (by kernel_rfl) rfl hg hp hrt hvs).mono fun e W' ⟨he, hb⟩ => ?_
  subst he
  exact ⟨_, rfl, post_law (show laidOutB Try.prog = true by kernel_rfl) (by rw [hps]; intro t ht; simp only [List.mem_cons, List.not_mem_nil, or_false] at ht; rcases ht with rfl | rfl | rfl | rfl <;> exact ⟨by kernel_rfl, of_decide_eq_true (by kernel_rfl)⟩) rfl hW' rfl rfl rfl hb (show Try.f5.resultTypes = #[4] by kernel_rfl) (show Try.prog.underlying 4 = some .bool by kernel_rfl)⟩
theorem solidSpots_holds : Rows.SolidSpotsSaid :=
  OpenClaim.holds_of_wide 5 Try.f5 rfl rfl rfl rfl rfl rfl rfl ⟨rfl, rfl, rfl, rfl, rfl⟩ rfl rfl rfl rfl rfl (by kernel_rfl) Try.func5 (by kernel_rfl)
    (of_decide_eq_true (by kernel_rfl)) (by unfold Func.isWrapper; first | (rw [if_pos (by decide +kernel)]; kernel_rfl) | (rw [if_neg (by decide +kernel)]; exact ⟨rfl, rfl⟩))
    (fun os started H enc _ => lifted_lw_SolidSpots os started H enc)
#print axioms solidSpots_holds
end Go.Proofs.Ytbcegholicnflaa

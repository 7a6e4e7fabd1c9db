/- PROVED HERE: for every input the law SolidCasts returns true and leaves its input as it was. Conditions: none beyond the given statement's own (its program is the given one; the input is every input that its types allow). -/
import Derived.Test.YtbcegholicnflaaGreatCastW
import Derived.Test.YtbcegholicnflaaGreatCastX
import Derived.Test.YtbcegholicnflaaGreatCastF
import Derived.Test.YtbcegholicnflaaGreatBgU
import Derived.Test.YtbcegholicnflaaGreatRows
set_option linter.unusedVariables false
set_option linter.unusedSimpArgs false
set_option maxRecDepth 100000
namespace Go.Proofs.YtbcegholicnflaaGreat
open Go.ChangeShapes Go.WideShapes Go.ChangeAt Go.RowKit Go.Ag
theorem wf64 {n : Int} (h : (Lit.int .i64 n).wf = true) : I64 n := by
  unfold I64
  simp only [Lit.wf, Bool.and_eq_true, decide_eq_true_eq] at h
  have e1 : IntKind.min .i64 = -9223372036854775808 := by decide
  have e2 : IntKind.max .i64 = 9223372036854775807 := by decide
  omega
theorem row_do {b0 : AV} (h0 : ArgOk true [FT.I .i64, FT.I .i64, FT.I .i64, FT.I .i64, FT.S [FT.I .i64, FT.I .i64]] b0) {b1 : AV} (h1 : ArgOk true [FT.I .i64, FT.I .i64] b1) {b2 : AV} (h2 : ArgOk true [FT.I .i64, FT.I .i64] b2) : ∃ p rt, g_do [b0, b1, b2] = some (p, rt) /\ p /\ rt.val = .bool true := by
  obtain ⟨_, rfl, _, _, rfl, ⟨x0, rfl, w0⟩, _, _, rfl, ⟨x1, rfl, w1⟩, _, _, rfl, ⟨x2, rfl, w2⟩, _, _, rfl, ⟨x3, rfl, w3⟩, _, _, rfl, ⟨x4, _, rfl, ⟨_, _, rfl, ⟨x5, rfl, w5⟩, ⟨_, _, rfl, ⟨x6, rfl, w6⟩, rfl⟩⟩⟩, rfl⟩ := h0
  obtain ⟨_, rfl, _, _, rfl, ⟨x7, rfl, w7⟩, _, _, rfl, ⟨x8, rfl, w8⟩, rfl⟩ := h1
  obtain ⟨_, rfl, _, _, rfl, ⟨x9, rfl, w9⟩, _, _, rfl, ⟨x10, rfl, w10⟩, rfl⟩ := h2
  have hpl := plain_do x0 x1 x2 x3 x4 x5 x6 x7 x8 x9 x10 (wf64 w0) (wf64 w1) (wf64 w2) (wf64 w3) (fun k hk => wf64 (w5 k hk)) (fun k hk => wf64 (w6 k hk)) (wf64 w7) (wf64 w8) (wf64 w9) (wf64 w10)
  refine ⟨_, _, rfl, hpl.1, ?_⟩
  show AV.bool (F_do_0 x0 x1 x2 x3 x4 x5 x6 x7 x8 x9 x10) = .bool true
  rw [hpl.2]
set_option maxRecDepth 100000 in
theorem lifted_do (os : Os) (started : os.Started) (H : Type) (enc : TypeId × Value -> H) :
    ReturnsInHanded {} Tryz.checked os 5 .any (Rows.solidCastsSpec.pre6 enc Tryz.prog Tryz.f5 Rows.solidCastsRow.domain false) (Rows.solidCastsSpec.post enc Tryz.prog Tryz.f5 false true false false) := by
  refine returnsInHanded_of_change (C := Tryz.checked) (show ownKnob Tryz.prog.godebug = none by kernel_rfl) started (by kernel_rfl) Tryz.func5
    (ChangeSpec.witness6 (enc := enc) (C := Tryz.checked) false ⟨#[], #[.agg #[.int .i64 0, .int .i64 0, .int .i64 0, .int .i64 0, .slice none 0 0], .agg #[.int .i64 0, .int .i64 0], .agg #[.int .i64 0, .int .i64 0]], []⟩ 8 (by kernel_rfl) (by kernel_rfl) (by kernel_rfl) (by kernel_rfl)) ?_
  intro W base args ds gs before hval0 hW hcnd _
  have hval : ∀ (j : Nat) t v, Tryz.f5.params[j]? = some t -> args[j]? = some v -> Value.okWide Tryz.prog W .any base t v := hval0
  have hW' := hW
  obtain ⟨p, q, hA0, hV, rfl, hfz, hnd⟩ := hW
  have hA : DataW.TrodAll enc Tryz.prog W 0 (fun _ => true) true Tryz.f5.params.toList args.toList ds p := hA0
  have hps : Tryz.f5.params = #[35, 32, 32] := by kernel_rfl
  rw [hps] at hA hval
  obtain ⟨v0, vs0, d0, ds0, p0, q0, hargs, rfl, rfl, h0, r0⟩ := trodAll_cons hA
  obtain ⟨v1, vs1, d1, ds1, p1, q1, rfl, rfl, rfl, h1, r1⟩ := trodAll_cons r0
  obtain ⟨v2, vs2, d2, ds2, p2, q2, rfl, rfl, rfl, h2, r2⟩ := trodAll_cons r1
  obtain ⟨rfl, rfl, rfl⟩ := trodAll_nil r2
  obtain rfl : args = #[v0, v1, v2] := by cases args; simp_all
  obtain ⟨rfl, rfl⟩ := trodVars_none hV
  obtain ⟨b0, k0, l0⟩ := open_arg (n := 8) (hval 0 35 v0 rfl rfl) h0 (show aggT Tryz.prog 35 = some true by kernel_rfl) (show ftOf Tryz.prog 8 35 = some [FT.I .i64, FT.I .i64, FT.I .i64, FT.I .i64, FT.S [FT.I .i64, FT.I .i64]] by kernel_rfl)
  obtain ⟨b1, k1, l1⟩ := open_arg (n := 8) (hval 1 32 v1 rfl rfl) h1 (show aggT Tryz.prog 32 = some true by kernel_rfl) (show ftOf Tryz.prog 8 32 = some [FT.I .i64, FT.I .i64] by kernel_rfl)
  obtain ⟨b2, k2, l2⟩ := open_arg (n := 8) (hval 2 32 v2 rfl rfl) h2 (show aggT Tryz.prog 32 = some true by kernel_rfl) (show ftOf Tryz.prog 8 32 = some [FT.I .i64, FT.I .i64] by kernel_rfl)
  obtain ⟨pp, rt, hg, hp, hrt⟩ := row_do k0 k1 k2
  have hvs : VRs (Ew W) [b0, b1, b2] [v0, v1, v2] := by
    unfold VRs; refine ⟨_, _, rfl, l0, ?_⟩; unfold VRs; refine ⟨_, _, rfl, l1, ?_⟩; unfold VRs; refine ⟨_, _, rfl, l2, ?_⟩; unfold VRs; exact rfl
  refine (law_calls (f := 5) (fn := Tryz.f5) (c := bodyOf Tryz.f5) S_do Tryz.func5 (by kernel_rfl) rfl hg hp hrt hvs).mono fun e W' ⟨he, hb⟩ => ?_
  subst he
  exact ⟨_, rfl, post_law jf_solidCasts_1 (by rw [hps]; intro t ht; simp only [List.mem_cons, List.not_mem_nil, or_false] at ht; rcases ht with rfl | rfl | rfl <;> exact ⟨by kernel_rfl, of_decide_eq_true (by kernel_rfl)⟩) rfl hW' rfl rfl rfl hb (show Tryz.f5.resultTypes = #[4] by kernel_rfl) (show Tryz.prog.underlying 4 = some .bool by kernel_rfl)⟩
theorem solidCasts_holds : Rows.SolidCastsSaid :=
  OpenClaim.holds_of_wide 5 Tryz.f5 rfl rfl rfl rfl rfl rfl rfl ⟨rfl, rfl, rfl, rfl, rfl⟩ rfl rfl rfl rfl rfl jn_solidCasts Tryz.func5 jf_solidCasts
    ji_solidCasts jw_solidCasts
    (fun os started H enc _ => lifted_do os started H enc)
#print axioms solidCasts_holds
end Go.Proofs.YtbcegholicnflaaGreat

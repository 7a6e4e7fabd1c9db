/- PROVED HERE: for every input the law SolidFirst returns true and leaves its input as it was. Conditions: none beyond the given statement's own (its program is the given one; the input is every input that its types allow). -/
import Derived.Test.YtbcegholicnflaaGreatFirstW
import Derived.Test.YtbcegholicnflaaGreatFirstX
import Derived.Test.YtbcegholicnflaaGreatFirstF
import Derived.Test.YtbcegholicnflaaGreatBgU
import Derived.Test.YtbcegholicnflaaGreatRows
set_option linter.unusedVariables false
set_option linter.unusedSimpArgs false
set_option maxRecDepth 100000
namespace Go.Proofs.YtbcegholicnflaaGreat
open Go.ChangeShapes Go.WideShapes Go.ChangeAt Go.RowKit Go.Ag
theorem wf64 {n : Int} (h : (Lit.int .i64 n).wf = true) : I64 n := by
  unfold I64
  simp only [Lit.wf, Bool.and_eq_true, decide_eq_true_eq] at h
  have e1 : IntKind.min .i64 = -9223372036854775808 := by decide
  have e2 : IntKind.max .i64 = 9223372036854775807 := by decide
  omega
theorem ani {b0 : AV} (h0 : Ot false [FT.S [FT.I .i64, FT.I .i64, FT.I .i64, FT.I .i64, FT.I .i64, FT.I .i64]] b0) {b1 : AV} (h1 : Ot false [FT.I .i64] b1) {b2 : AV} (h2 : Ot false [FT.I .i64] b2) {b3 : AV} (h3 : Ot false [FT.I .i64] b3) {b4 : AV} (h4 : Ot false [FT.I .i64] b4) : ∃ p rt, anH [b0, b1, b2, b3, b4] = some (p, rt) /\ p /\ rt.val = .bool true := by
  obtain ⟨x0, _, rfl, ⟨_, _, rfl, ⟨x1, rfl, w1⟩, ⟨_, _, rfl, ⟨x2, rfl, w2⟩, ⟨_, _, rfl, ⟨x3, rfl, w3⟩, ⟨_, _, rfl, ⟨x4, rfl, w4⟩, ⟨_, _, rfl, ⟨x5, rfl, w5⟩, ⟨_, _, rfl, ⟨x6, rfl, w6⟩, rfl⟩⟩⟩⟩⟩⟩⟩ := h0
  obtain ⟨x7, rfl, w7⟩ := h1
  obtain ⟨x8, rfl, w8⟩ := h2
  obtain ⟨x9, rfl, w9⟩ := h3
  obtain ⟨x10, rfl, w10⟩ := h4
  have hpl := ahf x0 x1 x2 x3 x4 x5 x6 x7 x8 x9 x10 (fun k hk => wf64 (w1 k hk)) (fun k hk => wf64 (w2 k hk)) (fun k hk => wf64 (w3 k hk)) (fun k hk => wf64 (w4 k hk)) (fun k hk => wf64 (w5 k hk)) (fun k hk => wf64 (w6 k hk)) (wf64 w7) (wf64 w8) (wf64 w9) (wf64 w10)
  refine ⟨_, _, rfl, hpl.1, ?_⟩
  show AV.bool (Vk x0 x1 x2 x3 x4 x5 x6 x7 x8 x9 x10) = .bool true
  rw [hpl.2]
set_option maxRecDepth 100000 in
theorem adQ (os : Os) (started : os.Started) (H : Type) (enc : TypeId × Value -> H) :
    ReturnsInHanded {} Tryz.checked os 7 .any (Rows.solidFirstSpec.pre6 enc Tryz.prog Tryz.f7 Rows.solidFirstRow.domain false) (Rows.solidFirstSpec.post enc Tryz.prog Tryz.f7 false true false false) := by
  refine returnsInHanded_of_change (C := Tryz.checked) (show ownKnob Tryz.prog.godebug = none by kernel_rfl) started (by kernel_rfl) Tryz.func7
    (ChangeSpec.witness6 (enc := enc) (C := Tryz.checked) false ⟨#[], #[.slice none 0 0, .int .i64 0, .int .i64 0, .int .i64 0, .int .i64 0], []⟩ 8 (by kernel_rfl) (by kernel_rfl) (by kernel_rfl) (by kernel_rfl)) ?_
  intro W base args ds gs before hval0 hW hcnd _
  have hval : ∀ (j:Nat) t v, Tryz.f7.params[j]? = some t -> args[j]? = some v -> Value.okWide Tryz.prog W .any base t v := hval0
  have hW' := hW
  obtain ⟨p, q, hA0, hV, rfl, hfz, hnd⟩ := hW
  have hA : DataW.TrodAll enc Tryz.prog W 0 (fun _ => true) true Tryz.f7.params.toList args.toList ds p := hA0
  have hps : Tryz.f7.params = #[22, 2, 2, 2, 2] := by kernel_rfl
  rw [hps] at hA hval
  obtain ⟨v0, vs0, d0, ds0, p0, q0, hargs, rfl, rfl, h0, r0⟩ := trodAll_cons hA
  obtain ⟨v1, vs1, d1, ds1, p1, q1, rfl, rfl, rfl, h1, r1⟩ := trodAll_cons r0
  obtain ⟨v2, vs2, d2, ds2, p2, q2, rfl, rfl, rfl, h2, r2⟩ := trodAll_cons r1
  obtain ⟨v3, vs3, d3, ds3, p3, q3, rfl, rfl, rfl, h3, r3⟩ := trodAll_cons r2
  obtain ⟨v4, vs4, d4, ds4, p4, q4, rfl, rfl, rfl, h4, r4⟩ := trodAll_cons r3
  obtain ⟨rfl, rfl, rfl⟩ := trodAll_nil r4
  obtain rfl : args = #[v0, v1, v2, v3, v4] := by cases args; simp_all
  obtain ⟨rfl, rfl⟩ := trodVars_none hV
  obtain ⟨b0, k0, l0⟩ := open_arg (n := 8) (hval 0 22 v0 rfl rfl) h0 (show YH Tryz.prog 22 = some false by kernel_rfl) (show Qk Tryz.prog 8 22 = some [FT.S [FT.I .i64, FT.I .i64, FT.I .i64, FT.I .i64, FT.I .i64, FT.I .i64]] by kernel_rfl)
  obtain ⟨b1, k1, l1⟩ := open_arg (n := 8) (hval 1 2 v1 rfl rfl) h1 (show YH Tryz.prog 2 = some false by kernel_rfl) (show Qk Tryz.prog 8 2 = some [FT.I .i64] by kernel_rfl)
  obtain ⟨b2, k2, l2⟩ := open_arg (n := 8) (hval 2 2 v2 rfl rfl) h2 (show YH Tryz.prog 2 = some false by kernel_rfl) (show Qk Tryz.prog 8 2 = some [FT.I .i64] by kernel_rfl)
  obtain ⟨b3, k3, l3⟩ := open_arg (n := 8) (hval 3 2 v3 rfl rfl) h3 (show YH Tryz.prog 2 = some false by kernel_rfl) (show Qk Tryz.prog 8 2 = some [FT.I .i64] by kernel_rfl)
  obtain ⟨b4, k4, l4⟩ := open_arg (n := 8) (hval 4 2 v4 rfl rfl) h4 (show YH Tryz.prog 2 = some false by kernel_rfl) (show Qk Tryz.prog 8 2 = some [FT.I .i64] by kernel_rfl)
  obtain ⟨pp, rt, hg, hp, hrt⟩ := ani k0 k1 k2 k3 k4
  have hvs : VRs (Ew W) [b0, b1, b2, b3, b4] [v0, v1, v2, v3, v4] := by
    unfold VRs; refine ⟨_, _, rfl, l0, ?_⟩; unfold VRs; refine ⟨_, _, rfl, l1, ?_⟩; unfold VRs; refine ⟨_, _, rfl, l2, ?_⟩; unfold VRs; refine ⟨_, _, rfl, l3, ?_⟩; unfold VRs; refine ⟨_, _, rfl, l4, ?_⟩; unfold VRs; exact rfl
  refine (acQ (f := 7) (fn := Tryz.f7) (c := aF Tryz.f7) awm Tryz.func7 (by kernel_rfl) rfl hg hp hrt hvs).mono fun e W' ⟨he, hb⟩ => ?_
  subst he
  exact ⟨_, rfl, aeK E8 (by rw [hps]; intro t ht; simp only [List.mem_cons, List.not_mem_nil, or_false] at ht; rcases ht with rfl | rfl | rfl | rfl | rfl <;> exact ⟨by kernel_rfl, of_decide_eq_true (by kernel_rfl)⟩) rfl hW' rfl rfl rfl hb (show Tryz.f7.resultTypes = #[4] by kernel_rfl) (show Tryz.prog.underlying 4 = some .bool by kernel_rfl)⟩
theorem solidFirst_holds : Rows.SolidFirstSaid :=
  OpenClaim.holds_of_wide 7 Tryz.f7 rfl rfl rfl rfl rfl rfl rfl ⟨rfl, rfl, rfl, rfl, rfl⟩ rfl rfl rfl rfl rfl TM Tryz.func7 TG
    TK TJ
    (fun os started H enc _ => adQ os started H enc)
#print axioms solidFirst_holds
end Go.Proofs.YtbcegholicnflaaGreat

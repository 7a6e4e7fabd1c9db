import Derived.Test.YtbcegholicnflaaGreatBgW
import Derived.Test.YtbcegholicnflaaGreatTabB
set_option linter.unusedVariables false
set_option linter.unusedSimpArgs false
namespace Go.Proofs.YtbcegholicnflaaGreat
open Go.RowKit Go.Ag
noncomputable section
def g_mb_Add64 : List AV -> Option (Prop × RT)
  | [AV.int .u64 x, AV.int .u64 y, AV.int .u64 c] => some (P_mb_Add64 x y c, RT.leaf (AV.tup [AV.int .u64 (F_mb_Add64_0 x y c), AV.int .u64 (F_mb_Add64_1 x y c)]))
  | _ => none
def g_mb_Sub64 : List AV -> Option (Prop × RT)
  | [AV.int .u64 x, AV.int .u64 y, AV.int .u64 c] => some (P_mb_Sub64 x y c, RT.leaf (AV.tup [AV.int .u64 (F_mb_Sub64_0 x y c), AV.int .u64 (F_mb_Sub64_1 x y c)]))
  | _ => none
theorem three_ints {E : Env} {x y c : Int} {vs : List Value} (hv : VRs E [AV.int .u64 x, AV.int .u64 y, AV.int .u64 c] vs) : vs = [.int .u64 x, .int .u64 y, .int .u64 c] := by
  obtain ⟨v1, r1, rfl, h1, hv⟩ := hv.cons_inv
  obtain ⟨v2, r2, rfl, h2, hv⟩ := hv.cons_inv
  obtain ⟨v3, r3, rfl, h3, hv⟩ := hv.cons_inv
  have := hv.nil_inv
  subst this
  unfold VR at h1 h2 h3
  rw [h1, h2, h3]
theorem two_ints {E : Env} {a b : Int} : VR E (AV.tup [AV.int .u64 a, AV.int .u64 b]) (.tuple #[.int .u64 a, .int .u64 b]) := by
  unfold VR
  exact ⟨[_, _], rfl, VRs.cons (by unfold VR; rfl) (VRs.cons (by unfold VR; rfl) (VRs.nil _))⟩
theorem S_mb_Add64 : SpecOK Tryz.prog 275 (.pure g_mb_Add64) := by
  intro xs p r h hp E w vs hr hv
  unfold g_mb_Add64 at h
  split at h
  · rename_i x y c
    simp only [Option.some.injEq, Prod.mk.injEq] at h
    obtain ⟨rfl, rfl⟩ := h
    have hvs := three_ints hv
    subst hvs
    refine .inr ⟨_, w, ?_, pureR_value hr (two_ints (a := F_mb_Add64_0 x y c) (b := F_mb_Add64_1 x y c))⟩
    rw [run_callFunc_extern (fn := Tryz.f275) (e := add64Entry) Tryz.func275 rfl rfl rfl (by kernel_rfl)]
    have := run_add64 (P := Tryz.prog) x y c hp.1 hp.2.1 hp.2.2.1 hp.2.2.2 w
    rw [show ([Value.int .u64 x, Value.int .u64 y, Value.int .u64 c].toArray) = #[.int .u64 x, .int .u64 y, .int .u64 c] from rfl, this]
    rfl
  · cases h
theorem S_mb_Sub64 : SpecOK Tryz.prog 276 (.pure g_mb_Sub64) := by
  intro xs p r h hp E w vs hr hv
  unfold g_mb_Sub64 at h
  split at h
  · rename_i x y c
    simp only [Option.some.injEq, Prod.mk.injEq] at h
    obtain ⟨rfl, rfl⟩ := h
    have hvs := three_ints hv
    subst hvs
    refine .inr ⟨_, w, ?_, pureR_value hr (two_ints (a := F_mb_Sub64_0 x y c) (b := F_mb_Sub64_1 x y c))⟩
    rw [run_callFunc_extern (fn := Tryz.f276) (e := sub64Entry) Tryz.func276 rfl rfl rfl (by kernel_rfl)]
    rw [show ([Value.int .u64 x, Value.int .u64 y, Value.int .u64 c].toArray) = #[.int .u64 x, .int .u64 y, .int .u64 c] from rfl, run_sub64 x y c hp w]
    rfl
  · cases h
end
end Go.Proofs.YtbcegholicnflaaGreat

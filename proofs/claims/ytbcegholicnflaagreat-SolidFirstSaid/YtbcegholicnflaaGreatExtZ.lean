import Derived.Test.YtbcegholicnflaaGreatBgW
import Derived.Test.YtbcegholicnflaaGreatTabB
set_option linter.unusedVariables false
set_option linter.unusedSimpArgs false
namespace Go.Ag
open Go.RowKit
theorem SlR.typ {ro : Nat -> Nat -> Option Value} {n : Nat} {c : List CF} {v : Value} {ks : List KC} (h : fG ks c = true) (hv : SlR ro n c v) : SlR ro (nOf n c) (Hg ks 0 c) v := by
  cases c with
  | nil =>
    rcases hv with ⟨h1, h2⟩ | ⟨a, cp, h1, h2, h3⟩
    . exact .inl ⟨rfl, h2⟩
    . have h0 : n = 0 := by
        rcases Nat.eq_zero_or_pos n with h | h
        . exact h
        . exact absurd rfl (h3 0 h).2.1
      subst h0
      exact .inr ⟨a, cp, h1, h2, fun i hi => absurd hi (Nat.not_lt_zero _)⟩
  | cons c0 cs => rw [aaM h]; exact hv
def Gj (inner : List KC) : List KC -> Nat -> List CF -> List CF
  | [], _, _ => []
  | .I k :: ks, j, cs => .I k (aA cs j) :: Gj inner ks (j + 1) cs
  | .B :: ks, j, cs => .B (bP cs j) :: Gj inner ks (j + 1) cs
  | .S :: ks, j, cs => .S (fun k => nOf (Ah cs j k) (iW cs j k)) (fun k => Hg inner 0 (iW cs j k)) :: Gj inner ks (j + 1) cs
theorem xG (inner : List KC) (c : CF) : ∀ (ks : List KC) (j:Nat) (cs : List CF), Gj inner ks (j + 1) (c :: cs) = Gj inner ks j cs
  | [], j, cs => rfl
  | .I k :: ks, j, cs => by simp only [Gj, xG inner c ks]; rfl
  | .B :: ks, j, cs => by simp only [Gj, xG inner c ks]; rfl
  | .S :: ks, j, cs => by simp only [Gj, xG inner c ks]; rfl
def isS : List KC -> Nat -> Bool
  | [], _ => false
  | .S :: _, 0 => true
  | _ :: _, 0 => false
  | _ :: ks, n + 1 => isS ks n
theorem abo {inner : List KC} {ro : Nat -> Nat -> Option Value} {i : Nat} : ∀ {ks : List KC} {cs : List CF}, Ll ks cs = true -> (∀ j, isS ks j = true -> fG inner (iW cs j i) = true) -> ∀ {us : List Value}, fD ro cs i us -> fD ro (Gj inner ks 0 cs) i us
  | [], [], _, _, us, h => h
  | [], c :: cs, h, _, _, _ => by simp [Ll] at h
  | k :: ks, [], h, _, _, _ => by simp [Ll] at h
  | k :: ks, c :: cs, h, hw, us, hu => by
    simp only [Ll, Bool.and_eq_true] at h
    obtain ⟨h1, h2⟩ := h
    unfold fD at hu
    obtain ⟨v, vs, rfl, hv, hvs⟩ := hu
    have ih := abo h2 (fun j hj => hw (j + 1) (by cases k <;> exact hj)) hvs
    cases k <;> cases c <;> simp [KC.is] at h1
    . subst h1; simp only [Gj, xG]; exact fD.cons hv ih
    . simp only [Gj, xG]; exact fD.cons hv ih
    . simp only [Gj, xG]
      refine fD.cons ?_ ih
      rw [CFR.BD] at *
      exact SlR.typ (hw 0 rfl) hv
theorem AV.le.rsS {q : Option Bool} {n : Nat} {c : List CF} {ks inner : List KC} {j0 : Nat} (h : fG ks c = true) (hw : ∀ k, k < nOf n c -> fG inner (iW c j0 k) = true) (hs : ∀ j, isS ks j = true -> j = j0) : AV.le (.rs q n c) (.rs none (nOf n c) (Gj inner ks 0 c)) := fun E v hv => by
  have hv := hv.Yq
  cases c with
  | nil =>
    rcases hv with ⟨h1, h2⟩ | ⟨a, cp, h1, h2, h3⟩
    . unfold VR; exact .inl ⟨by simp, rfl, h2⟩
    . have h0 : n = 0 := by
        rcases Nat.eq_zero_or_pos n with h | h
        . exact h
        . exact absurd rfl (h3 0 h).2.1
      subst h0
      unfold VR
      exact .inr ⟨by simp, a, cp, h1, h2, fun i hi => absurd hi (Nat.not_lt_zero _)⟩
  | cons c0 cs =>
    have hne : Gj inner ks 0 (c0 :: cs) ≠ [] := by
      cases ks with
      | nil => cases h
      | cons k ks => cases k <;> simp [Gj]
    rcases hv with ⟨h1, h2⟩ | ⟨a, cp, h1, h2, h3⟩
    . unfold VR; exact .inl ⟨by simp, h1, h2⟩
    . unfold VR
      refine .inr ⟨by simp, a, cp, h1, h2, fun i hi => ?_⟩
      obtain ⟨g1, g2, us, g3, g4⟩ := h3 i hi
      exact ⟨g1, hne, us, abo h (fun j hj => by rw [hs j hj]; exact hw i hi) g3, g4⟩
end Go.Ag
namespace Go.Proofs.YtbcegholicnflaaGreat
open Go.RowKit Go.Ag
noncomputable section
def yw : List AV -> Option (Prop × RT)
  | [AV.int .u64 x, AV.int .u64 y, AV.int .u64 c] => some (kG x y c, RT.leaf (AV.tup [AV.int .u64 (fA x y c), AV.int .u64 (fB x y c)]))
  | _ => none
def Cm : List AV -> Option (Prop × RT)
  | [AV.int .u64 x, AV.int .u64 y, AV.int .u64 c] => some (fU x y c, RT.leaf (AV.tup [AV.int .u64 (aQ x y c), AV.int .u64 (bn x y c)]))
  | _ => none
theorem Qw {E : Env} {x y c : Int} {vs : List Value} (hv : VRs E [AV.int .u64 x, AV.int .u64 y, AV.int .u64 c] vs) : vs = [.int .u64 x, .int .u64 y, .int .u64 c] := by
  obtain ⟨v1, r1, rfl, h1, hv⟩ := hv.cons_inv
  obtain ⟨v2, r2, rfl, h2, hv⟩ := hv.cons_inv
  obtain ⟨v3, r3, rfl, h3, hv⟩ := hv.cons_inv
  have := hv.jO
  subst this
  unfold VR at h1 h2 h3
  rw [h1, h2, h3]
theorem XF {E : Env} {a b : Int} : VR E (AV.tup [AV.int .u64 a, AV.int .u64 b]) (.tuple #[.int .u64 a, .int .u64 b]) := by
  unfold VR
  exact ⟨[_, _], rfl, VRs.cons (by unfold VR; rfl) (VRs.cons (by unfold VR; rfl) (VRs.nil _))⟩
theorem Ih : aU Tryz.prog 275 (.pure yw) := by
  intro xs p r h hp E w vs hr hv
  unfold yw at h
  split at h
  . rename_i x y c
    simp only [Option.some.injEq, Prod.mk.injEq] at h
    obtain ⟨rfl, rfl⟩ := h
    have hvs := Qw hv
    subst hvs
    refine .inr ⟨_, w, ?_, Ov hr (XF (a := fA x y c) (b := fB x y c))⟩
    rw [run_callFunc_extern (fn := Tryz.f275) (e := add64Entry) Tryz.func275 rfl rfl rfl (by kernel_rfl)]
    have := run_add64 (P := Tryz.prog) x y c hp.1 hp.2.1 hp.2.2.1 hp.2.2.2 w
    rw [show ([Value.int .u64 x, Value.int .u64 y, Value.int .u64 c].toArray) = #[.int .u64 x, .int .u64 y, .int .u64 c] from rfl, this]
    rfl
  . cases h
theorem Qx : aU Tryz.prog 276 (.pure Cm) := by
  intro xs p r h hp E w vs hr hv
  unfold Cm at h
  split at h
  . rename_i x y c
    simp only [Option.some.injEq, Prod.mk.injEq] at h
    obtain ⟨rfl, rfl⟩ := h
    have hvs := Qw hv
    subst hvs
    refine .inr ⟨_, w, ?_, Ov hr (XF (a := aQ x y c) (b := bn x y c))⟩
    rw [run_callFunc_extern (fn := Tryz.f276) (e := sub64Entry) Tryz.func276 rfl rfl rfl (by kernel_rfl)]
    rw [show ([Value.int .u64 x, Value.int .u64 y, Value.int .u64 c].toArray) = #[.int .u64 x, .int .u64 y, .int .u64 c] from rfl, run_sub64 x y c hp w]
    rfl
  . cases h
end
end Go.Proofs.YtbcegholicnflaaGreat

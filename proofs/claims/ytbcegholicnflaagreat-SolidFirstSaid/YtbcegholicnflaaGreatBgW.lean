import Derived.Test.YtbcegholicnflaaGreatBgV
import Derived.Laws.Externs
set_option linter.unusedVariables false
set_option linter.unusedSimpArgs false
namespace Go.Ag
open Go.RowKit
def kG (x y c:Int) : Prop := 0 <= x /\ 0 <= y /\ 0 <= c /\ c <= 1
def fA (x y c:Int) : Int := (x + y + c) % 18446744073709551616
def fB (x y c:Int) : Int := (x + y + c) / 18446744073709551616
def fU (x y c:Int) : Prop := 0 <= x /\ 0 <= y /\ y <= 18446744073709551615 /\ 0 <= c /\ c <= 1
def aQ (x y c:Int) : Int := (x - y - c) % 18446744073709551616
def bn (x y c:Int) : Int := if x < y + c then 1 else 0
def sub64Entry : Array Value -> Sem Value := fun args => do
  let (x, y, b) <- Extern.MathBitsCarry.three "Sub64" args
  pure (Extern.MathBitsCarry.pair ((x + Extern.MathBitsCarry.m64 - y - b) % Extern.MathBitsCarry.m64) (if x < y + b then 1 else 0))
theorem run_sub64 {P : Program} (x y c:Int) (h : fU x y c) (w : World) : (sub64Entry #[.int .u64 x, .int .u64 y, .int .u64 c]).run P w = .ok (.tuple #[.int .u64 (aQ x y c), .int .u64 (bn x y c)]) w := by
  obtain ⟨hx, hy, hy2, hc0, hc⟩ := h
  have key : ∀ k : Nat, k <= 1 -> (sub64Entry #[.int .u64 x, .int .u64 y, .int .u64 (k:Int)]).run P w =
      .ok (Extern.MathBitsCarry.pair ((x.toNat + Extern.MathBitsCarry.m64 - y.toNat - k) % Extern.MathBitsCarry.m64) (if x.toNat < y.toNat + k then 1 else 0)) w := by
    intro k hk
    have : k = 0 \/ k = 1 := by omega
    rcases this with rfl | rfl <;> rfl
  obtain ⟨k, rfl⟩ := Int.eq_ofNat_of_zero_le hc0
  rw [key k (by omega)]
  obtain ⟨X, rfl⟩ := Int.eq_ofNat_of_zero_le hx
  obtain ⟨Y, rfl⟩ := Int.eq_ofNat_of_zero_le hy
  unfold aQ bn
  simp only [Extern.MathBitsCarry.pair, Extern.MathBitsCarry.m64, Int.toNat_natCast]
  have e1 : (Int.ofNat ((X + 2 ^ 64 - Y - k) % 2 ^ 64)) = ((X:Int) - Y - k) % 18446744073709551616 := by
    simp only [Int.ofNat_eq_natCast]
    omega
  have e2 : Int.ofNat (if X < Y + k then 1 else 0) = if (X:Int) < (Y:Int) + (k:Int) then 1 else 0 := by
    split <;> split <;> first | rfl | omega
  rw [e1, e2]
theorem Ov {E : Env} {w : World} {r : AV} {v : Value} (hr : OJ E w) (hv : VR E.bare r v) : J4 E w r (.returned v) w := ⟨E, v, rfl, hv, fun _ _ _ h => h, fun _ _ _ h => .inl h, hr, Keep.refl _ _⟩
end Go.Ag

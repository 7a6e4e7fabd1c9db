import Derived.Test.YtbcegholicnflaaGreatBgX
import Derived.Lib.Mul64
set_option linter.unusedVariables false
set_option linter.unusedSimpArgs false
namespace Go.Ag
open Go.RowKit
def U64 (x : Int) : Prop := 0 <= x /\ x < 18446744073709551616
theorem wrapU (n : Int) : IntKind.u64.wrap n = n % 18446744073709551616 := by
  unfold IntKind.wrap
  simp [IntKind.bits, IntKind.signed]
theorem wrapI (n : Int) : IntKind.i64.wrap n = if 9223372036854775808 <= n % 18446744073709551616 then n % 18446744073709551616 - 18446744073709551616 else n % 18446744073709551616 := by
  unfold IntKind.wrap
  simp [IntKind.bits, IntKind.signed]
theorem iaddU (a b : Int) : iadd .u64 a b = (a + b) % 18446744073709551616 := by rw [iadd_eq]; exact wrapU _
theorem isubU (a b : Int) : isub .u64 a b = (a - b) % 18446744073709551616 := by rw [isub_eq]; exact wrapU _
theorem imulU (a b : Int) : imul .u64 a b = (a * b) % 18446744073709551616 := by rw [imul_eq]; exact wrapU _
theorem iconvU (a : Int) : iconv .u64 a = a % 18446744073709551616 := by rw [iconv_eq]; exact wrapU _
theorem iconvI {a : Int} (h : -9223372036854775808 <= a /\ a <= 9223372036854775807) : iconv .i64 a = a := by rw [iconv_eq]; exact IntWalk.i64_in _ h
theorem ishlU (a : Int) (k : Nat) (hk : k <= 64) : ishl .u64 a (k : Int) = (a * 2 ^ k) % 18446744073709551616 := by
  rw [ishl_eq]
  simp only [wrapU, Int.toNat_natCast]
  rw [show min k (IntKind.u64.bits) = k from Nat.min_eq_left hk]
theorem ishrU (a : Int) (k : Nat) (hk : k <= 64) : ishr .u64 a (k : Int) = a / 2 ^ k := by
  rw [ishr_eq]
  simp only [Int.toNat_natCast]
  rw [show min k (IntKind.u64.bits) = k from Nat.min_eq_left hk]
  exact Int.fdiv_eq_ediv_of_nonneg _ (Int.le_of_lt (Int.pow_pos (by decide)))
theorem ishrI (a : Int) (k : Nat) (hk : k <= 64) : ishr .i64 a (k : Int) = a / 2 ^ k := by
  rw [ishr_eq]
  simp only [Int.toNat_natCast]
  rw [show min k (IntKind.i64.bits) = k from Nat.min_eq_left hk]
  exact Int.fdiv_eq_ediv_of_nonneg _ (Int.le_of_lt (Int.pow_pos (by decide)))
theorem ishl32 (a : Int) : ishl .u64 a 32 = (a * 4294967296) % 18446744073709551616 := ishlU a 32 (by decide)
theorem ishl1 (a : Int) : ishl .u64 a 1 = (a * 2) % 18446744073709551616 := ishlU a 1 (by decide)
theorem ishr32 (a : Int) : ishr .u64 a 32 = a / 4294967296 := ishrU a 32 (by decide)
theorem ishr63 (a : Int) : ishr .u64 a 63 = a / 9223372036854775808 := ishrU a 63 (by decide)
theorem ishr32I (a : Int) : ishr .i64 a 32 = a / 4294967296 := ishrI a 32 (by decide)
theorem ishr31I (a : Int) : ishr .i64 a 31 = a / 2147483648 := ishrI a 31 (by decide)
theorem ofIntU (x : Nat) : BitVec.ofInt 64 (x : Int) = BitVec.ofNat 64 x := by
  apply BitVec.eq_of_toNat_eq
  simp [BitVec.toNat_ofInt, BitVec.toNat_ofNat]
theorem iand_mask (k : Nat) (hk : k <= 64) {a : Int} (h : U64 a) : iand .u64 a ((2 ^ k - 1 : Nat) : Int) = a % (2 ^ k : Nat) := by
  obtain ⟨x, rfl⟩ := Int.eq_ofNat_of_zero_le h.1
  have hx : x < 2 ^ 64 := by have := h.2; omega
  have hk2 : 2 ^ k <= 2 ^ 64 := Nat.pow_le_pow_right (by decide) hk
  have hk1 : 0 < 2 ^ k := Nat.pow_pos (by decide)
  rw [iand_eq]
  show IntKind.u64.wrap (((BitVec.ofInt 64 (x : Int) &&& BitVec.ofInt 64 ((2 ^ k - 1 : Nat) : Int)).toNat : Nat) : Int) = _
  rw [ofIntU, ofIntU, BitVec.toNat_and, BitVec.toNat_ofNat, BitVec.toNat_ofNat]
  rw [Nat.mod_eq_of_lt hx, Nat.mod_eq_of_lt (show 2 ^ k - 1 < 2 ^ 64 by omega), Nat.and_two_pow_sub_one_eq_mod, wrapU]
  have : x % 2 ^ k < 2 ^ k := Nat.mod_lt _ hk1
  rw [Int.emod_eq_of_lt (by omega) (by omega)]
  exact Int.natCast_emod ..
theorem iand32 {a : Int} (h : U64 a) : iand .u64 a 4294967295 = a % 4294967296 := iand_mask 32 (by decide) h
theorem iand1 {a : Int} (h : U64 a) : iand .u64 a 1 = a % 2 := iand_mask 1 (by decide) h
theorem ior_disj (k : Nat) (hk : k <= 64) {a b : Int} (h : U64 (a * 2 ^ k)) (ha : 0 <= a) (hb : 0 <= b /\ b < 2 ^ k) : ior .u64 (a * 2 ^ k) b = a * 2 ^ k + b := by
  obtain ⟨x, rfl⟩ := Int.eq_ofNat_of_zero_le ha
  obtain ⟨y, rfl⟩ := Int.eq_ofNat_of_zero_le hb.1
  have hk2 : 2 ^ k <= 2 ^ 64 := Nat.pow_le_pow_right (by decide) hk
  have hy : y < 2 ^ k := by have := hb.2; exact_mod_cast this
  have e : (x : Int) * 2 ^ k = ((x * 2 ^ k : Nat) : Int) := by rw [Int.natCast_mul, Int.natCast_pow]; rfl
  have hx : x * 2 ^ k < 2 ^ 64 := by
    have := h.2
    rw [e] at this
    generalize x * 2 ^ k = z at this ⊢
    omega
  rw [ior_eq, e]
  show IntKind.u64.wrap (((BitVec.ofInt 64 ((x * 2 ^ k : Nat) : Int) ||| BitVec.ofInt 64 (y : Int)).toNat : Nat) : Int) = _
  rw [ofIntU, ofIntU, BitVec.toNat_or, BitVec.toNat_ofNat, BitVec.toNat_ofNat]
  rw [Nat.mod_eq_of_lt hx, Nat.mod_eq_of_lt (show y < 2 ^ 64 by omega)]
  have key : x * 2 ^ k ||| y = x * 2 ^ k + y := by
    rw [Nat.mul_comm]; exact (Nat.two_pow_add_eq_or_of_lt hy x).symm
  have hlt : x * 2 ^ k + y < 2 ^ 64 := by
    have : x * 2 ^ k ||| y < 2 ^ 64 := Nat.or_lt_two_pow hx (by omega)
    omega
  rw [key, wrapU, Int.emod_eq_of_lt (by omega) (by omega)]
  exact Int.natCast_add _ _
def sg (neg : Bool) (n : Int) : Int := cond neg (-n) n
theorem sg_t (n : Int) : sg true n = -n := rfl
theorem sg_f (n : Int) : sg false n = n := rfl
def VW (neg : Bool) (hi lo : Int) : Int := sg neg (hi * 18446744073709551616 + lo)
def topN : Int := 9223372036854775807
def satN (v : Int) : Int := if 9223372036854775807 < v then 9223372036854775807 else if v < -9223372036854775807 then -9223372036854775807 else v
def satB (v : Int) : Bool := decide (9223372036854775807 < v) || decide (v < -9223372036854775807)
theorem satN_range (v : Int) : -9223372036854775807 <= satN v /\ satN v <= 9223372036854775807 := by
  unfold satN
  split
  · omega
  · split <;> omega
theorem satN_id {v : Int} (h : -9223372036854775807 <= v /\ v <= 9223372036854775807) : satN v = v := by unfold satN; rw [if_neg (by omega), if_neg (by omega)]
theorem satB_id {v : Int} (h : -9223372036854775807 <= v /\ v <= 9223372036854775807) : satB v = false := by unfold satB; simp; omega
theorem mul64_hi' {x y : Int} (hx : U64 x) (hy : U64 y) :
    iadd .u64 (iadd .u64 (imul .u64 (ishr .u64 x 32) (ishr .u64 y 32)) (ishr .u64 (iadd .u64 (imul .u64 (ishr .u64 x 32) (iand .u64 y 4294967295)) (ishr .u64 (imul .u64 (iand .u64 x 4294967295) (iand .u64 y 4294967295)) 32)) 32)) (ishr .u64 (iadd .u64 (iand .u64 (iadd .u64 (imul .u64 (ishr .u64 x 32) (iand .u64 y 4294967295)) (ishr .u64 (imul .u64 (iand .u64 x 4294967295) (iand .u64 y 4294967295)) 32)) 4294967295) (imul .u64 (iand .u64 x 4294967295) (ishr .u64 y 32))) 32)
      = x * y / 18446744073709551616 := by
  obtain ⟨a, rfl⟩ := Int.eq_ofNat_of_zero_le hx.1
  obtain ⟨b, rfl⟩ := Int.eq_ofNat_of_zero_le hy.1
  have ha : a < 18446744073709551616 := by have := hx.2; omega
  have hb : b < 18446744073709551616 := by have := hy.2; omega
  obtain ⟨b1, b2, b3, b4⟩ := Lib.mul64_hi a b ha hb
  have h1 := Lib.half_mul_le (a := a / 4294967296) (b := b / 4294967296) (by omega) (by omega)
  have h2 := Lib.half_mul_le (a := a / 4294967296) (b := b % 4294967296) (by omega) (by omega)
  have h3 := Lib.half_mul_le (a := a % 4294967296) (b := b / 4294967296) (by omega) (by omega)
  have e1 : (a : Int) / 4294967296 = ((a / 4294967296 : Nat) : Int) := by omega
  have e2 : (b : Int) / 4294967296 = ((b / 4294967296 : Nat) : Int) := by omega
  have e3 : (a : Int) % 4294967296 = ((a % 4294967296 : Nat) : Int) := by omega
  have e4 : (b : Int) % 4294967296 = ((b % 4294967296 : Nat) : Int) := by omega
  rw [iand32 hx, iand32 hy]
  simp only [ishr32, imulU, iaddU, e1, e2, e3, e4, ← Int.natCast_mul]
  generalize a / 4294967296 * (b / 4294967296) = p11 at *
  generalize a / 4294967296 * (b % 4294967296) = p10 at *
  generalize a % 4294967296 * (b / 4294967296) = p01 at *
  generalize a % 4294967296 * (b % 4294967296) = p00 at *
  rw [show ((p00 : Int) % 18446744073709551616) = p00 from by omega, show ((p10 : Int) % 18446744073709551616) = p10 from by omega, show ((p01 : Int) % 18446744073709551616) = p01 from by omega, show ((p11 : Int) % 18446744073709551616) = p11 from by omega]
  rw [show (((p10 : Int) + p00 / 4294967296) % 18446744073709551616) = ((p10 + p00 / 4294967296 : Nat) : Int) from by omega]
  rw [iand32 ⟨by omega, by omega⟩]
  generalize a * b = q at *
  omega
def minF (f : Nat -> Int) : Nat -> Int
  | 0 => 0
  | k + 1 => if k = 0 then f 0 else min (minF f k) (f k)
def maxF (f : Nat -> Int) : Nat -> Int
  | 0 => 0
  | k + 1 => if k = 0 then f 0 else max (maxF f k) (f k)
theorem minF_one (f : Nat -> Int) : minF f 1 = f 0 := rfl
theorem maxF_one (f : Nat -> Int) : maxF f 1 = f 0 := rfl
theorem minF_succ (f : Nat -> Int) {k : Nat} (h : k ≠ 0) : minF f (k + 1) = min (minF f k) (f k) := by rw [minF, if_neg h]
theorem maxF_succ (f : Nat -> Int) {k : Nat} (h : k ≠ 0) : maxF f (k + 1) = max (maxF f k) (f k) := by rw [maxF, if_neg h]
theorem minF_congr {f g : Nat -> Int} : ∀ (n : Nat), (∀ k, k < n -> f k = g k) -> minF f n = minF g n
  | 0, _ => rfl
  | n + 1, h => by
    have := minF_congr n (fun k hk => h k (by omega))
    rw [minF, minF, this, h n (by omega)]
    split
    · exact h 0 (by omega)
    · rfl
theorem maxF_congr {f g : Nat -> Int} : ∀ (n : Nat), (∀ k, k < n -> f k = g k) -> maxF f n = maxF g n
  | 0, _ => rfl
  | n + 1, h => by
    have := maxF_congr n (fun k hk => h k (by omega))
    rw [maxF, maxF, this, h n (by omega)]
    split
    · exact h 0 (by omega)
    · rfl
end Go.Ag

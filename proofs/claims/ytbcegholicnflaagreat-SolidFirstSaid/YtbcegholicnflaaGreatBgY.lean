import Derived.Test.YtbcegholicnflaaGreatBgX
import Derived.Lib.Mul64
set_option linter.unusedVariables false
set_option linter.unusedSimpArgs false
namespace Go.Ag
open Go.RowKit
def U64 (x:Int) : Prop := 0 <= x /\ x < 18446744073709551616
theorem Kr (n:Int) : IntKind.u64.wrap n = n % 18446744073709551616 := by
  unfold IntKind.wrap
  simp [IntKind.bits, IntKind.signed]
theorem Uw (a b:Int) : au .u64 a b = (a + b) % 18446744073709551616 := by rw [JH]; exact Kr _
theorem Ux (a b:Int) : bQ .u64 a b = (a - b) % 18446744073709551616 := by rw [O8]; exact Kr _
theorem H9 (a b:Int) : aI .u64 a b = (a * b) % 18446744073709551616 := by rw [O9]; exact Kr _
theorem Lr (a:Int) : aT .u64 a = a % 18446744073709551616 := by rw [JI]; exact Kr _
theorem aeM {a : Int} (h : -9223372036854775808 <= a /\ a <= 9223372036854775807) : aT .i64 a = a := by rw [JI]; exact IntWalk.i64_in _ h
theorem Qr (a:Int) (k:Nat) (hk : k <= 64) : dL .u64 a (k:Int) = (a * 2 ^ k) % 18446744073709551616 := by
  rw [Ph]
  simp only [Kr, Int.toNat_natCast]
  rw [show min k (IntKind.u64.bits) = k from Nat.min_eq_left hk]
theorem Kt (a:Int) (k:Nat) (hk : k <= 64) : bF .u64 a (k:Int) = a / 2 ^ k := by
  rw [aam]
  simp only [Int.toNat_natCast]
  rw [show min k (IntKind.u64.bits) = k from Nat.min_eq_left hk]
  exact Int.fdiv_eq_ediv_of_nonneg _ (Int.le_of_lt (Int.pow_pos (by decide)))
theorem YI (a:Int) : dL .u64 a 32 = (a * 4294967296) % 18446744073709551616 := Qr a 32 (by decide)
theorem aeN (a:Int) : dL .u64 a 1 = (a * 2) % 18446744073709551616 := Qr a 1 (by decide)
theorem FQ (a:Int) : bF .u64 a 32 = a / 4294967296 := Kt a 32 (by decide)
theorem aeO (a:Int) : bF .u64 a 63 = a / 9223372036854775808 := Kt a 63 (by decide)
theorem Vh (x:Nat) : BitVec.ofInt 64 (x:Int) = BitVec.ofNat 64 x := by
  apply BitVec.eq_of_toNat_eq
  simp [BitVec.toNat_ofInt, BitVec.toNat_ofNat]
theorem Uy (k:Nat) (hk : k <= 64) {a : Int} (h : U64 a) : jK .u64 a ((2 ^ k - 1:Nat):Int) = a % (2 ^ k:Nat) := by
  obtain ⟨x, rfl⟩ := Int.eq_ofNat_of_zero_le h.1
  have hx : x < 2 ^ 64 := by have := h.2; omega
  have hk2 : 2 ^ k <= 2 ^ 64 := Nat.pow_le_pow_right (by decide) hk
  have hk1 : 0 < 2 ^ k := Nat.pow_pos (by decide)
  rw [aai]
  show IntKind.u64.wrap (((BitVec.ofInt 64 (x:Int) &&& BitVec.ofInt 64 ((2 ^ k - 1:Nat):Int)).toNat:Nat):Int) = _
  rw [Vh, Vh, BitVec.toNat_and, BitVec.toNat_ofNat, BitVec.toNat_ofNat]
  rw [Nat.mod_eq_of_lt hx, Nat.mod_eq_of_lt (show 2 ^ k - 1 < 2 ^ 64 by omega), Nat.and_two_pow_sub_one_eq_mod, Kr]
  have : x % 2 ^ k < 2 ^ k := Nat.mod_lt _ hk1
  rw [Int.emod_eq_of_lt (by omega) (by omega)]
  exact Int.natCast_emod ..
theorem Ig {a : Int} (h : U64 a) : jK .u64 a 4294967295 = a % 4294967296 := Uy 32 (by decide) h
theorem ajd {a : Int} (h : U64 a) : jK .u64 a 1 = a % 2 := Uy 1 (by decide) h
theorem BJ (k:Nat) (hk : k <= 64) {a b : Int} (h : U64 (a * 2 ^ k)) (ha : 0 <= a) (hb : 0 <= b /\ b < 2 ^ k) : ior .u64 (a * 2 ^ k) b = a * 2 ^ k + b := by
  obtain ⟨x, rfl⟩ := Int.eq_ofNat_of_zero_le ha
  obtain ⟨y, rfl⟩ := Int.eq_ofNat_of_zero_le hb.1
  have hk2 : 2 ^ k <= 2 ^ 64 := Nat.pow_le_pow_right (by decide) hk
  have hy : y < 2 ^ k := by have := hb.2; exact_mod_cast this
  have e : (x:Int) * 2 ^ k = ((x * 2 ^ k:Nat):Int) := by rw [Int.natCast_mul, Int.natCast_pow]; rfl
  have hx : x * 2 ^ k < 2 ^ 64 := by
    have := h.2
    rw [e] at this
    generalize x * 2 ^ k = z at this ⊢
    omega
  rw [Yk, e]
  show IntKind.u64.wrap (((BitVec.ofInt 64 ((x * 2 ^ k:Nat):Int) ||| BitVec.ofInt 64 (y:Int)).toNat:Nat):Int) = _
  rw [Vh, Vh, BitVec.toNat_or, BitVec.toNat_ofNat, BitVec.toNat_ofNat]
  rw [Nat.mod_eq_of_lt hx, Nat.mod_eq_of_lt (show y < 2 ^ 64 by omega)]
  have key : x * 2 ^ k ||| y = x * 2 ^ k + y := by
    rw [Nat.mul_comm]; exact (Nat.two_pow_add_eq_or_of_lt hy x).symm
  have hlt : x * 2 ^ k + y < 2 ^ 64 := by
    have : x * 2 ^ k ||| y < 2 ^ 64 := Nat.or_lt_two_pow hx (by omega)
    omega
  rw [key, Kr, Int.emod_eq_of_lt (by omega) (by omega)]
  exact Int.natCast_add _ _
def sg (neg:Bool) (n:Int) : Int := cond neg (-n) n
theorem atx (n:Int) : sg true n = -n := rfl
theorem aty (n:Int) : sg false n = n := rfl
def VW (neg:Bool) (hi lo:Int) : Int := sg neg (hi * 18446744073709551616 + lo)
def vK (v:Int) : Int := if 9223372036854775807 < v then 9223372036854775807 else if v < -9223372036854775807 then -9223372036854775807 else v
def vM (v:Int) : Bool := decide (9223372036854775807 < v) || decide (v < -9223372036854775807)
theorem pV (v:Int) : -9223372036854775807 <= vK v /\ vK v <= 9223372036854775807 := by
  unfold vK
  split
  . omega
  . split <;> omega
theorem Pq {v : Int} (h : -9223372036854775807 <= v /\ v <= 9223372036854775807) : vK v = v := by unfold vK; rw [if_neg (by omega), if_neg (by omega)]
theorem Pv {v : Int} (h : -9223372036854775807 <= v /\ v <= 9223372036854775807) : vM v = false := by unfold vM; simp; omega
theorem acR {x y : Int} (hx : U64 x) (hy : U64 y) :
    au .u64 (au .u64 (aI .u64 (bF .u64 x 32) (bF .u64 y 32)) (bF .u64 (au .u64 (aI .u64 (bF .u64 x 32) (jK .u64 y 4294967295)) (bF .u64 (aI .u64 (jK .u64 x 4294967295) (jK .u64 y 4294967295)) 32)) 32)) (bF .u64 (au .u64 (jK .u64 (au .u64 (aI .u64 (bF .u64 x 32) (jK .u64 y 4294967295)) (bF .u64 (aI .u64 (jK .u64 x 4294967295) (jK .u64 y 4294967295)) 32)) 4294967295) (aI .u64 (jK .u64 x 4294967295) (bF .u64 y 32))) 32)
      = x * y / 18446744073709551616 := by
  obtain ⟨a, rfl⟩ := Int.eq_ofNat_of_zero_le hx.1
  obtain ⟨b, rfl⟩ := Int.eq_ofNat_of_zero_le hy.1
  have ha : a < 18446744073709551616 := by have := hx.2; omega
  have hb : b < 18446744073709551616 := by have := hy.2; omega
  obtain ⟨b1, b2, b3, b4⟩ := Lib.mul64_hi a b ha hb
  have h1 := Lib.half_mul_le (a := a / 4294967296) (b := b / 4294967296) (by omega) (by omega)
  have h2 := Lib.half_mul_le (a := a / 4294967296) (b := b % 4294967296) (by omega) (by omega)
  have h3 := Lib.half_mul_le (a := a % 4294967296) (b := b / 4294967296) (by omega) (by omega)
  have e1 : (a:Int) / 4294967296 = ((a / 4294967296:Nat):Int) := by omega
  have e2 : (b:Int) / 4294967296 = ((b / 4294967296:Nat):Int) := by omega
  have e3 : (a:Int) % 4294967296 = ((a % 4294967296:Nat):Int) := by omega
  have e4 : (b:Int) % 4294967296 = ((b % 4294967296:Nat):Int) := by omega
  rw [Ig hx, Ig hy]
  simp only [FQ, H9, Uw, e1, e2, e3, e4, <- Int.natCast_mul]
  generalize a / 4294967296 * (b / 4294967296) = p11 at *
  generalize a / 4294967296 * (b % 4294967296) = p10 at *
  generalize a % 4294967296 * (b / 4294967296) = p01 at *
  generalize a % 4294967296 * (b % 4294967296) = p00 at *
  rw [show ((p00:Int) % 18446744073709551616) = p00 from by omega, show ((p10:Int) % 18446744073709551616) = p10 from by omega, show ((p01:Int) % 18446744073709551616) = p01 from by omega, show ((p11:Int) % 18446744073709551616) = p11 from by omega]
  rw [show (((p10:Int) + p00 / 4294967296) % 18446744073709551616) = ((p10 + p00 / 4294967296:Nat):Int) from by omega]
  rw [Ig ⟨by omega, by omega⟩]
  generalize a * b = q at *
  omega
def BK (f:Nat -> Int) : Nat -> Int
  | 0 => 0
  | k + 1 => if k = 0 then f 0 else min (BK f k) (f k)
def BL (f:Nat -> Int) : Nat -> Int
  | 0 => 0
  | k + 1 => if k = 0 then f 0 else max (BL f k) (f k)
theorem Uz (f:Nat -> Int) {k : Nat} (h : k ≠ 0) : BK f (k + 1) = min (BK f k) (f k) := by rw [BK, if_neg h]
theorem UA (f:Nat -> Int) {k : Nat} (h : k ≠ 0) : BL f (k + 1) = max (BL f k) (f k) := by rw [BL, if_neg h]
theorem Qs {f g : Nat -> Int} : ∀ (n:Nat), (∀ k, k < n -> f k = g k) -> BK f n = BK g n
  | 0, _ => rfl
  | n + 1, h => by
    have := Qs n (fun k hk => h k (by omega))
    rw [BK, BK, this, h n (by omega)]
    split
    . exact h 0 (by omega)
    . rfl
theorem Qu {f g : Nat -> Int} : ∀ (n:Nat), (∀ k, k < n -> f k = g k) -> BL f n = BL g n
  | 0, _ => rfl
  | n + 1, h => by
    have := Qu n (fun k hk => h k (by omega))
    rw [BL, BL, this, h n (by omega)]
    split
    . exact h 0 (by omega)
    . rfl
end Go.Ag

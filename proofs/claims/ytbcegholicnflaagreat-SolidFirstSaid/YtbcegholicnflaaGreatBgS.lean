import Derived.Test.YtbcegholicnflaaGreatBgR
import Derived.IntWalk
set_option linter.unusedVariables false
namespace Go.Ag
open Go.RowKit
theorem dY {a b : Int} : (ilt a b = true) ↔ a < b := by rw [Ym]; simp
theorem Xy {a b : Int} : (ile a b = true) ↔ a <= b := by rw [Yn]; simp
theorem qY {a b : Int} : (igt a b = true) ↔ b < a := by rw [Yo]; simp
theorem mD {a b : Int} : (ige a b = true) ↔ b <= a := by rw [Yp]; simp
theorem kE {a b : Int} : (ieq a b = true) ↔ a = b := by rw [PN]; simp
theorem tY {a b : Int} : (ine a b = true) ↔ ¬ a = b := by rw [Yl]; simp
theorem fJ {a b : Int} : (ilt a b = false) ↔ b <= a := by rw [Ym]; simp
theorem Qh {a b : Int} : (ile a b = false) ↔ b < a := by rw [Yn]; simp
theorem nV {a b : Int} : (igt a b = false) ↔ a <= b := by rw [Yo]; simp
theorem pU {a b : Int} : (ige a b = false) ↔ a < b := by rw [Yp]; simp
theorem vI {a b : Int} : (ieq a b = false) ↔ ¬ a = b := by rw [PN]; simp
theorem tZ {a b : Int} : (ine a b = false) ↔ a = b := by rw [Yl]; simp
theorem Cb (a b:Int) : imax a b = max a b := by rw [aar]; simp only; split <;> omega
theorem ak3 (a b:Int) : Ia a b = min a b := by rw [aat]; simp only; split <;> omega
theorem fF {a b : Int} (h1 : -9223372036854775808 <= a + b) (h2 : a + b <= 9223372036854775807) : au .i64 a b = a + b := by rw [JH]; exact IntWalk.i64_in _ ⟨h1, h2⟩
theorem gI {a b : Int} (h1 : -9223372036854775808 <= a - b) (h2 : a - b <= 9223372036854775807) : bQ .i64 a b = a - b := by rw [O8]; exact IntWalk.i64_in _ ⟨h1, h2⟩
theorem kQ {a b : Int} (h1 : -9223372036854775808 <= a * b) (h2 : a * b <= 9223372036854775807) : aI .i64 a b = a * b := by rw [O9]; exact IntWalk.i64_in _ ⟨h1, h2⟩
theorem rF {a : Int} (h1 : -9223372036854775807 <= a) (h2 : a <= 9223372036854775807) : bM .i64 a = -a := by rw [Pj]; simp only; rw [IntWalk.i64_in] <;> omega
theorem Qi : bM .i64 (-9223372036854775808) = -9223372036854775808 := by rw [Pj]; decide
def I64 (x:Int) : Prop := -9223372036854775808 <= x /\ x <= 9223372036854775807
def dM (x y:Int) : Bool := decide (-2097152 <= x) && decide (x <= 2097152) && decide (-2097152 <= y) && decide (y <= 2097152)
theorem gJ {x y : Int} : dM x y = true ↔ (-2097152 <= x /\ x <= 2097152 /\ -2097152 <= y /\ y <= 2097152) := by unfold dM; simp [Bool.and_eq_true, and_assoc]
end Go.Ag

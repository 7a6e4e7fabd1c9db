import Derived.Test.YtbcegholicnflaaGreatBgR
import Derived.IntWalk
set_option linter.unusedVariables false
namespace Go.Ag
open Go.RowKit
theorem ilt_t {a b : Int} : (ilt a b = true) ↔ a < b := by rw [ilt_eq]; simp
theorem ile_t {a b : Int} : (ile a b = true) ↔ a <= b := by rw [ile_eq]; simp
theorem igt_t {a b : Int} : (igt a b = true) ↔ b < a := by rw [igt_eq]; simp
theorem ige_t {a b : Int} : (ige a b = true) ↔ b <= a := by rw [ige_eq]; simp
theorem ieq_t {a b : Int} : (ieq a b = true) ↔ a = b := by rw [ieq_eq]; simp
theorem ine_t {a b : Int} : (ine a b = true) ↔ ¬ a = b := by rw [ine_eq]; simp
theorem ilt_f {a b : Int} : (ilt a b = false) ↔ b <= a := by rw [ilt_eq]; simp
theorem ile_f {a b : Int} : (ile a b = false) ↔ b < a := by rw [ile_eq]; simp
theorem igt_f {a b : Int} : (igt a b = false) ↔ a <= b := by rw [igt_eq]; simp
theorem ige_f {a b : Int} : (ige a b = false) ↔ a < b := by rw [ige_eq]; simp
theorem ieq_f {a b : Int} : (ieq a b = false) ↔ ¬ a = b := by rw [ieq_eq]; simp
theorem ine_f {a b : Int} : (ine a b = false) ↔ a = b := by rw [ine_eq]; simp
theorem imax_m (a b : Int) : imax a b = max a b := by rw [imax_eq]; simp only; split <;> omega
theorem imin_m (a b : Int) : imin a b = min a b := by rw [imin_eq]; simp only; split <;> omega
theorem iadd64 {a b : Int} (h1 : -9223372036854775808 <= a + b) (h2 : a + b <= 9223372036854775807) : iadd .i64 a b = a + b := by rw [iadd_eq]; exact IntWalk.i64_in _ ⟨h1, h2⟩
theorem isub64 {a b : Int} (h1 : -9223372036854775808 <= a - b) (h2 : a - b <= 9223372036854775807) : isub .i64 a b = a - b := by rw [isub_eq]; exact IntWalk.i64_in _ ⟨h1, h2⟩
theorem imul64 {a b : Int} (h1 : -9223372036854775808 <= a * b) (h2 : a * b <= 9223372036854775807) : imul .i64 a b = a * b := by rw [imul_eq]; exact IntWalk.i64_in _ ⟨h1, h2⟩
theorem ineg64 {a : Int} (h1 : -9223372036854775807 <= a) (h2 : a <= 9223372036854775807) : ineg .i64 a = -a := by rw [ineg_eq]; simp only; rw [IntWalk.i64_in] <;> omega
theorem ineg64_min : ineg .i64 (-9223372036854775808) = -9223372036854775808 := by rw [ineg_eq]; decide
def I64 (x : Int) : Prop := -9223372036854775808 <= x /\ x <= 9223372036854775807
def spotOK (x y : Int) : Bool := decide (-2097152 <= x) && decide (x <= 2097152) && decide (-2097152 <= y) && decide (y <= 2097152)
theorem spotOK_iff {x y : Int} : spotOK x y = true ↔ (-2097152 <= x /\ x <= 2097152 /\ -2097152 <= y /\ y <= 2097152) := by unfold spotOK; simp [Bool.and_eq_true, and_assoc]
end Go.Ag

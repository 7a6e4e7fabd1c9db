import Derived.Test.YtbcegholicnflaaBgT
import Derived.Test.YtbcegholicnflaaProg
set_option linter.unusedVariables false
set_option maxRecDepth 100000
namespace Go.Proofs.Ytbcegholicnflaa
open Go.RowKit Go.Ag
def tyL : List (Nat × TI) := [
  (2, ⟨.int .i64, 1, 8, .int .i64 0⟩),
  (3, ⟨.int .i64, 1, 8, .int .i64 0⟩),
  (4, ⟨.bool, 1, 1, .bool false⟩),
  (5, ⟨.int .u8, 1, 1, .int .u8 0⟩),
  (6, ⟨.int .u8, 1, 1, .int .u8 0⟩),
  (7, ⟨.struct #[{ name := "x", type := 2, offset := 0, embedded := false, tag := "", pkgPath := "runtime", byteOffset := 0 }, { name := "y", type := 3, offset := 1, embedded := false, tag := "", pkgPath := "runtime", byteOffset := 8 }, { name := "signed", type := 4, offset := 2, embedded := false, tag := "", pkgPath := "runtime", byteOffset := 16 }, { name := "code", type := 6, offset := 3, embedded := false, tag := "", pkgPath := "runtime", byteOffset := 17 }], 4, 24, .agg [.int .i64 0, .int .i64 0, .bool false, .int .u8 0]⟩),
  (8, ⟨.struct #[{ name := "x", type := 2, offset := 0, embedded := false, tag := "", pkgPath := "runtime", byteOffset := 0 }, { name := "y", type := 3, offset := 1, embedded := false, tag := "", pkgPath := "runtime", byteOffset := 8 }, { name := "signed", type := 4, offset := 2, embedded := false, tag := "", pkgPath := "runtime", byteOffset := 16 }, { name := "code", type := 6, offset := 3, embedded := false, tag := "", pkgPath := "runtime", byteOffset := 17 }], 4, 24, .agg [.int .i64 0, .int .i64 0, .bool false, .int .u8 0]⟩),
  (12, ⟨.int .u64, 1, 8, .int .u64 0⟩),
  (15, ⟨.pointer 151, 1, 8, .nilp⟩),
  (16, ⟨.pointer 154, 1, 8, .nilp⟩),
  (17, ⟨.pointer 164, 1, 8, .nilp⟩),
  (18, ⟨.struct #[{ name := "typ", type := 17, offset := 0, embedded := false, tag := "", pkgPath := "internal/runtime/maps", byteOffset := 0 }], 1, 8, .agg [.nilp]⟩),
  (19, ⟨.struct #[{ name := "typ", type := 17, offset := 0, embedded := false, tag := "", pkgPath := "internal/runtime/maps", byteOffset := 0 }], 1, 8, .agg [.nilp]⟩),
  (20, ⟨.interface #[], 1, 16, .nili⟩),
  (21, ⟨.int .i32, 1, 4, .int .i32 0⟩),
  (22, ⟨.struct #[{ name := "X0", type := 2, offset := 0, embedded := false, tag := "", pkgPath := "", byteOffset := 0 }, { name := "Y0", type := 2, offset := 1, embedded := false, tag := "", pkgPath := "", byteOffset := 8 }, { name := "X1", type := 2, offset := 2, embedded := false, tag := "", pkgPath := "", byteOffset := 16 }, { name := "Y1", type := 2, offset := 3, embedded := false, tag := "", pkgPath := "", byteOffset := 24 }], 4, 32, .agg [.int .i64 0, .int .i64 0, .int .i64 0, .int .i64 0]⟩),
  (23, ⟨.struct #[{ name := "X0", type := 2, offset := 0, embedded := false, tag := "", pkgPath := "", byteOffset := 0 }, { name := "Y0", type := 2, offset := 1, embedded := false, tag := "", pkgPath := "", byteOffset := 8 }, { name := "X1", type := 2, offset := 2, embedded := false, tag := "", pkgPath := "", byteOffset := 16 }, { name := "Y1", type := 2, offset := 3, embedded := false, tag := "", pkgPath := "", byteOffset := 24 }], 4, 32, .agg [.int .i64 0, .int .i64 0, .int .i64 0, .int .i64 0]⟩),
  (24, ⟨.struct #[{ name := "X", type := 2, offset := 0, embedded := false, tag := "", pkgPath := "", byteOffset := 0 }, { name := "Y", type := 2, offset := 1, embedded := false, tag := "", pkgPath := "", byteOffset := 8 }], 2, 16, .agg [.int .i64 0, .int .i64 0]⟩),
  (25, ⟨.struct #[{ name := "X", type := 2, offset := 0, embedded := false, tag := "", pkgPath := "", byteOffset := 0 }, { name := "Y", type := 2, offset := 1, embedded := false, tag := "", pkgPath := "", byteOffset := 8 }], 2, 16, .agg [.int .i64 0, .int .i64 0]⟩),
  (26, ⟨.slice 23, 1, 24, .nils⟩),
  (28, ⟨.int .i64, 1, 8, .int .i64 0⟩),
  (35, ⟨.array 4 2, 4, 32, .agg [.int .i64 0, .int .i64 0, .int .i64 0, .int .i64 0]⟩),
  (39, ⟨.slice 25, 1, 24, .nils⟩),
  (45, ⟨.struct #[{ name := "Kind", type := 3, offset := 0, embedded := false, tag := "", pkgPath := "", byteOffset := 0 }, { name := "C", type := 25, offset := 1, embedded := false, tag := "", pkgPath := "", byteOffset := 8 }, { name := "R", type := 2, offset := 3, embedded := false, tag := "", pkgPath := "", byteOffset := 24 }, { name := "Pts", type := 39, offset := 4, embedded := false, tag := "", pkgPath := "", byteOffset := 32 }], 5, 56, .agg [.int .i64 0, .int .i64 0, .int .i64 0, .int .i64 0, .nils]⟩),
  (46, ⟨.struct #[{ name := "Kind", type := 3, offset := 0, embedded := false, tag := "", pkgPath := "", byteOffset := 0 }, { name := "C", type := 25, offset := 1, embedded := false, tag := "", pkgPath := "", byteOffset := 8 }, { name := "R", type := 2, offset := 3, embedded := false, tag := "", pkgPath := "", byteOffset := 24 }, { name := "Pts", type := 39, offset := 4, embedded := false, tag := "", pkgPath := "", byteOffset := 32 }], 5, 56, .agg [.int .i64 0, .int .i64 0, .int .i64 0, .int .i64 0, .nils]⟩),
  (52, ⟨.struct #[{ name := "Kind", type := 3, offset := 0, embedded := false, tag := "", pkgPath := "", byteOffset := 0 }, { name := "A", type := 3, offset := 1, embedded := false, tag := "", pkgPath := "", byteOffset := 8 }, { name := "B", type := 3, offset := 2, embedded := false, tag := "", pkgPath := "", byteOffset := 16 }, { name := "X", type := 2, offset := 3, embedded := false, tag := "", pkgPath := "", byteOffset := 24 }, { name := "Y", type := 2, offset := 4, embedded := false, tag := "", pkgPath := "", byteOffset := 32 }, { name := "W", type := 2, offset := 5, embedded := false, tag := "", pkgPath := "", byteOffset := 40 }], 6, 48, .agg [.int .i64 0, .int .i64 0, .int .i64 0, .int .i64 0, .int .i64 0, .int .i64 0]⟩),
  (53, ⟨.struct #[{ name := "Kind", type := 3, offset := 0, embedded := false, tag := "", pkgPath := "", byteOffset := 0 }, { name := "A", type := 3, offset := 1, embedded := false, tag := "", pkgPath := "", byteOffset := 8 }, { name := "B", type := 3, offset := 2, embedded := false, tag := "", pkgPath := "", byteOffset := 16 }, { name := "X", type := 2, offset := 3, embedded := false, tag := "", pkgPath := "", byteOffset := 24 }, { name := "Y", type := 2, offset := 4, embedded := false, tag := "", pkgPath := "", byteOffset := 32 }, { name := "W", type := 2, offset := 5, embedded := false, tag := "", pkgPath := "", byteOffset := 40 }], 6, 48, .agg [.int .i64 0, .int .i64 0, .int .i64 0, .int .i64 0, .int .i64 0, .int .i64 0]⟩),
  (65, ⟨.struct #[{ name := "pts", type := 39, offset := 0, embedded := false, tag := "", pkgPath := "bagatelle/solid", byteOffset := 0 }], 1, 24, .agg [.nils]⟩),
  (66, ⟨.struct #[{ name := "pts", type := 39, offset := 0, embedded := false, tag := "", pkgPath := "bagatelle/solid", byteOffset := 0 }], 1, 24, .agg [.nils]⟩),
  (68, ⟨.interface #[("bagatelle/solid.box", 72), ("bagatelle/solid.has", 58), ("bagatelle/solid.meets", 165)], 1, 16, .nili⟩),
  (69, ⟨.interface #[("bagatelle/solid.box", 72), ("bagatelle/solid.has", 58), ("bagatelle/solid.meets", 165)], 1, 16, .nili⟩),
  (75, ⟨.struct #[{ name := "Kind", type := 3, offset := 0, embedded := false, tag := "", pkgPath := "", byteOffset := 0 }, { name := "R", type := 2, offset := 1, embedded := false, tag := "", pkgPath := "", byteOffset := 8 }, { name := "W", type := 2, offset := 2, embedded := false, tag := "", pkgPath := "", byteOffset := 16 }, { name := "H", type := 2, offset := 3, embedded := false, tag := "", pkgPath := "", byteOffset := 24 }, { name := "Pts", type := 39, offset := 4, embedded := false, tag := "", pkgPath := "", byteOffset := 32 }], 5, 56, .agg [.int .i64 0, .int .i64 0, .int .i64 0, .int .i64 0, .nils]⟩),
  (76, ⟨.struct #[{ name := "Kind", type := 3, offset := 0, embedded := false, tag := "", pkgPath := "", byteOffset := 0 }, { name := "R", type := 2, offset := 1, embedded := false, tag := "", pkgPath := "", byteOffset := 8 }, { name := "W", type := 2, offset := 2, embedded := false, tag := "", pkgPath := "", byteOffset := 16 }, { name := "H", type := 2, offset := 3, embedded := false, tag := "", pkgPath := "", byteOffset := 24 }, { name := "Pts", type := 39, offset := 4, embedded := false, tag := "", pkgPath := "", byteOffset := 32 }], 5, 56, .agg [.int .i64 0, .int .i64 0, .int .i64 0, .int .i64 0, .nils]⟩),
  (78, ⟨.struct #[{ name := "V", type := 2, offset := 0, embedded := false, tag := "", pkgPath := "", byteOffset := 0 }, { name := "F", type := 4, offset := 1, embedded := false, tag := "", pkgPath := "", byteOffset := 8 }], 2, 16, .agg [.int .i64 0, .bool false]⟩),
  (79, ⟨.struct #[{ name := "V", type := 2, offset := 0, embedded := false, tag := "", pkgPath := "", byteOffset := 0 }, { name := "F", type := 4, offset := 1, embedded := false, tag := "", pkgPath := "", byteOffset := 8 }], 2, 16, .agg [.int .i64 0, .bool false]⟩),
  (80, ⟨.struct #[{ name := "X", type := 79, offset := 0, embedded := false, tag := "", pkgPath := "", byteOffset := 0 }, { name := "Y", type := 79, offset := 2, embedded := false, tag := "", pkgPath := "", byteOffset := 16 }], 4, 32, .agg [.int .i64 0, .bool false, .int .i64 0, .bool false]⟩),
  (81, ⟨.struct #[{ name := "X", type := 79, offset := 0, embedded := false, tag := "", pkgPath := "", byteOffset := 0 }, { name := "Y", type := 79, offset := 2, embedded := false, tag := "", pkgPath := "", byteOffset := 16 }], 4, 32, .agg [.int .i64 0, .bool false, .int .i64 0, .bool false]⟩),
  (82, ⟨.struct #[{ name := "C", type := 79, offset := 0, embedded := false, tag := "", pkgPath := "", byteOffset := 0 }, { name := "S", type := 79, offset := 2, embedded := false, tag := "", pkgPath := "", byteOffset := 16 }], 4, 32, .agg [.int .i64 0, .bool false, .int .i64 0, .bool false]⟩),
  (83, ⟨.struct #[{ name := "C", type := 79, offset := 0, embedded := false, tag := "", pkgPath := "", byteOffset := 0 }, { name := "S", type := 79, offset := 2, embedded := false, tag := "", pkgPath := "", byteOffset := 16 }], 4, 32, .agg [.int .i64 0, .bool false, .int .i64 0, .bool false]⟩),
  (84, ⟨.struct #[{ name := "At", type := 81, offset := 0, embedded := false, tag := "", pkgPath := "", byteOffset := 0 }, { name := "Rot", type := 83, offset := 4, embedded := false, tag := "", pkgPath := "", byteOffset := 32 }], 8, 64, .agg [.int .i64 0, .bool false, .int .i64 0, .bool false, .int .i64 0, .bool false, .int .i64 0, .bool false]⟩),
  (85, ⟨.struct #[{ name := "At", type := 81, offset := 0, embedded := false, tag := "", pkgPath := "", byteOffset := 0 }, { name := "Rot", type := 83, offset := 4, embedded := false, tag := "", pkgPath := "", byteOffset := 32 }], 8, 64, .agg [.int .i64 0, .bool false, .int .i64 0, .bool false, .int .i64 0, .bool false, .int .i64 0, .bool false]⟩),
  (91, ⟨.struct #[{ name := "c", type := 25, offset := 0, embedded := false, tag := "", pkgPath := "bagatelle/solid", byteOffset := 0 }, { name := "r", type := 2, offset := 2, embedded := false, tag := "", pkgPath := "bagatelle/solid", byteOffset := 16 }], 3, 24, .agg [.int .i64 0, .int .i64 0, .int .i64 0]⟩),
  (92, ⟨.struct #[{ name := "c", type := 25, offset := 0, embedded := false, tag := "", pkgPath := "bagatelle/solid", byteOffset := 0 }, { name := "r", type := 2, offset := 2, embedded := false, tag := "", pkgPath := "bagatelle/solid", byteOffset := 16 }], 3, 24, .agg [.int .i64 0, .int .i64 0, .int .i64 0]⟩),
  (113, ⟨.int .u64, 1, 8, .int .u64 0⟩),
  (119, ⟨.int .u64, 1, 8, .int .u64 0⟩),
  (120, ⟨.struct #[{ name := "neg", type := 4, offset := 0, embedded := false, tag := "", pkgPath := "bagatelle/bagatelleref01", byteOffset := 0 }, { name := "hi", type := 119, offset := 1, embedded := false, tag := "", pkgPath := "bagatelle/bagatelleref01", byteOffset := 8 }, { name := "lo", type := 119, offset := 2, embedded := false, tag := "", pkgPath := "bagatelle/bagatelleref01", byteOffset := 16 }], 3, 24, .agg [.bool false, .int .u64 0, .int .u64 0]⟩),
  (121, ⟨.struct #[{ name := "neg", type := 4, offset := 0, embedded := false, tag := "", pkgPath := "bagatelle/bagatelleref01", byteOffset := 0 }, { name := "hi", type := 119, offset := 1, embedded := false, tag := "", pkgPath := "bagatelle/bagatelleref01", byteOffset := 8 }, { name := "lo", type := 119, offset := 2, embedded := false, tag := "", pkgPath := "bagatelle/bagatelleref01", byteOffset := 16 }], 3, 24, .agg [.bool false, .int .u64 0, .int .u64 0]⟩),
  (127, ⟨.slice 81, 1, 24, .nils⟩),
  (128, ⟨.slice 79, 1, 24, .nils⟩),
  (132, ⟨.array 2 119, 2, 16, .agg [.int .u64 0, .int .u64 0]⟩),
  (133, ⟨.array 2 119, 2, 16, .agg [.int .u64 0, .int .u64 0]⟩),
  (134, ⟨.struct #[{ name := "neg", type := 4, offset := 0, embedded := false, tag := "", pkgPath := "bagatelle/fixed", byteOffset := 0 }, { name := "w", type := 133, offset := 1, embedded := false, tag := "", pkgPath := "bagatelle/fixed", byteOffset := 8 }], 3, 24, .agg [.bool false, .int .u64 0, .int .u64 0]⟩),
  (135, ⟨.struct #[{ name := "neg", type := 4, offset := 0, embedded := false, tag := "", pkgPath := "bagatelle/fixed", byteOffset := 0 }, { name := "w", type := 133, offset := 1, embedded := false, tag := "", pkgPath := "bagatelle/fixed", byteOffset := 8 }], 3, 24, .agg [.bool false, .int .u64 0, .int .u64 0]⟩),
  (147, ⟨.slice 3, 1, 24, .nils⟩),
  (152, ⟨.array 0 16, 0, 0, .agg []⟩),
  (153, ⟨.struct #[{ name := "_", type := 152, offset := 0, embedded := false, tag := "", pkgPath := "runtime", byteOffset := 0 }], 0, 0, .agg []⟩),
  (154, ⟨.struct #[{ name := "_", type := 152, offset := 0, embedded := false, tag := "", pkgPath := "runtime", byteOffset := 0 }], 0, 0, .agg []⟩),
  (156, ⟨.int .u32, 1, 4, .int .u32 0⟩),
  (157, ⟨.int .u8, 1, 1, .int .u8 0⟩),
  (158, ⟨.int .u8, 1, 1, .int .u8 0⟩),
  (160, ⟨.pointer 5, 1, 8, .nilp⟩),
  (161, ⟨.int .i32, 1, 4, .int .i32 0⟩),
  (162, ⟨.int .i32, 1, 4, .int .i32 0⟩),
  (168, ⟨.unsafePointer, 1, 8, .nilp⟩),
  (169, ⟨.struct #[{ name := "Is", type := 4, offset := 0, embedded := false, tag := "", pkgPath := "", byteOffset := 0 }, { name := "T", type := 79, offset := 1, embedded := false, tag := "", pkgPath := "", byteOffset := 8 }, { name := "N", type := 81, offset := 3, embedded := false, tag := "", pkgPath := "", byteOffset := 24 }], 7, 56, .agg [.bool false, .int .i64 0, .bool false, .int .i64 0, .bool false, .int .i64 0, .bool false]⟩),
  (170, ⟨.struct #[{ name := "Is", type := 4, offset := 0, embedded := false, tag := "", pkgPath := "", byteOffset := 0 }, { name := "T", type := 79, offset := 1, embedded := false, tag := "", pkgPath := "", byteOffset := 8 }, { name := "N", type := 81, offset := 3, embedded := false, tag := "", pkgPath := "", byteOffset := 24 }], 7, 56, .agg [.bool false, .int .i64 0, .bool false, .int .i64 0, .bool false, .int .i64 0, .bool false]⟩)
]
theorem eqT23 (w : World) (l l' : List Value) (r : Bool) (h : ShapeL [.I .i64, .I .i64, .I .i64, .I .i64] l l' r) : (Op.equal 23 (.agg l.toArray) (.agg l'.toArray)).run Try.prog w = .ok r w := by
  simp only [ShapeL] at h
  obtain ⟨a0, b0, _, _, _, rfl, rfl, rfl, a1, b1, _, _, _, rfl, rfl, rfl, a2, b2, _, _, _, rfl, rfl, rfl, a3, b3, rfl, rfl, rfl⟩ := h
  have h1 : Try.prog.underlying 23 = some (.struct (Try.prog.fieldsOf 23)) := by kernel_rfl
  have h2 : Try.prog.stoodInHeld 23 = false := by kernel_rfl
  have h3 : (Try.prog.fieldsOf 23).toList = [{ name := "X0", type := 2, offset := 0, embedded := false, tag := "", pkgPath := "", byteOffset := 0 }, { name := "Y0", type := 2, offset := 1, embedded := false, tag := "", pkgPath := "", byteOffset := 8 }, { name := "X1", type := 2, offset := 2, embedded := false, tag := "", pkgPath := "", byteOffset := 16 }, { name := "Y1", type := 2, offset := 3, embedded := false, tag := "", pkgPath := "", byteOffset := 24 }] := by kernel_rfl
  have u2 : Try.prog.underlying 2 = some (.int .i64) := by kernel_rfl
  simp only [Op.equal, Op.maxDepth]
  rw [run_equalIn_agg w 9999 23 _ _ h1 h2, h3]
  simp [Op.eqFields, part, isAggD, Sem.run_bind, Result.andThen, run_isAgg u2, run_equalIn_int w _ 2 .i64 .i64 _ _ u2]
  repeat' split
  all_goals simp_all
theorem eqT25 (w : World) (l l' : List Value) (r : Bool) (h : ShapeL [.I .i64, .I .i64] l l' r) : (Op.equal 25 (.agg l.toArray) (.agg l'.toArray)).run Try.prog w = .ok r w := by
  simp only [ShapeL] at h
  obtain ⟨a0, b0, _, _, _, rfl, rfl, rfl, a1, b1, rfl, rfl, rfl⟩ := h
  have h1 : Try.prog.underlying 25 = some (.struct (Try.prog.fieldsOf 25)) := by kernel_rfl
  have h2 : Try.prog.stoodInHeld 25 = false := by kernel_rfl
  have h3 : (Try.prog.fieldsOf 25).toList = [{ name := "X", type := 2, offset := 0, embedded := false, tag := "", pkgPath := "", byteOffset := 0 }, { name := "Y", type := 2, offset := 1, embedded := false, tag := "", pkgPath := "", byteOffset := 8 }] := by kernel_rfl
  have u2 : Try.prog.underlying 2 = some (.int .i64) := by kernel_rfl
  simp only [Op.equal, Op.maxDepth]
  rw [run_equalIn_agg w 9999 25 _ _ h1 h2, h3]
  simp [Op.eqFields, part, isAggD, Sem.run_bind, Result.andThen, run_isAgg u2, run_equalIn_int w _ 2 .i64 .i64 _ _ u2]
  repeat' split
  all_goals simp_all
def plL : List (Nat × List Kd) := [(4, [.B]), (23, [.I .i64, .I .i64, .I .i64, .I .i64]), (25, [.I .i64, .I .i64])]
theorem meth0 (v : Value) (w : World) : (method (Try.prog.types.size + Made.depth) 66 v "bagatelle/solid.box").run Try.prog w = .ok (137, v) w := by kernel_rfl
theorem meth1 (v : Value) (w : World) : (method (Try.prog.types.size + Made.depth) 66 v "bagatelle/solid.has").run Try.prog w = .ok (70, v) w := by kernel_rfl
theorem meth2 (v : Value) (w : World) : (method (Try.prog.types.size + Made.depth) 66 v "bagatelle/solid.meets").run Try.prog w = .ok (144, v) w := by kernel_rfl
theorem meth3 (v : Value) (w : World) : (method (Try.prog.types.size + Made.depth) 92 v "bagatelle/solid.box").run Try.prog w = .ok (138, v) w := by kernel_rfl
theorem meth4 (v : Value) (w : World) : (method (Try.prog.types.size + Made.depth) 92 v "bagatelle/solid.has").run Try.prog w = .ok (139, v) w := by kernel_rfl
theorem meth5 (v : Value) (w : World) : (method (Try.prog.types.size + Made.depth) 92 v "bagatelle/solid.meets").run Try.prog w = .ok (140, v) w := by kernel_rfl
def mtL : List (Nat × String × Nat) := [(66, "bagatelle/solid.box", 137), (66, "bagatelle/solid.has", 70), (66, "bagatelle/solid.meets", 144), (92, "bagatelle/solid.box", 138), (92, "bagatelle/solid.has", 139), (92, "bagatelle/solid.meets", 140)]
def tab : Tab := ⟨lookN tyL, lookM mtL, lookN plL⟩
theorem tys_ok : TysOK Try.prog tyL := by
  unfold tyL
  simp only [TysOK]
  refine ⟨?_, ?_, ?_, ?_, ?_, ?_, ?_, ?_, ?_, ?_, ?_, ?_, ?_, ?_, ?_, ?_, ?_, ?_, ?_, ?_, ?_, ?_, ?_, ?_, ?_, ?_, ?_, ?_, ?_, ?_, ?_, ?_, ?_, ?_, ?_, ?_, ?_, ?_, ?_, ?_, ?_, ?_, ?_, ?_, ?_, ?_, ?_, ?_, ?_, ?_, ?_, ?_, ?_, ?_, ?_, ?_, ?_, ?_, ?_, ?_, ?_, ?_, ?_, ?_, ?_, ?_, trivial⟩ <;> exact TyOK.of' (by kernel_rfl) (by kernel_rfl) (by kernel_rfl) (by kernel_rfl) (by kernel_rfl) (by kernel_rfl) (by kernel_rfl) (by kernel_rfl)
theorem tab_ok : TabOK Try.prog tab where
  ty := fun t i h => tys_ok.get t i (lookN_mem h)
  meth := fun t n f h v w => by
    have h := lookM_mem (show lookM mtL t n = some f from h)
    simp only [mtL, List.mem_cons, Prod.mk.injEq, List.not_mem_nil, or_false] at h
    rcases h with ⟨rfl, rfl, rfl⟩ | ⟨rfl, rfl, rfl⟩ | ⟨rfl, rfl, rfl⟩ | ⟨rfl, rfl, rfl⟩ | ⟨rfl, rfl, rfl⟩ | ⟨rfl, rfl, rfl⟩
    · exact meth0 v w
    · exact meth1 v w
    · exact meth2 v w
    · exact meth3 v w
    · exact meth4 v w
    · exact meth5 v w
  plainB := fun t h a b w => by
    have h := lookN_mem (show lookN plL t = _ from h)
    simp only [plL, List.mem_cons, Prod.mk.injEq, List.not_mem_nil, or_false] at h
    rcases h with ⟨rfl, h⟩ | ⟨rfl, h⟩ | ⟨rfl, h⟩
    · have u : Try.prog.underlying 4 = some .bool := by kernel_rfl
      simp only [Op.equal, Op.maxDepth]
      exact run_equalIn_bool w _ 4 a b u
    · cases h
    · cases h
  plainA := fun t k1 k2 s h xs ys r l l' E w hs hl hl' => by
    have h := lookN_mem (show lookN plL t = _ from h)
    simp only [plL, List.mem_cons, Prod.mk.injEq, List.not_mem_nil, or_false] at h
    have hsh := shape_of hs hl hl'
    rcases h with ⟨rfl, e⟩ | ⟨rfl, e⟩ | ⟨rfl, e⟩
    · cases e
    · rw [e] at hsh; exact eqT23 w l l' r hsh
    · rw [e] at hsh; exact eqT25 w l l' r hsh
  plainG := fun t s h => by
    have h := lookN_mem (show lookN plL t = _ from h)
    simp only [plL, List.mem_cons, Prod.mk.injEq, List.not_mem_nil, or_false] at h
    rcases h with ⟨rfl, rfl⟩ | ⟨rfl, rfl⟩ | ⟨rfl, rfl⟩
    · exact (by decide +kernel : Try.prog.eqGuardType Try.prog.depth 4 = false)
    · exact (by decide +kernel : Try.prog.eqGuardType Try.prog.depth 23 = false)
    · exact (by decide +kernel : Try.prog.eqGuardType Try.prog.depth 25 = false)
  mixed := by kernel_rfl
noncomputable def bodyOf (f : Func) : Code := match f.body with | some c => c | none => .skip
end Go.Proofs.Ytbcegholicnflaa

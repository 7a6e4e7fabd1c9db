import Derived.Test.YtbcegholicnflaaGreatBgT
import Derived.ChangeKeysEq
import Derived.Test.YtbcegholicnflaaGreatProg
set_option linter.unusedVariables false
set_option maxRecDepth 100000
namespace Go.Proofs.YtbcegholicnflaaGreat
open Go.RowKit Go.Ag
def tyL : List (Nat × TI) := [
  (2, ⟨.int .i64, 1, 8, .int .i64 0⟩),
  (3, ⟨.int .i64, 1, 8, .int .i64 0⟩),
  (4, ⟨.bool, 1, 1, .bool false⟩),
  (5, ⟨.int .u8, 1, 1, .int .u8 0⟩),
  (6, ⟨.int .u8, 1, 1, .int .u8 0⟩),
  (7, ⟨.struct #[{ name := "x", type := 2, offset := 0, embedded := false, tag := "", pkgPath := "runtime", byteOffset := 0 }, { name := "y", type := 3, offset := 1, embedded := false, tag := "", pkgPath := "runtime", byteOffset := 8 }, { name := "signed", type := 4, offset := 2, embedded := false, tag := "", pkgPath := "runtime", byteOffset := 16 }, { name := "code", type := 6, offset := 3, embedded := false, tag := "", pkgPath := "runtime", byteOffset := 17 }], 4, 24, .agg [.int .i64 0, .int .i64 0, .bool false, .int .u8 0]⟩),
  (8, ⟨.struct #[{ name := "x", type := 2, offset := 0, embedded := false, tag := "", pkgPath := "runtime", byteOffset := 0 }, { name := "y", type := 3, offset := 1, embedded := false, tag := "", pkgPath := "runtime", byteOffset := 8 }, { name := "signed", type := 4, offset := 2, embedded := false, tag := "", pkgPath := "runtime", byteOffset := 16 }, { name := "code", type := 6, offset := 3, embedded := false, tag := "", pkgPath := "runtime", byteOffset := 17 }], 4, 24, .agg [.int .i64 0, .int .i64 0, .bool false, .int .u8 0]⟩),
  (12, ⟨.int .u64, 1, 8, .int .u64 0⟩),
  (15, ⟨.pointer 319, 1, 8, .nilp⟩),
  (16, ⟨.pointer 322, 1, 8, .nilp⟩),
  (17, ⟨.pointer 330, 1, 8, .nilp⟩),
  (18, ⟨.struct #[{ name := "typ", type := 17, offset := 0, embedded := false, tag := "", pkgPath := "internal/runtime/maps", byteOffset := 0 }], 1, 8, .agg [.nilp]⟩),
  (19, ⟨.struct #[{ name := "typ", type := 17, offset := 0, embedded := false, tag := "", pkgPath := "internal/runtime/maps", byteOffset := 0 }], 1, 8, .agg [.nilp]⟩),
  (20, ⟨.interface #[], 1, 16, .nili⟩),
  (21, ⟨.int .i32, 1, 4, .int .i32 0⟩),
  (22, ⟨.slice 38, 1, 24, .nils⟩),
  (23, ⟨.slice 3, 1, 24, .nils⟩),
  (24, ⟨.pointer 122, 1, 8, .nilp⟩),
  (26, ⟨.pointer 127, 1, 8, .nilp⟩),
  (27, ⟨.int .i64, 1, 8, .int .i64 0⟩),
  (30, ⟨.slice 35, 1, 24, .nils⟩),
  (31, ⟨.struct #[{ name := "X", type := 2, offset := 0, embedded := false, tag := "", pkgPath := "", byteOffset := 0 }, { name := "Y", type := 2, offset := 1, embedded := false, tag := "", pkgPath := "", byteOffset := 8 }], 2, 16, .agg [.int .i64 0, .int .i64 0]⟩),
  (32, ⟨.struct #[{ name := "X", type := 2, offset := 0, embedded := false, tag := "", pkgPath := "", byteOffset := 0 }, { name := "Y", type := 2, offset := 1, embedded := false, tag := "", pkgPath := "", byteOffset := 8 }], 2, 16, .agg [.int .i64 0, .int .i64 0]⟩),
  (33, ⟨.slice 32, 1, 24, .nils⟩),
  (34, ⟨.struct #[{ name := "Kind", type := 3, offset := 0, embedded := false, tag := "", pkgPath := "", byteOffset := 0 }, { name := "C", type := 32, offset := 1, embedded := false, tag := "", pkgPath := "", byteOffset := 8 }, { name := "R", type := 2, offset := 3, embedded := false, tag := "", pkgPath := "", byteOffset := 24 }, { name := "Pts", type := 33, offset := 4, embedded := false, tag := "", pkgPath := "", byteOffset := 32 }], 5, 56, .agg [.int .i64 0, .int .i64 0, .int .i64 0, .int .i64 0, .nils]⟩),
  (35, ⟨.struct #[{ name := "Kind", type := 3, offset := 0, embedded := false, tag := "", pkgPath := "", byteOffset := 0 }, { name := "C", type := 32, offset := 1, embedded := false, tag := "", pkgPath := "", byteOffset := 8 }, { name := "R", type := 2, offset := 3, embedded := false, tag := "", pkgPath := "", byteOffset := 24 }, { name := "Pts", type := 33, offset := 4, embedded := false, tag := "", pkgPath := "", byteOffset := 32 }], 5, 56, .agg [.int .i64 0, .int .i64 0, .int .i64 0, .int .i64 0, .nils]⟩),
  (37, ⟨.struct #[{ name := "Kind", type := 3, offset := 0, embedded := false, tag := "", pkgPath := "", byteOffset := 0 }, { name := "A", type := 3, offset := 1, embedded := false, tag := "", pkgPath := "", byteOffset := 8 }, { name := "B", type := 3, offset := 2, embedded := false, tag := "", pkgPath := "", byteOffset := 16 }, { name := "X", type := 2, offset := 3, embedded := false, tag := "", pkgPath := "", byteOffset := 24 }, { name := "Y", type := 2, offset := 4, embedded := false, tag := "", pkgPath := "", byteOffset := 32 }, { name := "W", type := 2, offset := 5, embedded := false, tag := "", pkgPath := "", byteOffset := 40 }], 6, 48, .agg [.int .i64 0, .int .i64 0, .int .i64 0, .int .i64 0, .int .i64 0, .int .i64 0]⟩),
  (38, ⟨.struct #[{ name := "Kind", type := 3, offset := 0, embedded := false, tag := "", pkgPath := "", byteOffset := 0 }, { name := "A", type := 3, offset := 1, embedded := false, tag := "", pkgPath := "", byteOffset := 8 }, { name := "B", type := 3, offset := 2, embedded := false, tag := "", pkgPath := "", byteOffset := 16 }, { name := "X", type := 2, offset := 3, embedded := false, tag := "", pkgPath := "", byteOffset := 24 }, { name := "Y", type := 2, offset := 4, embedded := false, tag := "", pkgPath := "", byteOffset := 32 }, { name := "W", type := 2, offset := 5, embedded := false, tag := "", pkgPath := "", byteOffset := 40 }], 6, 48, .agg [.int .i64 0, .int .i64 0, .int .i64 0, .int .i64 0, .int .i64 0, .int .i64 0]⟩),
  (39, ⟨.struct #[{ name := "Slot", type := 3, offset := 0, embedded := false, tag := "", pkgPath := "", byteOffset := 0 }, { name := "Gen", type := 3, offset := 1, embedded := false, tag := "", pkgPath := "", byteOffset := 8 }], 2, 16, .agg [.int .i64 0, .int .i64 0]⟩),
  (40, ⟨.struct #[{ name := "Slot", type := 3, offset := 0, embedded := false, tag := "", pkgPath := "", byteOffset := 0 }, { name := "Gen", type := 3, offset := 1, embedded := false, tag := "", pkgPath := "", byteOffset := 8 }], 2, 16, .agg [.int .i64 0, .int .i64 0]⟩),
  (44, ⟨.struct #[{ name := "X0", type := 2, offset := 0, embedded := false, tag := "", pkgPath := "", byteOffset := 0 }, { name := "Y0", type := 2, offset := 1, embedded := false, tag := "", pkgPath := "", byteOffset := 8 }, { name := "X1", type := 2, offset := 2, embedded := false, tag := "", pkgPath := "", byteOffset := 16 }, { name := "Y1", type := 2, offset := 3, embedded := false, tag := "", pkgPath := "", byteOffset := 24 }], 4, 32, .agg [.int .i64 0, .int .i64 0, .int .i64 0, .int .i64 0]⟩),
  (45, ⟨.struct #[{ name := "X0", type := 2, offset := 0, embedded := false, tag := "", pkgPath := "", byteOffset := 0 }, { name := "Y0", type := 2, offset := 1, embedded := false, tag := "", pkgPath := "", byteOffset := 8 }, { name := "X1", type := 2, offset := 2, embedded := false, tag := "", pkgPath := "", byteOffset := 16 }, { name := "Y1", type := 2, offset := 3, embedded := false, tag := "", pkgPath := "", byteOffset := 24 }], 4, 32, .agg [.int .i64 0, .int .i64 0, .int .i64 0, .int .i64 0]⟩),
  (47, ⟨.slice 4, 1, 24, .nils⟩),
  (53, ⟨.slice 56, 1, 24, .nils⟩),
  (55, ⟨.struct #[{ name := "A", type := 3, offset := 0, embedded := false, tag := "", pkgPath := "", byteOffset := 0 }, { name := "B", type := 3, offset := 1, embedded := false, tag := "", pkgPath := "", byteOffset := 8 }], 2, 16, .agg [.int .i64 0, .int .i64 0]⟩),
  (56, ⟨.struct #[{ name := "A", type := 3, offset := 0, embedded := false, tag := "", pkgPath := "", byteOffset := 0 }, { name := "B", type := 3, offset := 1, embedded := false, tag := "", pkgPath := "", byteOffset := 8 }], 2, 16, .agg [.int .i64 0, .int .i64 0]⟩),
  (61, ⟨.struct #[{ name := "Kind", type := 3, offset := 0, embedded := false, tag := "", pkgPath := "", byteOffset := 0 }, { name := "R", type := 2, offset := 1, embedded := false, tag := "", pkgPath := "", byteOffset := 8 }, { name := "W", type := 2, offset := 2, embedded := false, tag := "", pkgPath := "", byteOffset := 16 }, { name := "H", type := 2, offset := 3, embedded := false, tag := "", pkgPath := "", byteOffset := 24 }, { name := "Pts", type := 33, offset := 4, embedded := false, tag := "", pkgPath := "", byteOffset := 32 }], 5, 56, .agg [.int .i64 0, .int .i64 0, .int .i64 0, .int .i64 0, .nils]⟩),
  (62, ⟨.struct #[{ name := "Kind", type := 3, offset := 0, embedded := false, tag := "", pkgPath := "", byteOffset := 0 }, { name := "R", type := 2, offset := 1, embedded := false, tag := "", pkgPath := "", byteOffset := 8 }, { name := "W", type := 2, offset := 2, embedded := false, tag := "", pkgPath := "", byteOffset := 16 }, { name := "H", type := 2, offset := 3, embedded := false, tag := "", pkgPath := "", byteOffset := 24 }, { name := "Pts", type := 33, offset := 4, embedded := false, tag := "", pkgPath := "", byteOffset := 32 }], 5, 56, .agg [.int .i64 0, .int .i64 0, .int .i64 0, .int .i64 0, .nils]⟩),
  (63, ⟨.struct #[{ name := "V", type := 2, offset := 0, embedded := false, tag := "", pkgPath := "", byteOffset := 0 }, { name := "F", type := 4, offset := 1, embedded := false, tag := "", pkgPath := "", byteOffset := 8 }], 2, 16, .agg [.int .i64 0, .bool false]⟩),
  (64, ⟨.struct #[{ name := "V", type := 2, offset := 0, embedded := false, tag := "", pkgPath := "", byteOffset := 0 }, { name := "F", type := 4, offset := 1, embedded := false, tag := "", pkgPath := "", byteOffset := 8 }], 2, 16, .agg [.int .i64 0, .bool false]⟩),
  (65, ⟨.struct #[{ name := "X", type := 64, offset := 0, embedded := false, tag := "", pkgPath := "", byteOffset := 0 }, { name := "Y", type := 64, offset := 2, embedded := false, tag := "", pkgPath := "", byteOffset := 16 }], 4, 32, .agg [.int .i64 0, .bool false, .int .i64 0, .bool false]⟩),
  (66, ⟨.struct #[{ name := "X", type := 64, offset := 0, embedded := false, tag := "", pkgPath := "", byteOffset := 0 }, { name := "Y", type := 64, offset := 2, embedded := false, tag := "", pkgPath := "", byteOffset := 16 }], 4, 32, .agg [.int .i64 0, .bool false, .int .i64 0, .bool false]⟩),
  (67, ⟨.struct #[{ name := "C", type := 64, offset := 0, embedded := false, tag := "", pkgPath := "", byteOffset := 0 }, { name := "S", type := 64, offset := 2, embedded := false, tag := "", pkgPath := "", byteOffset := 16 }], 4, 32, .agg [.int .i64 0, .bool false, .int .i64 0, .bool false]⟩),
  (68, ⟨.struct #[{ name := "C", type := 64, offset := 0, embedded := false, tag := "", pkgPath := "", byteOffset := 0 }, { name := "S", type := 64, offset := 2, embedded := false, tag := "", pkgPath := "", byteOffset := 16 }], 4, 32, .agg [.int .i64 0, .bool false, .int .i64 0, .bool false]⟩),
  (69, ⟨.struct #[{ name := "At", type := 66, offset := 0, embedded := false, tag := "", pkgPath := "", byteOffset := 0 }, { name := "Rot", type := 68, offset := 4, embedded := false, tag := "", pkgPath := "", byteOffset := 32 }], 8, 64, .agg [.int .i64 0, .bool false, .int .i64 0, .bool false, .int .i64 0, .bool false, .int .i64 0, .bool false]⟩),
  (70, ⟨.struct #[{ name := "At", type := 66, offset := 0, embedded := false, tag := "", pkgPath := "", byteOffset := 0 }, { name := "Rot", type := 68, offset := 4, embedded := false, tag := "", pkgPath := "", byteOffset := 32 }], 8, 64, .agg [.int .i64 0, .bool false, .int .i64 0, .bool false, .int .i64 0, .bool false, .int .i64 0, .bool false]⟩),
  (80, ⟨.struct #[{ name := "Is", type := 4, offset := 0, embedded := false, tag := "", pkgPath := "", byteOffset := 0 }, { name := "T", type := 64, offset := 1, embedded := false, tag := "", pkgPath := "", byteOffset := 8 }, { name := "N", type := 66, offset := 3, embedded := false, tag := "", pkgPath := "", byteOffset := 24 }], 7, 56, .agg [.bool false, .int .i64 0, .bool false, .int .i64 0, .bool false, .int .i64 0, .bool false]⟩),
  (81, ⟨.struct #[{ name := "Is", type := 4, offset := 0, embedded := false, tag := "", pkgPath := "", byteOffset := 0 }, { name := "T", type := 64, offset := 1, embedded := false, tag := "", pkgPath := "", byteOffset := 8 }, { name := "N", type := 66, offset := 3, embedded := false, tag := "", pkgPath := "", byteOffset := 24 }], 7, 56, .agg [.bool false, .int .i64 0, .bool false, .int .i64 0, .bool false, .int .i64 0, .bool false]⟩),
  (95, ⟨.struct #[{ name := "Apart", type := 4, offset := 0, embedded := false, tag := "", pkgPath := "", byteOffset := 0 }, { name := "Of", type := 3, offset := 1, embedded := false, tag := "", pkgPath := "", byteOffset := 8 }, { name := "Edge", type := 3, offset := 2, embedded := false, tag := "", pkgPath := "", byteOffset := 16 }, { name := "Gap", type := 64, offset := 3, embedded := false, tag := "", pkgPath := "", byteOffset := 24 }], 5, 40, .agg [.bool false, .int .i64 0, .int .i64 0, .int .i64 0, .bool false]⟩),
  (96, ⟨.struct #[{ name := "Apart", type := 4, offset := 0, embedded := false, tag := "", pkgPath := "", byteOffset := 0 }, { name := "Of", type := 3, offset := 1, embedded := false, tag := "", pkgPath := "", byteOffset := 8 }, { name := "Edge", type := 3, offset := 2, embedded := false, tag := "", pkgPath := "", byteOffset := 16 }, { name := "Gap", type := 64, offset := 3, embedded := false, tag := "", pkgPath := "", byteOffset := 24 }], 5, 40, .agg [.bool false, .int .i64 0, .int .i64 0, .int .i64 0, .bool false]⟩),
  (101, ⟨.slice 114, 1, 24, .nils⟩),
  (102, ⟨.struct #[{ name := "N", type := 66, offset := 0, embedded := false, tag := "", pkgPath := "", byteOffset := 0 }, { name := "L", type := 101, offset := 4, embedded := false, tag := "", pkgPath := "", byteOffset := 32 }], 5, 56, .agg [.int .i64 0, .bool false, .int .i64 0, .bool false, .nils]⟩),
  (103, ⟨.struct #[{ name := "N", type := 66, offset := 0, embedded := false, tag := "", pkgPath := "", byteOffset := 0 }, { name := "L", type := 101, offset := 4, embedded := false, tag := "", pkgPath := "", byteOffset := 32 }], 5, 56, .agg [.int .i64 0, .bool false, .int .i64 0, .bool false, .nils]⟩),
  (113, ⟨.struct #[{ name := "At", type := 66, offset := 0, embedded := false, tag := "", pkgPath := "", byteOffset := 0 }, { name := "Depth", type := 64, offset := 4, embedded := false, tag := "", pkgPath := "", byteOffset := 32 }], 6, 48, .agg [.int .i64 0, .bool false, .int .i64 0, .bool false, .int .i64 0, .bool false]⟩),
  (114, ⟨.struct #[{ name := "At", type := 66, offset := 0, embedded := false, tag := "", pkgPath := "", byteOffset := 0 }, { name := "Depth", type := 64, offset := 4, embedded := false, tag := "", pkgPath := "", byteOffset := 32 }], 6, 48, .agg [.int .i64 0, .bool false, .int .i64 0, .bool false, .int .i64 0, .bool false]⟩),
  (123, ⟨.int .u64, 1, 8, .int .u64 0⟩),
  (124, ⟨.struct #[{ name := "set", type := 123, offset := 0, embedded := false, tag := "", pkgPath := "bagatelle/index", byteOffset := 0 }], 1, 8, .agg [.int .u64 0]⟩),
  (125, ⟨.struct #[{ name := "set", type := 123, offset := 0, embedded := false, tag := "", pkgPath := "bagatelle/index", byteOffset := 0 }], 1, 8, .agg [.int .u64 0]⟩),
  (126, ⟨.struct #[{ name := "marks", type := 125, offset := 0, embedded := true, tag := "", pkgPath := "bagatelle/index", byteOffset := 0 }, { name := "gens", type := 23, offset := 1, embedded := false, tag := "", pkgPath := "bagatelle/index", byteOffset := 8 }], 2, 32, .agg [.int .u64 0, .nils]⟩),
  (127, ⟨.struct #[{ name := "marks", type := 125, offset := 0, embedded := true, tag := "", pkgPath := "bagatelle/index", byteOffset := 0 }, { name := "gens", type := 23, offset := 1, embedded := false, tag := "", pkgPath := "bagatelle/index", byteOffset := 8 }], 2, 32, .agg [.int .u64 0, .nils]⟩),
  (131, ⟨.interface #[("bagatelle/solid.box", 134), ("bagatelle/solid.has", 154), ("bagatelle/solid.meets", 155)], 1, 16, .nili⟩),
  (132, ⟨.interface #[("bagatelle/solid.box", 134), ("bagatelle/solid.has", 154), ("bagatelle/solid.meets", 155)], 1, 16, .nili⟩),
  (166, ⟨.array 2 2, 2, 16, .agg [.int .i64 0, .int .i64 0]⟩),
  (168, ⟨.struct #[{ name := "c", type := 32, offset := 0, embedded := false, tag := "", pkgPath := "bagatelle/solid", byteOffset := 0 }, { name := "r", type := 2, offset := 2, embedded := false, tag := "", pkgPath := "bagatelle/solid", byteOffset := 16 }], 3, 24, .agg [.int .i64 0, .int .i64 0, .int .i64 0]⟩),
  (169, ⟨.struct #[{ name := "c", type := 32, offset := 0, embedded := false, tag := "", pkgPath := "bagatelle/solid", byteOffset := 0 }, { name := "r", type := 2, offset := 2, embedded := false, tag := "", pkgPath := "bagatelle/solid", byteOffset := 16 }], 3, 24, .agg [.int .i64 0, .int .i64 0, .int .i64 0]⟩),
  (173, ⟨.struct #[{ name := "pts", type := 33, offset := 0, embedded := false, tag := "", pkgPath := "bagatelle/solid", byteOffset := 0 }], 1, 24, .agg [.nils]⟩),
  (174, ⟨.struct #[{ name := "pts", type := 33, offset := 0, embedded := false, tag := "", pkgPath := "bagatelle/solid", byteOffset := 0 }], 1, 24, .agg [.nils]⟩),
  (182, ⟨.slice 45, 1, 24, .nils⟩),
  (184, ⟨.struct #[{ name := "neg", type := 4, offset := 0, embedded := false, tag := "", pkgPath := "bagatelle/bagatelleref01", byteOffset := 0 }, { name := "hi", type := 123, offset := 1, embedded := false, tag := "", pkgPath := "bagatelle/bagatelleref01", byteOffset := 8 }, { name := "lo", type := 123, offset := 2, embedded := false, tag := "", pkgPath := "bagatelle/bagatelleref01", byteOffset := 16 }], 3, 24, .agg [.bool false, .int .u64 0, .int .u64 0]⟩),
  (185, ⟨.struct #[{ name := "neg", type := 4, offset := 0, embedded := false, tag := "", pkgPath := "bagatelle/bagatelleref01", byteOffset := 0 }, { name := "hi", type := 123, offset := 1, embedded := false, tag := "", pkgPath := "bagatelle/bagatelleref01", byteOffset := 8 }, { name := "lo", type := 123, offset := 2, embedded := false, tag := "", pkgPath := "bagatelle/bagatelleref01", byteOffset := 16 }], 3, 24, .agg [.bool false, .int .u64 0, .int .u64 0]⟩),
  (188, ⟨.int .u64, 1, 8, .int .u64 0⟩),
  (195, ⟨.pointer 125, 1, 8, .nilp⟩),
  (219, ⟨.slice 132, 1, 24, .nils⟩),
  (226, ⟨.struct #[{ name := "x", type := 66, offset := 0, embedded := false, tag := "", pkgPath := "bagatelle/solid", byteOffset := 0 }, { name := "y", type := 66, offset := 4, embedded := false, tag := "", pkgPath := "bagatelle/solid", byteOffset := 32 }], 8, 64, .agg [.int .i64 0, .bool false, .int .i64 0, .bool false, .int .i64 0, .bool false, .int .i64 0, .bool false]⟩),
  (227, ⟨.struct #[{ name := "x", type := 66, offset := 0, embedded := false, tag := "", pkgPath := "bagatelle/solid", byteOffset := 0 }, { name := "y", type := 66, offset := 4, embedded := false, tag := "", pkgPath := "bagatelle/solid", byteOffset := 32 }], 8, 64, .agg [.int .i64 0, .bool false, .int .i64 0, .bool false, .int .i64 0, .bool false, .int .i64 0, .bool false]⟩),
  (229, ⟨.array 2 66, 8, 64, .agg [.int .i64 0, .bool false, .int .i64 0, .bool false, .int .i64 0, .bool false, .int .i64 0, .bool false]⟩),
  (233, ⟨.slice 64, 1, 24, .nils⟩),
  (241, ⟨.int .i64, 1, 8, .int .i64 0⟩),
  (249, ⟨.int .u32, 1, 4, .int .u32 0⟩),
  (258, ⟨.struct #[{ name := "X", type := 2, offset := 0, embedded := false, tag := "", pkgPath := "", byteOffset := 0 }, { name := "Y", type := 2, offset := 1, embedded := false, tag := "", pkgPath := "", byteOffset := 8 }], 2, 16, .agg [.int .i64 0, .int .i64 0]⟩),
  (259, ⟨.struct #[{ name := "at", type := 3, offset := 0, embedded := false, tag := "", pkgPath := "bagatelle/plane", byteOffset := 0 }, { name := "a", type := 258, offset := 1, embedded := false, tag := "", pkgPath := "bagatelle/plane", byteOffset := 8 }, { name := "b", type := 258, offset := 3, embedded := false, tag := "", pkgPath := "bagatelle/plane", byteOffset := 24 }, { name := "c", type := 258, offset := 5, embedded := false, tag := "", pkgPath := "bagatelle/plane", byteOffset := 40 }], 7, 56, .agg [.int .i64 0, .int .i64 0, .int .i64 0, .int .i64 0, .int .i64 0, .int .i64 0, .int .i64 0]⟩),
  (260, ⟨.struct #[{ name := "at", type := 3, offset := 0, embedded := false, tag := "", pkgPath := "bagatelle/plane", byteOffset := 0 }, { name := "a", type := 258, offset := 1, embedded := false, tag := "", pkgPath := "bagatelle/plane", byteOffset := 8 }, { name := "b", type := 258, offset := 3, embedded := false, tag := "", pkgPath := "bagatelle/plane", byteOffset := 24 }, { name := "c", type := 258, offset := 5, embedded := false, tag := "", pkgPath := "bagatelle/plane", byteOffset := 40 }], 7, 56, .agg [.int .i64 0, .int .i64 0, .int .i64 0, .int .i64 0, .int .i64 0, .int .i64 0, .int .i64 0]⟩),
  (264, ⟨.slice 66, 1, 24, .nils⟩),
  (267, ⟨.array 2 123, 2, 16, .agg [.int .u64 0, .int .u64 0]⟩),
  (268, ⟨.array 2 123, 2, 16, .agg [.int .u64 0, .int .u64 0]⟩),
  (269, ⟨.struct #[{ name := "neg", type := 4, offset := 0, embedded := false, tag := "", pkgPath := "bagatelle/fixed", byteOffset := 0 }, { name := "w", type := 268, offset := 1, embedded := false, tag := "", pkgPath := "bagatelle/fixed", byteOffset := 8 }], 3, 24, .agg [.bool false, .int .u64 0, .int .u64 0]⟩),
  (270, ⟨.struct #[{ name := "neg", type := 4, offset := 0, embedded := false, tag := "", pkgPath := "bagatelle/fixed", byteOffset := 0 }, { name := "w", type := 268, offset := 1, embedded := false, tag := "", pkgPath := "bagatelle/fixed", byteOffset := 8 }], 3, 24, .agg [.bool false, .int .u64 0, .int .u64 0]⟩),
  (279, ⟨.pointer 227, 1, 8, .nilp⟩),
  (283, ⟨.int .u64, 1, 8, .int .u64 0⟩),
  (287, ⟨.pointer 3, 1, 8, .nilp⟩),
  (294, ⟨.slice 2, 1, 24, .nils⟩),
  (297, ⟨.interface #[("Error", 317)], 1, 16, .nili⟩),
  (298, ⟨.interface #[("Error", 317)], 1, 16, .nili⟩),
  (306, ⟨.pointer 283, 1, 8, .nilp⟩),
  (316, ⟨.pointer 335, 1, 8, .nilp⟩),
  (320, ⟨.array 0 16, 0, 0, .agg []⟩),
  (321, ⟨.struct #[{ name := "_", type := 320, offset := 0, embedded := false, tag := "", pkgPath := "runtime", byteOffset := 0 }], 0, 0, .agg []⟩),
  (322, ⟨.struct #[{ name := "_", type := 320, offset := 0, embedded := false, tag := "", pkgPath := "runtime", byteOffset := 0 }], 0, 0, .agg []⟩),
  (323, ⟨.int .u8, 1, 1, .int .u8 0⟩),
  (324, ⟨.int .u8, 1, 1, .int .u8 0⟩),
  (326, ⟨.pointer 5, 1, 8, .nilp⟩),
  (327, ⟨.int .i32, 1, 4, .int .i32 0⟩),
  (328, ⟨.int .i32, 1, 4, .int .i32 0⟩),
  (331, ⟨.struct #[{ name := "a", type := 2, offset := 0, embedded := false, tag := "", pkgPath := "bagatelle/solid", byteOffset := 0 }, { name := "b", type := 2, offset := 1, embedded := false, tag := "", pkgPath := "bagatelle/solid", byteOffset := 8 }], 2, 16, .agg [.int .i64 0, .int .i64 0]⟩),
  (332, ⟨.struct #[{ name := "a", type := 2, offset := 0, embedded := false, tag := "", pkgPath := "bagatelle/solid", byteOffset := 0 }, { name := "b", type := 2, offset := 1, embedded := false, tag := "", pkgPath := "bagatelle/solid", byteOffset := 8 }], 2, 16, .agg [.int .i64 0, .int .i64 0]⟩),
  (336, ⟨.unsafePointer, 1, 8, .nilp⟩),
  (9, ⟨.string, 1, 16, .raw (.string ByteArray.empty)⟩)
]
theorem atj (w : World) (l l' : List Value) (r:Bool) (h : mV [.I .i64, .I .i64, .I .i64, .I .i64] l l' r) : (Op.equal 45 (.agg l.toArray) (.agg l'.toArray)).run Tryz.prog w = .ok r w := by
  simp only [mV] at h
  obtain ⟨a0, b0, _, _, _, rfl, rfl, rfl, a1, b1, _, _, _, rfl, rfl, rfl, a2, b2, _, _, _, rfl, rfl, rfl, a3, b3, rfl, rfl, rfl⟩ := h
  have h1 : Tryz.prog.underlying 45 = some (.struct (Tryz.prog.fieldsOf 45)) := by kernel_rfl
  have h2 : Tryz.prog.stoodInHeld 45 = false := by kernel_rfl
  have h3 : (Tryz.prog.fieldsOf 45).toList = [{ name := "X0", type := 2, offset := 0, embedded := false, tag := "", pkgPath := "", byteOffset := 0 }, { name := "Y0", type := 2, offset := 1, embedded := false, tag := "", pkgPath := "", byteOffset := 8 }, { name := "X1", type := 2, offset := 2, embedded := false, tag := "", pkgPath := "", byteOffset := 16 }, { name := "Y1", type := 2, offset := 3, embedded := false, tag := "", pkgPath := "", byteOffset := 24 }] := by kernel_rfl
  have u2 : Tryz.prog.underlying 2 = some (.int .i64) := by kernel_rfl
  simp only [Op.equal, Op.maxDepth]
  rw [run_equalIn_agg w 9999 45 _ _ h1 h2, h3]
  simp [Op.eqFields, part, lH, Sem.run_bind, Result.andThen, fV u2, run_equalIn_int w _ 2 .i64 .i64 _ _ u2]
  repeat' split
  all_goals simp_all
theorem atl (w : World) (l l' : List Value) (r:Bool) (h : mV [.I .i64, .I .i64] l l' r) : (Op.equal 32 (.agg l.toArray) (.agg l'.toArray)).run Tryz.prog w = .ok r w := by
  simp only [mV] at h
  obtain ⟨a0, b0, _, _, _, rfl, rfl, rfl, a1, b1, rfl, rfl, rfl⟩ := h
  have h1 : Tryz.prog.underlying 32 = some (.struct (Tryz.prog.fieldsOf 32)) := by kernel_rfl
  have h2 : Tryz.prog.stoodInHeld 32 = false := by kernel_rfl
  have h3 : (Tryz.prog.fieldsOf 32).toList = [{ name := "X", type := 2, offset := 0, embedded := false, tag := "", pkgPath := "", byteOffset := 0 }, { name := "Y", type := 2, offset := 1, embedded := false, tag := "", pkgPath := "", byteOffset := 8 }] := by kernel_rfl
  have u2 : Tryz.prog.underlying 2 = some (.int .i64) := by kernel_rfl
  simp only [Op.equal, Op.maxDepth]
  rw [run_equalIn_agg w 9999 32 _ _ h1 h2, h3]
  simp [Op.eqFields, part, lH, Sem.run_bind, Result.andThen, fV u2, run_equalIn_int w _ 2 .i64 .i64 _ _ u2]
  repeat' split
  all_goals simp_all
theorem apy (w : World) (l l' : List Value) (r:Bool) (h : mV [.I .u64, .I .u64] l l' r) : (Op.equal 268 (.agg l.toArray) (.agg l'.toArray)).run Tryz.prog w = .ok r w := by
  simp only [mV] at h
  obtain ⟨a0, b0, _, _, _, rfl, rfl, rfl, a1, b1, rfl, rfl, rfl⟩ := h
  have h1 : Tryz.prog.underlying 268 = some (.array 2 123) := by kernel_rfl
  have ue : Tryz.prog.underlying 123 = some (.int .u64) := by kernel_rfl
  have hc : Tryz.prog.cellsOf 123 = 1 := by kernel_rfl
  obtain ⟨i, hi⟩ : ∃ i, Tryz.prog.info? 123 = some i := Option.isSome_iff_exists.1 (by kernel_rfl)
  simp only [Op.equal, Op.maxDepth]
  rw [run_equalIn_array w 9999 _ _ h1 hi, hc]
  simp [Op.eqItems, List.range, List.range.loop, part, lH, Sem.run_bind, Result.andThen, fV ue, run_equalIn_int w _ 123 .u64 .u64 _ _ ue]
  repeat' split
  all_goals simp_all
theorem JD (w : World) (a0 b0:Int) (a1 b1:Bool) : (Op.equalIn 9999 64 (.agg #[.int .i64 a0, .bool a1]) (.agg #[.int .i64 b0, .bool b1])).run Tryz.prog w = .ok (decide (a0 = b0) && decide (a1 = b1)) w := by
  have h1 : Tryz.prog.underlying 64 = some (.struct (Tryz.prog.fieldsOf 64)) := by kernel_rfl
  have h2 : Tryz.prog.stoodInHeld 64 = false := by kernel_rfl
  have h3 : (Tryz.prog.fieldsOf 64).toList = [{ name := "V", type := 2, offset := 0, embedded := false, tag := "", pkgPath := "", byteOffset := 0 }, { name := "F", type := 4, offset := 1, embedded := false, tag := "", pkgPath := "", byteOffset := 8 }] := by kernel_rfl
  have u2 : Tryz.prog.underlying 2 = some (.int .i64) := by kernel_rfl
  have u4 : Tryz.prog.underlying 4 = some (.bool) := by kernel_rfl
  rw [run_equalIn_agg w 9998 64 _ _ h1 h2, h3]
  simp [Op.eqFields, part, lH, Sem.run_bind, Result.andThen, fV u2, run_equalIn_int w _ 2 .i64 .i64 _ _ u2, fV u4, run_equalIn_bool w _ 4 _ _ u4]
  repeat' split
  all_goals simp_all
theorem Z8 (w : World) (a0 b0:Int) (a1 b1:Bool) : (Op.equalIn 9998 64 (.agg #[.int .i64 a0, .bool a1]) (.agg #[.int .i64 b0, .bool b1])).run Tryz.prog w = .ok (decide (a0 = b0) && decide (a1 = b1)) w := by
  have h1 : Tryz.prog.underlying 64 = some (.struct (Tryz.prog.fieldsOf 64)) := by kernel_rfl
  have h2 : Tryz.prog.stoodInHeld 64 = false := by kernel_rfl
  have h3 : (Tryz.prog.fieldsOf 64).toList = [{ name := "V", type := 2, offset := 0, embedded := false, tag := "", pkgPath := "", byteOffset := 0 }, { name := "F", type := 4, offset := 1, embedded := false, tag := "", pkgPath := "", byteOffset := 8 }] := by kernel_rfl
  have u2 : Tryz.prog.underlying 2 = some (.int .i64) := by kernel_rfl
  have u4 : Tryz.prog.underlying 4 = some (.bool) := by kernel_rfl
  rw [run_equalIn_agg w 9997 64 _ _ h1 h2, h3]
  simp [Op.eqFields, part, lH, Sem.run_bind, Result.andThen, fV u2, run_equalIn_int w _ 2 .i64 .i64 _ _ u2, fV u4, run_equalIn_bool w _ 4 _ _ u4]
  repeat' split
  all_goals simp_all
theorem Z9 (w : World) (a0 b0:Int) (a1 b1:Bool) (a2 b2:Int) (a3 b3:Bool) : (Op.equalIn 9999 66 (.agg #[.int .i64 a0, .bool a1, .int .i64 a2, .bool a3]) (.agg #[.int .i64 b0, .bool b1, .int .i64 b2, .bool b3])).run Tryz.prog w = .ok (decide (a0 = b0) && decide (a1 = b1) && decide (a2 = b2) && decide (a3 = b3)) w := by
  have h1 : Tryz.prog.underlying 66 = some (.struct (Tryz.prog.fieldsOf 66)) := by kernel_rfl
  have h2 : Tryz.prog.stoodInHeld 66 = false := by kernel_rfl
  have h3 : (Tryz.prog.fieldsOf 66).toList = [{ name := "X", type := 64, offset := 0, embedded := false, tag := "", pkgPath := "", byteOffset := 0 }, { name := "Y", type := 64, offset := 2, embedded := false, tag := "", pkgPath := "", byteOffset := 16 }] := by kernel_rfl
  have u64 : Tryz.prog.underlying 64 = some (.struct #[{ name := "V", type := 2, offset := 0, embedded := false, tag := "", pkgPath := "", byteOffset := 0 }, { name := "F", type := 4, offset := 1, embedded := false, tag := "", pkgPath := "", byteOffset := 8 }]) := by kernel_rfl
  rw [run_equalIn_agg w 9998 66 _ _ h1 h2, h3]
  simp [Op.eqFields, part, lH, Sem.run_bind, Result.andThen, fV u64, Z8 w]
  repeat' split
  all_goals simp_all
theorem atm (w : World) (l l' : List Value) (r:Bool) (h : mV [.B, .I .i64, .B, .I .i64, .B, .I .i64, .B] l l' r) : (Op.equal 81 (.agg l.toArray) (.agg l'.toArray)).run Tryz.prog w = .ok r w := by
  simp only [mV] at h
  obtain ⟨a0, b0, _, _, _, rfl, rfl, rfl, a1, b1, _, _, _, rfl, rfl, rfl, a2, b2, _, _, _, rfl, rfl, rfl, a3, b3, _, _, _, rfl, rfl, rfl, a4, b4, _, _, _, rfl, rfl, rfl, a5, b5, _, _, _, rfl, rfl, rfl, a6, b6, rfl, rfl, rfl⟩ := h
  have h1 : Tryz.prog.underlying 81 = some (.struct (Tryz.prog.fieldsOf 81)) := by kernel_rfl
  have h2 : Tryz.prog.stoodInHeld 81 = false := by kernel_rfl
  have h3 : (Tryz.prog.fieldsOf 81).toList = [{ name := "Is", type := 4, offset := 0, embedded := false, tag := "", pkgPath := "", byteOffset := 0 }, { name := "T", type := 64, offset := 1, embedded := false, tag := "", pkgPath := "", byteOffset := 8 }, { name := "N", type := 66, offset := 3, embedded := false, tag := "", pkgPath := "", byteOffset := 24 }] := by kernel_rfl
  have u4 : Tryz.prog.underlying 4 = some (.bool) := by kernel_rfl
  have u64 : Tryz.prog.underlying 64 = some (.struct #[{ name := "V", type := 2, offset := 0, embedded := false, tag := "", pkgPath := "", byteOffset := 0 }, { name := "F", type := 4, offset := 1, embedded := false, tag := "", pkgPath := "", byteOffset := 8 }]) := by kernel_rfl
  have u66 : Tryz.prog.underlying 66 = some (.struct #[{ name := "X", type := 64, offset := 0, embedded := false, tag := "", pkgPath := "", byteOffset := 0 }, { name := "Y", type := 64, offset := 2, embedded := false, tag := "", pkgPath := "", byteOffset := 16 }]) := by kernel_rfl
  simp only [Op.equal, Op.maxDepth]
  rw [run_equalIn_agg w 9999 81 _ _ h1 h2, h3]
  simp [Op.eqFields, part, lH, Sem.run_bind, Result.andThen, fV u4, run_equalIn_bool w _ 4 _ _ u4, fV u64, JD w, fV u66, Z9 w]
  repeat' split
  all_goals simp_all
theorem atn (w : World) (l l' : List Value) (r:Bool) (h : mV [.B, .I .i64, .I .i64, .I .i64, .B] l l' r) : (Op.equal 96 (.agg l.toArray) (.agg l'.toArray)).run Tryz.prog w = .ok r w := by
  simp only [mV] at h
  obtain ⟨a0, b0, _, _, _, rfl, rfl, rfl, a1, b1, _, _, _, rfl, rfl, rfl, a2, b2, _, _, _, rfl, rfl, rfl, a3, b3, _, _, _, rfl, rfl, rfl, a4, b4, rfl, rfl, rfl⟩ := h
  have h1 : Tryz.prog.underlying 96 = some (.struct (Tryz.prog.fieldsOf 96)) := by kernel_rfl
  have h2 : Tryz.prog.stoodInHeld 96 = false := by kernel_rfl
  have h3 : (Tryz.prog.fieldsOf 96).toList = [{ name := "Apart", type := 4, offset := 0, embedded := false, tag := "", pkgPath := "", byteOffset := 0 }, { name := "Of", type := 3, offset := 1, embedded := false, tag := "", pkgPath := "", byteOffset := 8 }, { name := "Edge", type := 3, offset := 2, embedded := false, tag := "", pkgPath := "", byteOffset := 16 }, { name := "Gap", type := 64, offset := 3, embedded := false, tag := "", pkgPath := "", byteOffset := 24 }] := by kernel_rfl
  have u3 : Tryz.prog.underlying 3 = some (.int .i64) := by kernel_rfl
  have u4 : Tryz.prog.underlying 4 = some (.bool) := by kernel_rfl
  have u64 : Tryz.prog.underlying 64 = some (.struct #[{ name := "V", type := 2, offset := 0, embedded := false, tag := "", pkgPath := "", byteOffset := 0 }, { name := "F", type := 4, offset := 1, embedded := false, tag := "", pkgPath := "", byteOffset := 8 }]) := by kernel_rfl
  simp only [Op.equal, Op.maxDepth]
  rw [run_equalIn_agg w 9999 96 _ _ h1 h2, h3]
  simp [Op.eqFields, part, lH, Sem.run_bind, Result.andThen, fV u3, run_equalIn_int w _ 3 .i64 .i64 _ _ u3, fV u4, run_equalIn_bool w _ 4 _ _ u4, fV u64, JD w]
  repeat' split
  all_goals simp_all
theorem ato (w : World) (l l' : List Value) (r:Bool) (h : mV [.I .i64, .B] l l' r) : (Op.equal 64 (.agg l.toArray) (.agg l'.toArray)).run Tryz.prog w = .ok r w := by
  simp only [mV] at h
  obtain ⟨a0, b0, _, _, _, rfl, rfl, rfl, a1, b1, rfl, rfl, rfl⟩ := h
  have h1 : Tryz.prog.underlying 64 = some (.struct (Tryz.prog.fieldsOf 64)) := by kernel_rfl
  have h2 : Tryz.prog.stoodInHeld 64 = false := by kernel_rfl
  have h3 : (Tryz.prog.fieldsOf 64).toList = [{ name := "V", type := 2, offset := 0, embedded := false, tag := "", pkgPath := "", byteOffset := 0 }, { name := "F", type := 4, offset := 1, embedded := false, tag := "", pkgPath := "", byteOffset := 8 }] := by kernel_rfl
  have u2 : Tryz.prog.underlying 2 = some (.int .i64) := by kernel_rfl
  have u4 : Tryz.prog.underlying 4 = some (.bool) := by kernel_rfl
  simp only [Op.equal, Op.maxDepth]
  rw [run_equalIn_agg w 9999 64 _ _ h1 h2, h3]
  simp [Op.eqFields, part, lH, Sem.run_bind, Result.andThen, fV u2, run_equalIn_int w _ 2 .i64 .i64 _ _ u2, fV u4, run_equalIn_bool w _ 4 _ _ u4]
  repeat' split
  all_goals simp_all
theorem atp (w : World) (l l' : List Value) (r:Bool) (h : mV [.I .i64, .B, .I .i64, .B] l l' r) : (Op.equal 66 (.agg l.toArray) (.agg l'.toArray)).run Tryz.prog w = .ok r w := by
  simp only [mV] at h
  obtain ⟨a0, b0, _, _, _, rfl, rfl, rfl, a1, b1, _, _, _, rfl, rfl, rfl, a2, b2, _, _, _, rfl, rfl, rfl, a3, b3, rfl, rfl, rfl⟩ := h
  have h1 : Tryz.prog.underlying 66 = some (.struct (Tryz.prog.fieldsOf 66)) := by kernel_rfl
  have h2 : Tryz.prog.stoodInHeld 66 = false := by kernel_rfl
  have h3 : (Tryz.prog.fieldsOf 66).toList = [{ name := "X", type := 64, offset := 0, embedded := false, tag := "", pkgPath := "", byteOffset := 0 }, { name := "Y", type := 64, offset := 2, embedded := false, tag := "", pkgPath := "", byteOffset := 16 }] := by kernel_rfl
  have u64 : Tryz.prog.underlying 64 = some (.struct #[{ name := "V", type := 2, offset := 0, embedded := false, tag := "", pkgPath := "", byteOffset := 0 }, { name := "F", type := 4, offset := 1, embedded := false, tag := "", pkgPath := "", byteOffset := 8 }]) := by kernel_rfl
  simp only [Op.equal, Op.maxDepth]
  rw [run_equalIn_agg w 9999 66 _ _ h1 h2, h3]
  simp [Op.eqFields, part, lH, Sem.run_bind, Result.andThen, fV u64, JD w]
  repeat' split
  all_goals simp_all
theorem apz (w : World) (l l' : List Value) (r:Bool) (h : mV [.B, .I .u64, .I .u64] l l' r) : (Op.equal 185 (.agg l.toArray) (.agg l'.toArray)).run Tryz.prog w = .ok r w := by
  simp only [mV] at h
  obtain ⟨a0, b0, _, _, _, rfl, rfl, rfl, a1, b1, _, _, _, rfl, rfl, rfl, a2, b2, rfl, rfl, rfl⟩ := h
  have h1 : Tryz.prog.underlying 185 = some (.struct (Tryz.prog.fieldsOf 185)) := by kernel_rfl
  have h2 : Tryz.prog.stoodInHeld 185 = false := by kernel_rfl
  have h3 : (Tryz.prog.fieldsOf 185).toList = [{ name := "neg", type := 4, offset := 0, embedded := false, tag := "", pkgPath := "bagatelle/bagatelleref01", byteOffset := 0 }, { name := "hi", type := 123, offset := 1, embedded := false, tag := "", pkgPath := "bagatelle/bagatelleref01", byteOffset := 8 }, { name := "lo", type := 123, offset := 2, embedded := false, tag := "", pkgPath := "bagatelle/bagatelleref01", byteOffset := 16 }] := by kernel_rfl
  have u4 : Tryz.prog.underlying 4 = some (.bool) := by kernel_rfl
  have u123 : Tryz.prog.underlying 123 = some (.int .u64) := by kernel_rfl
  simp only [Op.equal, Op.maxDepth]
  rw [run_equalIn_agg w 9999 185 _ _ h1 h2, h3]
  simp [Op.eqFields, part, lH, Sem.run_bind, Result.andThen, fV u4, run_equalIn_bool w _ 4 _ _ u4, fV u123, run_equalIn_int w _ 123 .u64 .u64 _ _ u123]
  repeat' split
  all_goals simp_all
def plL : List (Nat × List Kd) := [(4, [.B]), (45, [.I .i64, .I .i64, .I .i64, .I .i64]), (32, [.I .i64, .I .i64]), (268, [.I .u64, .I .u64]), (81, [.B, .I .i64, .B, .I .i64, .B, .I .i64, .B]), (96, [.B, .I .i64, .I .i64, .I .i64, .B]), (64, [.I .i64, .B]), (66, [.I .i64, .B, .I .i64, .B]), (185, [.B, .I .u64, .I .u64])]
theorem atq (v : Value) (w : World) : (method (Tryz.prog.types.size + Made.depth) 169 v "bagatelle/solid.box").run Tryz.prog w = .ok (328, v) w := by kernel_rfl
theorem atr (v : Value) (w : World) : (method (Tryz.prog.types.size + Made.depth) 169 v "bagatelle/solid.has").run Tryz.prog w = .ok (329, v) w := by kernel_rfl
theorem att (v : Value) (w : World) : (method (Tryz.prog.types.size + Made.depth) 169 v "bagatelle/solid.meets").run Tryz.prog w = .ok (330, v) w := by kernel_rfl
theorem atu (v : Value) (w : World) : (method (Tryz.prog.types.size + Made.depth) 174 v "bagatelle/solid.box").run Tryz.prog w = .ok (333, v) w := by kernel_rfl
theorem atv (v : Value) (w : World) : (method (Tryz.prog.types.size + Made.depth) 174 v "bagatelle/solid.has").run Tryz.prog w = .ok (162, v) w := by kernel_rfl
theorem atw (v : Value) (w : World) : (method (Tryz.prog.types.size + Made.depth) 174 v "bagatelle/solid.meets").run Tryz.prog w = .ok (334, v) w := by kernel_rfl
def mtL : List (Nat × String × Nat) := [(169, "bagatelle/solid.box", 328), (169, "bagatelle/solid.has", 329), (169, "bagatelle/solid.meets", 330), (174, "bagatelle/solid.box", 333), (174, "bagatelle/solid.has", 162), (174, "bagatelle/solid.meets", 334)]
def tab : Tab := ⟨H6 tyL, XA mtL, H6 plL⟩
theorem apA : Xw Tryz.prog tyL := by
  unfold tyL
  simp only [Xw]
  refine ⟨?_, ?_, ?_, ?_, ?_, ?_, ?_, ?_, ?_, ?_, ?_, ?_, ?_, ?_, ?_, ?_, ?_, ?_, ?_, ?_, ?_, ?_, ?_, ?_, ?_, ?_, ?_, ?_, ?_, ?_, ?_, ?_, ?_, ?_, ?_, ?_, ?_, ?_, ?_, ?_, ?_, ?_, ?_, ?_, ?_, ?_, ?_, ?_, ?_, ?_, ?_, ?_, ?_, ?_, ?_, ?_, ?_, ?_, ?_, ?_, ?_, ?_, ?_, ?_, ?_, ?_, ?_, ?_, ?_, ?_, ?_, ?_, ?_, ?_, ?_, ?_, ?_, ?_, ?_, ?_, ?_, ?_, ?_, ?_, ?_, ?_, ?_, ?_, ?_, ?_, ?_, ?_, ?_, ?_, ?_, ?_, ?_, ?_, ?_, ?_, ?_, ?_, ?_, ?_, ?_, ?_, ?_, trivial⟩ <;> exact YG.of' (by kernel_rfl) (by kernel_rfl) (by kernel_rfl) (by kernel_rfl) (by kernel_rfl) (by kernel_rfl) (by kernel_rfl) (by kernel_rfl)
theorem aX : kP Tryz.prog tab where
  ty := fun t i h => apA.get t i (xU h)
  meth := fun t n f h v w => by
    have h := Ut (show XA mtL t n = some f from h)
    simp only [mtL, List.mem_cons, Prod.mk.injEq, List.not_mem_nil, or_false] at h
    rcases h with ⟨rfl, rfl, rfl⟩ | ⟨rfl, rfl, rfl⟩ | ⟨rfl, rfl, rfl⟩ | ⟨rfl, rfl, rfl⟩ | ⟨rfl, rfl, rfl⟩ | ⟨rfl, rfl, rfl⟩
    . exact atq v w
    . exact atr v w
    . exact att v w
    . exact atu v w
    . exact atv v w
    . exact atw v w
  plainB := fun t h a b w => by
    have h := xU (show H6 plL t = _ from h)
    simp only [plL, List.mem_cons, Prod.mk.injEq, List.not_mem_nil, or_false] at h
    rcases h with ⟨rfl, h⟩ | ⟨rfl, h⟩ | ⟨rfl, h⟩ | ⟨rfl, h⟩ | ⟨rfl, h⟩ | ⟨rfl, h⟩ | ⟨rfl, h⟩ | ⟨rfl, h⟩ | ⟨rfl, h⟩
    . have u : Tryz.prog.underlying 4 = some .bool := by kernel_rfl
      simp only [Op.equal, Op.maxDepth]
      exact run_equalIn_bool w _ 4 a b u
    . cases h
    . cases h
    . cases h
    . cases h
    . cases h
    . cases h
    . cases h
    . cases h
  plainA := fun t k1 k2 s h xs ys r l l' E w hs hl hl' => by
    have h := xU (show H6 plL t = _ from h)
    simp only [plL, List.mem_cons, Prod.mk.injEq, List.not_mem_nil, or_false] at h
    have hsh := Xx hs hl hl'
    rcases h with ⟨rfl, e⟩ | ⟨rfl, e⟩ | ⟨rfl, e⟩ | ⟨rfl, e⟩ | ⟨rfl, e⟩ | ⟨rfl, e⟩ | ⟨rfl, e⟩ | ⟨rfl, e⟩ | ⟨rfl, e⟩
    . cases e
    . rw [e] at hsh; exact atj w l l' r hsh
    . rw [e] at hsh; exact atl w l l' r hsh
    . rw [e] at hsh; exact apy w l l' r hsh
    . rw [e] at hsh; exact atm w l l' r hsh
    . rw [e] at hsh; exact atn w l l' r hsh
    . rw [e] at hsh; exact ato w l l' r hsh
    . rw [e] at hsh; exact atp w l l' r hsh
    . rw [e] at hsh; exact apz w l l' r hsh
  plainG := fun t s h => by
    have h := xU (show H6 plL t = _ from h)
    simp only [plL, List.mem_cons, Prod.mk.injEq, List.not_mem_nil, or_false] at h
    rcases h with ⟨rfl, rfl⟩ | ⟨rfl, rfl⟩ | ⟨rfl, rfl⟩ | ⟨rfl, rfl⟩ | ⟨rfl, rfl⟩ | ⟨rfl, rfl⟩ | ⟨rfl, rfl⟩ | ⟨rfl, rfl⟩ | ⟨rfl, rfl⟩
    . exact (by decide +kernel : Tryz.prog.eqGuardType Tryz.prog.depth 4 = false)
    . exact (by decide +kernel : Tryz.prog.eqGuardType Tryz.prog.depth 45 = false)
    . exact (by decide +kernel : Tryz.prog.eqGuardType Tryz.prog.depth 32 = false)
    . exact (by decide +kernel : Tryz.prog.eqGuardType Tryz.prog.depth 268 = false)
    . exact (by decide +kernel : Tryz.prog.eqGuardType Tryz.prog.depth 81 = false)
    . exact (by decide +kernel : Tryz.prog.eqGuardType Tryz.prog.depth 96 = false)
    . exact (by decide +kernel : Tryz.prog.eqGuardType Tryz.prog.depth 64 = false)
    . exact (by decide +kernel : Tryz.prog.eqGuardType Tryz.prog.depth 66 = false)
    . exact (by decide +kernel : Tryz.prog.eqGuardType Tryz.prog.depth 185 = false)
  mixed := by kernel_rfl
noncomputable def aF (f : Func) : Code := match f.body with | some c => c | none => .skip
end Go.Proofs.YtbcegholicnflaaGreat

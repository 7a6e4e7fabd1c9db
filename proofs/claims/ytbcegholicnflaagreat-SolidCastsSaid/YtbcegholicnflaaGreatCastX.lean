import Derived.Test.YtbcegholicnflaaGreatCastP
set_option linter.unusedVariables false
set_option linter.unusedSimpArgs false
set_option maxRecDepth 100000
namespace Go.Ag
open Go.RowKit
noncomputable section
theorem plain_do (k ba bb c : Int) (n : Nat) (da db : Nat -> Int) (fx fy tx ty : Int) (h1 : I64 k) (h2 : I64 ba) (h3 : I64 bb) (h4 : I64 c) (h5 : ∀ j, j < n -> I64 (da j)) (h6 : ∀ j, j < n -> I64 (db j)) (h7 : I64 fx) (h8 : I64 fy) (h9 : I64 tx) (h10 : I64 ty) : P_do k ba bb c n da db fx fy tx ty /\ F_do_0 k ba bb c n da db fx fy tx ty = true :=
  ⟨⟨⟨h1, h2, h3, h4⟩, fun j hj => ⟨h5 j hj, h6 j hj⟩, h7, h8, h9, h10⟩, rfl⟩
end
end Go.Ag

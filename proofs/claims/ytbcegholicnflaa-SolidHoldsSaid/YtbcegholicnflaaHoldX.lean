import Derived.Test.YtbcegholicnflaaHoldP
set_option linter.unusedVariables false
set_option linter.unusedSimpArgs false
set_option maxRecDepth 100000
namespace Go.Ag
open Go.RowKit
noncomputable section
theorem plain_lw_SolidHolds (k : Int) (ba : Int) (bb : Int) (c : Int) (n : Nat) (da : Nat → Int) (db : Nat → Int) (px : Int) (py : Int) (h1 : I64 k) (h2 : I64 ba) (h3 : I64 bb) (h4 : I64 c) (h5 : ∀ j, j < n → I64 (da j)) (h6 : ∀ j, j < n → I64 (db j)) (h7 : I64 px) (h8 : I64 py) : P_lw_SolidHolds k ba bb c n da db px py ∧ F_lw_SolidHolds_0 k ba bb c n da db px py = true :=
  ⟨⟨⟨h1, h2, h3, h4⟩, fun j hj => ⟨h5 j hj, h6 j hj⟩, h7, h8⟩, rfl⟩
end
end Go.Ag

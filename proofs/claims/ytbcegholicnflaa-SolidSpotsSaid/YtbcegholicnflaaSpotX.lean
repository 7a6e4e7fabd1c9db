import Derived.Test.YtbcegholicnflaaSpotP
set_option linter.unusedVariables false
set_option linter.unusedSimpArgs false
set_option maxRecDepth 100000
namespace Go.Ag
open Go.RowKit
noncomputable section
theorem plain_lw_SolidSpots (a0a : Int) (a0b : Int) (a1a : Int) (a1b : Int) (a2a : Int) (a2b : Int) (a3n : Nat) (a3a : Nat → Int) (a3b : Nat → Int) (h1 : I64 a0a) (h2 : I64 a0b) (h3 : I64 a1a) (h4 : I64 a1b) (h5 : I64 a2a) (h6 : I64 a2b) (h7 : ∀ k, k < a3n → I64 (a3a k)) (h8 : ∀ k, k < a3n → I64 (a3b k)) : P_lw_SolidSpots a0a a0b a1a a1b a2a a2b a3n a3a a3b ∧ F_lw_SolidSpots_0 a0a a0b a1a a1b a2a a2b a3n a3a a3b = true :=
  ⟨⟨⟨h1, h2, h3, h4, h5, h6⟩, fun k hk => ⟨h7 k hk, h8 k hk⟩⟩, rfl⟩
end
end Go.Ag

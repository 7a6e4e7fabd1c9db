import Derived.Test.YtbcegholicnflaaBoxP
set_option linter.unusedVariables false
set_option linter.unusedSimpArgs false
set_option maxRecDepth 100000
namespace Go.Ag
open Go.RowKit
noncomputable section
theorem plain_lw_SolidBoxes (a0a : Int) (a0b : Int) (a0c : Int) (a0d : Int) (a1a : Int) (a1b : Int) (a1c : Int) (a1d : Int) (a2a : Int) (a2b : Int) (a3 : Int) (a4n : Nat) (a4a : Nat → Int) (a4b : Nat → Int) (a4c : Nat → Int) (a4d : Nat → Int)
    (h1 : I64 a0a) (h2 : I64 a0b) (h3 : I64 a0c) (h4 : I64 a0d) (h5 : I64 a1a) (h6 : I64 a1b) (h7 : I64 a1c) (h8 : I64 a1d) (h9 : I64 a2a) (h10 : I64 a2b) (h11 : I64 a3) (g1 : ∀ k, k < a4n → I64 (a4a k)) (g2 : ∀ k, k < a4n → I64 (a4b k)) (g3 : ∀ k, k < a4n → I64 (a4c k)) (g4 : ∀ k, k < a4n → I64 (a4d k)) :
    P_lw_SolidBoxes a0a a0b a0c a0d a1a a1b a1c a1d a2a a2b a3 a4n a4a a4b a4c a4d ∧ F_lw_SolidBoxes_0 a0a a0b a0c a0d a1a a1b a1c a1d a2a a2b a3 a4n a4a a4b a4c a4d = true :=
  ⟨⟨⟨h1, h2, h3, h4⟩, ⟨h5, h6, h7, h8⟩, ⟨h9, h10, h11⟩, fun k hk => ⟨g1 k hk, g2 k hk, g3 k hk, g4 k hk⟩⟩, rfl⟩
theorem plain_lw_SolidJoins (a0a : Int) (a0b : Int) (a0c : Int) (a0d : Int) (a1a : Int) (a1b : Int) (a1c : Int) (a1d : Int) (a2a : Int) (a2b : Int) (a2c : Int) (a2d : Int) (a3 : Int) (a4 : Int) (wa0a : I64 a0a) (wa0b : I64 a0b) (wa0c : I64 a0c) (wa0d : I64 a0d) (wa1a : I64 a1a) (wa1b : I64 a1b) (wa1c : I64 a1c) (wa1d : I64 a1d) (wa2a : I64 a2a) (wa2b : I64 a2b) (wa2c : I64 a2c) (wa2d : I64 a2d) (wa3 : I64 a3) (wa4 : I64 a4) : P_lw_SolidJoins a0a a0b a0c a0d a1a a1b a1c a1d a2a a2b a2c a2d a3 a4 ∧ F_lw_SolidJoins_0 a0a a0b a0c a0d a1a a1b a1c a1d a2a a2b a2c a2d a3 a4 = true := ⟨trivial, rfl⟩
end
end Go.Ag

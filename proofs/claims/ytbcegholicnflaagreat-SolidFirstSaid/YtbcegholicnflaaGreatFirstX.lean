import Derived.Test.YtbcegholicnflaaGreatFirstP
set_option linter.unusedVariables false
set_option linter.unusedSimpArgs false
set_option maxRecDepth 100000
namespace Go.Ag
open Go.RowKit
noncomputable section
theorem ahf (n:Nat) (a b c d e g:Nat -> Int) (p q r s:Int) (h1 : ∀ j, j < n -> I64 (a j)) (h2 : ∀ j, j < n -> I64 (b j)) (h3 : ∀ j, j < n -> I64 (c j)) (h4 : ∀ j, j < n -> I64 (d j)) (h5 : ∀ j, j < n -> I64 (e j)) (h6 : ∀ j, j < n -> I64 (g j)) (h7 : I64 p) (h8 : I64 q) (h9 : I64 r) (h10 : I64 s) : alk n a b c d e g p q r s /\ Vk n a b c d e g p q r s = true := ⟨trivial, rfl⟩
end
end Go.Ag

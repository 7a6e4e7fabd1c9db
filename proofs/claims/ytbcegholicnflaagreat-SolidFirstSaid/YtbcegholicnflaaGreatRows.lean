/-
  No cell of these rows narrows 'for every input' (looked for: loops, veiled, ifaces, maps, wideKeys, modest, calm, conditions, laid).
  DERIVED. THE GIVEN ROWS OF THIS SEAT. 11 by the template 'for every input the law returns true; each argument reads behind the call as it read before'; 0 by the template 'total and deterministic' (their statements: YtbcegholicnflaaGreatTotals.lean).
  GIVEN WITH THE SEED: the statements are not yours to turn. If you find one false, say at which input.
  Laid BY PROGRAM, IN A SANDBOX (cutbox-rows.mjs): the forced cells as the released guide's own fill.sh prints them over the translation e91c2d86e68e7d67… (all of the seat's roots in one cut). By AI agents, Wed Nov 11 2026. No macro, syntax, notation, axiom, sorry.
-/
import Derived.Test.YtbcegholicnflaaGreatChecked
import GoSem.Claim
import GoSem.ClaimJoined
import GoSem.ClaimMapViews
import Derived.JoinedTies
import Derived.KernelRfl
namespace Go.Proofs.YtbcegholicnflaaGreat
/- THE CELL 'sum', in the pinned program and in every row, IS THE sha256 OF THE DUMP (.gsa) THAT YtbcegholicnflaaGreatProg.lean LOADS. Nothing in Lean hashes anything: it is a label: what it is worth is what the hold of that sum in a sandbox is worth. -/
noncomputable def Tryz.pinned : Pinned := { name := "ytbcegholicnflaagreat", sum := "e91c2d86e68e7d6747ab166edfc99a62fbb1a6e140fafc44676036d3e6179d3b", checked := Tryz.checked }
namespace Rows
def none {H : Type} : Left H := { results := [], args := [] }

/-- 'bagatelletop.TopPairs': WHATEVER THE INPUT: true; the input reads as it did. -/
def topPairsSpec : ChangeSpec := { name := "topPairs", fn := fun _ => fun
  | [d1, d2] => { results := [.lit (.bool true)], args := [d1, d2] }
  | _ => none }
def topPairsRow : OpenClaim := { program := "ytbcegholicnflaagreat", sum := "e91c2d86e68e7d6747ab166edfc99a62fbb1a6e140fafc44676036d3e6179d3b", func := "bagatelle/bagatelletop.TopPairs", spec := "topPairs", inPlace := ["math/bits.Add64", "math/bits.Sub64"], unfollowed := true, recurses := true, apart := false }
def TopPairsSaid : Prop := topPairsRow.holds Tryz.pinned (OpenSpec.ofChange topPairsSpec)

/-- ITS FALSE NEIGHBOUR: 'it returns false'. Refute it at one input. -/
def topPairsWrong : ChangeSpec := { name := "topPairs", fn := fun _ => fun
  | [d1, d2] => { results := [.lit (.bool false)], args := [d1, d2] }
  | _ => none }
def TopPairsWrongFalsely : Prop := topPairsRow.holds Tryz.pinned (OpenSpec.ofChange topPairsWrong)

/-- 'bagatellelaw03.SolidPlaces': WHATEVER THE INPUT: true; the input reads as it did. -/
def solidPlacesSpec : ChangeSpec := { name := "solidPlaces", fn := fun _ => fun
  | [d1, d2, d3] => { results := [.lit (.bool true)], args := [d1, d2, d3] }
  | _ => none }
def solidPlacesRow : OpenClaim := { program := "ytbcegholicnflaagreat", sum := "e91c2d86e68e7d6747ab166edfc99a62fbb1a6e140fafc44676036d3e6179d3b", func := "bagatelle/bagatellelaw03.SolidPlaces", spec := "solidPlaces", inPlace := ["math/bits.Add64", "math/bits.Sub64"], unfollowed := true, recurses := true, named := ["math/bits.divideError", "math/bits.overflowError"], apart := false }
def SolidPlacesSaid : Prop := solidPlacesRow.holds Tryz.pinned (OpenSpec.ofChange solidPlacesSpec)

/-- ITS FALSE NEIGHBOUR: 'it returns false'. Refute it at one input. -/
def solidPlacesWrong : ChangeSpec := { name := "solidPlaces", fn := fun _ => fun
  | [d1, d2, d3] => { results := [.lit (.bool false)], args := [d1, d2, d3] }
  | _ => none }
def SolidPlacesWrongFalsely : Prop := solidPlacesRow.holds Tryz.pinned (OpenSpec.ofChange solidPlacesWrong)

/-- 'bagatellelaw03.SolidCasts': WHATEVER THE INPUT: true; the input reads as it did. -/
def solidCastsSpec : ChangeSpec := { name := "solidCasts", fn := fun _ => fun
  | [d1, d2, d3] => { results := [.lit (.bool true)], args := [d1, d2, d3] }
  | _ => none }
def solidCastsRow : OpenClaim := { program := "ytbcegholicnflaagreat", sum := "e91c2d86e68e7d6747ab166edfc99a62fbb1a6e140fafc44676036d3e6179d3b", func := "bagatelle/bagatellelaw03.SolidCasts", spec := "solidCasts", inPlace := ["math/bits.Add64", "math/bits.Sub64"], unfollowed := true, recurses := true, apart := false }
def SolidCastsSaid : Prop := solidCastsRow.holds Tryz.pinned (OpenSpec.ofChange solidCastsSpec)

/-- ITS FALSE NEIGHBOUR: 'it returns false'. Refute it at one input. -/
def solidCastsWrong : ChangeSpec := { name := "solidCasts", fn := fun _ => fun
  | [d1, d2, d3] => { results := [.lit (.bool false)], args := [d1, d2, d3] }
  | _ => none }
def SolidCastsWrongFalsely : Prop := solidCastsRow.holds Tryz.pinned (OpenSpec.ofChange solidCastsWrong)

/-- 'bagatellelaw03.SolidPlaced': WHATEVER THE INPUT: true; the input reads as it did. -/
def solidPlacedSpec : ChangeSpec := { name := "solidPlaced", fn := fun _ => fun
  | [d] => { results := [.lit (.bool true)], args := [d] }
  | _ => none }
def solidPlacedRow : OpenClaim := { program := "ytbcegholicnflaagreat", sum := "e91c2d86e68e7d6747ab166edfc99a62fbb1a6e140fafc44676036d3e6179d3b", func := "bagatelle/bagatellelaw03.SolidPlaced", spec := "solidPlaced", inPlace := ["math/bits.Add64", "math/bits.Sub64"], unfollowed := true, recurses := true, named := ["math/bits.divideError", "math/bits.overflowError"], apart := false }
def SolidPlacedSaid : Prop := solidPlacedRow.holds Tryz.pinned (OpenSpec.ofChange solidPlacedSpec)

/-- ITS FALSE NEIGHBOUR: 'it returns false'. Refute it at one input. -/
def solidPlacedWrong : ChangeSpec := { name := "solidPlaced", fn := fun _ => fun
  | [d] => { results := [.lit (.bool false)], args := [d] }
  | _ => none }
def SolidPlacedWrongFalsely : Prop := solidPlacedRow.holds Tryz.pinned (OpenSpec.ofChange solidPlacedWrong)

/-- 'bagatellelaw03.SolidFirst': WHATEVER THE INPUT: true; the input reads as it did. -/
def solidFirstSpec : ChangeSpec := { name := "solidFirst", fn := fun _ => fun
  | [d1, d2, d3, d4, d5] => { results := [.lit (.bool true)], args := [d1, d2, d3, d4, d5] }
  | _ => none }
def solidFirstRow : OpenClaim := { program := "ytbcegholicnflaagreat", sum := "e91c2d86e68e7d6747ab166edfc99a62fbb1a6e140fafc44676036d3e6179d3b", func := "bagatelle/bagatellelaw03.SolidFirst", spec := "solidFirst", inPlace := ["math/bits.Add64", "math/bits.Sub64"], unfollowed := true, recurses := true, apart := false }
def SolidFirstSaid : Prop := solidFirstRow.holds Tryz.pinned (OpenSpec.ofChange solidFirstSpec)

/-- ITS FALSE NEIGHBOUR: 'it returns false'. Refute it at one input. -/
def solidFirstWrong : ChangeSpec := { name := "solidFirst", fn := fun _ => fun
  | [d1, d2, d3, d4, d5] => { results := [.lit (.bool false)], args := [d1, d2, d3, d4, d5] }
  | _ => none }
def SolidFirstWrongFalsely : Prop := solidFirstRow.holds Tryz.pinned (OpenSpec.ofChange solidFirstWrong)

/-- 'bagatellelaw03.SolidApart': WHATEVER THE INPUT: true; the input reads as it did. -/
def solidApartSpec : ChangeSpec := { name := "solidApart", fn := fun _ => fun
  | [d1, d2] => { results := [.lit (.bool true)], args := [d1, d2] }
  | _ => none }
def solidApartRow : OpenClaim := { program := "ytbcegholicnflaagreat", sum := "e91c2d86e68e7d6747ab166edfc99a62fbb1a6e140fafc44676036d3e6179d3b", func := "bagatelle/bagatellelaw03.SolidApart", spec := "solidApart", inPlace := ["math/bits.Add64", "math/bits.Sub64"], unfollowed := true, recurses := true, named := ["math/bits.divideError", "math/bits.overflowError"], apart := false }
def SolidApartSaid : Prop := solidApartRow.holds Tryz.pinned (OpenSpec.ofChange solidApartSpec)

/-- ITS FALSE NEIGHBOUR: 'it returns false'. Refute it at one input. -/
def solidApartWrong : ChangeSpec := { name := "solidApart", fn := fun _ => fun
  | [d1, d2] => { results := [.lit (.bool false)], args := [d1, d2] }
  | _ => none }
def SolidApartWrongFalsely : Prop := solidApartRow.holds Tryz.pinned (OpenSpec.ofChange solidApartWrong)

/-- 'bagatellelaw03.SolidWays': WHATEVER THE INPUT: true; the input reads as it did. -/
def solidWaysSpec : ChangeSpec := { name := "solidWays", fn := fun _ => fun
  | [d1, d2, d3, d4] => { results := [.lit (.bool true)], args := [d1, d2, d3, d4] }
  | _ => none }
def solidWaysRow : OpenClaim := { program := "ytbcegholicnflaagreat", sum := "e91c2d86e68e7d6747ab166edfc99a62fbb1a6e140fafc44676036d3e6179d3b", func := "bagatelle/bagatellelaw03.SolidWays", spec := "solidWays", inPlace := ["math/bits.Add64", "math/bits.Sub64"], unfollowed := true, recurses := true, apart := false }
def SolidWaysSaid : Prop := solidWaysRow.holds Tryz.pinned (OpenSpec.ofChange solidWaysSpec)

/-- ITS FALSE NEIGHBOUR: 'it returns false'. Refute it at one input. -/
def solidWaysWrong : ChangeSpec := { name := "solidWays", fn := fun _ => fun
  | [d1, d2, d3, d4] => { results := [.lit (.bool false)], args := [d1, d2, d3, d4] }
  | _ => none }
def SolidWaysWrongFalsely : Prop := solidWaysRow.holds Tryz.pinned (OpenSpec.ofChange solidWaysWrong)

/-- 'bagatellelaw03.SolidMeets': WHATEVER THE INPUT: true; the input reads as it did. -/
def solidMeetsSpec : ChangeSpec := { name := "solidMeets", fn := fun _ => fun
  | [d1, d2, d3, d4, d5] => { results := [.lit (.bool true)], args := [d1, d2, d3, d4, d5] }
  | _ => none }
def solidMeetsRow : OpenClaim := { program := "ytbcegholicnflaagreat", sum := "e91c2d86e68e7d6747ab166edfc99a62fbb1a6e140fafc44676036d3e6179d3b", func := "bagatelle/bagatellelaw03.SolidMeets", spec := "solidMeets", inPlace := ["math/bits.Add64", "math/bits.Sub64"], unfollowed := true, recurses := true, apart := false }
def SolidMeetsSaid : Prop := solidMeetsRow.holds Tryz.pinned (OpenSpec.ofChange solidMeetsSpec)

/-- ITS FALSE NEIGHBOUR: 'it returns false'. Refute it at one input. -/
def solidMeetsWrong : ChangeSpec := { name := "solidMeets", fn := fun _ => fun
  | [d1, d2, d3, d4, d5] => { results := [.lit (.bool false)], args := [d1, d2, d3, d4, d5] }
  | _ => none }
def SolidMeetsWrongFalsely : Prop := solidMeetsRow.holds Tryz.pinned (OpenSpec.ofChange solidMeetsWrong)

/-- 'bagatellelaw03.SolidClips': WHATEVER THE INPUT: true; the input reads as it did. -/
def solidClipsSpec : ChangeSpec := { name := "solidClips", fn := fun _ => fun
  | [d1, d2] => { results := [.lit (.bool true)], args := [d1, d2] }
  | _ => none }
def solidClipsRow : OpenClaim := { program := "ytbcegholicnflaagreat", sum := "e91c2d86e68e7d6747ab166edfc99a62fbb1a6e140fafc44676036d3e6179d3b", func := "bagatelle/bagatellelaw03.SolidClips", spec := "solidClips", inPlace := ["math/bits.Add64", "math/bits.Sub64"], unfollowed := true, recurses := true, named := ["math/bits.divideError", "math/bits.overflowError"], apart := false }
def SolidClipsSaid : Prop := solidClipsRow.holds Tryz.pinned (OpenSpec.ofChange solidClipsSpec)

/-- ITS FALSE NEIGHBOUR: 'it returns false'. Refute it at one input. -/
def solidClipsWrong : ChangeSpec := { name := "solidClips", fn := fun _ => fun
  | [d1, d2] => { results := [.lit (.bool false)], args := [d1, d2] }
  | _ => none }
def SolidClipsWrongFalsely : Prop := solidClipsRow.holds Tryz.pinned (OpenSpec.ofChange solidClipsWrong)

/-- 'bagatellelaw03.SolidTouches': WHATEVER THE INPUT: true; the input reads as it did. -/
def solidTouchesSpec : ChangeSpec := { name := "solidTouches", fn := fun _ => fun
  | [d1, d2] => { results := [.lit (.bool true)], args := [d1, d2] }
  | _ => none }
def solidTouchesRow : OpenClaim := { program := "ytbcegholicnflaagreat", sum := "e91c2d86e68e7d6747ab166edfc99a62fbb1a6e140fafc44676036d3e6179d3b", func := "bagatelle/bagatellelaw03.SolidTouches", spec := "solidTouches", inPlace := ["math/bits.Add64", "math/bits.Sub64"], unfollowed := true, recurses := true, named := ["math/bits.divideError", "math/bits.overflowError"], apart := false }
def SolidTouchesSaid : Prop := solidTouchesRow.holds Tryz.pinned (OpenSpec.ofChange solidTouchesSpec)

/-- ITS FALSE NEIGHBOUR: 'it returns false'. Refute it at one input. -/
def solidTouchesWrong : ChangeSpec := { name := "solidTouches", fn := fun _ => fun
  | [d1, d2] => { results := [.lit (.bool false)], args := [d1, d2] }
  | _ => none }
def SolidTouchesWrongFalsely : Prop := solidTouchesRow.holds Tryz.pinned (OpenSpec.ofChange solidTouchesWrong)

/-- 'bagatellelaw03.SolidKnown': WHATEVER THE INPUT: true; the input reads as it did. -/
def solidKnownSpec : ChangeSpec := { name := "solidKnown", fn := fun _ => fun
  | [] => { results := [.lit (.bool true)], args := [] }
  | _ => none }
def solidKnownRow : OpenClaim := { program := "ytbcegholicnflaagreat", sum := "e91c2d86e68e7d6747ab166edfc99a62fbb1a6e140fafc44676036d3e6179d3b", func := "bagatelle/bagatellelaw03.SolidKnown", spec := "solidKnown", inPlace := ["math/bits.Add64", "math/bits.Sub64"], unfollowed := true, recurses := true, named := ["math/bits.divideError", "math/bits.overflowError"], apart := false }
def SolidKnownSaid : Prop := solidKnownRow.holds Tryz.pinned (OpenSpec.ofChange solidKnownSpec)

/-- ITS FALSE NEIGHBOUR: 'it returns false'. Refute it at one input. -/
def solidKnownWrong : ChangeSpec := { name := "solidKnown", fn := fun _ => fun
  | [] => { results := [.lit (.bool false)], args := [] }
  | _ => none }
def SolidKnownWrongFalsely : Prop := solidKnownRow.holds Tryz.pinned (OpenSpec.ofChange solidKnownWrong)

/- THE SECOND FORM. 'bulk': how many values and letters a reading holds, each counted each time it is reached (what is shared counts as often as it is met; a slice's spare places count too). A statement '..UptoSaid' is the law's where the arguments, and the package variables that the reading takes, are together of bulk at most 1048576: NARROWER than '..Said'. Prove '..Said' where nothing that the law and all that it calls make is longer than what came in: it says more and counts as full. Else prove '..UptoSaid'. A law counts once. -/
mutual
def uptoBulk {H : Type} : DataW H → Nat
  | .lit (.string bytes) => bytes.length + 1
  | .lit _ => 1
  | .nil => 1
  | .ptr d => uptoBulk d + 1
  | .slice elems spare => uptoBulkAll elems + uptoBulkAll spare + 1
  | .agg parts => uptoBulkAll parts + 1
  | .iface _ d => uptoBulk d + 1
  | .map entries => uptoBulkEntries entries + 1
  | .held _ => 1
def uptoBulkAll {H : Type} : List (DataW H) → Nat
  | [] => 0
  | d :: r => uptoBulk d + uptoBulkAll r
def uptoBulkEntries {H : Type} : List (Lit × DataW H) → Nat
  | [] => 0
  | x :: r => uptoBulkEntry x + uptoBulkEntries r
def uptoBulkEntry {H : Type} : Lit × DataW H → Nat
  | (.string bytes, d) => bytes.length + uptoBulk d + 1
  | (_, d) => uptoBulk d + 1
 end
def uptoSmall : (H : Type) → List (DataW H) → Bool := fun _ ds => decide (uptoBulkAll ds ≤ 1048576)
def OpenSpec.upto (s : _root_.Go.ChangeSpec) : _root_.Go.OpenSpec := { _root_.Go.OpenSpec.ofChange s with cond := some uptoSmall }

/-- 'bagatelletop.TopPairs', WHERE WHAT IT READS IS OF BULK AT MOST 1048576: true; the input reads as it did. -/
def topPairsUptoRow : OpenClaim := { program := "ytbcegholicnflaagreat", sum := "e91c2d86e68e7d6747ab166edfc99a62fbb1a6e140fafc44676036d3e6179d3b", func := "bagatelle/bagatelletop.TopPairs", spec := "topPairs", inPlace := ["math/bits.Add64", "math/bits.Sub64"], unfollowed := true, recurses := true, apart := false, narrowed := true }
def TopPairsUptoSaid : Prop := topPairsUptoRow.holds Tryz.pinned (OpenSpec.upto topPairsSpec)

/-- 'bagatellelaw03.SolidPlaces', WHERE WHAT IT READS IS OF BULK AT MOST 1048576: true; the input reads as it did. -/
def solidPlacesUptoRow : OpenClaim := { program := "ytbcegholicnflaagreat", sum := "e91c2d86e68e7d6747ab166edfc99a62fbb1a6e140fafc44676036d3e6179d3b", func := "bagatelle/bagatellelaw03.SolidPlaces", spec := "solidPlaces", inPlace := ["math/bits.Add64", "math/bits.Sub64"], unfollowed := true, recurses := true, named := ["math/bits.divideError", "math/bits.overflowError"], apart := false, narrowed := true }
def SolidPlacesUptoSaid : Prop := solidPlacesUptoRow.holds Tryz.pinned (OpenSpec.upto solidPlacesSpec)

/-- 'bagatellelaw03.SolidCasts', WHERE WHAT IT READS IS OF BULK AT MOST 1048576: true; the input reads as it did. -/
def solidCastsUptoRow : OpenClaim := { program := "ytbcegholicnflaagreat", sum := "e91c2d86e68e7d6747ab166edfc99a62fbb1a6e140fafc44676036d3e6179d3b", func := "bagatelle/bagatellelaw03.SolidCasts", spec := "solidCasts", inPlace := ["math/bits.Add64", "math/bits.Sub64"], unfollowed := true, recurses := true, apart := false, narrowed := true }
def SolidCastsUptoSaid : Prop := solidCastsUptoRow.holds Tryz.pinned (OpenSpec.upto solidCastsSpec)

/-- 'bagatellelaw03.SolidPlaced', WHERE WHAT IT READS IS OF BULK AT MOST 1048576: true; the input reads as it did. -/
def solidPlacedUptoRow : OpenClaim := { program := "ytbcegholicnflaagreat", sum := "e91c2d86e68e7d6747ab166edfc99a62fbb1a6e140fafc44676036d3e6179d3b", func := "bagatelle/bagatellelaw03.SolidPlaced", spec := "solidPlaced", inPlace := ["math/bits.Add64", "math/bits.Sub64"], unfollowed := true, recurses := true, named := ["math/bits.divideError", "math/bits.overflowError"], apart := false, narrowed := true }
def SolidPlacedUptoSaid : Prop := solidPlacedUptoRow.holds Tryz.pinned (OpenSpec.upto solidPlacedSpec)

/-- 'bagatellelaw03.SolidFirst', WHERE WHAT IT READS IS OF BULK AT MOST 1048576: true; the input reads as it did. -/
def solidFirstUptoRow : OpenClaim := { program := "ytbcegholicnflaagreat", sum := "e91c2d86e68e7d6747ab166edfc99a62fbb1a6e140fafc44676036d3e6179d3b", func := "bagatelle/bagatellelaw03.SolidFirst", spec := "solidFirst", inPlace := ["math/bits.Add64", "math/bits.Sub64"], unfollowed := true, recurses := true, apart := false, narrowed := true }
def SolidFirstUptoSaid : Prop := solidFirstUptoRow.holds Tryz.pinned (OpenSpec.upto solidFirstSpec)

/-- 'bagatellelaw03.SolidApart', WHERE WHAT IT READS IS OF BULK AT MOST 1048576: true; the input reads as it did. -/
def solidApartUptoRow : OpenClaim := { program := "ytbcegholicnflaagreat", sum := "e91c2d86e68e7d6747ab166edfc99a62fbb1a6e140fafc44676036d3e6179d3b", func := "bagatelle/bagatellelaw03.SolidApart", spec := "solidApart", inPlace := ["math/bits.Add64", "math/bits.Sub64"], unfollowed := true, recurses := true, named := ["math/bits.divideError", "math/bits.overflowError"], apart := false, narrowed := true }
def SolidApartUptoSaid : Prop := solidApartUptoRow.holds Tryz.pinned (OpenSpec.upto solidApartSpec)

/-- 'bagatellelaw03.SolidWays', WHERE WHAT IT READS IS OF BULK AT MOST 1048576: true; the input reads as it did. -/
def solidWaysUptoRow : OpenClaim := { program := "ytbcegholicnflaagreat", sum := "e91c2d86e68e7d6747ab166edfc99a62fbb1a6e140fafc44676036d3e6179d3b", func := "bagatelle/bagatellelaw03.SolidWays", spec := "solidWays", inPlace := ["math/bits.Add64", "math/bits.Sub64"], unfollowed := true, recurses := true, apart := false, narrowed := true }
def SolidWaysUptoSaid : Prop := solidWaysUptoRow.holds Tryz.pinned (OpenSpec.upto solidWaysSpec)

/-- 'bagatellelaw03.SolidMeets', WHERE WHAT IT READS IS OF BULK AT MOST 1048576: true; the input reads as it did. -/
def solidMeetsUptoRow : OpenClaim := { program := "ytbcegholicnflaagreat", sum := "e91c2d86e68e7d6747ab166edfc99a62fbb1a6e140fafc44676036d3e6179d3b", func := "bagatelle/bagatellelaw03.SolidMeets", spec := "solidMeets", inPlace := ["math/bits.Add64", "math/bits.Sub64"], unfollowed := true, recurses := true, apart := false, narrowed := true }
def SolidMeetsUptoSaid : Prop := solidMeetsUptoRow.holds Tryz.pinned (OpenSpec.upto solidMeetsSpec)

/-- 'bagatellelaw03.SolidClips', WHERE WHAT IT READS IS OF BULK AT MOST 1048576: true; the input reads as it did. -/
def solidClipsUptoRow : OpenClaim := { program := "ytbcegholicnflaagreat", sum := "e91c2d86e68e7d6747ab166edfc99a62fbb1a6e140fafc44676036d3e6179d3b", func := "bagatelle/bagatellelaw03.SolidClips", spec := "solidClips", inPlace := ["math/bits.Add64", "math/bits.Sub64"], unfollowed := true, recurses := true, named := ["math/bits.divideError", "math/bits.overflowError"], apart := false, narrowed := true }
def SolidClipsUptoSaid : Prop := solidClipsUptoRow.holds Tryz.pinned (OpenSpec.upto solidClipsSpec)

/-- 'bagatellelaw03.SolidTouches', WHERE WHAT IT READS IS OF BULK AT MOST 1048576: true; the input reads as it did. -/
def solidTouchesUptoRow : OpenClaim := { program := "ytbcegholicnflaagreat", sum := "e91c2d86e68e7d6747ab166edfc99a62fbb1a6e140fafc44676036d3e6179d3b", func := "bagatelle/bagatellelaw03.SolidTouches", spec := "solidTouches", inPlace := ["math/bits.Add64", "math/bits.Sub64"], unfollowed := true, recurses := true, named := ["math/bits.divideError", "math/bits.overflowError"], apart := false, narrowed := true }
def SolidTouchesUptoSaid : Prop := solidTouchesUptoRow.holds Tryz.pinned (OpenSpec.upto solidTouchesSpec)

/-- 'bagatellelaw03.SolidKnown', WHERE WHAT IT READS IS OF BULK AT MOST 1048576: true; the input reads as it did. -/
def solidKnownUptoRow : OpenClaim := { program := "ytbcegholicnflaagreat", sum := "e91c2d86e68e7d6747ab166edfc99a62fbb1a6e140fafc44676036d3e6179d3b", func := "bagatelle/bagatellelaw03.SolidKnown", spec := "solidKnown", inPlace := ["math/bits.Add64", "math/bits.Sub64"], unfollowed := true, recurses := true, named := ["math/bits.divideError", "math/bits.overflowError"], apart := false, narrowed := true }
def SolidKnownUptoSaid : Prop := solidKnownUptoRow.holds Tryz.pinned (OpenSpec.upto solidKnownSpec)

end Rows
end Go.Proofs.YtbcegholicnflaaGreat

/-
  No cell of these rows narrows 'for every input' (looked for: loops, veiled, ifaces, maps, wideKeys, modest, calm, conditions, laid).
  DERIVED. THE GIVEN ROWS OF THIS SEAT. 13 by the template 'for every input the law returns true; each argument reads behind the call as it read before'; 0 by the template 'total and deterministic' (their statements: YtjgolcbpgmlilaaTotals.lean).
  GIVEN WITH THE SEED: the statements are not yours to turn. If you find one false, say at which input.
  Laid BY PROGRAM, IN A SANDBOX (cutbox-rows.mjs): the forced cells as the released guide's own fill.sh prints them over the translation e5c17281485ed8de… (all of the seat's roots in one cut). By AI agents, Wed Nov 11 2026. No macro, syntax, notation, axiom, sorry.
-/
import Derived.Test.YtjgolcbpgmlilaaChecked
import GoSem.Claim
import GoSem.ClaimJoined
import GoSem.ClaimMapViews
import Derived.JoinedTies
import Derived.KernelRfl
namespace Go.Proofs.Ytjgolcbpgmlilaa
/- THE CELL 'sum', in the pinned program and in every row, IS THE sha256 OF THE DUMP (.gsa) THAT YtjgolcbpgmlilaaProg.lean LOADS. Nothing in Lean hashes anything: it is a label: what it is worth is what the hold of that sum in a sandbox is worth. -/
noncomputable def Try.pinned : Pinned := { name := "ytjgolcbpgmlilaa", sum := "e5c17281485ed8de67860642e566fd0095f6c45bfefdfebbab7abf8da2c647a9", checked := Try.checked }
namespace Rows
def none {H : Type} : Left H := { results := [], args := [] }

/-- 'bitepointlaw12.QueueOrders': WHATEVER THE INPUT: true; the input reads as it did. -/
def queueOrdersSpec : ChangeSpec := { name := "queueOrders", fn := fun _ => fun
  | [d1, d2] => { results := [.lit (.bool true)], args := [d1, d2] }
  | _ => none }
def queueOrdersRow : OpenClaim := { program := "ytjgolcbpgmlilaa", sum := "e5c17281485ed8de67860642e566fd0095f6c45bfefdfebbab7abf8da2c647a9", func := "bitepoint/bitepointlaw12.QueueOrders", spec := "queueOrders", inPlace := ["slices.overlaps[int]"], unfollowed := true, recurses := true, plainKeys := false, apart := false }
def QueueOrdersSaid : Prop := queueOrdersRow.holds Try.pinned (OpenSpec.ofChange queueOrdersSpec)

/-- ITS FALSE NEIGHBOUR: 'it returns false'. Refute it at one input. -/
def queueOrdersWrong : ChangeSpec := { name := "queueOrders", fn := fun _ => fun
  | [d1, d2] => { results := [.lit (.bool false)], args := [d1, d2] }
  | _ => none }
def QueueOrdersWrongFalsely : Prop := queueOrdersRow.holds Try.pinned (OpenSpec.ofChange queueOrdersWrong)

/-- 'bitepointlaw12.QueueGives': WHATEVER THE INPUT: true; the input reads as it did. -/
def queueGivesSpec : ChangeSpec := { name := "queueGives", fn := fun _ => fun
  | [d] => { results := [.lit (.bool true)], args := [d] }
  | _ => none }
def queueGivesRow : OpenClaim := { program := "ytjgolcbpgmlilaa", sum := "e5c17281485ed8de67860642e566fd0095f6c45bfefdfebbab7abf8da2c647a9", func := "bitepoint/bitepointlaw12.QueueGives", spec := "queueGives", inPlace := ["slices.overlaps[int]"], unfollowed := true, recurses := true, plainKeys := false, apart := false }
def QueueGivesSaid : Prop := queueGivesRow.holds Try.pinned (OpenSpec.ofChange queueGivesSpec)

/-- ITS FALSE NEIGHBOUR: 'it returns false'. Refute it at one input. -/
def queueGivesWrong : ChangeSpec := { name := "queueGives", fn := fun _ => fun
  | [d] => { results := [.lit (.bool false)], args := [d] }
  | _ => none }
def QueueGivesWrongFalsely : Prop := queueGivesRow.holds Try.pinned (OpenSpec.ofChange queueGivesWrong)

/-- 'bitepointlaw12.QueueAccepts': WHATEVER THE INPUT: true; the input reads as it did. -/
def queueAcceptsSpec : ChangeSpec := { name := "queueAccepts", fn := fun _ => fun
  | [d1, d2] => { results := [.lit (.bool true)], args := [d1, d2] }
  | _ => none }
def queueAcceptsRow : OpenClaim := { program := "ytjgolcbpgmlilaa", sum := "e5c17281485ed8de67860642e566fd0095f6c45bfefdfebbab7abf8da2c647a9", func := "bitepoint/bitepointlaw12.QueueAccepts", spec := "queueAccepts", inPlace := ["slices.overlaps[int]"], unfollowed := true, recurses := true, plainKeys := false, apart := false }
def QueueAcceptsSaid : Prop := queueAcceptsRow.holds Try.pinned (OpenSpec.ofChange queueAcceptsSpec)

/-- ITS FALSE NEIGHBOUR: 'it returns false'. Refute it at one input. -/
def queueAcceptsWrong : ChangeSpec := { name := "queueAccepts", fn := fun _ => fun
  | [d1, d2] => { results := [.lit (.bool false)], args := [d1, d2] }
  | _ => none }
def QueueAcceptsWrongFalsely : Prop := queueAcceptsRow.holds Try.pinned (OpenSpec.ofChange queueAcceptsWrong)

/-- 'bitepointlaw12.QueueMoves': WHATEVER THE INPUT: true; the input reads as it did. -/
def queueMovesSpec : ChangeSpec := { name := "queueMoves", fn := fun _ => fun
  | [d1, d2] => { results := [.lit (.bool true)], args := [d1, d2] }
  | _ => none }
def queueMovesRow : OpenClaim := { program := "ytjgolcbpgmlilaa", sum := "e5c17281485ed8de67860642e566fd0095f6c45bfefdfebbab7abf8da2c647a9", func := "bitepoint/bitepointlaw12.QueueMoves", spec := "queueMoves", inPlace := ["slices.overlaps[int]"], unfollowed := true, recurses := true, plainKeys := false, apart := false }
def QueueMovesSaid : Prop := queueMovesRow.holds Try.pinned (OpenSpec.ofChange queueMovesSpec)

/-- ITS FALSE NEIGHBOUR: 'it returns false'. Refute it at one input. -/
def queueMovesWrong : ChangeSpec := { name := "queueMoves", fn := fun _ => fun
  | [d1, d2] => { results := [.lit (.bool false)], args := [d1, d2] }
  | _ => none }
def QueueMovesWrongFalsely : Prop := queueMovesRow.holds Try.pinned (OpenSpec.ofChange queueMovesWrong)

/-- 'bitepointlaw12.QueueKnown': WHATEVER THE INPUT: true; the input reads as it did. -/
def queueKnownSpec : ChangeSpec := { name := "queueKnown", fn := fun _ => fun
  | [] => { results := [.lit (.bool true)], args := [] }
  | _ => none }
def queueKnownRow : OpenClaim := { program := "ytjgolcbpgmlilaa", sum := "e5c17281485ed8de67860642e566fd0095f6c45bfefdfebbab7abf8da2c647a9", func := "bitepoint/bitepointlaw12.QueueKnown", spec := "queueKnown", inPlace := ["slices.overlaps[int]"], unfollowed := true, recurses := true, plainKeys := false, apart := false }
def QueueKnownSaid : Prop := queueKnownRow.holds Try.pinned (OpenSpec.ofChange queueKnownSpec)

/-- ITS FALSE NEIGHBOUR: 'it returns false'. Refute it at one input. -/
def queueKnownWrong : ChangeSpec := { name := "queueKnown", fn := fun _ => fun
  | [] => { results := [.lit (.bool false)], args := [] }
  | _ => none }
def QueueKnownWrongFalsely : Prop := queueKnownRow.holds Try.pinned (OpenSpec.ofChange queueKnownWrong)

/-- 'bitepointlaw12.QueueFair': WHATEVER THE INPUT: true; the input reads as it did. -/
def queueFairSpec : ChangeSpec := { name := "queueFair", fn := fun _ => fun
  | [d] => { results := [.lit (.bool true)], args := [d] }
  | _ => none }
def queueFairRow : OpenClaim := { program := "ytjgolcbpgmlilaa", sum := "e5c17281485ed8de67860642e566fd0095f6c45bfefdfebbab7abf8da2c647a9", func := "bitepoint/bitepointlaw12.QueueFair", spec := "queueFair", inPlace := ["slices.overlaps[int]"], unfollowed := true, recurses := true, plainKeys := false, apart := false }
def QueueFairSaid : Prop := queueFairRow.holds Try.pinned (OpenSpec.ofChange queueFairSpec)

/-- ITS FALSE NEIGHBOUR: 'it returns false'. Refute it at one input. -/
def queueFairWrong : ChangeSpec := { name := "queueFair", fn := fun _ => fun
  | [d] => { results := [.lit (.bool false)], args := [d] }
  | _ => none }
def QueueFairWrongFalsely : Prop := queueFairRow.holds Try.pinned (OpenSpec.ofChange queueFairWrong)

/-- 'bitepointlaw12.QueueBest': WHATEVER THE INPUT: true; the input reads as it did. -/
def queueBestSpec : ChangeSpec := { name := "queueBest", fn := fun _ => fun
  | [d1, d2] => { results := [.lit (.bool true)], args := [d1, d2] }
  | _ => none }
def queueBestRow : OpenClaim := { program := "ytjgolcbpgmlilaa", sum := "e5c17281485ed8de67860642e566fd0095f6c45bfefdfebbab7abf8da2c647a9", func := "bitepoint/bitepointlaw12.QueueBest", spec := "queueBest", inPlace := ["slices.overlaps[int]"], unfollowed := true, recurses := true, plainKeys := false, apart := false }
def QueueBestSaid : Prop := queueBestRow.holds Try.pinned (OpenSpec.ofChange queueBestSpec)

/-- ITS FALSE NEIGHBOUR: 'it returns false'. Refute it at one input. -/
def queueBestWrong : ChangeSpec := { name := "queueBest", fn := fun _ => fun
  | [d1, d2] => { results := [.lit (.bool false)], args := [d1, d2] }
  | _ => none }
def QueueBestWrongFalsely : Prop := queueBestRow.holds Try.pinned (OpenSpec.ofChange queueBestWrong)

/-- 'bitepointlaw12.QueueGains': WHATEVER THE INPUT: true; the input reads as it did. -/
def queueGainsSpec : ChangeSpec := { name := "queueGains", fn := fun _ => fun
  | [d1, d2, d3] => { results := [.lit (.bool true)], args := [d1, d2, d3] }
  | _ => none }
def queueGainsRow : OpenClaim := { program := "ytjgolcbpgmlilaa", sum := "e5c17281485ed8de67860642e566fd0095f6c45bfefdfebbab7abf8da2c647a9", func := "bitepoint/bitepointlaw12.QueueGains", spec := "queueGains", inPlace := ["slices.overlaps[int]"], unfollowed := true, recurses := true, plainKeys := false, apart := false }
def QueueGainsSaid : Prop := queueGainsRow.holds Try.pinned (OpenSpec.ofChange queueGainsSpec)

/-- ITS FALSE NEIGHBOUR: 'it returns false'. Refute it at one input. -/
def queueGainsWrong : ChangeSpec := { name := "queueGains", fn := fun _ => fun
  | [d1, d2, d3] => { results := [.lit (.bool false)], args := [d1, d2, d3] }
  | _ => none }
def QueueGainsWrongFalsely : Prop := queueGainsRow.holds Try.pinned (OpenSpec.ofChange queueGainsWrong)

/-- 'bitepointlaw12.QueuePrinted': WHATEVER THE INPUT: true; the input reads as it did. -/
def queuePrintedSpec : ChangeSpec := { name := "queuePrinted", fn := fun _ => fun
  | [d] => { results := [.lit (.bool true)], args := [d] }
  | _ => none }
def queuePrintedRow : OpenClaim := { program := "ytjgolcbpgmlilaa", sum := "e5c17281485ed8de67860642e566fd0095f6c45bfefdfebbab7abf8da2c647a9", func := "bitepoint/bitepointlaw12.QueuePrinted", spec := "queuePrinted", inPlace := ["slices.overlaps[int]"], unfollowed := true, recurses := true, plainKeys := false, apart := false }
def QueuePrintedSaid : Prop := queuePrintedRow.holds Try.pinned (OpenSpec.ofChange queuePrintedSpec)

/-- ITS FALSE NEIGHBOUR: 'it returns false'. Refute it at one input. -/
def queuePrintedWrong : ChangeSpec := { name := "queuePrinted", fn := fun _ => fun
  | [d] => { results := [.lit (.bool false)], args := [d] }
  | _ => none }
def QueuePrintedWrongFalsely : Prop := queuePrintedRow.holds Try.pinned (OpenSpec.ofChange queuePrintedWrong)

/-- 'bitepointlaw12.QueueLeaves': WHATEVER THE INPUT: true; the input reads as it did. -/
def queueLeavesSpec : ChangeSpec := { name := "queueLeaves", fn := fun _ => fun
  | [d1, d2] => { results := [.lit (.bool true)], args := [d1, d2] }
  | _ => none }
def queueLeavesRow : OpenClaim := { program := "ytjgolcbpgmlilaa", sum := "e5c17281485ed8de67860642e566fd0095f6c45bfefdfebbab7abf8da2c647a9", func := "bitepoint/bitepointlaw12.QueueLeaves", spec := "queueLeaves", inPlace := ["slices.overlaps[int]"], unfollowed := true, recurses := true, plainKeys := false, apart := false }
def QueueLeavesSaid : Prop := queueLeavesRow.holds Try.pinned (OpenSpec.ofChange queueLeavesSpec)

/-- ITS FALSE NEIGHBOUR: 'it returns false'. Refute it at one input. -/
def queueLeavesWrong : ChangeSpec := { name := "queueLeaves", fn := fun _ => fun
  | [d1, d2] => { results := [.lit (.bool false)], args := [d1, d2] }
  | _ => none }
def QueueLeavesWrongFalsely : Prop := queueLeavesRow.holds Try.pinned (OpenSpec.ofChange queueLeavesWrong)

/-- 'bitepointlaw12.QueuePlaces': WHATEVER THE INPUT: true; the input reads as it did. -/
def queuePlacesSpec : ChangeSpec := { name := "queuePlaces", fn := fun _ => fun
  | [d1, d2] => { results := [.lit (.bool true)], args := [d1, d2] }
  | _ => none }
def queuePlacesRow : OpenClaim := { program := "ytjgolcbpgmlilaa", sum := "e5c17281485ed8de67860642e566fd0095f6c45bfefdfebbab7abf8da2c647a9", func := "bitepoint/bitepointlaw12.QueuePlaces", spec := "queuePlaces", inPlace := ["slices.overlaps[int]"], unfollowed := true, recurses := true, plainKeys := false, apart := false }
def QueuePlacesSaid : Prop := queuePlacesRow.holds Try.pinned (OpenSpec.ofChange queuePlacesSpec)

/-- ITS FALSE NEIGHBOUR: 'it returns false'. Refute it at one input. -/
def queuePlacesWrong : ChangeSpec := { name := "queuePlaces", fn := fun _ => fun
  | [d1, d2] => { results := [.lit (.bool false)], args := [d1, d2] }
  | _ => none }
def QueuePlacesWrongFalsely : Prop := queuePlacesRow.holds Try.pinned (OpenSpec.ofChange queuePlacesWrong)

/-- 'bitepointlaw12.QueueTurned': WHATEVER THE INPUT: true; the input reads as it did. -/
def queueTurnedSpec : ChangeSpec := { name := "queueTurned", fn := fun _ => fun
  | [d1, d2] => { results := [.lit (.bool true)], args := [d1, d2] }
  | _ => none }
def queueTurnedRow : OpenClaim := { program := "ytjgolcbpgmlilaa", sum := "e5c17281485ed8de67860642e566fd0095f6c45bfefdfebbab7abf8da2c647a9", func := "bitepoint/bitepointlaw12.QueueTurned", spec := "queueTurned", inPlace := ["slices.overlaps[int]"], unfollowed := true, recurses := true, plainKeys := false, apart := false }
def QueueTurnedSaid : Prop := queueTurnedRow.holds Try.pinned (OpenSpec.ofChange queueTurnedSpec)

/-- ITS FALSE NEIGHBOUR: 'it returns false'. Refute it at one input. -/
def queueTurnedWrong : ChangeSpec := { name := "queueTurned", fn := fun _ => fun
  | [d1, d2] => { results := [.lit (.bool false)], args := [d1, d2] }
  | _ => none }
def QueueTurnedWrongFalsely : Prop := queueTurnedRow.holds Try.pinned (OpenSpec.ofChange queueTurnedWrong)

/-- 'bitepointlaw12.QueueFewer': WHATEVER THE INPUT: true; the input reads as it did. -/
def queueFewerSpec : ChangeSpec := { name := "queueFewer", fn := fun _ => fun
  | [d1, d2] => { results := [.lit (.bool true)], args := [d1, d2] }
  | _ => none }
def queueFewerRow : OpenClaim := { program := "ytjgolcbpgmlilaa", sum := "e5c17281485ed8de67860642e566fd0095f6c45bfefdfebbab7abf8da2c647a9", func := "bitepoint/bitepointlaw12.QueueFewer", spec := "queueFewer", inPlace := ["slices.overlaps[int]"], unfollowed := true, recurses := true, plainKeys := false, apart := false }
def QueueFewerSaid : Prop := queueFewerRow.holds Try.pinned (OpenSpec.ofChange queueFewerSpec)

/-- ITS FALSE NEIGHBOUR: 'it returns false'. Refute it at one input. -/
def queueFewerWrong : ChangeSpec := { name := "queueFewer", fn := fun _ => fun
  | [d1, d2] => { results := [.lit (.bool false)], args := [d1, d2] }
  | _ => none }
def QueueFewerWrongFalsely : Prop := queueFewerRow.holds Try.pinned (OpenSpec.ofChange queueFewerWrong)

/- THE SECOND FORM. 'bulk': how many values and letters a reading holds, each counted each time it is reached (what is shared counts as often as it is met; a slice's spare places count too). A statement '..UptoSaid' is the law's where the arguments, and the package variables that the reading takes, are together of bulk at most 1048576: NARROWER than '..Said'. Prove '..Said' where nothing that the law and all that it calls make is longer than what came in: it says more and counts as full. Else prove '..UptoSaid'. A law counts once. -/
mutual
def uptoBulk {H : Type} : DataW H → Nat
  | .lit (.string bytes) => bytes.length + 1
  | .lit _ => 1
  | .nil => 1
  | .ptr d => uptoBulk d + 1
  | .slice elems spare => uptoBulkAll elems + uptoBulkAll spare + 1
  | .agg parts => uptoBulkAll parts + 1
  | .iface _ d => uptoBulk d + 1
  | .map entries => uptoBulkEntries entries + 1
  | .held _ => 1
def uptoBulkAll {H : Type} : List (DataW H) → Nat
  | [] => 0
  | d :: r => uptoBulk d + uptoBulkAll r
def uptoBulkEntries {H : Type} : List (Lit × DataW H) → Nat
  | [] => 0
  | x :: r => uptoBulkEntry x + uptoBulkEntries r
def uptoBulkEntry {H : Type} : Lit × DataW H → Nat
  | (.string bytes, d) => bytes.length + uptoBulk d + 1
  | (_, d) => uptoBulk d + 1
 end
def uptoSmall : (H : Type) → List (DataW H) → Bool := fun _ ds => decide (uptoBulkAll ds ≤ 1048576)
def OpenSpec.upto (s : _root_.Go.ChangeSpec) : _root_.Go.OpenSpec := { _root_.Go.OpenSpec.ofChange s with cond := some uptoSmall }

/-- 'bitepointlaw12.QueueOrders', WHERE WHAT IT READS IS OF BULK AT MOST 1048576: true; the input reads as it did. -/
def queueOrdersUptoRow : OpenClaim := { program := "ytjgolcbpgmlilaa", sum := "e5c17281485ed8de67860642e566fd0095f6c45bfefdfebbab7abf8da2c647a9", func := "bitepoint/bitepointlaw12.QueueOrders", spec := "queueOrders", inPlace := ["slices.overlaps[int]"], unfollowed := true, recurses := true, plainKeys := false, apart := false, narrowed := true }
def QueueOrdersUptoSaid : Prop := queueOrdersUptoRow.holds Try.pinned (OpenSpec.upto queueOrdersSpec)

/-- 'bitepointlaw12.QueueGives', WHERE WHAT IT READS IS OF BULK AT MOST 1048576: true; the input reads as it did. -/
def queueGivesUptoRow : OpenClaim := { program := "ytjgolcbpgmlilaa", sum := "e5c17281485ed8de67860642e566fd0095f6c45bfefdfebbab7abf8da2c647a9", func := "bitepoint/bitepointlaw12.QueueGives", spec := "queueGives", inPlace := ["slices.overlaps[int]"], unfollowed := true, recurses := true, plainKeys := false, apart := false, narrowed := true }
def QueueGivesUptoSaid : Prop := queueGivesUptoRow.holds Try.pinned (OpenSpec.upto queueGivesSpec)

/-- 'bitepointlaw12.QueueAccepts', WHERE WHAT IT READS IS OF BULK AT MOST 1048576: true; the input reads as it did. -/
def queueAcceptsUptoRow : OpenClaim := { program := "ytjgolcbpgmlilaa", sum := "e5c17281485ed8de67860642e566fd0095f6c45bfefdfebbab7abf8da2c647a9", func := "bitepoint/bitepointlaw12.QueueAccepts", spec := "queueAccepts", inPlace := ["slices.overlaps[int]"], unfollowed := true, recurses := true, plainKeys := false, apart := false, narrowed := true }
def QueueAcceptsUptoSaid : Prop := queueAcceptsUptoRow.holds Try.pinned (OpenSpec.upto queueAcceptsSpec)

/-- 'bitepointlaw12.QueueMoves', WHERE WHAT IT READS IS OF BULK AT MOST 1048576: true; the input reads as it did. -/
def queueMovesUptoRow : OpenClaim := { program := "ytjgolcbpgmlilaa", sum := "e5c17281485ed8de67860642e566fd0095f6c45bfefdfebbab7abf8da2c647a9", func := "bitepoint/bitepointlaw12.QueueMoves", spec := "queueMoves", inPlace := ["slices.overlaps[int]"], unfollowed := true, recurses := true, plainKeys := false, apart := false, narrowed := true }
def QueueMovesUptoSaid : Prop := queueMovesUptoRow.holds Try.pinned (OpenSpec.upto queueMovesSpec)

/-- 'bitepointlaw12.QueueKnown', WHERE WHAT IT READS IS OF BULK AT MOST 1048576: true; the input reads as it did. -/
def queueKnownUptoRow : OpenClaim := { program := "ytjgolcbpgmlilaa", sum := "e5c17281485ed8de67860642e566fd0095f6c45bfefdfebbab7abf8da2c647a9", func := "bitepoint/bitepointlaw12.QueueKnown", spec := "queueKnown", inPlace := ["slices.overlaps[int]"], unfollowed := true, recurses := true, plainKeys := false, apart := false, narrowed := true }
def QueueKnownUptoSaid : Prop := queueKnownUptoRow.holds Try.pinned (OpenSpec.upto queueKnownSpec)

/-- 'bitepointlaw12.QueueFair', WHERE WHAT IT READS IS OF BULK AT MOST 1048576: true; the input reads as it did. -/
def queueFairUptoRow : OpenClaim := { program := "ytjgolcbpgmlilaa", sum := "e5c17281485ed8de67860642e566fd0095f6c45bfefdfebbab7abf8da2c647a9", func := "bitepoint/bitepointlaw12.QueueFair", spec := "queueFair", inPlace := ["slices.overlaps[int]"], unfollowed := true, recurses := true, plainKeys := false, apart := false, narrowed := true }
def QueueFairUptoSaid : Prop := queueFairUptoRow.holds Try.pinned (OpenSpec.upto queueFairSpec)

/-- 'bitepointlaw12.QueueBest', WHERE WHAT IT READS IS OF BULK AT MOST 1048576: true; the input reads as it did. -/
def queueBestUptoRow : OpenClaim := { program := "ytjgolcbpgmlilaa", sum := "e5c17281485ed8de67860642e566fd0095f6c45bfefdfebbab7abf8da2c647a9", func := "bitepoint/bitepointlaw12.QueueBest", spec := "queueBest", inPlace := ["slices.overlaps[int]"], unfollowed := true, recurses := true, plainKeys := false, apart := false, narrowed := true }
def QueueBestUptoSaid : Prop := queueBestUptoRow.holds Try.pinned (OpenSpec.upto queueBestSpec)

/-- 'bitepointlaw12.QueueGains', WHERE WHAT IT READS IS OF BULK AT MOST 1048576: true; the input reads as it did. -/
def queueGainsUptoRow : OpenClaim := { program := "ytjgolcbpgmlilaa", sum := "e5c17281485ed8de67860642e566fd0095f6c45bfefdfebbab7abf8da2c647a9", func := "bitepoint/bitepointlaw12.QueueGains", spec := "queueGains", inPlace := ["slices.overlaps[int]"], unfollowed := true, recurses := true, plainKeys := false, apart := false, narrowed := true }
def QueueGainsUptoSaid : Prop := queueGainsUptoRow.holds Try.pinned (OpenSpec.upto queueGainsSpec)

/-- 'bitepointlaw12.QueuePrinted', WHERE WHAT IT READS IS OF BULK AT MOST 1048576: true; the input reads as it did. -/
def queuePrintedUptoRow : OpenClaim := { program := "ytjgolcbpgmlilaa", sum := "e5c17281485ed8de67860642e566fd0095f6c45bfefdfebbab7abf8da2c647a9", func := "bitepoint/bitepointlaw12.QueuePrinted", spec := "queuePrinted", inPlace := ["slices.overlaps[int]"], unfollowed := true, recurses := true, plainKeys := false, apart := false, narrowed := true }
def QueuePrintedUptoSaid : Prop := queuePrintedUptoRow.holds Try.pinned (OpenSpec.upto queuePrintedSpec)

/-- 'bitepointlaw12.QueueLeaves', WHERE WHAT IT READS IS OF BULK AT MOST 1048576: true; the input reads as it did. -/
def queueLeavesUptoRow : OpenClaim := { program := "ytjgolcbpgmlilaa", sum := "e5c17281485ed8de67860642e566fd0095f6c45bfefdfebbab7abf8da2c647a9", func := "bitepoint/bitepointlaw12.QueueLeaves", spec := "queueLeaves", inPlace := ["slices.overlaps[int]"], unfollowed := true, recurses := true, plainKeys := false, apart := false, narrowed := true }
def QueueLeavesUptoSaid : Prop := queueLeavesUptoRow.holds Try.pinned (OpenSpec.upto queueLeavesSpec)

/-- 'bitepointlaw12.QueuePlaces', WHERE WHAT IT READS IS OF BULK AT MOST 1048576: true; the input reads as it did. -/
def queuePlacesUptoRow : OpenClaim := { program := "ytjgolcbpgmlilaa", sum := "e5c17281485ed8de67860642e566fd0095f6c45bfefdfebbab7abf8da2c647a9", func := "bitepoint/bitepointlaw12.QueuePlaces", spec := "queuePlaces", inPlace := ["slices.overlaps[int]"], unfollowed := true, recurses := true, plainKeys := false, apart := false, narrowed := true }
def QueuePlacesUptoSaid : Prop := queuePlacesUptoRow.holds Try.pinned (OpenSpec.upto queuePlacesSpec)

/-- 'bitepointlaw12.QueueTurned', WHERE WHAT IT READS IS OF BULK AT MOST 1048576: true; the input reads as it did. -/
def queueTurnedUptoRow : OpenClaim := { program := "ytjgolcbpgmlilaa", sum := "e5c17281485ed8de67860642e566fd0095f6c45bfefdfebbab7abf8da2c647a9", func := "bitepoint/bitepointlaw12.QueueTurned", spec := "queueTurned", inPlace := ["slices.overlaps[int]"], unfollowed := true, recurses := true, plainKeys := false, apart := false, narrowed := true }
def QueueTurnedUptoSaid : Prop := queueTurnedUptoRow.holds Try.pinned (OpenSpec.upto queueTurnedSpec)

/-- 'bitepointlaw12.QueueFewer', WHERE WHAT IT READS IS OF BULK AT MOST 1048576: true; the input reads as it did. -/
def queueFewerUptoRow : OpenClaim := { program := "ytjgolcbpgmlilaa", sum := "e5c17281485ed8de67860642e566fd0095f6c45bfefdfebbab7abf8da2c647a9", func := "bitepoint/bitepointlaw12.QueueFewer", spec := "queueFewer", inPlace := ["slices.overlaps[int]"], unfollowed := true, recurses := true, plainKeys := false, apart := false, narrowed := true }
def QueueFewerUptoSaid : Prop := queueFewerUptoRow.holds Try.pinned (OpenSpec.upto queueFewerSpec)

end Rows
end Go.Proofs.Ytjgolcbpgmlilaa

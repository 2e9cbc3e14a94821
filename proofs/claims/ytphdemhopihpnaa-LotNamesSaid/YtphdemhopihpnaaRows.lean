/-
  No cell of these rows narrows 'for every input' (looked for: loops, veiled, ifaces, maps, wideKeys, modest, calm, conditions, laid).
  DERIVED. THE GIVEN ROWS OF THIS SEAT. 13 by the template 'for every input the law returns true; each argument reads behind the call as it read before'; 0 by the template 'total and deterministic' (their statements: YtphdemhopihpnaaTotals.lean).
  GIVEN WITH THE SEED: the statements are not yours to turn. If you find one false, say at which input.
  Laid BY PROGRAM, IN A SANDBOX (cutbox-rows.mjs): the forced cells as the released guide's own fill.sh prints them over the translation c42749b961515787… (all of the seat's roots in one cut). By AI agents, Wed Nov 11 2026. No macro, syntax, notation, axiom, sorry.
-/
import Derived.Test.YtphdemhopihpnaaChecked
import GoSem.Claim
import GoSem.ClaimJoined
import GoSem.ClaimMapViews
import Derived.JoinedTies
import Derived.KernelRfl
namespace Go.Proofs.Ytphdemhopihpnaa
/- THE CELL 'sum', in the pinned program and in every row, IS THE sha256 OF THE DUMP (.gsa) THAT YtphdemhopihpnaaProg.lean LOADS. Nothing in Lean hashes anything: it is a label: what it is worth is what the hold of that sum in a sandbox is worth. -/
noncomputable def Try.pinned : Pinned := { name := "ytphdemhopihpnaa", sum := "c42749b9615157872ae33dc236ab88d9b7b120faa08b375f1e1a4549514d9843", checked := Try.checked }
namespace Rows
def none {H : Type} : Left H := { results := [], args := [] }

/-- 'bitepointlaw08.LotNumbers': WHATEVER THE INPUT: true; the input reads as it did. -/
def lotNumbersSpec : ChangeSpec := { name := "lotNumbers", fn := fun _ => fun
  | [d1, d2, d3] => { results := [.lit (.bool true)], args := [d1, d2, d3] }
  | _ => none }
def lotNumbersRow : OpenClaim := { program := "ytphdemhopihpnaa", sum := "c42749b9615157872ae33dc236ab88d9b7b120faa08b375f1e1a4549514d9843", func := "bitepoint/bitepointlaw08.LotNumbers", spec := "lotNumbers", unfollowed := true, recurses := true, plainKeys := false, apart := false }
def LotNumbersSaid : Prop := lotNumbersRow.holds Try.pinned (OpenSpec.ofChange lotNumbersSpec)

/-- ITS FALSE NEIGHBOUR: 'it returns false'. Refute it at one input. -/
def lotNumbersWrong : ChangeSpec := { name := "lotNumbers", fn := fun _ => fun
  | [d1, d2, d3] => { results := [.lit (.bool false)], args := [d1, d2, d3] }
  | _ => none }
def LotNumbersWrongFalsely : Prop := lotNumbersRow.holds Try.pinned (OpenSpec.ofChange lotNumbersWrong)

/-- 'bitepointlaw08.LotCounts': WHATEVER THE INPUT: true; the input reads as it did. -/
def lotCountsSpec : ChangeSpec := { name := "lotCounts", fn := fun _ => fun
  | [d] => { results := [.lit (.bool true)], args := [d] }
  | _ => none }
def lotCountsRow : OpenClaim := { program := "ytphdemhopihpnaa", sum := "c42749b9615157872ae33dc236ab88d9b7b120faa08b375f1e1a4549514d9843", func := "bitepoint/bitepointlaw08.LotCounts", spec := "lotCounts", unfollowed := true, recurses := true, plainKeys := false, apart := false }
def LotCountsSaid : Prop := lotCountsRow.holds Try.pinned (OpenSpec.ofChange lotCountsSpec)

/-- ITS FALSE NEIGHBOUR: 'it returns false'. Refute it at one input. -/
def lotCountsWrong : ChangeSpec := { name := "lotCounts", fn := fun _ => fun
  | [d] => { results := [.lit (.bool false)], args := [d] }
  | _ => none }
def LotCountsWrongFalsely : Prop := lotCountsRow.holds Try.pinned (OpenSpec.ofChange lotCountsWrong)

/-- 'bitepointlaw08.LotPicks': WHATEVER THE INPUT: true; the input reads as it did. -/
def lotPicksSpec : ChangeSpec := { name := "lotPicks", fn := fun _ => fun
  | [d1, d2, d3] => { results := [.lit (.bool true)], args := [d1, d2, d3] }
  | _ => none }
def lotPicksRow : OpenClaim := { program := "ytphdemhopihpnaa", sum := "c42749b9615157872ae33dc236ab88d9b7b120faa08b375f1e1a4549514d9843", func := "bitepoint/bitepointlaw08.LotPicks", spec := "lotPicks", unfollowed := true, recurses := true, plainKeys := false, apart := false }
def LotPicksSaid : Prop := lotPicksRow.holds Try.pinned (OpenSpec.ofChange lotPicksSpec)

/-- ITS FALSE NEIGHBOUR: 'it returns false'. Refute it at one input. -/
def lotPicksWrong : ChangeSpec := { name := "lotPicks", fn := fun _ => fun
  | [d1, d2, d3] => { results := [.lit (.bool false)], args := [d1, d2, d3] }
  | _ => none }
def LotPicksWrongFalsely : Prop := lotPicksRow.holds Try.pinned (OpenSpec.ofChange lotPicksWrong)

/-- 'bitepointlaw08.LotHonest': WHATEVER THE INPUT: true; the input reads as it did. -/
def lotHonestSpec : ChangeSpec := { name := "lotHonest", fn := fun _ => fun
  | [d1, d2] => { results := [.lit (.bool true)], args := [d1, d2] }
  | _ => none }
def lotHonestRow : OpenClaim := { program := "ytphdemhopihpnaa", sum := "c42749b9615157872ae33dc236ab88d9b7b120faa08b375f1e1a4549514d9843", func := "bitepoint/bitepointlaw08.LotHonest", spec := "lotHonest", unfollowed := true, recurses := true, plainKeys := false, apart := false }
def LotHonestSaid : Prop := lotHonestRow.holds Try.pinned (OpenSpec.ofChange lotHonestSpec)

/-- ITS FALSE NEIGHBOUR: 'it returns false'. Refute it at one input. -/
def lotHonestWrong : ChangeSpec := { name := "lotHonest", fn := fun _ => fun
  | [d1, d2] => { results := [.lit (.bool false)], args := [d1, d2] }
  | _ => none }
def LotHonestWrongFalsely : Prop := lotHonestRow.holds Try.pinned (OpenSpec.ofChange lotHonestWrong)

/-- 'bitepointlaw08.LotKnown': WHATEVER THE INPUT: true; the input reads as it did. -/
def lotKnownSpec : ChangeSpec := { name := "lotKnown", fn := fun _ => fun
  | [] => { results := [.lit (.bool true)], args := [] }
  | _ => none }
def lotKnownRow : OpenClaim := { program := "ytphdemhopihpnaa", sum := "c42749b9615157872ae33dc236ab88d9b7b120faa08b375f1e1a4549514d9843", func := "bitepoint/bitepointlaw08.LotKnown", spec := "lotKnown", unfollowed := true, recurses := true, plainKeys := false, apart := false }
def LotKnownSaid : Prop := lotKnownRow.holds Try.pinned (OpenSpec.ofChange lotKnownSpec)

/-- ITS FALSE NEIGHBOUR: 'it returns false'. Refute it at one input. -/
def lotKnownWrong : ChangeSpec := { name := "lotKnown", fn := fun _ => fun
  | [] => { results := [.lit (.bool false)], args := [] }
  | _ => none }
def LotKnownWrongFalsely : Prop := lotKnownRow.holds Try.pinned (OpenSpec.ofChange lotKnownWrong)

/-- 'bitepointlaw08.LotMeets': WHATEVER THE INPUT: true; the input reads as it did. -/
def lotMeetsSpec : ChangeSpec := { name := "lotMeets", fn := fun _ => fun
  | [d1, d2, d3] => { results := [.lit (.bool true)], args := [d1, d2, d3] }
  | _ => none }
def lotMeetsRow : OpenClaim := { program := "ytphdemhopihpnaa", sum := "c42749b9615157872ae33dc236ab88d9b7b120faa08b375f1e1a4549514d9843", func := "bitepoint/bitepointlaw08.LotMeets", spec := "lotMeets", unfollowed := true, recurses := true, plainKeys := false, apart := false }
def LotMeetsSaid : Prop := lotMeetsRow.holds Try.pinned (OpenSpec.ofChange lotMeetsSpec)

/-- ITS FALSE NEIGHBOUR: 'it returns false'. Refute it at one input. -/
def lotMeetsWrong : ChangeSpec := { name := "lotMeets", fn := fun _ => fun
  | [d1, d2, d3] => { results := [.lit (.bool false)], args := [d1, d2, d3] }
  | _ => none }
def LotMeetsWrongFalsely : Prop := lotMeetsRow.holds Try.pinned (OpenSpec.ofChange lotMeetsWrong)

/-- 'bitepointlaw08.LotLikely': WHATEVER THE INPUT: true; the input reads as it did. -/
def lotLikelySpec : ChangeSpec := { name := "lotLikely", fn := fun _ => fun
  | [d1, d2, d3] => { results := [.lit (.bool true)], args := [d1, d2, d3] }
  | _ => none }
def lotLikelyRow : OpenClaim := { program := "ytphdemhopihpnaa", sum := "c42749b9615157872ae33dc236ab88d9b7b120faa08b375f1e1a4549514d9843", func := "bitepoint/bitepointlaw08.LotLikely", spec := "lotLikely", unfollowed := true, recurses := true, plainKeys := false, apart := false }
def LotLikelySaid : Prop := lotLikelyRow.holds Try.pinned (OpenSpec.ofChange lotLikelySpec)

/-- ITS FALSE NEIGHBOUR: 'it returns false'. Refute it at one input. -/
def lotLikelyWrong : ChangeSpec := { name := "lotLikely", fn := fun _ => fun
  | [d1, d2, d3] => { results := [.lit (.bool false)], args := [d1, d2, d3] }
  | _ => none }
def LotLikelyWrongFalsely : Prop := lotLikelyRow.holds Try.pinned (OpenSpec.ofChange lotLikelyWrong)

/-- 'bitepointlaw08.LotCheats': WHATEVER THE INPUT: true; the input reads as it did. -/
def lotCheatsSpec : ChangeSpec := { name := "lotCheats", fn := fun _ => fun
  | [d1, d2, d3] => { results := [.lit (.bool true)], args := [d1, d2, d3] }
  | _ => none }
def lotCheatsRow : OpenClaim := { program := "ytphdemhopihpnaa", sum := "c42749b9615157872ae33dc236ab88d9b7b120faa08b375f1e1a4549514d9843", func := "bitepoint/bitepointlaw08.LotCheats", spec := "lotCheats", unfollowed := true, recurses := true, plainKeys := false, apart := false }
def LotCheatsSaid : Prop := lotCheatsRow.holds Try.pinned (OpenSpec.ofChange lotCheatsSpec)

/-- ITS FALSE NEIGHBOUR: 'it returns false'. Refute it at one input. -/
def lotCheatsWrong : ChangeSpec := { name := "lotCheats", fn := fun _ => fun
  | [d1, d2, d3] => { results := [.lit (.bool false)], args := [d1, d2, d3] }
  | _ => none }
def LotCheatsWrongFalsely : Prop := lotCheatsRow.holds Try.pinned (OpenSpec.ofChange lotCheatsWrong)

/-- 'bitepointlaw08.LotOpen': WHATEVER THE INPUT: true; the input reads as it did. -/
def lotOpenSpec : ChangeSpec := { name := "lotOpen", fn := fun _ => fun
  | [d1, d2, d3] => { results := [.lit (.bool true)], args := [d1, d2, d3] }
  | _ => none }
def lotOpenRow : OpenClaim := { program := "ytphdemhopihpnaa", sum := "c42749b9615157872ae33dc236ab88d9b7b120faa08b375f1e1a4549514d9843", func := "bitepoint/bitepointlaw08.LotOpen", spec := "lotOpen", unfollowed := true, recurses := true, plainKeys := false, apart := false }
def LotOpenSaid : Prop := lotOpenRow.holds Try.pinned (OpenSpec.ofChange lotOpenSpec)

/-- ITS FALSE NEIGHBOUR: 'it returns false'. Refute it at one input. -/
def lotOpenWrong : ChangeSpec := { name := "lotOpen", fn := fun _ => fun
  | [d1, d2, d3] => { results := [.lit (.bool false)], args := [d1, d2, d3] }
  | _ => none }
def LotOpenWrongFalsely : Prop := lotOpenRow.holds Try.pinned (OpenSpec.ofChange lotOpenWrong)

/-- 'bitepointlaw08.LotLast': WHATEVER THE INPUT: true; the input reads as it did. -/
def lotLastSpec : ChangeSpec := { name := "lotLast", fn := fun _ => fun
  | [d1, d2, d3] => { results := [.lit (.bool true)], args := [d1, d2, d3] }
  | _ => none }
def lotLastRow : OpenClaim := { program := "ytphdemhopihpnaa", sum := "c42749b9615157872ae33dc236ab88d9b7b120faa08b375f1e1a4549514d9843", func := "bitepoint/bitepointlaw08.LotLast", spec := "lotLast", unfollowed := true, recurses := true, plainKeys := false, apart := false }
def LotLastSaid : Prop := lotLastRow.holds Try.pinned (OpenSpec.ofChange lotLastSpec)

/-- ITS FALSE NEIGHBOUR: 'it returns false'. Refute it at one input. -/
def lotLastWrong : ChangeSpec := { name := "lotLast", fn := fun _ => fun
  | [d1, d2, d3] => { results := [.lit (.bool false)], args := [d1, d2, d3] }
  | _ => none }
def LotLastWrongFalsely : Prop := lotLastRow.holds Try.pinned (OpenSpec.ofChange lotLastWrong)

/-- 'bitepointlaw08.LotNoDraw': WHATEVER THE INPUT: true; the input reads as it did. -/
def lotNoDrawSpec : ChangeSpec := { name := "lotNoDraw", fn := fun _ => fun
  | [d1, d2] => { results := [.lit (.bool true)], args := [d1, d2] }
  | _ => none }
def lotNoDrawRow : OpenClaim := { program := "ytphdemhopihpnaa", sum := "c42749b9615157872ae33dc236ab88d9b7b120faa08b375f1e1a4549514d9843", func := "bitepoint/bitepointlaw08.LotNoDraw", spec := "lotNoDraw", unfollowed := true, recurses := true, plainKeys := false, apart := false }
def LotNoDrawSaid : Prop := lotNoDrawRow.holds Try.pinned (OpenSpec.ofChange lotNoDrawSpec)

/-- ITS FALSE NEIGHBOUR: 'it returns false'. Refute it at one input. -/
def lotNoDrawWrong : ChangeSpec := { name := "lotNoDraw", fn := fun _ => fun
  | [d1, d2] => { results := [.lit (.bool false)], args := [d1, d2] }
  | _ => none }
def LotNoDrawWrongFalsely : Prop := lotNoDrawRow.holds Try.pinned (OpenSpec.ofChange lotNoDrawWrong)

/-- 'bitepointlaw08.LotMore': WHATEVER THE INPUT: true; the input reads as it did. -/
def lotMoreSpec : ChangeSpec := { name := "lotMore", fn := fun _ => fun
  | [d1, d2] => { results := [.lit (.bool true)], args := [d1, d2] }
  | _ => none }
def lotMoreRow : OpenClaim := { program := "ytphdemhopihpnaa", sum := "c42749b9615157872ae33dc236ab88d9b7b120faa08b375f1e1a4549514d9843", func := "bitepoint/bitepointlaw08.LotMore", spec := "lotMore", unfollowed := true, recurses := true, plainKeys := false, apart := false }
def LotMoreSaid : Prop := lotMoreRow.holds Try.pinned (OpenSpec.ofChange lotMoreSpec)

/-- ITS FALSE NEIGHBOUR: 'it returns false'. Refute it at one input. -/
def lotMoreWrong : ChangeSpec := { name := "lotMore", fn := fun _ => fun
  | [d1, d2] => { results := [.lit (.bool false)], args := [d1, d2] }
  | _ => none }
def LotMoreWrongFalsely : Prop := lotMoreRow.holds Try.pinned (OpenSpec.ofChange lotMoreWrong)

/-- 'bitepointlaw08.LotNames': WHATEVER THE INPUT: true; the input reads as it did. -/
def lotNamesSpec : ChangeSpec := { name := "lotNames", fn := fun _ => fun
  | [d1, d2] => { results := [.lit (.bool true)], args := [d1, d2] }
  | _ => none }
def lotNamesRow : OpenClaim := { program := "ytphdemhopihpnaa", sum := "c42749b9615157872ae33dc236ab88d9b7b120faa08b375f1e1a4549514d9843", func := "bitepoint/bitepointlaw08.LotNames", spec := "lotNames", unfollowed := true, recurses := true, plainKeys := false, apart := false }
def LotNamesSaid : Prop := lotNamesRow.holds Try.pinned (OpenSpec.ofChange lotNamesSpec)

/-- ITS FALSE NEIGHBOUR: 'it returns false'. Refute it at one input. -/
def lotNamesWrong : ChangeSpec := { name := "lotNames", fn := fun _ => fun
  | [d1, d2] => { results := [.lit (.bool false)], args := [d1, d2] }
  | _ => none }
def LotNamesWrongFalsely : Prop := lotNamesRow.holds Try.pinned (OpenSpec.ofChange lotNamesWrong)

/- THE SECOND FORM. 'bulk': how many values and letters a reading holds, each counted each time it is reached (what is shared counts as often as it is met; a slice's spare places count too). A statement '..UptoSaid' is the law's where the arguments, and the package variables that the reading takes, are together of bulk at most 1048576: NARROWER than '..Said'. Prove '..Said' where nothing that the law and all that it calls make is longer than what came in: it says more and counts as full. Else prove '..UptoSaid'. A law counts once. -/
mutual
def uptoBulk {H : Type} : DataW H → Nat
  | .lit (.string bytes) => bytes.length + 1
  | .lit _ => 1
  | .nil => 1
  | .ptr d => uptoBulk d + 1
  | .slice elems spare => uptoBulkAll elems + uptoBulkAll spare + 1
  | .agg parts => uptoBulkAll parts + 1
  | .iface _ d => uptoBulk d + 1
  | .map entries => uptoBulkEntries entries + 1
  | .held _ => 1
def uptoBulkAll {H : Type} : List (DataW H) → Nat
  | [] => 0
  | d :: r => uptoBulk d + uptoBulkAll r
def uptoBulkEntries {H : Type} : List (Lit × DataW H) → Nat
  | [] => 0
  | x :: r => uptoBulkEntry x + uptoBulkEntries r
def uptoBulkEntry {H : Type} : Lit × DataW H → Nat
  | (.string bytes, d) => bytes.length + uptoBulk d + 1
  | (_, d) => uptoBulk d + 1
 end
def uptoSmall : (H : Type) → List (DataW H) → Bool := fun _ ds => decide (uptoBulkAll ds ≤ 1048576)
def OpenSpec.upto (s : _root_.Go.ChangeSpec) : _root_.Go.OpenSpec := { _root_.Go.OpenSpec.ofChange s with cond := some uptoSmall }

/-- 'bitepointlaw08.LotNumbers', WHERE WHAT IT READS IS OF BULK AT MOST 1048576: true; the input reads as it did. -/
def lotNumbersUptoRow : OpenClaim := { program := "ytphdemhopihpnaa", sum := "c42749b9615157872ae33dc236ab88d9b7b120faa08b375f1e1a4549514d9843", func := "bitepoint/bitepointlaw08.LotNumbers", spec := "lotNumbers", unfollowed := true, recurses := true, plainKeys := false, apart := false, narrowed := true }
def LotNumbersUptoSaid : Prop := lotNumbersUptoRow.holds Try.pinned (OpenSpec.upto lotNumbersSpec)

/-- 'bitepointlaw08.LotCounts', WHERE WHAT IT READS IS OF BULK AT MOST 1048576: true; the input reads as it did. -/
def lotCountsUptoRow : OpenClaim := { program := "ytphdemhopihpnaa", sum := "c42749b9615157872ae33dc236ab88d9b7b120faa08b375f1e1a4549514d9843", func := "bitepoint/bitepointlaw08.LotCounts", spec := "lotCounts", unfollowed := true, recurses := true, plainKeys := false, apart := false, narrowed := true }
def LotCountsUptoSaid : Prop := lotCountsUptoRow.holds Try.pinned (OpenSpec.upto lotCountsSpec)

/-- 'bitepointlaw08.LotPicks', WHERE WHAT IT READS IS OF BULK AT MOST 1048576: true; the input reads as it did. -/
def lotPicksUptoRow : OpenClaim := { program := "ytphdemhopihpnaa", sum := "c42749b9615157872ae33dc236ab88d9b7b120faa08b375f1e1a4549514d9843", func := "bitepoint/bitepointlaw08.LotPicks", spec := "lotPicks", unfollowed := true, recurses := true, plainKeys := false, apart := false, narrowed := true }
def LotPicksUptoSaid : Prop := lotPicksUptoRow.holds Try.pinned (OpenSpec.upto lotPicksSpec)

/-- 'bitepointlaw08.LotHonest', WHERE WHAT IT READS IS OF BULK AT MOST 1048576: true; the input reads as it did. -/
def lotHonestUptoRow : OpenClaim := { program := "ytphdemhopihpnaa", sum := "c42749b9615157872ae33dc236ab88d9b7b120faa08b375f1e1a4549514d9843", func := "bitepoint/bitepointlaw08.LotHonest", spec := "lotHonest", unfollowed := true, recurses := true, plainKeys := false, apart := false, narrowed := true }
def LotHonestUptoSaid : Prop := lotHonestUptoRow.holds Try.pinned (OpenSpec.upto lotHonestSpec)

/-- 'bitepointlaw08.LotKnown', WHERE WHAT IT READS IS OF BULK AT MOST 1048576: true; the input reads as it did. -/
def lotKnownUptoRow : OpenClaim := { program := "ytphdemhopihpnaa", sum := "c42749b9615157872ae33dc236ab88d9b7b120faa08b375f1e1a4549514d9843", func := "bitepoint/bitepointlaw08.LotKnown", spec := "lotKnown", unfollowed := true, recurses := true, plainKeys := false, apart := false, narrowed := true }
def LotKnownUptoSaid : Prop := lotKnownUptoRow.holds Try.pinned (OpenSpec.upto lotKnownSpec)

/-- 'bitepointlaw08.LotMeets', WHERE WHAT IT READS IS OF BULK AT MOST 1048576: true; the input reads as it did. -/
def lotMeetsUptoRow : OpenClaim := { program := "ytphdemhopihpnaa", sum := "c42749b9615157872ae33dc236ab88d9b7b120faa08b375f1e1a4549514d9843", func := "bitepoint/bitepointlaw08.LotMeets", spec := "lotMeets", unfollowed := true, recurses := true, plainKeys := false, apart := false, narrowed := true }
def LotMeetsUptoSaid : Prop := lotMeetsUptoRow.holds Try.pinned (OpenSpec.upto lotMeetsSpec)

/-- 'bitepointlaw08.LotLikely', WHERE WHAT IT READS IS OF BULK AT MOST 1048576: true; the input reads as it did. -/
def lotLikelyUptoRow : OpenClaim := { program := "ytphdemhopihpnaa", sum := "c42749b9615157872ae33dc236ab88d9b7b120faa08b375f1e1a4549514d9843", func := "bitepoint/bitepointlaw08.LotLikely", spec := "lotLikely", unfollowed := true, recurses := true, plainKeys := false, apart := false, narrowed := true }
def LotLikelyUptoSaid : Prop := lotLikelyUptoRow.holds Try.pinned (OpenSpec.upto lotLikelySpec)

/-- 'bitepointlaw08.LotCheats', WHERE WHAT IT READS IS OF BULK AT MOST 1048576: true; the input reads as it did. -/
def lotCheatsUptoRow : OpenClaim := { program := "ytphdemhopihpnaa", sum := "c42749b9615157872ae33dc236ab88d9b7b120faa08b375f1e1a4549514d9843", func := "bitepoint/bitepointlaw08.LotCheats", spec := "lotCheats", unfollowed := true, recurses := true, plainKeys := false, apart := false, narrowed := true }
def LotCheatsUptoSaid : Prop := lotCheatsUptoRow.holds Try.pinned (OpenSpec.upto lotCheatsSpec)

/-- 'bitepointlaw08.LotOpen', WHERE WHAT IT READS IS OF BULK AT MOST 1048576: true; the input reads as it did. -/
def lotOpenUptoRow : OpenClaim := { program := "ytphdemhopihpnaa", sum := "c42749b9615157872ae33dc236ab88d9b7b120faa08b375f1e1a4549514d9843", func := "bitepoint/bitepointlaw08.LotOpen", spec := "lotOpen", unfollowed := true, recurses := true, plainKeys := false, apart := false, narrowed := true }
def LotOpenUptoSaid : Prop := lotOpenUptoRow.holds Try.pinned (OpenSpec.upto lotOpenSpec)

/-- 'bitepointlaw08.LotLast', WHERE WHAT IT READS IS OF BULK AT MOST 1048576: true; the input reads as it did. -/
def lotLastUptoRow : OpenClaim := { program := "ytphdemhopihpnaa", sum := "c42749b9615157872ae33dc236ab88d9b7b120faa08b375f1e1a4549514d9843", func := "bitepoint/bitepointlaw08.LotLast", spec := "lotLast", unfollowed := true, recurses := true, plainKeys := false, apart := false, narrowed := true }
def LotLastUptoSaid : Prop := lotLastUptoRow.holds Try.pinned (OpenSpec.upto lotLastSpec)

/-- 'bitepointlaw08.LotNoDraw', WHERE WHAT IT READS IS OF BULK AT MOST 1048576: true; the input reads as it did. -/
def lotNoDrawUptoRow : OpenClaim := { program := "ytphdemhopihpnaa", sum := "c42749b9615157872ae33dc236ab88d9b7b120faa08b375f1e1a4549514d9843", func := "bitepoint/bitepointlaw08.LotNoDraw", spec := "lotNoDraw", unfollowed := true, recurses := true, plainKeys := false, apart := false, narrowed := true }
def LotNoDrawUptoSaid : Prop := lotNoDrawUptoRow.holds Try.pinned (OpenSpec.upto lotNoDrawSpec)

/-- 'bitepointlaw08.LotMore', WHERE WHAT IT READS IS OF BULK AT MOST 1048576: true; the input reads as it did. -/
def lotMoreUptoRow : OpenClaim := { program := "ytphdemhopihpnaa", sum := "c42749b9615157872ae33dc236ab88d9b7b120faa08b375f1e1a4549514d9843", func := "bitepoint/bitepointlaw08.LotMore", spec := "lotMore", unfollowed := true, recurses := true, plainKeys := false, apart := false, narrowed := true }
def LotMoreUptoSaid : Prop := lotMoreUptoRow.holds Try.pinned (OpenSpec.upto lotMoreSpec)

/-- 'bitepointlaw08.LotNames', WHERE WHAT IT READS IS OF BULK AT MOST 1048576: true; the input reads as it did. -/
def lotNamesUptoRow : OpenClaim := { program := "ytphdemhopihpnaa", sum := "c42749b9615157872ae33dc236ab88d9b7b120faa08b375f1e1a4549514d9843", func := "bitepoint/bitepointlaw08.LotNames", spec := "lotNames", unfollowed := true, recurses := true, plainKeys := false, apart := false, narrowed := true }
def LotNamesUptoSaid : Prop := lotNamesUptoRow.holds Try.pinned (OpenSpec.upto lotNamesSpec)

end Rows
end Go.Proofs.Ytphdemhopihpnaa

/-
  NARROWER THAN 'FOR EVERY INPUT', by the rows' own cells (each row's printed sentence says how): LessonFewest: laid · LessonChains: laid · LessonCovers: laid · LessonPlans: laid · LessonKnown: laid · LessonLeast: laid · LessonFloor: laid · LessonMore: laid · LessonInTime: laid · LessonProof: laid · LessonDays: laid · LessonNobody: laid · LessonEven: laid · TopForms: laid.
  DERIVED. THE GIVEN ROWS OF THIS SEAT. 14 by the template 'for every input the law returns true; each argument reads behind the call as it read before'; 0 by the template 'total and deterministic' (their statements: YtgkidpolomhghaaGreatDoorTotals.lean).
  GIVEN WITH THE SEED: the statements are not yours to turn. If you find one false, say at which input.
  Laid BY PROGRAM, IN A SANDBOX (cutbox-rows.mjs): the forced cells as the released guide's own fill.sh prints them over the translation cf7e7f1113a3d860… (all of the seat's roots in one cut). By AI agents, Wed Nov 11 2026. No macro, syntax, notation, axiom, sorry.
-/
import Derived.Test.YtgkidpolomhghaaGreatDoorChecked
import GoSem.Claim
import GoSem.ClaimJoined
import GoSem.ClaimMapViews
import Derived.JoinedTies
import Derived.KernelRfl
namespace Go.Proofs.YtgkidpolomhghaaGreatDoor
/- THE CELL 'sum', in the pinned program and in every row, IS THE sha256 OF THE DUMP (.gsa) THAT YtgkidpolomhghaaGreatDoorProg.lean LOADS. Nothing in Lean hashes anything: it is a label: what it is worth is what the hold of that sum in a sandbox is worth. -/
noncomputable def Tryz.pinned : Pinned := { name := "ytgkidpolomhghaagreatdoor", sum := "cf7e7f1113a3d8609ae927a03b30137ce39400768cd8ff6b5e379e0380f65da9", checked := Tryz.checked }
namespace Rows
def none {H : Type} : Left H := { results := [], args := [] }

/- WHAT THE LISTED PACKAGE-LEVEL VARIABLES READ AS WHEN THE CALL BEGINS. Each datum BY PROGRAM (the guide's laid-datum.mjs) off the statement by which the dump's own 'gosem.cut.vars' lays the variable. In a bare row this is a premise. The card (YtgkidpolomhghaaGreatDoorCards.lean) ties it to the program's text. -/
def laid_math_bits_deBruijn32tab {H : Type} : DataW H := .agg [.lit (.int .u8 0), .lit (.int .u8 1), .lit (.int .u8 28), .lit (.int .u8 2), .lit (.int .u8 29), .lit (.int .u8 14), .lit (.int .u8 24), .lit (.int .u8 3), .lit (.int .u8 30), .lit (.int .u8 22), .lit (.int .u8 20), .lit (.int .u8 15), .lit (.int .u8 25), .lit (.int .u8 17), .lit (.int .u8 4), .lit (.int .u8 8), .lit (.int .u8 31), .lit (.int .u8 27), .lit (.int .u8 13), .lit (.int .u8 23), .lit (.int .u8 21), .lit (.int .u8 19), .lit (.int .u8 16), .lit (.int .u8 7), .lit (.int .u8 26), .lit (.int .u8 12), .lit (.int .u8 18), .lit (.int .u8 6), .lit (.int .u8 11), .lit (.int .u8 5), .lit (.int .u8 10), .lit (.int .u8 9)]
def laid_math_bits_deBruijn64tab {H : Type} : DataW H := .agg [.lit (.int .u8 0), .lit (.int .u8 1), .lit (.int .u8 56), .lit (.int .u8 2), .lit (.int .u8 57), .lit (.int .u8 49), .lit (.int .u8 28), .lit (.int .u8 3), .lit (.int .u8 61), .lit (.int .u8 58), .lit (.int .u8 42), .lit (.int .u8 50), .lit (.int .u8 38), .lit (.int .u8 29), .lit (.int .u8 17), .lit (.int .u8 4), .lit (.int .u8 62), .lit (.int .u8 47), .lit (.int .u8 59), .lit (.int .u8 36), .lit (.int .u8 45), .lit (.int .u8 43), .lit (.int .u8 51), .lit (.int .u8 22), .lit (.int .u8 53), .lit (.int .u8 39), .lit (.int .u8 33), .lit (.int .u8 30), .lit (.int .u8 24), .lit (.int .u8 18), .lit (.int .u8 12), .lit (.int .u8 5), .lit (.int .u8 63), .lit (.int .u8 55), .lit (.int .u8 48), .lit (.int .u8 27), .lit (.int .u8 60), .lit (.int .u8 41), .lit (.int .u8 37), .lit (.int .u8 16), .lit (.int .u8 46), .lit (.int .u8 35), .lit (.int .u8 44), .lit (.int .u8 21), .lit (.int .u8 52), .lit (.int .u8 32), .lit (.int .u8 23), .lit (.int .u8 11), .lit (.int .u8 54), .lit (.int .u8 26), .lit (.int .u8 40), .lit (.int .u8 15), .lit (.int .u8 34), .lit (.int .u8 20), .lit (.int .u8 31), .lit (.int .u8 10), .lit (.int .u8 25), .lit (.int .u8 14), .lit (.int .u8 19), .lit (.int .u8 9), .lit (.int .u8 13), .lit (.int .u8 8), .lit (.int .u8 7), .lit (.int .u8 6)]

/-- 'bitepointlaw04.LessonFewest': WHATEVER THE INPUT: true; the input reads as it did. -/
def lessonFewestSpec : ChangeSpec := { name := "lessonFewest", fn := fun _ => fun
  | [d1, d2, d3] => { results := [.lit (.bool true)], args := [d1, d2, d3] }
  | _ => none }
def lessonFewestRow : OpenClaim := { program := "ytgkidpolomhghaagreatdoor", sum := "cf7e7f1113a3d8609ae927a03b30137ce39400768cd8ff6b5e379e0380f65da9", func := "bitepoint/bitepointlaw04.LessonFewest", spec := "lessonFewest", unfollowed := true, recurses := true, named := ["math/bits.deBruijn32tab", "math/bits.deBruijn64tab"], plainKeys := false, apart := false, laid := [("math/bits.deBruijn32tab", laid_math_bits_deBruijn32tab), ("math/bits.deBruijn64tab", laid_math_bits_deBruijn64tab)] }
def LessonFewestSaid : Prop := lessonFewestRow.holds Tryz.pinned (OpenSpec.ofChange lessonFewestSpec)

/-- ITS FALSE NEIGHBOUR: 'it returns false'. Refute it at one input. -/
def lessonFewestWrong : ChangeSpec := { name := "lessonFewest", fn := fun _ => fun
  | [d1, d2, d3] => { results := [.lit (.bool false)], args := [d1, d2, d3] }
  | _ => none }
def LessonFewestWrongFalsely : Prop := lessonFewestRow.holds Tryz.pinned (OpenSpec.ofChange lessonFewestWrong)

/-- 'bitepointlaw04.LessonChains': WHATEVER THE INPUT: true; the input reads as it did. -/
def lessonChainsSpec : ChangeSpec := { name := "lessonChains", fn := fun _ => fun
  | [d] => { results := [.lit (.bool true)], args := [d] }
  | _ => none }
def lessonChainsRow : OpenClaim := { program := "ytgkidpolomhghaagreatdoor", sum := "cf7e7f1113a3d8609ae927a03b30137ce39400768cd8ff6b5e379e0380f65da9", func := "bitepoint/bitepointlaw04.LessonChains", spec := "lessonChains", unfollowed := true, recurses := true, named := ["math/bits.deBruijn32tab", "math/bits.deBruijn64tab"], plainKeys := false, apart := false, laid := [("math/bits.deBruijn32tab", laid_math_bits_deBruijn32tab), ("math/bits.deBruijn64tab", laid_math_bits_deBruijn64tab)] }
def LessonChainsSaid : Prop := lessonChainsRow.holds Tryz.pinned (OpenSpec.ofChange lessonChainsSpec)

/-- ITS FALSE NEIGHBOUR: 'it returns false'. Refute it at one input. -/
def lessonChainsWrong : ChangeSpec := { name := "lessonChains", fn := fun _ => fun
  | [d] => { results := [.lit (.bool false)], args := [d] }
  | _ => none }
def LessonChainsWrongFalsely : Prop := lessonChainsRow.holds Tryz.pinned (OpenSpec.ofChange lessonChainsWrong)

/-- 'bitepointlaw04.LessonCovers': WHATEVER THE INPUT: true; the input reads as it did. -/
def lessonCoversSpec : ChangeSpec := { name := "lessonCovers", fn := fun _ => fun
  | [d1, d2, d3] => { results := [.lit (.bool true)], args := [d1, d2, d3] }
  | _ => none }
def lessonCoversRow : OpenClaim := { program := "ytgkidpolomhghaagreatdoor", sum := "cf7e7f1113a3d8609ae927a03b30137ce39400768cd8ff6b5e379e0380f65da9", func := "bitepoint/bitepointlaw04.LessonCovers", spec := "lessonCovers", unfollowed := true, recurses := true, named := ["math/bits.deBruijn32tab", "math/bits.deBruijn64tab"], plainKeys := false, apart := false, laid := [("math/bits.deBruijn32tab", laid_math_bits_deBruijn32tab), ("math/bits.deBruijn64tab", laid_math_bits_deBruijn64tab)] }
def LessonCoversSaid : Prop := lessonCoversRow.holds Tryz.pinned (OpenSpec.ofChange lessonCoversSpec)

/-- ITS FALSE NEIGHBOUR: 'it returns false'. Refute it at one input. -/
def lessonCoversWrong : ChangeSpec := { name := "lessonCovers", fn := fun _ => fun
  | [d1, d2, d3] => { results := [.lit (.bool false)], args := [d1, d2, d3] }
  | _ => none }
def LessonCoversWrongFalsely : Prop := lessonCoversRow.holds Tryz.pinned (OpenSpec.ofChange lessonCoversWrong)

/-- 'bitepointlaw04.LessonPlans': WHATEVER THE INPUT: true; the input reads as it did. -/
def lessonPlansSpec : ChangeSpec := { name := "lessonPlans", fn := fun _ => fun
  | [d] => { results := [.lit (.bool true)], args := [d] }
  | _ => none }
def lessonPlansRow : OpenClaim := { program := "ytgkidpolomhghaagreatdoor", sum := "cf7e7f1113a3d8609ae927a03b30137ce39400768cd8ff6b5e379e0380f65da9", func := "bitepoint/bitepointlaw04.LessonPlans", spec := "lessonPlans", unfollowed := true, recurses := true, named := ["math/bits.deBruijn32tab", "math/bits.deBruijn64tab"], plainKeys := false, apart := false, laid := [("math/bits.deBruijn32tab", laid_math_bits_deBruijn32tab), ("math/bits.deBruijn64tab", laid_math_bits_deBruijn64tab)] }
def LessonPlansSaid : Prop := lessonPlansRow.holds Tryz.pinned (OpenSpec.ofChange lessonPlansSpec)

/-- ITS FALSE NEIGHBOUR: 'it returns false'. Refute it at one input. -/
def lessonPlansWrong : ChangeSpec := { name := "lessonPlans", fn := fun _ => fun
  | [d] => { results := [.lit (.bool false)], args := [d] }
  | _ => none }
def LessonPlansWrongFalsely : Prop := lessonPlansRow.holds Tryz.pinned (OpenSpec.ofChange lessonPlansWrong)

/-- 'bitepointlaw04.LessonKnown': WHATEVER THE INPUT: true; the input reads as it did. -/
def lessonKnownSpec : ChangeSpec := { name := "lessonKnown", fn := fun _ => fun
  | [] => { results := [.lit (.bool true)], args := [] }
  | _ => none }
def lessonKnownRow : OpenClaim := { program := "ytgkidpolomhghaagreatdoor", sum := "cf7e7f1113a3d8609ae927a03b30137ce39400768cd8ff6b5e379e0380f65da9", func := "bitepoint/bitepointlaw04.LessonKnown", spec := "lessonKnown", unfollowed := true, recurses := true, named := ["math/bits.deBruijn32tab", "math/bits.deBruijn64tab"], plainKeys := false, apart := false, laid := [("math/bits.deBruijn32tab", laid_math_bits_deBruijn32tab), ("math/bits.deBruijn64tab", laid_math_bits_deBruijn64tab)] }
def LessonKnownSaid : Prop := lessonKnownRow.holds Tryz.pinned (OpenSpec.ofChange lessonKnownSpec)

/-- ITS FALSE NEIGHBOUR: 'it returns false'. Refute it at one input. -/
def lessonKnownWrong : ChangeSpec := { name := "lessonKnown", fn := fun _ => fun
  | [] => { results := [.lit (.bool false)], args := [] }
  | _ => none }
def LessonKnownWrongFalsely : Prop := lessonKnownRow.holds Tryz.pinned (OpenSpec.ofChange lessonKnownWrong)

/-- 'bitepointlaw04.LessonLeast': WHATEVER THE INPUT: true; the input reads as it did. -/
def lessonLeastSpec : ChangeSpec := { name := "lessonLeast", fn := fun _ => fun
  | [d1, d2, d3] => { results := [.lit (.bool true)], args := [d1, d2, d3] }
  | _ => none }
def lessonLeastRow : OpenClaim := { program := "ytgkidpolomhghaagreatdoor", sum := "cf7e7f1113a3d8609ae927a03b30137ce39400768cd8ff6b5e379e0380f65da9", func := "bitepoint/bitepointlaw04.LessonLeast", spec := "lessonLeast", unfollowed := true, recurses := true, named := ["math/bits.deBruijn32tab", "math/bits.deBruijn64tab"], plainKeys := false, apart := false, laid := [("math/bits.deBruijn32tab", laid_math_bits_deBruijn32tab), ("math/bits.deBruijn64tab", laid_math_bits_deBruijn64tab)] }
def LessonLeastSaid : Prop := lessonLeastRow.holds Tryz.pinned (OpenSpec.ofChange lessonLeastSpec)

/-- ITS FALSE NEIGHBOUR: 'it returns false'. Refute it at one input. -/
def lessonLeastWrong : ChangeSpec := { name := "lessonLeast", fn := fun _ => fun
  | [d1, d2, d3] => { results := [.lit (.bool false)], args := [d1, d2, d3] }
  | _ => none }
def LessonLeastWrongFalsely : Prop := lessonLeastRow.holds Tryz.pinned (OpenSpec.ofChange lessonLeastWrong)

/-- 'bitepointlaw04.LessonFloor': WHATEVER THE INPUT: true; the input reads as it did. -/
def lessonFloorSpec : ChangeSpec := { name := "lessonFloor", fn := fun _ => fun
  | [d1, d2, d3] => { results := [.lit (.bool true)], args := [d1, d2, d3] }
  | _ => none }
def lessonFloorRow : OpenClaim := { program := "ytgkidpolomhghaagreatdoor", sum := "cf7e7f1113a3d8609ae927a03b30137ce39400768cd8ff6b5e379e0380f65da9", func := "bitepoint/bitepointlaw04.LessonFloor", spec := "lessonFloor", unfollowed := true, recurses := true, named := ["math/bits.deBruijn32tab", "math/bits.deBruijn64tab"], plainKeys := false, apart := false, laid := [("math/bits.deBruijn32tab", laid_math_bits_deBruijn32tab), ("math/bits.deBruijn64tab", laid_math_bits_deBruijn64tab)] }
def LessonFloorSaid : Prop := lessonFloorRow.holds Tryz.pinned (OpenSpec.ofChange lessonFloorSpec)

/-- ITS FALSE NEIGHBOUR: 'it returns false'. Refute it at one input. -/
def lessonFloorWrong : ChangeSpec := { name := "lessonFloor", fn := fun _ => fun
  | [d1, d2, d3] => { results := [.lit (.bool false)], args := [d1, d2, d3] }
  | _ => none }
def LessonFloorWrongFalsely : Prop := lessonFloorRow.holds Tryz.pinned (OpenSpec.ofChange lessonFloorWrong)

/-- 'bitepointlaw04.LessonMore': WHATEVER THE INPUT: true; the input reads as it did. -/
def lessonMoreSpec : ChangeSpec := { name := "lessonMore", fn := fun _ => fun
  | [d1, d2, d3] => { results := [.lit (.bool true)], args := [d1, d2, d3] }
  | _ => none }
def lessonMoreRow : OpenClaim := { program := "ytgkidpolomhghaagreatdoor", sum := "cf7e7f1113a3d8609ae927a03b30137ce39400768cd8ff6b5e379e0380f65da9", func := "bitepoint/bitepointlaw04.LessonMore", spec := "lessonMore", unfollowed := true, recurses := true, named := ["math/bits.deBruijn32tab", "math/bits.deBruijn64tab"], plainKeys := false, apart := false, laid := [("math/bits.deBruijn32tab", laid_math_bits_deBruijn32tab), ("math/bits.deBruijn64tab", laid_math_bits_deBruijn64tab)] }
def LessonMoreSaid : Prop := lessonMoreRow.holds Tryz.pinned (OpenSpec.ofChange lessonMoreSpec)

/-- ITS FALSE NEIGHBOUR: 'it returns false'. Refute it at one input. -/
def lessonMoreWrong : ChangeSpec := { name := "lessonMore", fn := fun _ => fun
  | [d1, d2, d3] => { results := [.lit (.bool false)], args := [d1, d2, d3] }
  | _ => none }
def LessonMoreWrongFalsely : Prop := lessonMoreRow.holds Tryz.pinned (OpenSpec.ofChange lessonMoreWrong)

/-- 'bitepointlaw04.LessonInTime': WHATEVER THE INPUT: true; the input reads as it did. -/
def lessonInTimeSpec : ChangeSpec := { name := "lessonInTime", fn := fun _ => fun
  | [d1, d2] => { results := [.lit (.bool true)], args := [d1, d2] }
  | _ => none }
def lessonInTimeRow : OpenClaim := { program := "ytgkidpolomhghaagreatdoor", sum := "cf7e7f1113a3d8609ae927a03b30137ce39400768cd8ff6b5e379e0380f65da9", func := "bitepoint/bitepointlaw04.LessonInTime", spec := "lessonInTime", unfollowed := true, recurses := true, named := ["math/bits.deBruijn32tab", "math/bits.deBruijn64tab"], plainKeys := false, apart := false, laid := [("math/bits.deBruijn32tab", laid_math_bits_deBruijn32tab), ("math/bits.deBruijn64tab", laid_math_bits_deBruijn64tab)] }
def LessonInTimeSaid : Prop := lessonInTimeRow.holds Tryz.pinned (OpenSpec.ofChange lessonInTimeSpec)

/-- ITS FALSE NEIGHBOUR: 'it returns false'. Refute it at one input. -/
def lessonInTimeWrong : ChangeSpec := { name := "lessonInTime", fn := fun _ => fun
  | [d1, d2] => { results := [.lit (.bool false)], args := [d1, d2] }
  | _ => none }
def LessonInTimeWrongFalsely : Prop := lessonInTimeRow.holds Tryz.pinned (OpenSpec.ofChange lessonInTimeWrong)

/-- 'bitepointlaw04.LessonProof': WHATEVER THE INPUT: true; the input reads as it did. -/
def lessonProofSpec : ChangeSpec := { name := "lessonProof", fn := fun _ => fun
  | [d1, d2, d3] => { results := [.lit (.bool true)], args := [d1, d2, d3] }
  | _ => none }
def lessonProofRow : OpenClaim := { program := "ytgkidpolomhghaagreatdoor", sum := "cf7e7f1113a3d8609ae927a03b30137ce39400768cd8ff6b5e379e0380f65da9", func := "bitepoint/bitepointlaw04.LessonProof", spec := "lessonProof", unfollowed := true, recurses := true, named := ["math/bits.deBruijn32tab", "math/bits.deBruijn64tab"], plainKeys := false, apart := false, laid := [("math/bits.deBruijn32tab", laid_math_bits_deBruijn32tab), ("math/bits.deBruijn64tab", laid_math_bits_deBruijn64tab)] }
def LessonProofSaid : Prop := lessonProofRow.holds Tryz.pinned (OpenSpec.ofChange lessonProofSpec)

/-- ITS FALSE NEIGHBOUR: 'it returns false'. Refute it at one input. -/
def lessonProofWrong : ChangeSpec := { name := "lessonProof", fn := fun _ => fun
  | [d1, d2, d3] => { results := [.lit (.bool false)], args := [d1, d2, d3] }
  | _ => none }
def LessonProofWrongFalsely : Prop := lessonProofRow.holds Tryz.pinned (OpenSpec.ofChange lessonProofWrong)

/-- 'bitepointlaw04.LessonDays': WHATEVER THE INPUT: true; the input reads as it did. -/
def lessonDaysSpec : ChangeSpec := { name := "lessonDays", fn := fun _ => fun
  | [d1, d2] => { results := [.lit (.bool true)], args := [d1, d2] }
  | _ => none }
def lessonDaysRow : OpenClaim := { program := "ytgkidpolomhghaagreatdoor", sum := "cf7e7f1113a3d8609ae927a03b30137ce39400768cd8ff6b5e379e0380f65da9", func := "bitepoint/bitepointlaw04.LessonDays", spec := "lessonDays", unfollowed := true, recurses := true, named := ["math/bits.deBruijn32tab", "math/bits.deBruijn64tab"], plainKeys := false, apart := false, laid := [("math/bits.deBruijn32tab", laid_math_bits_deBruijn32tab), ("math/bits.deBruijn64tab", laid_math_bits_deBruijn64tab)] }
def LessonDaysSaid : Prop := lessonDaysRow.holds Tryz.pinned (OpenSpec.ofChange lessonDaysSpec)

/-- ITS FALSE NEIGHBOUR: 'it returns false'. Refute it at one input. -/
def lessonDaysWrong : ChangeSpec := { name := "lessonDays", fn := fun _ => fun
  | [d1, d2] => { results := [.lit (.bool false)], args := [d1, d2] }
  | _ => none }
def LessonDaysWrongFalsely : Prop := lessonDaysRow.holds Tryz.pinned (OpenSpec.ofChange lessonDaysWrong)

/-- 'bitepointlaw04.LessonNobody': WHATEVER THE INPUT: true; the input reads as it did. -/
def lessonNobodySpec : ChangeSpec := { name := "lessonNobody", fn := fun _ => fun
  | [d] => { results := [.lit (.bool true)], args := [d] }
  | _ => none }
def lessonNobodyRow : OpenClaim := { program := "ytgkidpolomhghaagreatdoor", sum := "cf7e7f1113a3d8609ae927a03b30137ce39400768cd8ff6b5e379e0380f65da9", func := "bitepoint/bitepointlaw04.LessonNobody", spec := "lessonNobody", unfollowed := true, recurses := true, named := ["math/bits.deBruijn32tab", "math/bits.deBruijn64tab"], plainKeys := false, apart := false, laid := [("math/bits.deBruijn32tab", laid_math_bits_deBruijn32tab), ("math/bits.deBruijn64tab", laid_math_bits_deBruijn64tab)] }
def LessonNobodySaid : Prop := lessonNobodyRow.holds Tryz.pinned (OpenSpec.ofChange lessonNobodySpec)

/-- ITS FALSE NEIGHBOUR: 'it returns false'. Refute it at one input. -/
def lessonNobodyWrong : ChangeSpec := { name := "lessonNobody", fn := fun _ => fun
  | [d] => { results := [.lit (.bool false)], args := [d] }
  | _ => none }
def LessonNobodyWrongFalsely : Prop := lessonNobodyRow.holds Tryz.pinned (OpenSpec.ofChange lessonNobodyWrong)

/-- 'bitepointlaw04.LessonEven': WHATEVER THE INPUT: true; the input reads as it did. -/
def lessonEvenSpec : ChangeSpec := { name := "lessonEven", fn := fun _ => fun
  | [d] => { results := [.lit (.bool true)], args := [d] }
  | _ => none }
def lessonEvenRow : OpenClaim := { program := "ytgkidpolomhghaagreatdoor", sum := "cf7e7f1113a3d8609ae927a03b30137ce39400768cd8ff6b5e379e0380f65da9", func := "bitepoint/bitepointlaw04.LessonEven", spec := "lessonEven", unfollowed := true, recurses := true, named := ["math/bits.deBruijn32tab", "math/bits.deBruijn64tab"], plainKeys := false, apart := false, laid := [("math/bits.deBruijn32tab", laid_math_bits_deBruijn32tab), ("math/bits.deBruijn64tab", laid_math_bits_deBruijn64tab)] }
def LessonEvenSaid : Prop := lessonEvenRow.holds Tryz.pinned (OpenSpec.ofChange lessonEvenSpec)

/-- ITS FALSE NEIGHBOUR: 'it returns false'. Refute it at one input. -/
def lessonEvenWrong : ChangeSpec := { name := "lessonEven", fn := fun _ => fun
  | [d] => { results := [.lit (.bool false)], args := [d] }
  | _ => none }
def LessonEvenWrongFalsely : Prop := lessonEvenRow.holds Tryz.pinned (OpenSpec.ofChange lessonEvenWrong)

/-- 'bitepointtop.TopForms': WHATEVER THE INPUT: true; the input reads as it did. -/
def topFormsSpec : ChangeSpec := { name := "topForms", fn := fun _ => fun
  | [d1, d2] => { results := [.lit (.bool true)], args := [d1, d2] }
  | _ => none }
def topFormsRow : OpenClaim := { program := "ytgkidpolomhghaagreatdoor", sum := "cf7e7f1113a3d8609ae927a03b30137ce39400768cd8ff6b5e379e0380f65da9", func := "bitepoint/bitepointtop.TopForms", spec := "topForms", unfollowed := true, recurses := true, named := ["math/bits.deBruijn32tab", "math/bits.deBruijn64tab"], plainKeys := false, apart := false, laid := [("math/bits.deBruijn32tab", laid_math_bits_deBruijn32tab), ("math/bits.deBruijn64tab", laid_math_bits_deBruijn64tab)] }
def TopFormsSaid : Prop := topFormsRow.holds Tryz.pinned (OpenSpec.ofChange topFormsSpec)

/-- ITS FALSE NEIGHBOUR: 'it returns false'. Refute it at one input. -/
def topFormsWrong : ChangeSpec := { name := "topForms", fn := fun _ => fun
  | [d1, d2] => { results := [.lit (.bool false)], args := [d1, d2] }
  | _ => none }
def TopFormsWrongFalsely : Prop := topFormsRow.holds Tryz.pinned (OpenSpec.ofChange topFormsWrong)

/- THE SECOND FORM. 'bulk': how many values and letters a reading holds, each counted each time it is reached (what is shared counts as often as it is met; a slice's spare places count too). A statement '..UptoSaid' is the law's where the arguments, and the package variables that the reading takes, are together of bulk at most 1048576: NARROWER than '..Said'. Prove '..Said' where nothing that the law and all that it calls make is longer than what came in: it says more and counts as full. Else prove '..UptoSaid'. A law counts once. -/
mutual
def uptoBulk {H : Type} : DataW H → Nat
  | .lit (.string bytes) => bytes.length + 1
  | .lit _ => 1
  | .nil => 1
  | .ptr d => uptoBulk d + 1
  | .slice elems spare => uptoBulkAll elems + uptoBulkAll spare + 1
  | .agg parts => uptoBulkAll parts + 1
  | .iface _ d => uptoBulk d + 1
  | .map entries => uptoBulkEntries entries + 1
  | .held _ => 1
def uptoBulkAll {H : Type} : List (DataW H) → Nat
  | [] => 0
  | d :: r => uptoBulk d + uptoBulkAll r
def uptoBulkEntries {H : Type} : List (Lit × DataW H) → Nat
  | [] => 0
  | x :: r => uptoBulkEntry x + uptoBulkEntries r
def uptoBulkEntry {H : Type} : Lit × DataW H → Nat
  | (.string bytes, d) => bytes.length + uptoBulk d + 1
  | (_, d) => uptoBulk d + 1
 end
def uptoSmall : (H : Type) → List (DataW H) → Bool := fun _ ds => decide (uptoBulkAll ds ≤ 1048576)
def OpenSpec.upto (s : _root_.Go.ChangeSpec) : _root_.Go.OpenSpec := { _root_.Go.OpenSpec.ofChange s with cond := some uptoSmall }

/-- 'bitepointlaw04.LessonFewest', WHERE WHAT IT READS IS OF BULK AT MOST 1048576: true; the input reads as it did. -/
def lessonFewestUptoRow : OpenClaim := { program := "ytgkidpolomhghaagreatdoor", sum := "cf7e7f1113a3d8609ae927a03b30137ce39400768cd8ff6b5e379e0380f65da9", func := "bitepoint/bitepointlaw04.LessonFewest", spec := "lessonFewest", unfollowed := true, recurses := true, named := ["math/bits.deBruijn32tab", "math/bits.deBruijn64tab"], plainKeys := false, apart := false, laid := [("math/bits.deBruijn32tab", laid_math_bits_deBruijn32tab), ("math/bits.deBruijn64tab", laid_math_bits_deBruijn64tab)], narrowed := true }
def LessonFewestUptoSaid : Prop := lessonFewestUptoRow.holds Tryz.pinned (OpenSpec.upto lessonFewestSpec)

/-- 'bitepointlaw04.LessonChains', WHERE WHAT IT READS IS OF BULK AT MOST 1048576: true; the input reads as it did. -/
def lessonChainsUptoRow : OpenClaim := { program := "ytgkidpolomhghaagreatdoor", sum := "cf7e7f1113a3d8609ae927a03b30137ce39400768cd8ff6b5e379e0380f65da9", func := "bitepoint/bitepointlaw04.LessonChains", spec := "lessonChains", unfollowed := true, recurses := true, named := ["math/bits.deBruijn32tab", "math/bits.deBruijn64tab"], plainKeys := false, apart := false, laid := [("math/bits.deBruijn32tab", laid_math_bits_deBruijn32tab), ("math/bits.deBruijn64tab", laid_math_bits_deBruijn64tab)], narrowed := true }
def LessonChainsUptoSaid : Prop := lessonChainsUptoRow.holds Tryz.pinned (OpenSpec.upto lessonChainsSpec)

/-- 'bitepointlaw04.LessonCovers', WHERE WHAT IT READS IS OF BULK AT MOST 1048576: true; the input reads as it did. -/
def lessonCoversUptoRow : OpenClaim := { program := "ytgkidpolomhghaagreatdoor", sum := "cf7e7f1113a3d8609ae927a03b30137ce39400768cd8ff6b5e379e0380f65da9", func := "bitepoint/bitepointlaw04.LessonCovers", spec := "lessonCovers", unfollowed := true, recurses := true, named := ["math/bits.deBruijn32tab", "math/bits.deBruijn64tab"], plainKeys := false, apart := false, laid := [("math/bits.deBruijn32tab", laid_math_bits_deBruijn32tab), ("math/bits.deBruijn64tab", laid_math_bits_deBruijn64tab)], narrowed := true }
def LessonCoversUptoSaid : Prop := lessonCoversUptoRow.holds Tryz.pinned (OpenSpec.upto lessonCoversSpec)

/-- 'bitepointlaw04.LessonPlans', WHERE WHAT IT READS IS OF BULK AT MOST 1048576: true; the input reads as it did. -/
def lessonPlansUptoRow : OpenClaim := { program := "ytgkidpolomhghaagreatdoor", sum := "cf7e7f1113a3d8609ae927a03b30137ce39400768cd8ff6b5e379e0380f65da9", func := "bitepoint/bitepointlaw04.LessonPlans", spec := "lessonPlans", unfollowed := true, recurses := true, named := ["math/bits.deBruijn32tab", "math/bits.deBruijn64tab"], plainKeys := false, apart := false, laid := [("math/bits.deBruijn32tab", laid_math_bits_deBruijn32tab), ("math/bits.deBruijn64tab", laid_math_bits_deBruijn64tab)], narrowed := true }
def LessonPlansUptoSaid : Prop := lessonPlansUptoRow.holds Tryz.pinned (OpenSpec.upto lessonPlansSpec)

/-- 'bitepointlaw04.LessonKnown', WHERE WHAT IT READS IS OF BULK AT MOST 1048576: true; the input reads as it did. -/
def lessonKnownUptoRow : OpenClaim := { program := "ytgkidpolomhghaagreatdoor", sum := "cf7e7f1113a3d8609ae927a03b30137ce39400768cd8ff6b5e379e0380f65da9", func := "bitepoint/bitepointlaw04.LessonKnown", spec := "lessonKnown", unfollowed := true, recurses := true, named := ["math/bits.deBruijn32tab", "math/bits.deBruijn64tab"], plainKeys := false, apart := false, laid := [("math/bits.deBruijn32tab", laid_math_bits_deBruijn32tab), ("math/bits.deBruijn64tab", laid_math_bits_deBruijn64tab)], narrowed := true }
def LessonKnownUptoSaid : Prop := lessonKnownUptoRow.holds Tryz.pinned (OpenSpec.upto lessonKnownSpec)

/-- 'bitepointlaw04.LessonLeast', WHERE WHAT IT READS IS OF BULK AT MOST 1048576: true; the input reads as it did. -/
def lessonLeastUptoRow : OpenClaim := { program := "ytgkidpolomhghaagreatdoor", sum := "cf7e7f1113a3d8609ae927a03b30137ce39400768cd8ff6b5e379e0380f65da9", func := "bitepoint/bitepointlaw04.LessonLeast", spec := "lessonLeast", unfollowed := true, recurses := true, named := ["math/bits.deBruijn32tab", "math/bits.deBruijn64tab"], plainKeys := false, apart := false, laid := [("math/bits.deBruijn32tab", laid_math_bits_deBruijn32tab), ("math/bits.deBruijn64tab", laid_math_bits_deBruijn64tab)], narrowed := true }
def LessonLeastUptoSaid : Prop := lessonLeastUptoRow.holds Tryz.pinned (OpenSpec.upto lessonLeastSpec)

/-- 'bitepointlaw04.LessonFloor', WHERE WHAT IT READS IS OF BULK AT MOST 1048576: true; the input reads as it did. -/
def lessonFloorUptoRow : OpenClaim := { program := "ytgkidpolomhghaagreatdoor", sum := "cf7e7f1113a3d8609ae927a03b30137ce39400768cd8ff6b5e379e0380f65da9", func := "bitepoint/bitepointlaw04.LessonFloor", spec := "lessonFloor", unfollowed := true, recurses := true, named := ["math/bits.deBruijn32tab", "math/bits.deBruijn64tab"], plainKeys := false, apart := false, laid := [("math/bits.deBruijn32tab", laid_math_bits_deBruijn32tab), ("math/bits.deBruijn64tab", laid_math_bits_deBruijn64tab)], narrowed := true }
def LessonFloorUptoSaid : Prop := lessonFloorUptoRow.holds Tryz.pinned (OpenSpec.upto lessonFloorSpec)

/-- 'bitepointlaw04.LessonMore', WHERE WHAT IT READS IS OF BULK AT MOST 1048576: true; the input reads as it did. -/
def lessonMoreUptoRow : OpenClaim := { program := "ytgkidpolomhghaagreatdoor", sum := "cf7e7f1113a3d8609ae927a03b30137ce39400768cd8ff6b5e379e0380f65da9", func := "bitepoint/bitepointlaw04.LessonMore", spec := "lessonMore", unfollowed := true, recurses := true, named := ["math/bits.deBruijn32tab", "math/bits.deBruijn64tab"], plainKeys := false, apart := false, laid := [("math/bits.deBruijn32tab", laid_math_bits_deBruijn32tab), ("math/bits.deBruijn64tab", laid_math_bits_deBruijn64tab)], narrowed := true }
def LessonMoreUptoSaid : Prop := lessonMoreUptoRow.holds Tryz.pinned (OpenSpec.upto lessonMoreSpec)

/-- 'bitepointlaw04.LessonInTime', WHERE WHAT IT READS IS OF BULK AT MOST 1048576: true; the input reads as it did. -/
def lessonInTimeUptoRow : OpenClaim := { program := "ytgkidpolomhghaagreatdoor", sum := "cf7e7f1113a3d8609ae927a03b30137ce39400768cd8ff6b5e379e0380f65da9", func := "bitepoint/bitepointlaw04.LessonInTime", spec := "lessonInTime", unfollowed := true, recurses := true, named := ["math/bits.deBruijn32tab", "math/bits.deBruijn64tab"], plainKeys := false, apart := false, laid := [("math/bits.deBruijn32tab", laid_math_bits_deBruijn32tab), ("math/bits.deBruijn64tab", laid_math_bits_deBruijn64tab)], narrowed := true }
def LessonInTimeUptoSaid : Prop := lessonInTimeUptoRow.holds Tryz.pinned (OpenSpec.upto lessonInTimeSpec)

/-- 'bitepointlaw04.LessonProof', WHERE WHAT IT READS IS OF BULK AT MOST 1048576: true; the input reads as it did. -/
def lessonProofUptoRow : OpenClaim := { program := "ytgkidpolomhghaagreatdoor", sum := "cf7e7f1113a3d8609ae927a03b30137ce39400768cd8ff6b5e379e0380f65da9", func := "bitepoint/bitepointlaw04.LessonProof", spec := "lessonProof", unfollowed := true, recurses := true, named := ["math/bits.deBruijn32tab", "math/bits.deBruijn64tab"], plainKeys := false, apart := false, laid := [("math/bits.deBruijn32tab", laid_math_bits_deBruijn32tab), ("math/bits.deBruijn64tab", laid_math_bits_deBruijn64tab)], narrowed := true }
def LessonProofUptoSaid : Prop := lessonProofUptoRow.holds Tryz.pinned (OpenSpec.upto lessonProofSpec)

/-- 'bitepointlaw04.LessonDays', WHERE WHAT IT READS IS OF BULK AT MOST 1048576: true; the input reads as it did. -/
def lessonDaysUptoRow : OpenClaim := { program := "ytgkidpolomhghaagreatdoor", sum := "cf7e7f1113a3d8609ae927a03b30137ce39400768cd8ff6b5e379e0380f65da9", func := "bitepoint/bitepointlaw04.LessonDays", spec := "lessonDays", unfollowed := true, recurses := true, named := ["math/bits.deBruijn32tab", "math/bits.deBruijn64tab"], plainKeys := false, apart := false, laid := [("math/bits.deBruijn32tab", laid_math_bits_deBruijn32tab), ("math/bits.deBruijn64tab", laid_math_bits_deBruijn64tab)], narrowed := true }
def LessonDaysUptoSaid : Prop := lessonDaysUptoRow.holds Tryz.pinned (OpenSpec.upto lessonDaysSpec)

/-- 'bitepointlaw04.LessonNobody', WHERE WHAT IT READS IS OF BULK AT MOST 1048576: true; the input reads as it did. -/
def lessonNobodyUptoRow : OpenClaim := { program := "ytgkidpolomhghaagreatdoor", sum := "cf7e7f1113a3d8609ae927a03b30137ce39400768cd8ff6b5e379e0380f65da9", func := "bitepoint/bitepointlaw04.LessonNobody", spec := "lessonNobody", unfollowed := true, recurses := true, named := ["math/bits.deBruijn32tab", "math/bits.deBruijn64tab"], plainKeys := false, apart := false, laid := [("math/bits.deBruijn32tab", laid_math_bits_deBruijn32tab), ("math/bits.deBruijn64tab", laid_math_bits_deBruijn64tab)], narrowed := true }
def LessonNobodyUptoSaid : Prop := lessonNobodyUptoRow.holds Tryz.pinned (OpenSpec.upto lessonNobodySpec)

/-- 'bitepointlaw04.LessonEven', WHERE WHAT IT READS IS OF BULK AT MOST 1048576: true; the input reads as it did. -/
def lessonEvenUptoRow : OpenClaim := { program := "ytgkidpolomhghaagreatdoor", sum := "cf7e7f1113a3d8609ae927a03b30137ce39400768cd8ff6b5e379e0380f65da9", func := "bitepoint/bitepointlaw04.LessonEven", spec := "lessonEven", unfollowed := true, recurses := true, named := ["math/bits.deBruijn32tab", "math/bits.deBruijn64tab"], plainKeys := false, apart := false, laid := [("math/bits.deBruijn32tab", laid_math_bits_deBruijn32tab), ("math/bits.deBruijn64tab", laid_math_bits_deBruijn64tab)], narrowed := true }
def LessonEvenUptoSaid : Prop := lessonEvenUptoRow.holds Tryz.pinned (OpenSpec.upto lessonEvenSpec)

/-- 'bitepointtop.TopForms', WHERE WHAT IT READS IS OF BULK AT MOST 1048576: true; the input reads as it did. -/
def topFormsUptoRow : OpenClaim := { program := "ytgkidpolomhghaagreatdoor", sum := "cf7e7f1113a3d8609ae927a03b30137ce39400768cd8ff6b5e379e0380f65da9", func := "bitepoint/bitepointtop.TopForms", spec := "topForms", unfollowed := true, recurses := true, named := ["math/bits.deBruijn32tab", "math/bits.deBruijn64tab"], plainKeys := false, apart := false, laid := [("math/bits.deBruijn32tab", laid_math_bits_deBruijn32tab), ("math/bits.deBruijn64tab", laid_math_bits_deBruijn64tab)], narrowed := true }
def TopFormsUptoSaid : Prop := topFormsUptoRow.holds Tryz.pinned (OpenSpec.upto topFormsSpec)

end Rows
end Go.Proofs.YtgkidpolomhghaaGreatDoor

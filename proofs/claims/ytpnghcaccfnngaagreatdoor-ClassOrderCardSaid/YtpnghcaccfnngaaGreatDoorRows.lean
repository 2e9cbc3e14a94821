/-
  NARROWER THAN 'FOR EVERY INPUT', by the rows' own cells (each row's printed sentence says how): ClassDays: laid · ClassMay: laid · ClassForms: laid · ClassTexts: laid · ClassKnown: laid · ClassInverse: laid · ClassAges: laid · ClassLeast: laid · ClassSame: laid · ClassOrder: laid · ClassMore: laid · ClassCompared: laid · ClassBoth: laid · ClassRound: laid · ClassChecks: laid.
  DERIVED. THE GIVEN ROWS OF THIS SEAT. 15 by the template 'for every input the law returns true; each argument reads behind the call as it read before'; 0 by the template 'total and deterministic' (their statements: YtpnghcaccfnngaaGreatDoorTotals.lean).
  GIVEN WITH THE SEED: the statements are not yours to turn. If you find one false, say at which input.
  Laid BY PROGRAM, IN A SANDBOX (cutbox-rows.mjs): the forced cells as the released guide's own fill.sh prints them over the translation d52c51dd146abf6d… (all of the seat's roots in one cut). By AI agents, Wed Nov 11 2026. No macro, syntax, notation, axiom, sorry.
-/
import Derived.Test.YtpnghcaccfnngaaGreatDoorChecked
import GoSem.PinnedTables
import GoSem.Claim
import GoSem.ClaimJoined
import GoSem.ClaimMapViews
import Derived.JoinedTies
import Derived.KernelRfl
namespace Go.Proofs.YtpnghcaccfnngaaGreatDoor
/- THE CELL 'sum', in the pinned program and in every row, IS THE sha256 OF THE DUMP (.gsa) THAT YtpnghcaccfnngaaGreatDoorProg.lean LOADS. Nothing in Lean hashes anything: it is a label: what it is worth is what the hold of that sum in a sandbox is worth. -/
noncomputable def Tryz.pinned : Pinned := { name := "ytpnghcaccfnngaagreatdoor", sum := "d52c51dd146abf6d693452dedec7d72c1ec1915677e61c192f9fa24575a685d9", checked := Tryz.checked }
namespace Rows
def none {H : Type} : Left H := { results := [], args := [] }

/- WHAT THE LISTED PACKAGE-LEVEL VARIABLES READ AS WHEN THE CALL BEGINS. Each datum BY PROGRAM (the guide's laid-datum.mjs) off the statement by which the dump's own 'gosem.cut.vars' lays the variable. In a bare row this is a premise. The card (YtpnghcaccfnngaaGreatDoorCards.lean) ties it to the program's text. -/
def laid_unicode_utf8_acceptRanges {H : Type} : DataW H := .agg [.agg [.lit (.int .u8 128), .lit (.int .u8 191)], .agg [.lit (.int .u8 160), .lit (.int .u8 191)], .agg [.lit (.int .u8 128), .lit (.int .u8 159)], .agg [.lit (.int .u8 144), .lit (.int .u8 191)], .agg [.lit (.int .u8 128), .lit (.int .u8 143)], .agg [.lit (.int .u8 0), .lit (.int .u8 0)], .agg [.lit (.int .u8 0), .lit (.int .u8 0)], .agg [.lit (.int .u8 0), .lit (.int .u8 0)], .agg [.lit (.int .u8 0), .lit (.int .u8 0)], .agg [.lit (.int .u8 0), .lit (.int .u8 0)], .agg [.lit (.int .u8 0), .lit (.int .u8 0)], .agg [.lit (.int .u8 0), .lit (.int .u8 0)], .agg [.lit (.int .u8 0), .lit (.int .u8 0)], .agg [.lit (.int .u8 0), .lit (.int .u8 0)], .agg [.lit (.int .u8 0), .lit (.int .u8 0)], .agg [.lit (.int .u8 0), .lit (.int .u8 0)]]
/-- One of Go's own tables, pinned by name: the form's constant. -/
def laid_unicode_utf8_first : DataW Unit := Go.Pinned.utf8First

/-- 'bitepointlaw01.ClassDays': WHATEVER THE INPUT: true; the input reads as it did. -/
def classDaysSpec : ChangeSpec := { name := "classDays", fn := fun _ => fun
  | [d1, d2, d3] => { results := [.lit (.bool true)], args := [d1, d2, d3] }
  | _ => none }
def classDaysRow : OpenClaim := { program := "ytpnghcaccfnngaagreatdoor", sum := "d52c51dd146abf6d693452dedec7d72c1ec1915677e61c192f9fa24575a685d9", func := "bitepoint/bitepointlaw01.ClassDays", spec := "classDays", inPlace := ["internal/abi.NoEscape", "internal/bytealg.MakeNoZero", "internal/bytealg.IndexByteString", "internal/bytealg.IndexString", "internal/bytealg.CountString"], unfollowed := true, recurses := true, named := ["unicode/utf8.first", "unicode/utf8.acceptRanges", "internal/bytealg.MaxLen"], plainKeys := false, apart := false, laid := [("unicode/utf8.acceptRanges", laid_unicode_utf8_acceptRanges), ("unicode/utf8.first", laid_unicode_utf8_first)] }
def ClassDaysSaid : Prop := classDaysRow.holds Tryz.pinned (OpenSpec.ofChange classDaysSpec)

/-- ITS FALSE NEIGHBOUR: 'it returns false'. Refute it at one input. -/
def classDaysWrong : ChangeSpec := { name := "classDays", fn := fun _ => fun
  | [d1, d2, d3] => { results := [.lit (.bool false)], args := [d1, d2, d3] }
  | _ => none }
def ClassDaysWrongFalsely : Prop := classDaysRow.holds Tryz.pinned (OpenSpec.ofChange classDaysWrong)

/-- 'bitepointlaw01.ClassMay': WHATEVER THE INPUT: true; the input reads as it did. -/
def classMaySpec : ChangeSpec := { name := "classMay", fn := fun _ => fun
  | [d1, d2, d3] => { results := [.lit (.bool true)], args := [d1, d2, d3] }
  | _ => none }
def classMayRow : OpenClaim := { program := "ytpnghcaccfnngaagreatdoor", sum := "d52c51dd146abf6d693452dedec7d72c1ec1915677e61c192f9fa24575a685d9", func := "bitepoint/bitepointlaw01.ClassMay", spec := "classMay", inPlace := ["internal/abi.NoEscape", "internal/bytealg.MakeNoZero", "internal/bytealg.IndexByteString", "internal/bytealg.IndexString", "internal/bytealg.CountString"], unfollowed := true, recurses := true, named := ["unicode/utf8.first", "unicode/utf8.acceptRanges", "internal/bytealg.MaxLen"], plainKeys := false, apart := false, laid := [("unicode/utf8.acceptRanges", laid_unicode_utf8_acceptRanges), ("unicode/utf8.first", laid_unicode_utf8_first)] }
def ClassMaySaid : Prop := classMayRow.holds Tryz.pinned (OpenSpec.ofChange classMaySpec)

/-- ITS FALSE NEIGHBOUR: 'it returns false'. Refute it at one input. -/
def classMayWrong : ChangeSpec := { name := "classMay", fn := fun _ => fun
  | [d1, d2, d3] => { results := [.lit (.bool false)], args := [d1, d2, d3] }
  | _ => none }
def ClassMayWrongFalsely : Prop := classMayRow.holds Tryz.pinned (OpenSpec.ofChange classMayWrong)

/-- 'bitepointlaw01.ClassForms': WHATEVER THE INPUT: true; the input reads as it did. -/
def classFormsSpec : ChangeSpec := { name := "classForms", fn := fun _ => fun
  | [d1, d2, d3] => { results := [.lit (.bool true)], args := [d1, d2, d3] }
  | _ => none }
def classFormsRow : OpenClaim := { program := "ytpnghcaccfnngaagreatdoor", sum := "d52c51dd146abf6d693452dedec7d72c1ec1915677e61c192f9fa24575a685d9", func := "bitepoint/bitepointlaw01.ClassForms", spec := "classForms", inPlace := ["internal/abi.NoEscape", "internal/bytealg.MakeNoZero", "internal/bytealg.IndexByteString", "internal/bytealg.IndexString", "internal/bytealg.CountString"], unfollowed := true, recurses := true, named := ["unicode/utf8.first", "unicode/utf8.acceptRanges", "internal/bytealg.MaxLen"], plainKeys := false, apart := false, laid := [("unicode/utf8.acceptRanges", laid_unicode_utf8_acceptRanges), ("unicode/utf8.first", laid_unicode_utf8_first)] }
def ClassFormsSaid : Prop := classFormsRow.holds Tryz.pinned (OpenSpec.ofChange classFormsSpec)

/-- ITS FALSE NEIGHBOUR: 'it returns false'. Refute it at one input. -/
def classFormsWrong : ChangeSpec := { name := "classForms", fn := fun _ => fun
  | [d1, d2, d3] => { results := [.lit (.bool false)], args := [d1, d2, d3] }
  | _ => none }
def ClassFormsWrongFalsely : Prop := classFormsRow.holds Tryz.pinned (OpenSpec.ofChange classFormsWrong)

/-- 'bitepointlaw01.ClassTexts': WHATEVER THE INPUT: true; the input reads as it did. -/
def classTextsSpec : ChangeSpec := { name := "classTexts", fn := fun _ => fun
  | [d1, d2, d3] => { results := [.lit (.bool true)], args := [d1, d2, d3] }
  | _ => none }
def classTextsRow : OpenClaim := { program := "ytpnghcaccfnngaagreatdoor", sum := "d52c51dd146abf6d693452dedec7d72c1ec1915677e61c192f9fa24575a685d9", func := "bitepoint/bitepointlaw01.ClassTexts", spec := "classTexts", inPlace := ["internal/abi.NoEscape", "internal/bytealg.MakeNoZero", "internal/bytealg.IndexByteString", "internal/bytealg.IndexString", "internal/bytealg.CountString"], unfollowed := true, recurses := true, named := ["unicode/utf8.first", "unicode/utf8.acceptRanges", "internal/bytealg.MaxLen"], plainKeys := false, apart := false, laid := [("unicode/utf8.acceptRanges", laid_unicode_utf8_acceptRanges), ("unicode/utf8.first", laid_unicode_utf8_first)] }
def ClassTextsSaid : Prop := classTextsRow.holds Tryz.pinned (OpenSpec.ofChange classTextsSpec)

/-- ITS FALSE NEIGHBOUR: 'it returns false'. Refute it at one input. -/
def classTextsWrong : ChangeSpec := { name := "classTexts", fn := fun _ => fun
  | [d1, d2, d3] => { results := [.lit (.bool false)], args := [d1, d2, d3] }
  | _ => none }
def ClassTextsWrongFalsely : Prop := classTextsRow.holds Tryz.pinned (OpenSpec.ofChange classTextsWrong)

/-- 'bitepointlaw01.ClassKnown': WHATEVER THE INPUT: true; the input reads as it did. -/
def classKnownSpec : ChangeSpec := { name := "classKnown", fn := fun _ => fun
  | [] => { results := [.lit (.bool true)], args := [] }
  | _ => none }
def classKnownRow : OpenClaim := { program := "ytpnghcaccfnngaagreatdoor", sum := "d52c51dd146abf6d693452dedec7d72c1ec1915677e61c192f9fa24575a685d9", func := "bitepoint/bitepointlaw01.ClassKnown", spec := "classKnown", inPlace := ["internal/abi.NoEscape", "internal/bytealg.MakeNoZero", "internal/bytealg.IndexByteString", "internal/bytealg.IndexString", "internal/bytealg.CountString"], unfollowed := true, recurses := true, named := ["unicode/utf8.first", "unicode/utf8.acceptRanges", "internal/bytealg.MaxLen"], plainKeys := false, apart := false, laid := [("unicode/utf8.acceptRanges", laid_unicode_utf8_acceptRanges), ("unicode/utf8.first", laid_unicode_utf8_first)] }
def ClassKnownSaid : Prop := classKnownRow.holds Tryz.pinned (OpenSpec.ofChange classKnownSpec)

/-- ITS FALSE NEIGHBOUR: 'it returns false'. Refute it at one input. -/
def classKnownWrong : ChangeSpec := { name := "classKnown", fn := fun _ => fun
  | [] => { results := [.lit (.bool false)], args := [] }
  | _ => none }
def ClassKnownWrongFalsely : Prop := classKnownRow.holds Tryz.pinned (OpenSpec.ofChange classKnownWrong)

/-- 'bitepointlaw01.ClassInverse': WHATEVER THE INPUT: true; the input reads as it did. -/
def classInverseSpec : ChangeSpec := { name := "classInverse", fn := fun _ => fun
  | [d1, d2] => { results := [.lit (.bool true)], args := [d1, d2] }
  | _ => none }
def classInverseRow : OpenClaim := { program := "ytpnghcaccfnngaagreatdoor", sum := "d52c51dd146abf6d693452dedec7d72c1ec1915677e61c192f9fa24575a685d9", func := "bitepoint/bitepointlaw01.ClassInverse", spec := "classInverse", inPlace := ["internal/abi.NoEscape", "internal/bytealg.MakeNoZero", "internal/bytealg.IndexByteString", "internal/bytealg.IndexString", "internal/bytealg.CountString"], unfollowed := true, recurses := true, named := ["unicode/utf8.first", "unicode/utf8.acceptRanges", "internal/bytealg.MaxLen"], plainKeys := false, apart := false, laid := [("unicode/utf8.acceptRanges", laid_unicode_utf8_acceptRanges), ("unicode/utf8.first", laid_unicode_utf8_first)] }
def ClassInverseSaid : Prop := classInverseRow.holds Tryz.pinned (OpenSpec.ofChange classInverseSpec)

/-- ITS FALSE NEIGHBOUR: 'it returns false'. Refute it at one input. -/
def classInverseWrong : ChangeSpec := { name := "classInverse", fn := fun _ => fun
  | [d1, d2] => { results := [.lit (.bool false)], args := [d1, d2] }
  | _ => none }
def ClassInverseWrongFalsely : Prop := classInverseRow.holds Tryz.pinned (OpenSpec.ofChange classInverseWrong)

/-- 'bitepointlaw01.ClassAges': WHATEVER THE INPUT: true; the input reads as it did. -/
def classAgesSpec : ChangeSpec := { name := "classAges", fn := fun _ => fun
  | [d1, d2, d3] => { results := [.lit (.bool true)], args := [d1, d2, d3] }
  | _ => none }
def classAgesRow : OpenClaim := { program := "ytpnghcaccfnngaagreatdoor", sum := "d52c51dd146abf6d693452dedec7d72c1ec1915677e61c192f9fa24575a685d9", func := "bitepoint/bitepointlaw01.ClassAges", spec := "classAges", inPlace := ["internal/abi.NoEscape", "internal/bytealg.MakeNoZero", "internal/bytealg.IndexByteString", "internal/bytealg.IndexString", "internal/bytealg.CountString"], unfollowed := true, recurses := true, named := ["unicode/utf8.first", "unicode/utf8.acceptRanges", "internal/bytealg.MaxLen"], plainKeys := false, apart := false, laid := [("unicode/utf8.acceptRanges", laid_unicode_utf8_acceptRanges), ("unicode/utf8.first", laid_unicode_utf8_first)] }
def ClassAgesSaid : Prop := classAgesRow.holds Tryz.pinned (OpenSpec.ofChange classAgesSpec)

/-- ITS FALSE NEIGHBOUR: 'it returns false'. Refute it at one input. -/
def classAgesWrong : ChangeSpec := { name := "classAges", fn := fun _ => fun
  | [d1, d2, d3] => { results := [.lit (.bool false)], args := [d1, d2, d3] }
  | _ => none }
def ClassAgesWrongFalsely : Prop := classAgesRow.holds Tryz.pinned (OpenSpec.ofChange classAgesWrong)

/-- 'bitepointlaw01.ClassLeast': WHATEVER THE INPUT: true; the input reads as it did. -/
def classLeastSpec : ChangeSpec := { name := "classLeast", fn := fun _ => fun
  | [d1, d2, d3] => { results := [.lit (.bool true)], args := [d1, d2, d3] }
  | _ => none }
def classLeastRow : OpenClaim := { program := "ytpnghcaccfnngaagreatdoor", sum := "d52c51dd146abf6d693452dedec7d72c1ec1915677e61c192f9fa24575a685d9", func := "bitepoint/bitepointlaw01.ClassLeast", spec := "classLeast", inPlace := ["internal/abi.NoEscape", "internal/bytealg.MakeNoZero", "internal/bytealg.IndexByteString", "internal/bytealg.IndexString", "internal/bytealg.CountString"], unfollowed := true, recurses := true, named := ["unicode/utf8.first", "unicode/utf8.acceptRanges", "internal/bytealg.MaxLen"], plainKeys := false, apart := false, laid := [("unicode/utf8.acceptRanges", laid_unicode_utf8_acceptRanges), ("unicode/utf8.first", laid_unicode_utf8_first)] }
def ClassLeastSaid : Prop := classLeastRow.holds Tryz.pinned (OpenSpec.ofChange classLeastSpec)

/-- ITS FALSE NEIGHBOUR: 'it returns false'. Refute it at one input. -/
def classLeastWrong : ChangeSpec := { name := "classLeast", fn := fun _ => fun
  | [d1, d2, d3] => { results := [.lit (.bool false)], args := [d1, d2, d3] }
  | _ => none }
def ClassLeastWrongFalsely : Prop := classLeastRow.holds Tryz.pinned (OpenSpec.ofChange classLeastWrong)

/-- 'bitepointlaw01.ClassSame': WHATEVER THE INPUT: true; the input reads as it did. -/
def classSameSpec : ChangeSpec := { name := "classSame", fn := fun _ => fun
  | [d1, d2, d3] => { results := [.lit (.bool true)], args := [d1, d2, d3] }
  | _ => none }
def classSameRow : OpenClaim := { program := "ytpnghcaccfnngaagreatdoor", sum := "d52c51dd146abf6d693452dedec7d72c1ec1915677e61c192f9fa24575a685d9", func := "bitepoint/bitepointlaw01.ClassSame", spec := "classSame", inPlace := ["internal/abi.NoEscape", "internal/bytealg.MakeNoZero", "internal/bytealg.IndexByteString", "internal/bytealg.IndexString", "internal/bytealg.CountString"], unfollowed := true, recurses := true, named := ["unicode/utf8.first", "unicode/utf8.acceptRanges", "internal/bytealg.MaxLen"], plainKeys := false, apart := false, laid := [("unicode/utf8.acceptRanges", laid_unicode_utf8_acceptRanges), ("unicode/utf8.first", laid_unicode_utf8_first)] }
def ClassSameSaid : Prop := classSameRow.holds Tryz.pinned (OpenSpec.ofChange classSameSpec)

/-- ITS FALSE NEIGHBOUR: 'it returns false'. Refute it at one input. -/
def classSameWrong : ChangeSpec := { name := "classSame", fn := fun _ => fun
  | [d1, d2, d3] => { results := [.lit (.bool false)], args := [d1, d2, d3] }
  | _ => none }
def ClassSameWrongFalsely : Prop := classSameRow.holds Tryz.pinned (OpenSpec.ofChange classSameWrong)

/-- 'bitepointlaw01.ClassOrder': WHATEVER THE INPUT: true; the input reads as it did. -/
def classOrderSpec : ChangeSpec := { name := "classOrder", fn := fun _ => fun
  | [d1, d2, d3] => { results := [.lit (.bool true)], args := [d1, d2, d3] }
  | _ => none }
def classOrderRow : OpenClaim := { program := "ytpnghcaccfnngaagreatdoor", sum := "d52c51dd146abf6d693452dedec7d72c1ec1915677e61c192f9fa24575a685d9", func := "bitepoint/bitepointlaw01.ClassOrder", spec := "classOrder", inPlace := ["internal/abi.NoEscape", "internal/bytealg.MakeNoZero", "internal/bytealg.IndexByteString", "internal/bytealg.IndexString", "internal/bytealg.CountString"], unfollowed := true, recurses := true, named := ["unicode/utf8.first", "unicode/utf8.acceptRanges", "internal/bytealg.MaxLen"], plainKeys := false, apart := false, laid := [("unicode/utf8.acceptRanges", laid_unicode_utf8_acceptRanges), ("unicode/utf8.first", laid_unicode_utf8_first)] }
def ClassOrderSaid : Prop := classOrderRow.holds Tryz.pinned (OpenSpec.ofChange classOrderSpec)

/-- ITS FALSE NEIGHBOUR: 'it returns false'. Refute it at one input. -/
def classOrderWrong : ChangeSpec := { name := "classOrder", fn := fun _ => fun
  | [d1, d2, d3] => { results := [.lit (.bool false)], args := [d1, d2, d3] }
  | _ => none }
def ClassOrderWrongFalsely : Prop := classOrderRow.holds Tryz.pinned (OpenSpec.ofChange classOrderWrong)

/-- 'bitepointlaw01.ClassMore': WHATEVER THE INPUT: true; the input reads as it did. -/
def classMoreSpec : ChangeSpec := { name := "classMore", fn := fun _ => fun
  | [d1, d2, d3] => { results := [.lit (.bool true)], args := [d1, d2, d3] }
  | _ => none }
def classMoreRow : OpenClaim := { program := "ytpnghcaccfnngaagreatdoor", sum := "d52c51dd146abf6d693452dedec7d72c1ec1915677e61c192f9fa24575a685d9", func := "bitepoint/bitepointlaw01.ClassMore", spec := "classMore", inPlace := ["internal/abi.NoEscape", "internal/bytealg.MakeNoZero", "internal/bytealg.IndexByteString", "internal/bytealg.IndexString", "internal/bytealg.CountString"], unfollowed := true, recurses := true, named := ["unicode/utf8.first", "unicode/utf8.acceptRanges", "internal/bytealg.MaxLen"], plainKeys := false, apart := false, laid := [("unicode/utf8.acceptRanges", laid_unicode_utf8_acceptRanges), ("unicode/utf8.first", laid_unicode_utf8_first)] }
def ClassMoreSaid : Prop := classMoreRow.holds Tryz.pinned (OpenSpec.ofChange classMoreSpec)

/-- ITS FALSE NEIGHBOUR: 'it returns false'. Refute it at one input. -/
def classMoreWrong : ChangeSpec := { name := "classMore", fn := fun _ => fun
  | [d1, d2, d3] => { results := [.lit (.bool false)], args := [d1, d2, d3] }
  | _ => none }
def ClassMoreWrongFalsely : Prop := classMoreRow.holds Tryz.pinned (OpenSpec.ofChange classMoreWrong)

/-- 'bitepointlaw01.ClassCompared': WHATEVER THE INPUT: true; the input reads as it did. -/
def classComparedSpec : ChangeSpec := { name := "classCompared", fn := fun _ => fun
  | [d1, d2, d3] => { results := [.lit (.bool true)], args := [d1, d2, d3] }
  | _ => none }
def classComparedRow : OpenClaim := { program := "ytpnghcaccfnngaagreatdoor", sum := "d52c51dd146abf6d693452dedec7d72c1ec1915677e61c192f9fa24575a685d9", func := "bitepoint/bitepointlaw01.ClassCompared", spec := "classCompared", inPlace := ["internal/abi.NoEscape", "internal/bytealg.MakeNoZero", "internal/bytealg.IndexByteString", "internal/bytealg.IndexString", "internal/bytealg.CountString"], unfollowed := true, recurses := true, named := ["unicode/utf8.first", "unicode/utf8.acceptRanges", "internal/bytealg.MaxLen"], plainKeys := false, apart := false, laid := [("unicode/utf8.acceptRanges", laid_unicode_utf8_acceptRanges), ("unicode/utf8.first", laid_unicode_utf8_first)] }
def ClassComparedSaid : Prop := classComparedRow.holds Tryz.pinned (OpenSpec.ofChange classComparedSpec)

/-- ITS FALSE NEIGHBOUR: 'it returns false'. Refute it at one input. -/
def classComparedWrong : ChangeSpec := { name := "classCompared", fn := fun _ => fun
  | [d1, d2, d3] => { results := [.lit (.bool false)], args := [d1, d2, d3] }
  | _ => none }
def ClassComparedWrongFalsely : Prop := classComparedRow.holds Tryz.pinned (OpenSpec.ofChange classComparedWrong)

/-- 'bitepointlaw01.ClassBoth': WHATEVER THE INPUT: true; the input reads as it did. -/
def classBothSpec : ChangeSpec := { name := "classBoth", fn := fun _ => fun
  | [d1, d2, d3] => { results := [.lit (.bool true)], args := [d1, d2, d3] }
  | _ => none }
def classBothRow : OpenClaim := { program := "ytpnghcaccfnngaagreatdoor", sum := "d52c51dd146abf6d693452dedec7d72c1ec1915677e61c192f9fa24575a685d9", func := "bitepoint/bitepointlaw01.ClassBoth", spec := "classBoth", inPlace := ["internal/abi.NoEscape", "internal/bytealg.MakeNoZero", "internal/bytealg.IndexByteString", "internal/bytealg.IndexString", "internal/bytealg.CountString"], unfollowed := true, recurses := true, named := ["unicode/utf8.first", "unicode/utf8.acceptRanges", "internal/bytealg.MaxLen"], plainKeys := false, apart := false, laid := [("unicode/utf8.acceptRanges", laid_unicode_utf8_acceptRanges), ("unicode/utf8.first", laid_unicode_utf8_first)] }
def ClassBothSaid : Prop := classBothRow.holds Tryz.pinned (OpenSpec.ofChange classBothSpec)

/-- ITS FALSE NEIGHBOUR: 'it returns false'. Refute it at one input. -/
def classBothWrong : ChangeSpec := { name := "classBoth", fn := fun _ => fun
  | [d1, d2, d3] => { results := [.lit (.bool false)], args := [d1, d2, d3] }
  | _ => none }
def ClassBothWrongFalsely : Prop := classBothRow.holds Tryz.pinned (OpenSpec.ofChange classBothWrong)

/-- 'bitepointlaw01.ClassRound': WHATEVER THE INPUT: true; the input reads as it did. -/
def classRoundSpec : ChangeSpec := { name := "classRound", fn := fun _ => fun
  | [d1, d2, d3] => { results := [.lit (.bool true)], args := [d1, d2, d3] }
  | _ => none }
def classRoundRow : OpenClaim := { program := "ytpnghcaccfnngaagreatdoor", sum := "d52c51dd146abf6d693452dedec7d72c1ec1915677e61c192f9fa24575a685d9", func := "bitepoint/bitepointlaw01.ClassRound", spec := "classRound", inPlace := ["internal/abi.NoEscape", "internal/bytealg.MakeNoZero", "internal/bytealg.IndexByteString", "internal/bytealg.IndexString", "internal/bytealg.CountString"], unfollowed := true, recurses := true, named := ["unicode/utf8.first", "unicode/utf8.acceptRanges", "internal/bytealg.MaxLen"], plainKeys := false, apart := false, laid := [("unicode/utf8.acceptRanges", laid_unicode_utf8_acceptRanges), ("unicode/utf8.first", laid_unicode_utf8_first)] }
def ClassRoundSaid : Prop := classRoundRow.holds Tryz.pinned (OpenSpec.ofChange classRoundSpec)

/-- ITS FALSE NEIGHBOUR: 'it returns false'. Refute it at one input. -/
def classRoundWrong : ChangeSpec := { name := "classRound", fn := fun _ => fun
  | [d1, d2, d3] => { results := [.lit (.bool false)], args := [d1, d2, d3] }
  | _ => none }
def ClassRoundWrongFalsely : Prop := classRoundRow.holds Tryz.pinned (OpenSpec.ofChange classRoundWrong)

/-- 'bitepointlaw01.ClassChecks': WHATEVER THE INPUT: true; the input reads as it did. -/
def classChecksSpec : ChangeSpec := { name := "classChecks", fn := fun _ => fun
  | [d1, d2] => { results := [.lit (.bool true)], args := [d1, d2] }
  | _ => none }
def classChecksRow : OpenClaim := { program := "ytpnghcaccfnngaagreatdoor", sum := "d52c51dd146abf6d693452dedec7d72c1ec1915677e61c192f9fa24575a685d9", func := "bitepoint/bitepointlaw01.ClassChecks", spec := "classChecks", inPlace := ["internal/abi.NoEscape", "internal/bytealg.MakeNoZero", "internal/bytealg.IndexByteString", "internal/bytealg.IndexString", "internal/bytealg.CountString"], unfollowed := true, recurses := true, named := ["unicode/utf8.first", "unicode/utf8.acceptRanges", "internal/bytealg.MaxLen"], plainKeys := false, apart := false, laid := [("unicode/utf8.acceptRanges", laid_unicode_utf8_acceptRanges), ("unicode/utf8.first", laid_unicode_utf8_first)] }
def ClassChecksSaid : Prop := classChecksRow.holds Tryz.pinned (OpenSpec.ofChange classChecksSpec)

/-- ITS FALSE NEIGHBOUR: 'it returns false'. Refute it at one input. -/
def classChecksWrong : ChangeSpec := { name := "classChecks", fn := fun _ => fun
  | [d1, d2] => { results := [.lit (.bool false)], args := [d1, d2] }
  | _ => none }
def ClassChecksWrongFalsely : Prop := classChecksRow.holds Tryz.pinned (OpenSpec.ofChange classChecksWrong)

/- THE SECOND FORM. 'bulk': how many values and letters a reading holds, each counted each time it is reached (what is shared counts as often as it is met; a slice's spare places count too). A statement '..UptoSaid' is the law's where the arguments, and the package variables that the reading takes, are together of bulk at most 1048576: NARROWER than '..Said'. Prove '..Said' where nothing that the law and all that it calls make is longer than what came in: it says more and counts as full. Else prove '..UptoSaid'. A law counts once. -/
mutual
def uptoBulk {H : Type} : DataW H → Nat
  | .lit (.string bytes) => bytes.length + 1
  | .lit _ => 1
  | .nil => 1
  | .ptr d => uptoBulk d + 1
  | .slice elems spare => uptoBulkAll elems + uptoBulkAll spare + 1
  | .agg parts => uptoBulkAll parts + 1
  | .iface _ d => uptoBulk d + 1
  | .map entries => uptoBulkEntries entries + 1
  | .held _ => 1
def uptoBulkAll {H : Type} : List (DataW H) → Nat
  | [] => 0
  | d :: r => uptoBulk d + uptoBulkAll r
def uptoBulkEntries {H : Type} : List (Lit × DataW H) → Nat
  | [] => 0
  | x :: r => uptoBulkEntry x + uptoBulkEntries r
def uptoBulkEntry {H : Type} : Lit × DataW H → Nat
  | (.string bytes, d) => bytes.length + uptoBulk d + 1
  | (_, d) => uptoBulk d + 1
 end
def uptoSmall : (H : Type) → List (DataW H) → Bool := fun _ ds => decide (uptoBulkAll ds ≤ 1048576)
def OpenSpec.upto (s : _root_.Go.ChangeSpec) : _root_.Go.OpenSpec := { _root_.Go.OpenSpec.ofChange s with cond := some uptoSmall }

/-- 'bitepointlaw01.ClassDays', WHERE WHAT IT READS IS OF BULK AT MOST 1048576: true; the input reads as it did. -/
def classDaysUptoRow : OpenClaim := { program := "ytpnghcaccfnngaagreatdoor", sum := "d52c51dd146abf6d693452dedec7d72c1ec1915677e61c192f9fa24575a685d9", func := "bitepoint/bitepointlaw01.ClassDays", spec := "classDays", inPlace := ["internal/abi.NoEscape", "internal/bytealg.MakeNoZero", "internal/bytealg.IndexByteString", "internal/bytealg.IndexString", "internal/bytealg.CountString"], unfollowed := true, recurses := true, named := ["unicode/utf8.first", "unicode/utf8.acceptRanges", "internal/bytealg.MaxLen"], plainKeys := false, apart := false, laid := [("unicode/utf8.acceptRanges", laid_unicode_utf8_acceptRanges), ("unicode/utf8.first", laid_unicode_utf8_first)], narrowed := true }
def ClassDaysUptoSaid : Prop := classDaysUptoRow.holds Tryz.pinned (OpenSpec.upto classDaysSpec)

/-- 'bitepointlaw01.ClassMay', WHERE WHAT IT READS IS OF BULK AT MOST 1048576: true; the input reads as it did. -/
def classMayUptoRow : OpenClaim := { program := "ytpnghcaccfnngaagreatdoor", sum := "d52c51dd146abf6d693452dedec7d72c1ec1915677e61c192f9fa24575a685d9", func := "bitepoint/bitepointlaw01.ClassMay", spec := "classMay", inPlace := ["internal/abi.NoEscape", "internal/bytealg.MakeNoZero", "internal/bytealg.IndexByteString", "internal/bytealg.IndexString", "internal/bytealg.CountString"], unfollowed := true, recurses := true, named := ["unicode/utf8.first", "unicode/utf8.acceptRanges", "internal/bytealg.MaxLen"], plainKeys := false, apart := false, laid := [("unicode/utf8.acceptRanges", laid_unicode_utf8_acceptRanges), ("unicode/utf8.first", laid_unicode_utf8_first)], narrowed := true }
def ClassMayUptoSaid : Prop := classMayUptoRow.holds Tryz.pinned (OpenSpec.upto classMaySpec)

/-- 'bitepointlaw01.ClassForms', WHERE WHAT IT READS IS OF BULK AT MOST 1048576: true; the input reads as it did. -/
def classFormsUptoRow : OpenClaim := { program := "ytpnghcaccfnngaagreatdoor", sum := "d52c51dd146abf6d693452dedec7d72c1ec1915677e61c192f9fa24575a685d9", func := "bitepoint/bitepointlaw01.ClassForms", spec := "classForms", inPlace := ["internal/abi.NoEscape", "internal/bytealg.MakeNoZero", "internal/bytealg.IndexByteString", "internal/bytealg.IndexString", "internal/bytealg.CountString"], unfollowed := true, recurses := true, named := ["unicode/utf8.first", "unicode/utf8.acceptRanges", "internal/bytealg.MaxLen"], plainKeys := false, apart := false, laid := [("unicode/utf8.acceptRanges", laid_unicode_utf8_acceptRanges), ("unicode/utf8.first", laid_unicode_utf8_first)], narrowed := true }
def ClassFormsUptoSaid : Prop := classFormsUptoRow.holds Tryz.pinned (OpenSpec.upto classFormsSpec)

/-- 'bitepointlaw01.ClassTexts', WHERE WHAT IT READS IS OF BULK AT MOST 1048576: true; the input reads as it did. -/
def classTextsUptoRow : OpenClaim := { program := "ytpnghcaccfnngaagreatdoor", sum := "d52c51dd146abf6d693452dedec7d72c1ec1915677e61c192f9fa24575a685d9", func := "bitepoint/bitepointlaw01.ClassTexts", spec := "classTexts", inPlace := ["internal/abi.NoEscape", "internal/bytealg.MakeNoZero", "internal/bytealg.IndexByteString", "internal/bytealg.IndexString", "internal/bytealg.CountString"], unfollowed := true, recurses := true, named := ["unicode/utf8.first", "unicode/utf8.acceptRanges", "internal/bytealg.MaxLen"], plainKeys := false, apart := false, laid := [("unicode/utf8.acceptRanges", laid_unicode_utf8_acceptRanges), ("unicode/utf8.first", laid_unicode_utf8_first)], narrowed := true }
def ClassTextsUptoSaid : Prop := classTextsUptoRow.holds Tryz.pinned (OpenSpec.upto classTextsSpec)

/-- 'bitepointlaw01.ClassKnown', WHERE WHAT IT READS IS OF BULK AT MOST 1048576: true; the input reads as it did. -/
def classKnownUptoRow : OpenClaim := { program := "ytpnghcaccfnngaagreatdoor", sum := "d52c51dd146abf6d693452dedec7d72c1ec1915677e61c192f9fa24575a685d9", func := "bitepoint/bitepointlaw01.ClassKnown", spec := "classKnown", inPlace := ["internal/abi.NoEscape", "internal/bytealg.MakeNoZero", "internal/bytealg.IndexByteString", "internal/bytealg.IndexString", "internal/bytealg.CountString"], unfollowed := true, recurses := true, named := ["unicode/utf8.first", "unicode/utf8.acceptRanges", "internal/bytealg.MaxLen"], plainKeys := false, apart := false, laid := [("unicode/utf8.acceptRanges", laid_unicode_utf8_acceptRanges), ("unicode/utf8.first", laid_unicode_utf8_first)], narrowed := true }
def ClassKnownUptoSaid : Prop := classKnownUptoRow.holds Tryz.pinned (OpenSpec.upto classKnownSpec)

/-- 'bitepointlaw01.ClassInverse', WHERE WHAT IT READS IS OF BULK AT MOST 1048576: true; the input reads as it did. -/
def classInverseUptoRow : OpenClaim := { program := "ytpnghcaccfnngaagreatdoor", sum := "d52c51dd146abf6d693452dedec7d72c1ec1915677e61c192f9fa24575a685d9", func := "bitepoint/bitepointlaw01.ClassInverse", spec := "classInverse", inPlace := ["internal/abi.NoEscape", "internal/bytealg.MakeNoZero", "internal/bytealg.IndexByteString", "internal/bytealg.IndexString", "internal/bytealg.CountString"], unfollowed := true, recurses := true, named := ["unicode/utf8.first", "unicode/utf8.acceptRanges", "internal/bytealg.MaxLen"], plainKeys := false, apart := false, laid := [("unicode/utf8.acceptRanges", laid_unicode_utf8_acceptRanges), ("unicode/utf8.first", laid_unicode_utf8_first)], narrowed := true }
def ClassInverseUptoSaid : Prop := classInverseUptoRow.holds Tryz.pinned (OpenSpec.upto classInverseSpec)

/-- 'bitepointlaw01.ClassAges', WHERE WHAT IT READS IS OF BULK AT MOST 1048576: true; the input reads as it did. -/
def classAgesUptoRow : OpenClaim := { program := "ytpnghcaccfnngaagreatdoor", sum := "d52c51dd146abf6d693452dedec7d72c1ec1915677e61c192f9fa24575a685d9", func := "bitepoint/bitepointlaw01.ClassAges", spec := "classAges", inPlace := ["internal/abi.NoEscape", "internal/bytealg.MakeNoZero", "internal/bytealg.IndexByteString", "internal/bytealg.IndexString", "internal/bytealg.CountString"], unfollowed := true, recurses := true, named := ["unicode/utf8.first", "unicode/utf8.acceptRanges", "internal/bytealg.MaxLen"], plainKeys := false, apart := false, laid := [("unicode/utf8.acceptRanges", laid_unicode_utf8_acceptRanges), ("unicode/utf8.first", laid_unicode_utf8_first)], narrowed := true }
def ClassAgesUptoSaid : Prop := classAgesUptoRow.holds Tryz.pinned (OpenSpec.upto classAgesSpec)

/-- 'bitepointlaw01.ClassLeast', WHERE WHAT IT READS IS OF BULK AT MOST 1048576: true; the input reads as it did. -/
def classLeastUptoRow : OpenClaim := { program := "ytpnghcaccfnngaagreatdoor", sum := "d52c51dd146abf6d693452dedec7d72c1ec1915677e61c192f9fa24575a685d9", func := "bitepoint/bitepointlaw01.ClassLeast", spec := "classLeast", inPlace := ["internal/abi.NoEscape", "internal/bytealg.MakeNoZero", "internal/bytealg.IndexByteString", "internal/bytealg.IndexString", "internal/bytealg.CountString"], unfollowed := true, recurses := true, named := ["unicode/utf8.first", "unicode/utf8.acceptRanges", "internal/bytealg.MaxLen"], plainKeys := false, apart := false, laid := [("unicode/utf8.acceptRanges", laid_unicode_utf8_acceptRanges), ("unicode/utf8.first", laid_unicode_utf8_first)], narrowed := true }
def ClassLeastUptoSaid : Prop := classLeastUptoRow.holds Tryz.pinned (OpenSpec.upto classLeastSpec)

/-- 'bitepointlaw01.ClassSame', WHERE WHAT IT READS IS OF BULK AT MOST 1048576: true; the input reads as it did. -/
def classSameUptoRow : OpenClaim := { program := "ytpnghcaccfnngaagreatdoor", sum := "d52c51dd146abf6d693452dedec7d72c1ec1915677e61c192f9fa24575a685d9", func := "bitepoint/bitepointlaw01.ClassSame", spec := "classSame", inPlace := ["internal/abi.NoEscape", "internal/bytealg.MakeNoZero", "internal/bytealg.IndexByteString", "internal/bytealg.IndexString", "internal/bytealg.CountString"], unfollowed := true, recurses := true, named := ["unicode/utf8.first", "unicode/utf8.acceptRanges", "internal/bytealg.MaxLen"], plainKeys := false, apart := false, laid := [("unicode/utf8.acceptRanges", laid_unicode_utf8_acceptRanges), ("unicode/utf8.first", laid_unicode_utf8_first)], narrowed := true }
def ClassSameUptoSaid : Prop := classSameUptoRow.holds Tryz.pinned (OpenSpec.upto classSameSpec)

/-- 'bitepointlaw01.ClassOrder', WHERE WHAT IT READS IS OF BULK AT MOST 1048576: true; the input reads as it did. -/
def classOrderUptoRow : OpenClaim := { program := "ytpnghcaccfnngaagreatdoor", sum := "d52c51dd146abf6d693452dedec7d72c1ec1915677e61c192f9fa24575a685d9", func := "bitepoint/bitepointlaw01.ClassOrder", spec := "classOrder", inPlace := ["internal/abi.NoEscape", "internal/bytealg.MakeNoZero", "internal/bytealg.IndexByteString", "internal/bytealg.IndexString", "internal/bytealg.CountString"], unfollowed := true, recurses := true, named := ["unicode/utf8.first", "unicode/utf8.acceptRanges", "internal/bytealg.MaxLen"], plainKeys := false, apart := false, laid := [("unicode/utf8.acceptRanges", laid_unicode_utf8_acceptRanges), ("unicode/utf8.first", laid_unicode_utf8_first)], narrowed := true }
def ClassOrderUptoSaid : Prop := classOrderUptoRow.holds Tryz.pinned (OpenSpec.upto classOrderSpec)

/-- 'bitepointlaw01.ClassMore', WHERE WHAT IT READS IS OF BULK AT MOST 1048576: true; the input reads as it did. -/
def classMoreUptoRow : OpenClaim := { program := "ytpnghcaccfnngaagreatdoor", sum := "d52c51dd146abf6d693452dedec7d72c1ec1915677e61c192f9fa24575a685d9", func := "bitepoint/bitepointlaw01.ClassMore", spec := "classMore", inPlace := ["internal/abi.NoEscape", "internal/bytealg.MakeNoZero", "internal/bytealg.IndexByteString", "internal/bytealg.IndexString", "internal/bytealg.CountString"], unfollowed := true, recurses := true, named := ["unicode/utf8.first", "unicode/utf8.acceptRanges", "internal/bytealg.MaxLen"], plainKeys := false, apart := false, laid := [("unicode/utf8.acceptRanges", laid_unicode_utf8_acceptRanges), ("unicode/utf8.first", laid_unicode_utf8_first)], narrowed := true }
def ClassMoreUptoSaid : Prop := classMoreUptoRow.holds Tryz.pinned (OpenSpec.upto classMoreSpec)

/-- 'bitepointlaw01.ClassCompared', WHERE WHAT IT READS IS OF BULK AT MOST 1048576: true; the input reads as it did. -/
def classComparedUptoRow : OpenClaim := { program := "ytpnghcaccfnngaagreatdoor", sum := "d52c51dd146abf6d693452dedec7d72c1ec1915677e61c192f9fa24575a685d9", func := "bitepoint/bitepointlaw01.ClassCompared", spec := "classCompared", inPlace := ["internal/abi.NoEscape", "internal/bytealg.MakeNoZero", "internal/bytealg.IndexByteString", "internal/bytealg.IndexString", "internal/bytealg.CountString"], unfollowed := true, recurses := true, named := ["unicode/utf8.first", "unicode/utf8.acceptRanges", "internal/bytealg.MaxLen"], plainKeys := false, apart := false, laid := [("unicode/utf8.acceptRanges", laid_unicode_utf8_acceptRanges), ("unicode/utf8.first", laid_unicode_utf8_first)], narrowed := true }
def ClassComparedUptoSaid : Prop := classComparedUptoRow.holds Tryz.pinned (OpenSpec.upto classComparedSpec)

/-- 'bitepointlaw01.ClassBoth', WHERE WHAT IT READS IS OF BULK AT MOST 1048576: true; the input reads as it did. -/
def classBothUptoRow : OpenClaim := { program := "ytpnghcaccfnngaagreatdoor", sum := "d52c51dd146abf6d693452dedec7d72c1ec1915677e61c192f9fa24575a685d9", func := "bitepoint/bitepointlaw01.ClassBoth", spec := "classBoth", inPlace := ["internal/abi.NoEscape", "internal/bytealg.MakeNoZero", "internal/bytealg.IndexByteString", "internal/bytealg.IndexString", "internal/bytealg.CountString"], unfollowed := true, recurses := true, named := ["unicode/utf8.first", "unicode/utf8.acceptRanges", "internal/bytealg.MaxLen"], plainKeys := false, apart := false, laid := [("unicode/utf8.acceptRanges", laid_unicode_utf8_acceptRanges), ("unicode/utf8.first", laid_unicode_utf8_first)], narrowed := true }
def ClassBothUptoSaid : Prop := classBothUptoRow.holds Tryz.pinned (OpenSpec.upto classBothSpec)

/-- 'bitepointlaw01.ClassRound', WHERE WHAT IT READS IS OF BULK AT MOST 1048576: true; the input reads as it did. -/
def classRoundUptoRow : OpenClaim := { program := "ytpnghcaccfnngaagreatdoor", sum := "d52c51dd146abf6d693452dedec7d72c1ec1915677e61c192f9fa24575a685d9", func := "bitepoint/bitepointlaw01.ClassRound", spec := "classRound", inPlace := ["internal/abi.NoEscape", "internal/bytealg.MakeNoZero", "internal/bytealg.IndexByteString", "internal/bytealg.IndexString", "internal/bytealg.CountString"], unfollowed := true, recurses := true, named := ["unicode/utf8.first", "unicode/utf8.acceptRanges", "internal/bytealg.MaxLen"], plainKeys := false, apart := false, laid := [("unicode/utf8.acceptRanges", laid_unicode_utf8_acceptRanges), ("unicode/utf8.first", laid_unicode_utf8_first)], narrowed := true }
def ClassRoundUptoSaid : Prop := classRoundUptoRow.holds Tryz.pinned (OpenSpec.upto classRoundSpec)

/-- 'bitepointlaw01.ClassChecks', WHERE WHAT IT READS IS OF BULK AT MOST 1048576: true; the input reads as it did. -/
def classChecksUptoRow : OpenClaim := { program := "ytpnghcaccfnngaagreatdoor", sum := "d52c51dd146abf6d693452dedec7d72c1ec1915677e61c192f9fa24575a685d9", func := "bitepoint/bitepointlaw01.ClassChecks", spec := "classChecks", inPlace := ["internal/abi.NoEscape", "internal/bytealg.MakeNoZero", "internal/bytealg.IndexByteString", "internal/bytealg.IndexString", "internal/bytealg.CountString"], unfollowed := true, recurses := true, named := ["unicode/utf8.first", "unicode/utf8.acceptRanges", "internal/bytealg.MaxLen"], plainKeys := false, apart := false, laid := [("unicode/utf8.acceptRanges", laid_unicode_utf8_acceptRanges), ("unicode/utf8.first", laid_unicode_utf8_first)], narrowed := true }
def ClassChecksUptoSaid : Prop := classChecksUptoRow.holds Tryz.pinned (OpenSpec.upto classChecksSpec)

end Rows
end Go.Proofs.YtpnghcaccfnngaaGreatDoor

/-
  DERIVED. GIVEN WITH THE SEED: THE CARDS: each row of YtpnghcaccfnngaaGreatDoorRows.lean that lists a variable, with what it lists TIED to the program's text (the seventh form; the later family's looks); each row that meets fmt, with fmt's text TOLD by the authors' own Lean function (tested against real Go, not proved from fmt's source: count such statements apart). THE CARD IS WHAT COUNTS. Prove the row's statement (the work); the ties are given (YtpnghcaccfnngaaGreatDoorTie.lean); close each card by the builder's one call (the guide's Derived/Test/ToyasCard.lean, 'card_holds'). Laid BY PROGRAM, IN A SANDBOX (cutbox-door.mjs). By AI agents, Wed Nov 11 2026. No macro, syntax, notation, axiom, sorry.
-/
import Derived.Test.YtpnghcaccfnngaaGreatDoorRows
import GoSem.ClaimSeven
namespace Go.Proofs.YtpnghcaccfnngaaGreatDoor
namespace Rows

/-- THE TIED CARD OF 'bitepointlaw01.ClassDays'. -/
def classDaysCard : Claim7 := { stood := { row := classDaysRow, standIns := [], harness := (true, "91db0f7fb9adc892578cf4676a55cfa841b71875868d0880e18828398aea63f4"), looks := true }, kinds := [], alts := [], laidByText := true, laidKinds := [.data, .pinned], laidTests := true, laidLooks := .later }
def ClassDaysCardSaid : Prop := Claim7.holds Tryz.pinned (.plain (OpenSpec.ofChange classDaysSpec)) classDaysCard

/-- THE TIED CARD OF 'bitepointlaw01.ClassMay'. -/
def classMayCard : Claim7 := { stood := { row := classMayRow, standIns := [], harness := (true, "91db0f7fb9adc892578cf4676a55cfa841b71875868d0880e18828398aea63f4"), looks := true }, kinds := [], alts := [], laidByText := true, laidKinds := [.data, .pinned], laidTests := true, laidLooks := .later }
def ClassMayCardSaid : Prop := Claim7.holds Tryz.pinned (.plain (OpenSpec.ofChange classMaySpec)) classMayCard

/-- THE TIED CARD OF 'bitepointlaw01.ClassForms'. -/
def classFormsCard : Claim7 := { stood := { row := classFormsRow, standIns := [], harness := (true, "91db0f7fb9adc892578cf4676a55cfa841b71875868d0880e18828398aea63f4"), looks := true }, kinds := [], alts := [], laidByText := true, laidKinds := [.data, .pinned], laidTests := true, laidLooks := .later }
def ClassFormsCardSaid : Prop := Claim7.holds Tryz.pinned (.plain (OpenSpec.ofChange classFormsSpec)) classFormsCard

/-- THE TIED CARD OF 'bitepointlaw01.ClassTexts'. -/
def classTextsCard : Claim7 := { stood := { row := classTextsRow, standIns := [], harness := (true, "91db0f7fb9adc892578cf4676a55cfa841b71875868d0880e18828398aea63f4"), looks := true }, kinds := [], alts := [], laidByText := true, laidKinds := [.data, .pinned], laidTests := true, laidLooks := .later }
def ClassTextsCardSaid : Prop := Claim7.holds Tryz.pinned (.plain (OpenSpec.ofChange classTextsSpec)) classTextsCard

/-- THE TIED CARD OF 'bitepointlaw01.ClassKnown'. -/
def classKnownCard : Claim7 := { stood := { row := classKnownRow, standIns := [], harness := (true, "91db0f7fb9adc892578cf4676a55cfa841b71875868d0880e18828398aea63f4"), looks := true }, kinds := [], alts := [], laidByText := true, laidKinds := [.data, .pinned], laidTests := true, laidLooks := .later }
def ClassKnownCardSaid : Prop := Claim7.holds Tryz.pinned (.plain (OpenSpec.ofChange classKnownSpec)) classKnownCard

/-- THE TIED CARD OF 'bitepointlaw01.ClassInverse'. -/
def classInverseCard : Claim7 := { stood := { row := classInverseRow, standIns := [], harness := (true, "91db0f7fb9adc892578cf4676a55cfa841b71875868d0880e18828398aea63f4"), looks := true }, kinds := [], alts := [], laidByText := true, laidKinds := [.data, .pinned], laidTests := true, laidLooks := .later }
def ClassInverseCardSaid : Prop := Claim7.holds Tryz.pinned (.plain (OpenSpec.ofChange classInverseSpec)) classInverseCard

/-- THE TIED CARD OF 'bitepointlaw01.ClassAges'. -/
def classAgesCard : Claim7 := { stood := { row := classAgesRow, standIns := [], harness := (true, "91db0f7fb9adc892578cf4676a55cfa841b71875868d0880e18828398aea63f4"), looks := true }, kinds := [], alts := [], laidByText := true, laidKinds := [.data, .pinned], laidTests := true, laidLooks := .later }
def ClassAgesCardSaid : Prop := Claim7.holds Tryz.pinned (.plain (OpenSpec.ofChange classAgesSpec)) classAgesCard

/-- THE TIED CARD OF 'bitepointlaw01.ClassLeast'. -/
def classLeastCard : Claim7 := { stood := { row := classLeastRow, standIns := [], harness := (true, "91db0f7fb9adc892578cf4676a55cfa841b71875868d0880e18828398aea63f4"), looks := true }, kinds := [], alts := [], laidByText := true, laidKinds := [.data, .pinned], laidTests := true, laidLooks := .later }
def ClassLeastCardSaid : Prop := Claim7.holds Tryz.pinned (.plain (OpenSpec.ofChange classLeastSpec)) classLeastCard

/-- THE TIED CARD OF 'bitepointlaw01.ClassSame'. -/
def classSameCard : Claim7 := { stood := { row := classSameRow, standIns := [], harness := (true, "91db0f7fb9adc892578cf4676a55cfa841b71875868d0880e18828398aea63f4"), looks := true }, kinds := [], alts := [], laidByText := true, laidKinds := [.data, .pinned], laidTests := true, laidLooks := .later }
def ClassSameCardSaid : Prop := Claim7.holds Tryz.pinned (.plain (OpenSpec.ofChange classSameSpec)) classSameCard

/-- THE TIED CARD OF 'bitepointlaw01.ClassOrder'. -/
def classOrderCard : Claim7 := { stood := { row := classOrderRow, standIns := [], harness := (true, "91db0f7fb9adc892578cf4676a55cfa841b71875868d0880e18828398aea63f4"), looks := true }, kinds := [], alts := [], laidByText := true, laidKinds := [.data, .pinned], laidTests := true, laidLooks := .later }
def ClassOrderCardSaid : Prop := Claim7.holds Tryz.pinned (.plain (OpenSpec.ofChange classOrderSpec)) classOrderCard

/-- THE TIED CARD OF 'bitepointlaw01.ClassMore'. -/
def classMoreCard : Claim7 := { stood := { row := classMoreRow, standIns := [], harness := (true, "91db0f7fb9adc892578cf4676a55cfa841b71875868d0880e18828398aea63f4"), looks := true }, kinds := [], alts := [], laidByText := true, laidKinds := [.data, .pinned], laidTests := true, laidLooks := .later }
def ClassMoreCardSaid : Prop := Claim7.holds Tryz.pinned (.plain (OpenSpec.ofChange classMoreSpec)) classMoreCard

/-- THE TIED CARD OF 'bitepointlaw01.ClassCompared'. -/
def classComparedCard : Claim7 := { stood := { row := classComparedRow, standIns := [], harness := (true, "91db0f7fb9adc892578cf4676a55cfa841b71875868d0880e18828398aea63f4"), looks := true }, kinds := [], alts := [], laidByText := true, laidKinds := [.data, .pinned], laidTests := true, laidLooks := .later }
def ClassComparedCardSaid : Prop := Claim7.holds Tryz.pinned (.plain (OpenSpec.ofChange classComparedSpec)) classComparedCard

/-- THE TIED CARD OF 'bitepointlaw01.ClassBoth'. -/
def classBothCard : Claim7 := { stood := { row := classBothRow, standIns := [], harness := (true, "91db0f7fb9adc892578cf4676a55cfa841b71875868d0880e18828398aea63f4"), looks := true }, kinds := [], alts := [], laidByText := true, laidKinds := [.data, .pinned], laidTests := true, laidLooks := .later }
def ClassBothCardSaid : Prop := Claim7.holds Tryz.pinned (.plain (OpenSpec.ofChange classBothSpec)) classBothCard

/-- THE TIED CARD OF 'bitepointlaw01.ClassRound'. -/
def classRoundCard : Claim7 := { stood := { row := classRoundRow, standIns := [], harness := (true, "91db0f7fb9adc892578cf4676a55cfa841b71875868d0880e18828398aea63f4"), looks := true }, kinds := [], alts := [], laidByText := true, laidKinds := [.data, .pinned], laidTests := true, laidLooks := .later }
def ClassRoundCardSaid : Prop := Claim7.holds Tryz.pinned (.plain (OpenSpec.ofChange classRoundSpec)) classRoundCard

/-- THE TIED CARD OF 'bitepointlaw01.ClassChecks'. -/
def classChecksCard : Claim7 := { stood := { row := classChecksRow, standIns := [], harness := (true, "91db0f7fb9adc892578cf4676a55cfa841b71875868d0880e18828398aea63f4"), looks := true }, kinds := [], alts := [], laidByText := true, laidKinds := [.data, .pinned], laidTests := true, laidLooks := .later }
def ClassChecksCardSaid : Prop := Claim7.holds Tryz.pinned (.plain (OpenSpec.ofChange classChecksSpec)) classChecksCard

/-- THE SECOND FORM's CARD OF 'bitepointlaw01.ClassDays'. -/
def classDaysUptoCard : Claim7 := { stood := { row := classDaysUptoRow, standIns := [], harness := (true, "91db0f7fb9adc892578cf4676a55cfa841b71875868d0880e18828398aea63f4"), looks := true }, kinds := [], alts := [], laidByText := true, laidKinds := [.data, .pinned], laidTests := true, laidLooks := .later }
def ClassDaysUptoCardSaid : Prop := Claim7.holds Tryz.pinned (.plain (OpenSpec.upto classDaysSpec)) classDaysUptoCard

/-- THE SECOND FORM's CARD OF 'bitepointlaw01.ClassMay'. -/
def classMayUptoCard : Claim7 := { stood := { row := classMayUptoRow, standIns := [], harness := (true, "91db0f7fb9adc892578cf4676a55cfa841b71875868d0880e18828398aea63f4"), looks := true }, kinds := [], alts := [], laidByText := true, laidKinds := [.data, .pinned], laidTests := true, laidLooks := .later }
def ClassMayUptoCardSaid : Prop := Claim7.holds Tryz.pinned (.plain (OpenSpec.upto classMaySpec)) classMayUptoCard

/-- THE SECOND FORM's CARD OF 'bitepointlaw01.ClassForms'. -/
def classFormsUptoCard : Claim7 := { stood := { row := classFormsUptoRow, standIns := [], harness := (true, "91db0f7fb9adc892578cf4676a55cfa841b71875868d0880e18828398aea63f4"), looks := true }, kinds := [], alts := [], laidByText := true, laidKinds := [.data, .pinned], laidTests := true, laidLooks := .later }
def ClassFormsUptoCardSaid : Prop := Claim7.holds Tryz.pinned (.plain (OpenSpec.upto classFormsSpec)) classFormsUptoCard

/-- THE SECOND FORM's CARD OF 'bitepointlaw01.ClassTexts'. -/
def classTextsUptoCard : Claim7 := { stood := { row := classTextsUptoRow, standIns := [], harness := (true, "91db0f7fb9adc892578cf4676a55cfa841b71875868d0880e18828398aea63f4"), looks := true }, kinds := [], alts := [], laidByText := true, laidKinds := [.data, .pinned], laidTests := true, laidLooks := .later }
def ClassTextsUptoCardSaid : Prop := Claim7.holds Tryz.pinned (.plain (OpenSpec.upto classTextsSpec)) classTextsUptoCard

/-- THE SECOND FORM's CARD OF 'bitepointlaw01.ClassKnown'. -/
def classKnownUptoCard : Claim7 := { stood := { row := classKnownUptoRow, standIns := [], harness := (true, "91db0f7fb9adc892578cf4676a55cfa841b71875868d0880e18828398aea63f4"), looks := true }, kinds := [], alts := [], laidByText := true, laidKinds := [.data, .pinned], laidTests := true, laidLooks := .later }
def ClassKnownUptoCardSaid : Prop := Claim7.holds Tryz.pinned (.plain (OpenSpec.upto classKnownSpec)) classKnownUptoCard

/-- THE SECOND FORM's CARD OF 'bitepointlaw01.ClassInverse'. -/
def classInverseUptoCard : Claim7 := { stood := { row := classInverseUptoRow, standIns := [], harness := (true, "91db0f7fb9adc892578cf4676a55cfa841b71875868d0880e18828398aea63f4"), looks := true }, kinds := [], alts := [], laidByText := true, laidKinds := [.data, .pinned], laidTests := true, laidLooks := .later }
def ClassInverseUptoCardSaid : Prop := Claim7.holds Tryz.pinned (.plain (OpenSpec.upto classInverseSpec)) classInverseUptoCard

/-- THE SECOND FORM's CARD OF 'bitepointlaw01.ClassAges'. -/
def classAgesUptoCard : Claim7 := { stood := { row := classAgesUptoRow, standIns := [], harness := (true, "91db0f7fb9adc892578cf4676a55cfa841b71875868d0880e18828398aea63f4"), looks := true }, kinds := [], alts := [], laidByText := true, laidKinds := [.data, .pinned], laidTests := true, laidLooks := .later }
def ClassAgesUptoCardSaid : Prop := Claim7.holds Tryz.pinned (.plain (OpenSpec.upto classAgesSpec)) classAgesUptoCard

/-- THE SECOND FORM's CARD OF 'bitepointlaw01.ClassLeast'. -/
def classLeastUptoCard : Claim7 := { stood := { row := classLeastUptoRow, standIns := [], harness := (true, "91db0f7fb9adc892578cf4676a55cfa841b71875868d0880e18828398aea63f4"), looks := true }, kinds := [], alts := [], laidByText := true, laidKinds := [.data, .pinned], laidTests := true, laidLooks := .later }
def ClassLeastUptoCardSaid : Prop := Claim7.holds Tryz.pinned (.plain (OpenSpec.upto classLeastSpec)) classLeastUptoCard

/-- THE SECOND FORM's CARD OF 'bitepointlaw01.ClassSame'. -/
def classSameUptoCard : Claim7 := { stood := { row := classSameUptoRow, standIns := [], harness := (true, "91db0f7fb9adc892578cf4676a55cfa841b71875868d0880e18828398aea63f4"), looks := true }, kinds := [], alts := [], laidByText := true, laidKinds := [.data, .pinned], laidTests := true, laidLooks := .later }
def ClassSameUptoCardSaid : Prop := Claim7.holds Tryz.pinned (.plain (OpenSpec.upto classSameSpec)) classSameUptoCard

/-- THE SECOND FORM's CARD OF 'bitepointlaw01.ClassOrder'. -/
def classOrderUptoCard : Claim7 := { stood := { row := classOrderUptoRow, standIns := [], harness := (true, "91db0f7fb9adc892578cf4676a55cfa841b71875868d0880e18828398aea63f4"), looks := true }, kinds := [], alts := [], laidByText := true, laidKinds := [.data, .pinned], laidTests := true, laidLooks := .later }
def ClassOrderUptoCardSaid : Prop := Claim7.holds Tryz.pinned (.plain (OpenSpec.upto classOrderSpec)) classOrderUptoCard

/-- THE SECOND FORM's CARD OF 'bitepointlaw01.ClassMore'. -/
def classMoreUptoCard : Claim7 := { stood := { row := classMoreUptoRow, standIns := [], harness := (true, "91db0f7fb9adc892578cf4676a55cfa841b71875868d0880e18828398aea63f4"), looks := true }, kinds := [], alts := [], laidByText := true, laidKinds := [.data, .pinned], laidTests := true, laidLooks := .later }
def ClassMoreUptoCardSaid : Prop := Claim7.holds Tryz.pinned (.plain (OpenSpec.upto classMoreSpec)) classMoreUptoCard

/-- THE SECOND FORM's CARD OF 'bitepointlaw01.ClassCompared'. -/
def classComparedUptoCard : Claim7 := { stood := { row := classComparedUptoRow, standIns := [], harness := (true, "91db0f7fb9adc892578cf4676a55cfa841b71875868d0880e18828398aea63f4"), looks := true }, kinds := [], alts := [], laidByText := true, laidKinds := [.data, .pinned], laidTests := true, laidLooks := .later }
def ClassComparedUptoCardSaid : Prop := Claim7.holds Tryz.pinned (.plain (OpenSpec.upto classComparedSpec)) classComparedUptoCard

/-- THE SECOND FORM's CARD OF 'bitepointlaw01.ClassBoth'. -/
def classBothUptoCard : Claim7 := { stood := { row := classBothUptoRow, standIns := [], harness := (true, "91db0f7fb9adc892578cf4676a55cfa841b71875868d0880e18828398aea63f4"), looks := true }, kinds := [], alts := [], laidByText := true, laidKinds := [.data, .pinned], laidTests := true, laidLooks := .later }
def ClassBothUptoCardSaid : Prop := Claim7.holds Tryz.pinned (.plain (OpenSpec.upto classBothSpec)) classBothUptoCard

/-- THE SECOND FORM's CARD OF 'bitepointlaw01.ClassRound'. -/
def classRoundUptoCard : Claim7 := { stood := { row := classRoundUptoRow, standIns := [], harness := (true, "91db0f7fb9adc892578cf4676a55cfa841b71875868d0880e18828398aea63f4"), looks := true }, kinds := [], alts := [], laidByText := true, laidKinds := [.data, .pinned], laidTests := true, laidLooks := .later }
def ClassRoundUptoCardSaid : Prop := Claim7.holds Tryz.pinned (.plain (OpenSpec.upto classRoundSpec)) classRoundUptoCard

/-- THE SECOND FORM's CARD OF 'bitepointlaw01.ClassChecks'. -/
def classChecksUptoCard : Claim7 := { stood := { row := classChecksUptoRow, standIns := [], harness := (true, "91db0f7fb9adc892578cf4676a55cfa841b71875868d0880e18828398aea63f4"), looks := true }, kinds := [], alts := [], laidByText := true, laidKinds := [.data, .pinned], laidTests := true, laidLooks := .later }
def ClassChecksUptoCardSaid : Prop := Claim7.holds Tryz.pinned (.plain (OpenSpec.upto classChecksSpec)) classChecksUptoCard
end Rows
end Go.Proofs.YtpnghcaccfnngaaGreatDoor

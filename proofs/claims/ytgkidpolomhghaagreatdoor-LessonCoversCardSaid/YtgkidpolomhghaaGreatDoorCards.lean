/-
  DERIVED. GIVEN WITH THE SEED: THE CARDS: each row of YtgkidpolomhghaaGreatDoorRows.lean that lists a variable, with what it lists TIED to the program's text (the seventh form; the later family's looks); each row that meets fmt, with fmt's text TOLD by the authors' own Lean function (tested against real Go, not proved from fmt's source: count such statements apart). THE CARD IS WHAT COUNTS. Prove the row's statement (the work); the ties are given (YtgkidpolomhghaaGreatDoorTie.lean); close each card by the builder's one call (the guide's Derived/Test/ToyasCard.lean, 'card_holds'). Laid BY PROGRAM, IN A SANDBOX (cutbox-door.mjs). By AI agents, Wed Nov 11 2026. No macro, syntax, notation, axiom, sorry.
-/
import Derived.Test.YtgkidpolomhghaaGreatDoorRows
import GoSem.ClaimSeven
namespace Go.Proofs.YtgkidpolomhghaaGreatDoor
namespace Rows

/-- THE TIED CARD OF 'bitepointlaw04.LessonFewest'. -/
def lessonFewestCard : Claim7 := { stood := { row := lessonFewestRow, standIns := [], harness := (true, "e80771a22139a3c703b77766c49955edb5051ecc89a9c8eef379e7c24972514a"), looks := false }, kinds := [], alts := [], laidByText := true, laidKinds := [.data, .data], laidTests := true, laidLooks := .later }
def LessonFewestCardSaid : Prop := Claim7.holds Tryz.pinned (.plain (OpenSpec.ofChange lessonFewestSpec)) lessonFewestCard

/-- THE TIED CARD OF 'bitepointlaw04.LessonChains'. -/
def lessonChainsCard : Claim7 := { stood := { row := lessonChainsRow, standIns := [], harness := (true, "e80771a22139a3c703b77766c49955edb5051ecc89a9c8eef379e7c24972514a"), looks := false }, kinds := [], alts := [], laidByText := true, laidKinds := [.data, .data], laidTests := true, laidLooks := .later }
def LessonChainsCardSaid : Prop := Claim7.holds Tryz.pinned (.plain (OpenSpec.ofChange lessonChainsSpec)) lessonChainsCard

/-- THE TIED CARD OF 'bitepointlaw04.LessonCovers'. -/
def lessonCoversCard : Claim7 := { stood := { row := lessonCoversRow, standIns := [], harness := (true, "e80771a22139a3c703b77766c49955edb5051ecc89a9c8eef379e7c24972514a"), looks := false }, kinds := [], alts := [], laidByText := true, laidKinds := [.data, .data], laidTests := true, laidLooks := .later }
def LessonCoversCardSaid : Prop := Claim7.holds Tryz.pinned (.plain (OpenSpec.ofChange lessonCoversSpec)) lessonCoversCard

/-- THE TIED CARD OF 'bitepointlaw04.LessonPlans'. -/
def lessonPlansCard : Claim7 := { stood := { row := lessonPlansRow, standIns := [], harness := (true, "e80771a22139a3c703b77766c49955edb5051ecc89a9c8eef379e7c24972514a"), looks := false }, kinds := [], alts := [], laidByText := true, laidKinds := [.data, .data], laidTests := true, laidLooks := .later }
def LessonPlansCardSaid : Prop := Claim7.holds Tryz.pinned (.plain (OpenSpec.ofChange lessonPlansSpec)) lessonPlansCard

/-- THE TIED CARD OF 'bitepointlaw04.LessonKnown'. -/
def lessonKnownCard : Claim7 := { stood := { row := lessonKnownRow, standIns := [], harness := (true, "e80771a22139a3c703b77766c49955edb5051ecc89a9c8eef379e7c24972514a"), looks := false }, kinds := [], alts := [], laidByText := true, laidKinds := [.data, .data], laidTests := true, laidLooks := .later }
def LessonKnownCardSaid : Prop := Claim7.holds Tryz.pinned (.plain (OpenSpec.ofChange lessonKnownSpec)) lessonKnownCard

/-- THE TIED CARD OF 'bitepointlaw04.LessonLeast'. -/
def lessonLeastCard : Claim7 := { stood := { row := lessonLeastRow, standIns := [], harness := (true, "e80771a22139a3c703b77766c49955edb5051ecc89a9c8eef379e7c24972514a"), looks := false }, kinds := [], alts := [], laidByText := true, laidKinds := [.data, .data], laidTests := true, laidLooks := .later }
def LessonLeastCardSaid : Prop := Claim7.holds Tryz.pinned (.plain (OpenSpec.ofChange lessonLeastSpec)) lessonLeastCard

/-- THE TIED CARD OF 'bitepointlaw04.LessonFloor'. -/
def lessonFloorCard : Claim7 := { stood := { row := lessonFloorRow, standIns := [], harness := (true, "e80771a22139a3c703b77766c49955edb5051ecc89a9c8eef379e7c24972514a"), looks := false }, kinds := [], alts := [], laidByText := true, laidKinds := [.data, .data], laidTests := true, laidLooks := .later }
def LessonFloorCardSaid : Prop := Claim7.holds Tryz.pinned (.plain (OpenSpec.ofChange lessonFloorSpec)) lessonFloorCard

/-- THE TIED CARD OF 'bitepointlaw04.LessonMore'. -/
def lessonMoreCard : Claim7 := { stood := { row := lessonMoreRow, standIns := [], harness := (true, "e80771a22139a3c703b77766c49955edb5051ecc89a9c8eef379e7c24972514a"), looks := false }, kinds := [], alts := [], laidByText := true, laidKinds := [.data, .data], laidTests := true, laidLooks := .later }
def LessonMoreCardSaid : Prop := Claim7.holds Tryz.pinned (.plain (OpenSpec.ofChange lessonMoreSpec)) lessonMoreCard

/-- THE TIED CARD OF 'bitepointlaw04.LessonInTime'. -/
def lessonInTimeCard : Claim7 := { stood := { row := lessonInTimeRow, standIns := [], harness := (true, "e80771a22139a3c703b77766c49955edb5051ecc89a9c8eef379e7c24972514a"), looks := false }, kinds := [], alts := [], laidByText := true, laidKinds := [.data, .data], laidTests := true, laidLooks := .later }
def LessonInTimeCardSaid : Prop := Claim7.holds Tryz.pinned (.plain (OpenSpec.ofChange lessonInTimeSpec)) lessonInTimeCard

/-- THE TIED CARD OF 'bitepointlaw04.LessonProof'. -/
def lessonProofCard : Claim7 := { stood := { row := lessonProofRow, standIns := [], harness := (true, "e80771a22139a3c703b77766c49955edb5051ecc89a9c8eef379e7c24972514a"), looks := false }, kinds := [], alts := [], laidByText := true, laidKinds := [.data, .data], laidTests := true, laidLooks := .later }
def LessonProofCardSaid : Prop := Claim7.holds Tryz.pinned (.plain (OpenSpec.ofChange lessonProofSpec)) lessonProofCard

/-- THE TIED CARD OF 'bitepointlaw04.LessonDays'. -/
def lessonDaysCard : Claim7 := { stood := { row := lessonDaysRow, standIns := [], harness := (true, "e80771a22139a3c703b77766c49955edb5051ecc89a9c8eef379e7c24972514a"), looks := false }, kinds := [], alts := [], laidByText := true, laidKinds := [.data, .data], laidTests := true, laidLooks := .later }
def LessonDaysCardSaid : Prop := Claim7.holds Tryz.pinned (.plain (OpenSpec.ofChange lessonDaysSpec)) lessonDaysCard

/-- THE TIED CARD OF 'bitepointlaw04.LessonNobody'. -/
def lessonNobodyCard : Claim7 := { stood := { row := lessonNobodyRow, standIns := [], harness := (true, "e80771a22139a3c703b77766c49955edb5051ecc89a9c8eef379e7c24972514a"), looks := false }, kinds := [], alts := [], laidByText := true, laidKinds := [.data, .data], laidTests := true, laidLooks := .later }
def LessonNobodyCardSaid : Prop := Claim7.holds Tryz.pinned (.plain (OpenSpec.ofChange lessonNobodySpec)) lessonNobodyCard

/-- THE TIED CARD OF 'bitepointlaw04.LessonEven'. -/
def lessonEvenCard : Claim7 := { stood := { row := lessonEvenRow, standIns := [], harness := (true, "e80771a22139a3c703b77766c49955edb5051ecc89a9c8eef379e7c24972514a"), looks := false }, kinds := [], alts := [], laidByText := true, laidKinds := [.data, .data], laidTests := true, laidLooks := .later }
def LessonEvenCardSaid : Prop := Claim7.holds Tryz.pinned (.plain (OpenSpec.ofChange lessonEvenSpec)) lessonEvenCard

/-- THE TIED CARD OF 'bitepointtop.TopForms'. -/
def topFormsCard : Claim7 := { stood := { row := topFormsRow, standIns := [], harness := (true, "e80771a22139a3c703b77766c49955edb5051ecc89a9c8eef379e7c24972514a"), looks := false }, kinds := [], alts := [], laidByText := true, laidKinds := [.data, .data], laidTests := true, laidLooks := .later }
def TopFormsCardSaid : Prop := Claim7.holds Tryz.pinned (.plain (OpenSpec.ofChange topFormsSpec)) topFormsCard

/-- THE SECOND FORM's CARD OF 'bitepointlaw04.LessonFewest'. -/
def lessonFewestUptoCard : Claim7 := { stood := { row := lessonFewestUptoRow, standIns := [], harness := (true, "e80771a22139a3c703b77766c49955edb5051ecc89a9c8eef379e7c24972514a"), looks := false }, kinds := [], alts := [], laidByText := true, laidKinds := [.data, .data], laidTests := true, laidLooks := .later }
def LessonFewestUptoCardSaid : Prop := Claim7.holds Tryz.pinned (.plain (OpenSpec.upto lessonFewestSpec)) lessonFewestUptoCard

/-- THE SECOND FORM's CARD OF 'bitepointlaw04.LessonChains'. -/
def lessonChainsUptoCard : Claim7 := { stood := { row := lessonChainsUptoRow, standIns := [], harness := (true, "e80771a22139a3c703b77766c49955edb5051ecc89a9c8eef379e7c24972514a"), looks := false }, kinds := [], alts := [], laidByText := true, laidKinds := [.data, .data], laidTests := true, laidLooks := .later }
def LessonChainsUptoCardSaid : Prop := Claim7.holds Tryz.pinned (.plain (OpenSpec.upto lessonChainsSpec)) lessonChainsUptoCard

/-- THE SECOND FORM's CARD OF 'bitepointlaw04.LessonCovers'. -/
def lessonCoversUptoCard : Claim7 := { stood := { row := lessonCoversUptoRow, standIns := [], harness := (true, "e80771a22139a3c703b77766c49955edb5051ecc89a9c8eef379e7c24972514a"), looks := false }, kinds := [], alts := [], laidByText := true, laidKinds := [.data, .data], laidTests := true, laidLooks := .later }
def LessonCoversUptoCardSaid : Prop := Claim7.holds Tryz.pinned (.plain (OpenSpec.upto lessonCoversSpec)) lessonCoversUptoCard

/-- THE SECOND FORM's CARD OF 'bitepointlaw04.LessonPlans'. -/
def lessonPlansUptoCard : Claim7 := { stood := { row := lessonPlansUptoRow, standIns := [], harness := (true, "e80771a22139a3c703b77766c49955edb5051ecc89a9c8eef379e7c24972514a"), looks := false }, kinds := [], alts := [], laidByText := true, laidKinds := [.data, .data], laidTests := true, laidLooks := .later }
def LessonPlansUptoCardSaid : Prop := Claim7.holds Tryz.pinned (.plain (OpenSpec.upto lessonPlansSpec)) lessonPlansUptoCard

/-- THE SECOND FORM's CARD OF 'bitepointlaw04.LessonKnown'. -/
def lessonKnownUptoCard : Claim7 := { stood := { row := lessonKnownUptoRow, standIns := [], harness := (true, "e80771a22139a3c703b77766c49955edb5051ecc89a9c8eef379e7c24972514a"), looks := false }, kinds := [], alts := [], laidByText := true, laidKinds := [.data, .data], laidTests := true, laidLooks := .later }
def LessonKnownUptoCardSaid : Prop := Claim7.holds Tryz.pinned (.plain (OpenSpec.upto lessonKnownSpec)) lessonKnownUptoCard

/-- THE SECOND FORM's CARD OF 'bitepointlaw04.LessonLeast'. -/
def lessonLeastUptoCard : Claim7 := { stood := { row := lessonLeastUptoRow, standIns := [], harness := (true, "e80771a22139a3c703b77766c49955edb5051ecc89a9c8eef379e7c24972514a"), looks := false }, kinds := [], alts := [], laidByText := true, laidKinds := [.data, .data], laidTests := true, laidLooks := .later }
def LessonLeastUptoCardSaid : Prop := Claim7.holds Tryz.pinned (.plain (OpenSpec.upto lessonLeastSpec)) lessonLeastUptoCard

/-- THE SECOND FORM's CARD OF 'bitepointlaw04.LessonFloor'. -/
def lessonFloorUptoCard : Claim7 := { stood := { row := lessonFloorUptoRow, standIns := [], harness := (true, "e80771a22139a3c703b77766c49955edb5051ecc89a9c8eef379e7c24972514a"), looks := false }, kinds := [], alts := [], laidByText := true, laidKinds := [.data, .data], laidTests := true, laidLooks := .later }
def LessonFloorUptoCardSaid : Prop := Claim7.holds Tryz.pinned (.plain (OpenSpec.upto lessonFloorSpec)) lessonFloorUptoCard

/-- THE SECOND FORM's CARD OF 'bitepointlaw04.LessonMore'. -/
def lessonMoreUptoCard : Claim7 := { stood := { row := lessonMoreUptoRow, standIns := [], harness := (true, "e80771a22139a3c703b77766c49955edb5051ecc89a9c8eef379e7c24972514a"), looks := false }, kinds := [], alts := [], laidByText := true, laidKinds := [.data, .data], laidTests := true, laidLooks := .later }
def LessonMoreUptoCardSaid : Prop := Claim7.holds Tryz.pinned (.plain (OpenSpec.upto lessonMoreSpec)) lessonMoreUptoCard

/-- THE SECOND FORM's CARD OF 'bitepointlaw04.LessonInTime'. -/
def lessonInTimeUptoCard : Claim7 := { stood := { row := lessonInTimeUptoRow, standIns := [], harness := (true, "e80771a22139a3c703b77766c49955edb5051ecc89a9c8eef379e7c24972514a"), looks := false }, kinds := [], alts := [], laidByText := true, laidKinds := [.data, .data], laidTests := true, laidLooks := .later }
def LessonInTimeUptoCardSaid : Prop := Claim7.holds Tryz.pinned (.plain (OpenSpec.upto lessonInTimeSpec)) lessonInTimeUptoCard

/-- THE SECOND FORM's CARD OF 'bitepointlaw04.LessonProof'. -/
def lessonProofUptoCard : Claim7 := { stood := { row := lessonProofUptoRow, standIns := [], harness := (true, "e80771a22139a3c703b77766c49955edb5051ecc89a9c8eef379e7c24972514a"), looks := false }, kinds := [], alts := [], laidByText := true, laidKinds := [.data, .data], laidTests := true, laidLooks := .later }
def LessonProofUptoCardSaid : Prop := Claim7.holds Tryz.pinned (.plain (OpenSpec.upto lessonProofSpec)) lessonProofUptoCard

/-- THE SECOND FORM's CARD OF 'bitepointlaw04.LessonDays'. -/
def lessonDaysUptoCard : Claim7 := { stood := { row := lessonDaysUptoRow, standIns := [], harness := (true, "e80771a22139a3c703b77766c49955edb5051ecc89a9c8eef379e7c24972514a"), looks := false }, kinds := [], alts := [], laidByText := true, laidKinds := [.data, .data], laidTests := true, laidLooks := .later }
def LessonDaysUptoCardSaid : Prop := Claim7.holds Tryz.pinned (.plain (OpenSpec.upto lessonDaysSpec)) lessonDaysUptoCard

/-- THE SECOND FORM's CARD OF 'bitepointlaw04.LessonNobody'. -/
def lessonNobodyUptoCard : Claim7 := { stood := { row := lessonNobodyUptoRow, standIns := [], harness := (true, "e80771a22139a3c703b77766c49955edb5051ecc89a9c8eef379e7c24972514a"), looks := false }, kinds := [], alts := [], laidByText := true, laidKinds := [.data, .data], laidTests := true, laidLooks := .later }
def LessonNobodyUptoCardSaid : Prop := Claim7.holds Tryz.pinned (.plain (OpenSpec.upto lessonNobodySpec)) lessonNobodyUptoCard

/-- THE SECOND FORM's CARD OF 'bitepointlaw04.LessonEven'. -/
def lessonEvenUptoCard : Claim7 := { stood := { row := lessonEvenUptoRow, standIns := [], harness := (true, "e80771a22139a3c703b77766c49955edb5051ecc89a9c8eef379e7c24972514a"), looks := false }, kinds := [], alts := [], laidByText := true, laidKinds := [.data, .data], laidTests := true, laidLooks := .later }
def LessonEvenUptoCardSaid : Prop := Claim7.holds Tryz.pinned (.plain (OpenSpec.upto lessonEvenSpec)) lessonEvenUptoCard

/-- THE SECOND FORM's CARD OF 'bitepointtop.TopForms'. -/
def topFormsUptoCard : Claim7 := { stood := { row := topFormsUptoRow, standIns := [], harness := (true, "e80771a22139a3c703b77766c49955edb5051ecc89a9c8eef379e7c24972514a"), looks := false }, kinds := [], alts := [], laidByText := true, laidKinds := [.data, .data], laidTests := true, laidLooks := .later }
def TopFormsUptoCardSaid : Prop := Claim7.holds Tryz.pinned (.plain (OpenSpec.upto topFormsSpec)) topFormsUptoCard
end Rows
end Go.Proofs.YtgkidpolomhghaaGreatDoor

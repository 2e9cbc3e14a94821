/- The statement LessonFewest is proved: the law returns true at every input, and its arguments read as before; no condition but what the row lists, which the card ties to the program. Dr off -/
import Derived.Test.YtgkidpolomhghaaGreatDoorRows
import Derived.Test.YtgkidpolomhghaaGreatDoorCards
import Derived.Test.YtgkidpolomhghaaGreatDoorTie
import Derived.ProofKit
import Derived.OpenShut
import Derived.LaidMore
import Derived.Lay
import Derived.SevenTiedAt
import Derived.Stop.Joined
import Derived.Test.YtgkidpolomhghaaGreatDoorKFewest
namespace Go.Proofs.YtgkidpolomhghaaGreatDoor.lessonFewest
open Go Go.ChangeShapes Go.WideShapes Go.ChangeAt Go.RowKit Go.Proofs.YtgkidpolomhghaaGreatDoor.AM
set_option linter.unusedVariables false

theorem own : ownKnob Tryz.prog.godebug = none := by kernel_rfl

set_option maxRecDepth 100000 in
theorem lifted (os : Os) (started : os.Started) (H : Type) (enc : TypeId × Value → H) :
    ReturnsInHanded {} Tryz.checked os 3 .any (fun w args => (Rows.lessonFewestSpec.pre enc Tryz.prog Tryz.f3 Rows.lessonFewestRow.domain false w args ∧ laidMetH Tryz.prog Rows.lessonFewestRow.laid w) ∧ sizedMet enc Tryz.prog Tryz.f3 (OpenSpec.ofChange Rows.lessonFewestSpec) false w args)
      (Rows.lessonFewestSpec.post enc Tryz.prog Tryz.f3 false true false false) := by
  refine returnsInHanded_of_change_and (C := Tryz.checked) (X := fun w _ => laidMetH Tryz.prog Rows.lessonFewestRow.laid w) (fun _ _ _ hh h => h.of_heap hh) own started (by kernel_rfl) Tryz.func3
    (ChangeSpec.witness_shaped (enc := enc) (C := Tryz.checked) (os := os) (X := fun w _ => laidMetH Tryz.prog Rows.lessonFewestRow.laid w) false (World.laidAll Tryz.prog os Rows.lessonFewestRow.laid) #[.slice none 0 0, .slice none 0 0, .slice none 0 0] 8 (World.laidAll_os _ _ _)
      (World.shaped_of_ZipB (by kernel_rfl) (by kernel_rfl)) (by kernel_rfl) (by kernel_rfl) (by kernel_rfl)
      (by rw [MakeChecks.laidMetH_plain _ _ _ (by kernel_rfl)]; exact laidMet_laidAll _ (by kernel_rfl) (by kernel_rfl))) ?_
  intro W base args ds gs before hval0 hW hcnd _ hX _
  refine law_of_AC (n := 8) (t := 4) (gs := gs) (before := before) jf_laid (by kernel_rfl) (by kernel_rfl) rfl Tryz.underlying4 rfl ?_ ?_ hval0 (gl_of_laid hX) hW
  · intro ds hds
    match ds, hds with
    | [d1, d2, d3], _ => rfl
  · intro avs hav
    exact law_LessonFewest avs hav

theorem q1 : (Rows.lessonFewestRow.inPlace == Tryz.prog.inPlace 3) = true := by kernel_rfl
theorem q2 : (Rows.lessonFewestRow.unfollowed == Tryz.prog.unfollowed 3) = true := by kernel_rfl
theorem q3 : (Rows.lessonFewestRow.recurses == Tryz.prog.recurses 3) = true := by kernel_rfl
theorem q4 : (Rows.lessonFewestRow.named == Tryz.prog.varsNamed 3) = true := by kernel_rfl
theorem q5 : S5 Tryz.prog Tryz.f3 Rows.lessonFewestSpec Rows.lessonFewestRow = true := by kernel_rfl
theorem q6 : Tryz.prog.funcNamed Rows.lessonFewestRow.func = some 3 := by kernel_rfl
theorem q7 : Tryz.f3.isWrapper Tryz.prog Rows.lessonFewestRow.wrapper Rows.lessonFewestRow.mainSum := by
  unfold Func.isWrapper; first | (rw [if_pos (by decide +kernel)]; kernel_rfl) | (rw [if_neg (by decide +kernel)]; exact ⟨rfl, rfl⟩)
theorem q8 : Tryz.f3.isInstance Tryz.prog Rows.lessonFewestRow.origin Rows.lessonFewestRow.targs := of_decide_eq_true (by kernel_rfl)
theorem q9 : joinedFacts Tryz.prog 3 Tryz.f3 Rows.lessonFewestSpec Rows.lessonFewestRow = true := jf_mk jf_laid jf_maps jf_plain jf_stops jf_enter jf_lifts q1 q2 q3 q4 q5

theorem over : Rows.lessonFewestRow.holds Tryz.pinned (OpenSpec.ofChange Rows.lessonFewestSpec) :=
  OpenClaim.holds_of_wide 3 Tryz.f3 rfl rfl rfl rfl rfl rfl rfl ⟨rfl, rfl, rfl, rfl, rfl⟩ rfl rfl rfl rfl rfl q6 Tryz.func3 q9 q8 q7
    (fun os started H enc _ => lifted os started H enc)

theorem wf : Rows.lessonFewestRow.wfByText (OpenSpec.ofChange Rows.lessonFewestSpec) = true := by kernel_rfl
theorem goes : false = Rows.lessonFewestRow.goesBy Tryz.pinned.checked.prog := by kernel_rfl

theorem proved : Rows.LessonFewestCardSaid :=
  Claim7.holds_tied_plain_at .later [] [.data, .data] true (true, "e80771a22139a3c703b77766c49955edb5051ecc89a9c8eef379e7c24972514a") false over (fun _ h => by cases h) wf (fun _ h => by cases h) lessonFewest_row_tie rfl ⟨rfl, rfl⟩ jf_main rfl
    (fun f fn hf hfn => by
      obtain rfl : f = 3 := Option.some.inj ((show Tryz.prog.funcNamed "bitepoint/bitepointlaw04.LessonFewest" = some 3 by kernel_rfl).symm.trans hf) |>.symm
      obtain rfl : fn = Tryz.f3 := (Option.some.inj (Tryz.func3.symm.trans hfn)).symm
      exact ⟨jf_looks, fun j t ht => by
        rw [show Tryz.f3.params = #[22, 23, 23] by kernel_rfl] at ht
        have hm : t ∈ [22, 23, 23] := by simpa using Array.mem_of_getElem? ht
        have hall : ([22, 23, 23].all fun u => !Tryz.prog.wantsStandIn u) = true := by kernel_rfl
        exact (show Tryz.prog.wantsStandIn t = false by simpa using Q1.1 hall t hm)⟩)
    goes
#print axioms proved
end Go.Proofs.YtgkidpolomhghaaGreatDoor.lessonFewest

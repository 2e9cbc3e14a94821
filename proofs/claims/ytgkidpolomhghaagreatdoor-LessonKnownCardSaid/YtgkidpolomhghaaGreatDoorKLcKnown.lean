/- The statement LessonKnown is proved: the law returns true at every input, and its arguments read as before; no condition but what the row lists, which the card ties to the program. Dr off -/
import Derived.Test.YtgkidpolomhghaaGreatDoorRows
import Derived.Test.YtgkidpolomhghaaGreatDoorCards
import Derived.Test.YtgkidpolomhghaaGreatDoorTie
import Derived.ProofKit
import Derived.OpenShut
import Derived.LaidMore
import Derived.Lay
import Derived.SevenTiedAt
import Derived.Stop.Joined
import Derived.Test.YtgkidpolomhghaaGreatDoorKKnown
namespace Go.Proofs.YtgkidpolomhghaaGreatDoor.lessonKnown
open Go Go.ChangeShapes Go.WideShapes Go.ChangeAt Go.RowKit Go.Proofs.YtgkidpolomhghaaGreatDoor.AM
set_option linter.unusedVariables false

theorem own : ownKnob Tryz.prog.godebug = none := by kernel_rfl

set_option maxRecDepth 100000 in
theorem lifted (os : Os) (started : os.Started) (H : Type) (enc : TypeId × Value → H) :
    ReturnsInHanded {} Tryz.checked os 7 .any (fun w args => (Rows.lessonKnownSpec.pre enc Tryz.prog Tryz.f7 Rows.lessonKnownRow.domain false w args ∧ laidMetH Tryz.prog Rows.lessonKnownRow.laid w) ∧ sizedMet enc Tryz.prog Tryz.f7 (OpenSpec.ofChange Rows.lessonKnownSpec) false w args)
      (Rows.lessonKnownSpec.post enc Tryz.prog Tryz.f7 false true false false) := by
  refine returnsInHanded_of_change_and (C := Tryz.checked) (X := fun w _ => laidMetH Tryz.prog Rows.lessonKnownRow.laid w) (fun _ _ _ hh h => h.of_heap hh) own started (by kernel_rfl) Tryz.func7
    (ChangeSpec.witness_shaped (enc := enc) (C := Tryz.checked) (os := os) (X := fun w _ => laidMetH Tryz.prog Rows.lessonKnownRow.laid w) false (World.laidAll Tryz.prog os Rows.lessonKnownRow.laid) #[] 8 (World.laidAll_os _ _ _)
      (World.shaped_of_ZipB (by kernel_rfl) (by kernel_rfl)) (by kernel_rfl) (by kernel_rfl) (by kernel_rfl)
      (by rw [MakeChecks.laidMetH_plain _ _ _ (by kernel_rfl)]; exact laidMet_laidAll _ (by kernel_rfl) (by kernel_rfl))) ?_
  intro W base args ds gs before hval0 hW hcnd _ hX _
  refine law_of_AC (n := 8) (t := 4) (gs := gs) (before := before) jf_laid (by kernel_rfl) (by kernel_rfl) rfl Tryz.underlying4 rfl ?_ ?_ hval0 (gl_of_laid hX) hW
  · intro ds hds
    match ds, hds with
    | [], _ => rfl
  · intro avs hav
    exact law_LessonKnown avs hav

theorem q1 : (Rows.lessonKnownRow.inPlace == Tryz.prog.inPlace 7) = true := by kernel_rfl
theorem q2 : (Rows.lessonKnownRow.unfollowed == Tryz.prog.unfollowed 7) = true := by kernel_rfl
theorem q3 : (Rows.lessonKnownRow.recurses == Tryz.prog.recurses 7) = true := by kernel_rfl
theorem q4 : (Rows.lessonKnownRow.named == Tryz.prog.varsNamed 7) = true := by kernel_rfl
theorem q5 : S5 Tryz.prog Tryz.f7 Rows.lessonKnownSpec Rows.lessonKnownRow = true := by kernel_rfl
theorem q6 : Tryz.prog.funcNamed Rows.lessonKnownRow.func = some 7 := by kernel_rfl
theorem q7 : Tryz.f7.isWrapper Tryz.prog Rows.lessonKnownRow.wrapper Rows.lessonKnownRow.mainSum := by
  unfold Func.isWrapper; first | (rw [if_pos (by decide +kernel)]; kernel_rfl) | (rw [if_neg (by decide +kernel)]; exact ⟨rfl, rfl⟩)
theorem q8 : Tryz.f7.isInstance Tryz.prog Rows.lessonKnownRow.origin Rows.lessonKnownRow.targs := of_decide_eq_true (by kernel_rfl)
theorem q9 : joinedFacts Tryz.prog 7 Tryz.f7 Rows.lessonKnownSpec Rows.lessonKnownRow = true := jf_mk jf_laid jf_maps jf_plain jf_stops jf_enter jf_lifts q1 q2 q3 q4 q5

theorem over : Rows.lessonKnownRow.holds Tryz.pinned (OpenSpec.ofChange Rows.lessonKnownSpec) :=
  OpenClaim.holds_of_wide 7 Tryz.f7 rfl rfl rfl rfl rfl rfl rfl ⟨rfl, rfl, rfl, rfl, rfl⟩ rfl rfl rfl rfl rfl q6 Tryz.func7 q9 q8 q7
    (fun os started H enc _ => lifted os started H enc)

theorem wf : Rows.lessonKnownRow.wfByText (OpenSpec.ofChange Rows.lessonKnownSpec) = true := by kernel_rfl
theorem goes : false = Rows.lessonKnownRow.goesBy Tryz.pinned.checked.prog := by kernel_rfl

theorem proved : Rows.LessonKnownCardSaid :=
  Claim7.holds_tied_plain_at .later [] [.data, .data] true (true, "e80771a22139a3c703b77766c49955edb5051ecc89a9c8eef379e7c24972514a") false over (fun _ h => by cases h) wf (fun _ h => by cases h) lessonKnown_row_tie rfl ⟨rfl, rfl⟩ jf_main rfl
    (fun f fn hf hfn => by
      obtain rfl : f = 7 := Option.some.inj ((show Tryz.prog.funcNamed "bitepoint/bitepointlaw04.LessonKnown" = some 7 by kernel_rfl).symm.trans hf) |>.symm
      obtain rfl : fn = Tryz.f7 := (Option.some.inj (Tryz.func7.symm.trans hfn)).symm
      exact ⟨jf_looks, fun j t ht => by
        rw [show Tryz.f7.params = #[] by kernel_rfl] at ht
        simp at ht⟩)
    goes
#print axioms proved
end Go.Proofs.YtgkidpolomhghaaGreatDoor.lessonKnown

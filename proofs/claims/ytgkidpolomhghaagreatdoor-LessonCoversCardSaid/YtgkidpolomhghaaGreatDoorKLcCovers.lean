/- The statement LessonCovers is proved: the law returns true at every input, and its arguments read as before; no condition but what the row lists, which the card ties to the program. Dr off -/
import Derived.Test.YtgkidpolomhghaaGreatDoorRows
import Derived.Test.YtgkidpolomhghaaGreatDoorCards
import Derived.Test.YtgkidpolomhghaaGreatDoorTie
import Derived.ProofKit
import Derived.OpenShut
import Derived.LaidMore
import Derived.Lay
import Derived.SevenTiedAt
import Derived.Stop.Joined
import Derived.Test.YtgkidpolomhghaaGreatDoorKCovers
namespace Go.Proofs.YtgkidpolomhghaaGreatDoor.lessonCovers
open Go Go.ChangeShapes Go.WideShapes Go.ChangeAt Go.RowKit Go.Proofs.YtgkidpolomhghaaGreatDoor.AM
set_option linter.unusedVariables false

theorem own : ownKnob Tryz.prog.godebug = none := by kernel_rfl

set_option maxRecDepth 100000 in
theorem lifted (os : Os) (started : os.Started) (H : Type) (enc : TypeId × Value → H) :
    ReturnsInHanded {} Tryz.checked os 5 .any (fun w args => (Rows.lessonCoversSpec.pre enc Tryz.prog Tryz.f5 Rows.lessonCoversRow.domain false w args ∧ laidMetH Tryz.prog Rows.lessonCoversRow.laid w) ∧ sizedMet enc Tryz.prog Tryz.f5 (OpenSpec.ofChange Rows.lessonCoversSpec) false w args)
      (Rows.lessonCoversSpec.post enc Tryz.prog Tryz.f5 false true false false) := by
  refine returnsInHanded_of_change_and (C := Tryz.checked) (X := fun w _ => laidMetH Tryz.prog Rows.lessonCoversRow.laid w) (fun _ _ _ hh h => h.of_heap hh) own started (by kernel_rfl) Tryz.func5
    (ChangeSpec.witness_shaped (enc := enc) (C := Tryz.checked) (os := os) (X := fun w _ => laidMetH Tryz.prog Rows.lessonCoversRow.laid w) false (World.laidAll Tryz.prog os Rows.lessonCoversRow.laid) #[.agg #[.slice none 0 0, .slice none 0 0], .slice none 0 0, .slice none 0 0] 8 (World.laidAll_os _ _ _)
      (World.shaped_of_ZipB (by kernel_rfl) (by kernel_rfl)) (by kernel_rfl) (by kernel_rfl) (by kernel_rfl)
      (by rw [MakeChecks.laidMetH_plain _ _ _ (by kernel_rfl)]; exact laidMet_laidAll _ (by kernel_rfl) (by kernel_rfl))) ?_
  intro W base args ds gs before hval0 hW hcnd hwt hX _
  refine law_of_AC_sz (n := 8) (t := 4) (gs := gs) (before := before) jf_laid (by kernel_rfl) (by kernel_rfl) rfl Tryz.underlying4 rfl ?_ ?_ hval0 (gl_of_laid hX) hwt hW
  · intro ds hds
    match ds, hds with
    | [d1, d2, d3], _ => rfl
  · intro avs hav hsz
    exact law_LessonCovers avs hav hsz

theorem q1 : (Rows.lessonCoversRow.inPlace == Tryz.prog.inPlace 5) = true := by kernel_rfl
theorem q2 : (Rows.lessonCoversRow.unfollowed == Tryz.prog.unfollowed 5) = true := by kernel_rfl
theorem q3 : (Rows.lessonCoversRow.recurses == Tryz.prog.recurses 5) = true := by kernel_rfl
theorem q4 : (Rows.lessonCoversRow.named == Tryz.prog.varsNamed 5) = true := by kernel_rfl
theorem q5 : S5 Tryz.prog Tryz.f5 Rows.lessonCoversSpec Rows.lessonCoversRow = true := by kernel_rfl
theorem q6 : Tryz.prog.funcNamed Rows.lessonCoversRow.func = some 5 := by kernel_rfl
theorem q7 : Tryz.f5.isWrapper Tryz.prog Rows.lessonCoversRow.wrapper Rows.lessonCoversRow.mainSum := by
  unfold Func.isWrapper; first | (rw [if_pos (by decide +kernel)]; kernel_rfl) | (rw [if_neg (by decide +kernel)]; exact ⟨rfl, rfl⟩)
theorem q8 : Tryz.f5.isInstance Tryz.prog Rows.lessonCoversRow.origin Rows.lessonCoversRow.targs := of_decide_eq_true (by kernel_rfl)
theorem q9 : joinedFacts Tryz.prog 5 Tryz.f5 Rows.lessonCoversSpec Rows.lessonCoversRow = true := jf_mk jf_laid jf_maps jf_plain jf_stops jf_enter jf_lifts q1 q2 q3 q4 q5

theorem over : Rows.lessonCoversRow.holds Tryz.pinned (OpenSpec.ofChange Rows.lessonCoversSpec) :=
  OpenClaim.holds_of_wide 5 Tryz.f5 rfl rfl rfl rfl rfl rfl rfl ⟨rfl, rfl, rfl, rfl, rfl⟩ rfl rfl rfl rfl rfl q6 Tryz.func5 q9 q8 q7
    (fun os started H enc _ => lifted os started H enc)

theorem wf : Rows.lessonCoversRow.wfByText (OpenSpec.ofChange Rows.lessonCoversSpec) = true := by kernel_rfl
theorem goes : false = Rows.lessonCoversRow.goesBy Tryz.pinned.checked.prog := by kernel_rfl

theorem proved : Rows.LessonCoversCardSaid :=
  Claim7.holds_tied_plain_at .later [] [.data, .data] true (true, "e80771a22139a3c703b77766c49955edb5051ecc89a9c8eef379e7c24972514a") false over (fun _ h => by cases h) wf (fun _ h => by cases h) lessonCovers_row_tie rfl ⟨rfl, rfl⟩ jf_main rfl
    (fun f fn hf hfn => by
      obtain rfl : f = 5 := Option.some.inj ((show Tryz.prog.funcNamed "bitepoint/bitepointlaw04.LessonCovers" = some 5 by kernel_rfl).symm.trans hf) |>.symm
      obtain rfl : fn = Tryz.f5 := (Option.some.inj (Tryz.func5.symm.trans hfn)).symm
      exact ⟨jf_looks, fun j t ht => by
        rw [show Tryz.f5.params = #[37, 23, 23] by kernel_rfl] at ht
        have hm : t ∈ [37, 23, 23] := by simpa using Array.mem_of_getElem? ht
        have hall : ([37, 23, 23].all fun u => !Tryz.prog.wantsStandIn u) = true := by kernel_rfl
        exact (show Tryz.prog.wantsStandIn t = false by simpa using Q1.1 hall t hm)⟩)
    goes
#print axioms proved
end Go.Proofs.YtgkidpolomhghaaGreatDoor.lessonCovers

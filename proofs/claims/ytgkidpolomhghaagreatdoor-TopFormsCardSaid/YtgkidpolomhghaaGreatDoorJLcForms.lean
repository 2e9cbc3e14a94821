/- The statement TopForms is proved: the law returns true at every input, and its arguments read as before; no condition but what the row lists, which the card ties to the program. Dr off -/
import Derived.Test.YtgkidpolomhghaaGreatDoorRows
import Derived.Test.YtgkidpolomhghaaGreatDoorCards
import Derived.Test.YtgkidpolomhghaaGreatDoorTie
import Derived.ProofKit
import Derived.OpenShut
import Derived.LaidMore
import Derived.Lay
import Derived.SevenTiedAt
import Derived.Stop.Joined
import Derived.Test.YtgkidpolomhghaaGreatDoorJForms
namespace Go.Proofs.YtgkidpolomhghaaGreatDoor.topForms
open Go Go.ChangeShapes Go.WideShapes Go.ChangeAt Go.RowKit Go.Proofs.YtgkidpolomhghaaGreatDoor.AM
set_option linter.unusedVariables false

theorem own : ownKnob Tryz.prog.godebug = none := by kernel_rfl

set_option maxRecDepth 100000 in
theorem lifted (os : Os) (started : os.Started) (H : Type) (enc : TypeId × Value → H) :
    ReturnsInHanded {} Tryz.checked os 16 .any (fun w args => (Rows.topFormsSpec.pre enc Tryz.prog Tryz.f16 Rows.topFormsRow.domain false w args ∧ laidMetH Tryz.prog Rows.topFormsRow.laid w) ∧ sizedMet enc Tryz.prog Tryz.f16 (OpenSpec.ofChange Rows.topFormsSpec) false w args)
      (Rows.topFormsSpec.post enc Tryz.prog Tryz.f16 false true false false) := by
  refine returnsInHanded_of_change_and (C := Tryz.checked) (X := fun w _ => laidMetH Tryz.prog Rows.topFormsRow.laid w) (fun _ _ _ hh h => h.of_heap hh) own started (by kernel_rfl) Tryz.func16
    (ChangeSpec.witness_shaped (enc := enc) (C := Tryz.checked) (os := os) (X := fun w _ => laidMetH Tryz.prog Rows.topFormsRow.laid w) false (World.laidAll Tryz.prog os Rows.topFormsRow.laid) #[.agg #[.slice none 0 0, .slice none 0 0, .slice none 0 0, .slice none 0 0, .slice none 0 0, .slice none 0 0, .slice none 0 0], .int .u8 0] 8 (World.laidAll_os _ _ _)
      (World.shaped_of_ZipB (by kernel_rfl) (by kernel_rfl)) (by kernel_rfl) (by kernel_rfl) (by kernel_rfl)
      (by rw [MakeChecks.laidMetH_plain _ _ _ (by kernel_rfl)]; exact laidMet_laidAll _ (by kernel_rfl) (by kernel_rfl))) ?_
  intro W base args ds gs before hval0 hW hcnd _ hX _
  refine law_of_AC (n := 8) (t := 4) (gs := gs) (before := before) jf_laid (by kernel_rfl) (by kernel_rfl) rfl Tryz.underlying4 rfl ?_ ?_ hval0 (gl_of_laid hX) hW
  · intro ds hds
    match ds, hds with
    | [d1, d2], _ => rfl
  · intro avs hav
    exact law_TopForms avs hav

theorem q1 : (Rows.topFormsRow.inPlace == Tryz.prog.inPlace 16) = true := by kernel_rfl
theorem q2 : (Rows.topFormsRow.unfollowed == Tryz.prog.unfollowed 16) = true := by kernel_rfl
theorem q3 : (Rows.topFormsRow.recurses == Tryz.prog.recurses 16) = true := by kernel_rfl
theorem q4 : (Rows.topFormsRow.named == Tryz.prog.varsNamed 16) = true := by kernel_rfl
theorem q5 : S5 Tryz.prog Tryz.f16 Rows.topFormsSpec Rows.topFormsRow = true := by kernel_rfl
theorem q6 : Tryz.prog.funcNamed Rows.topFormsRow.func = some 16 := by kernel_rfl
theorem q7 : Tryz.f16.isWrapper Tryz.prog Rows.topFormsRow.wrapper Rows.topFormsRow.mainSum := by
  unfold Func.isWrapper; first | (rw [if_pos (by decide +kernel)]; kernel_rfl) | (rw [if_neg (by decide +kernel)]; exact ⟨rfl, rfl⟩)
theorem q8 : Tryz.f16.isInstance Tryz.prog Rows.topFormsRow.origin Rows.topFormsRow.targs := of_decide_eq_true (by kernel_rfl)
theorem q9 : joinedFacts Tryz.prog 16 Tryz.f16 Rows.topFormsSpec Rows.topFormsRow = true := jf_mk jf_laid jf_maps jf_plain jf_stops jf_enter jf_lifts q1 q2 q3 q4 q5

theorem over : Rows.topFormsRow.holds Tryz.pinned (OpenSpec.ofChange Rows.topFormsSpec) :=
  OpenClaim.holds_of_wide 16 Tryz.f16 rfl rfl rfl rfl rfl rfl rfl ⟨rfl, rfl, rfl, rfl, rfl⟩ rfl rfl rfl rfl rfl q6 Tryz.func16 q9 q8 q7
    (fun os started H enc _ => lifted os started H enc)

theorem wf : Rows.topFormsRow.wfByText (OpenSpec.ofChange Rows.topFormsSpec) = true := by kernel_rfl
theorem goes : false = Rows.topFormsRow.goesBy Tryz.pinned.checked.prog := by kernel_rfl

theorem proved : Rows.TopFormsCardSaid :=
  Claim7.holds_tied_plain_at .later [] [.data, .data] true (true, "e80771a22139a3c703b77766c49955edb5051ecc89a9c8eef379e7c24972514a") false over (fun _ h => by cases h) wf (fun _ h => by cases h) topForms_row_tie rfl ⟨rfl, rfl⟩ jf_main rfl
    (fun f fn hf hfn => by
      obtain rfl : f = 16 := Option.some.inj ((show Tryz.prog.funcNamed "bitepoint/bitepointtop.TopForms" = some 16 by kernel_rfl).symm.trans hf) |>.symm
      obtain rfl : fn = Tryz.f16 := (Option.some.inj (Tryz.func16.symm.trans hfn)).symm
      exact ⟨jf_looks, fun j t ht => by
        rw [show Tryz.f16.params = #[56, 5] by kernel_rfl] at ht
        have hm : t ∈ [56, 5] := by simpa using Array.mem_of_getElem? ht
        have hall : ([56, 5].all fun u => !Tryz.prog.wantsStandIn u) = true := by kernel_rfl
        exact (show Tryz.prog.wantsStandIn t = false by simpa using Q1.1 hall t hm)⟩)
    goes
#print axioms proved
end Go.Proofs.YtgkidpolomhghaaGreatDoor.topForms

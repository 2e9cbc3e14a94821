/- The statement ClassMore is proved: the law returns true at every input, and its arguments read as before; no condition but what the row lists, which the card ties to the program. Dr off -/
import Derived.Test.YtpnghcaccfnngaaGreatDoorRows
import Derived.Test.YtpnghcaccfnngaaGreatDoorCards
import Derived.Test.YtpnghcaccfnngaaGreatDoorTie
import Derived.ProofKit
import Derived.OpenShut
import Derived.LaidMore
import Derived.Lay
import Derived.SevenTiedAt
import Derived.Stop.Joined
import Derived.Test.YtpnghcaccfnngaaGreatDoorKMore
namespace Go.Proofs.YtpnghcaccfnngaaGreatDoor.classMore
open Go Go.ChangeShapes Go.WideShapes Go.ChangeAt Go.RowKit Go.Proofs.YtpnghcaccfnngaaGreatDoor.AM
set_option linter.unusedVariables false

theorem own : ownKnob Tryz.prog.godebug = none := by kernel_rfl

set_option maxRecDepth 100000 in
theorem lifted (os : Os) (started : os.Started) (H : Type) (enc : TypeId × Value → H) :
    ReturnsInHanded {} Tryz.checked os 13 .any (fun w args => (Rows.classMoreSpec.pre enc Tryz.prog Tryz.f13 Rows.classMoreRow.domain false w args ∧ laidMetH Tryz.prog Rows.classMoreRow.laid w) ∧ sizedMet enc Tryz.prog Tryz.f13 (OpenSpec.ofChange Rows.classMoreSpec) false w args)
      (Rows.classMoreSpec.post enc Tryz.prog Tryz.f13 false true false false) := by
  refine returnsInHanded_of_change_and (C := Tryz.checked) (X := fun w _ => laidMetH Tryz.prog Rows.classMoreRow.laid w) (fun _ _ _ hh h => h.of_heap hh) own started (by kernel_rfl) Tryz.func13
    (ChangeSpec.witness_shaped (enc := enc) (C := Tryz.checked) (os := os) (X := fun w _ => laidMetH Tryz.prog Rows.classMoreRow.laid w) false (World.laidAll Tryz.prog os Rows.classMoreRow.laid) #[.agg #[.slice none 0 0, .slice none 0 0], .slice none 0 0, .agg #[.int .i64 0, .int .i64 0, .int .i64 0, .int .i64 0, .int .i64 0]] 8 (World.laidAll_os _ _ _)
      (World.shaped_of_ZipB (by kernel_rfl) (by kernel_rfl)) (by kernel_rfl) (by kernel_rfl) (by kernel_rfl)
      (by rw [MakeChecks.laidMetH_plain _ _ _ (by kernel_rfl)]; exact laidMet_laidAll _ (by kernel_rfl) (by kernel_rfl))) ?_
  intro W base args ds gs before hval0 hW hcnd _ _ _
  refine law_of_AC (n := 8) (t := 4) (gs := gs) (before := before) jf_laid (by kernel_rfl) (by kernel_rfl) rfl Tryz.underlying4 rfl ?_ ?_ hval0 hW
  · intro ds hds
    match ds, hds with
    | [d1, d2, d3], _ => rfl
  · intro avs hav
    exact law_ClassMore avs hav

theorem q1 : (Rows.classMoreRow.inPlace == Tryz.prog.inPlace 13) = true := by kernel_rfl
theorem q2 : (Rows.classMoreRow.unfollowed == Tryz.prog.unfollowed 13) = true := by kernel_rfl
theorem q3 : (Rows.classMoreRow.recurses == Tryz.prog.recurses 13) = true := by kernel_rfl
theorem q4 : (Rows.classMoreRow.named == Tryz.prog.varsNamed 13) = true := by kernel_rfl
theorem q5 : restFacts Tryz.prog Tryz.f13 Rows.classMoreSpec Rows.classMoreRow = true := by kernel_rfl
theorem q6 : Tryz.prog.funcNamed Rows.classMoreRow.func = some 13 := by kernel_rfl
theorem q7 : Tryz.f13.isWrapper Tryz.prog Rows.classMoreRow.wrapper Rows.classMoreRow.mainSum := by
  unfold Func.isWrapper; first | (rw [if_pos (by decide +kernel)]; kernel_rfl) | (rw [if_neg (by decide +kernel)]; exact ⟨rfl, rfl⟩)
theorem q8 : Tryz.f13.isInstance Tryz.prog Rows.classMoreRow.origin Rows.classMoreRow.targs := of_decide_eq_true (by kernel_rfl)
theorem q9 : joinedFacts Tryz.prog 13 Tryz.f13 Rows.classMoreSpec Rows.classMoreRow = true := jf_mk jf_laid jf_maps jf_plain jf_stops jf_enter jf_lifts q1 q2 q3 q4 q5

theorem over : Rows.classMoreRow.holds Tryz.pinned (OpenSpec.ofChange Rows.classMoreSpec) :=
  OpenClaim.holds_of_wide 13 Tryz.f13 rfl rfl rfl rfl rfl rfl rfl ⟨rfl, rfl, rfl, rfl, rfl⟩ rfl rfl rfl rfl rfl q6 Tryz.func13 q9 q8 q7
    (fun os started H enc _ => lifted os started H enc)

theorem proved : Rows.ClassMoreCardSaid :=
  Claim7.holds_tied_plain_at .later [] [.data, .pinned] true (true, "91db0f7fb9adc892578cf4676a55cfa841b71875868d0880e18828398aea63f4") true over (fun _ h => by cases h) (by kernel_rfl) (fun _ h => by cases h) classMore_row_tie rfl ⟨rfl, rfl⟩ (by kernel_rfl) rfl
    (fun f fn hf hfn => by
      obtain rfl : f = 13 := Option.some.inj ((show Tryz.prog.funcNamed "bitepoint/bitepointlaw01.ClassMore" = some 13 by kernel_rfl).symm.trans hf) |>.symm
      obtain rfl : fn = Tryz.f13 := (Option.some.inj (Tryz.func13.symm.trans hfn)).symm
      exact ⟨by kernel_rfl, fun j t ht => by
        rw [show Tryz.f13.params = #[38, 39, 78] by kernel_rfl] at ht
        have hm : t ∈ [38, 39, 78] := by simpa using Array.mem_of_getElem? ht
        have hall : ([38, 39, 78].all fun u => !Tryz.prog.wantsStandIn u) = true := by kernel_rfl
        exact (show Tryz.prog.wantsStandIn t = false by simpa using List.all_eq_true.1 hall t hm)⟩)
    (by kernel_rfl)
#print axioms proved
end Go.Proofs.YtpnghcaccfnngaaGreatDoor.classMore

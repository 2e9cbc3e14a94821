/- The statement ClassKnown is proved: the law returns true at every input, and its arguments read as before; no condition but what the row lists, which the card ties to the program. Dr off -/
import Derived.Test.YtpnghcaccfnngaaGreatDoorRows
import Derived.Test.YtpnghcaccfnngaaGreatDoorCards
import Derived.Test.YtpnghcaccfnngaaGreatDoorTie
import Derived.ProofKit
import Derived.OpenShut
import Derived.LaidMore
import Derived.Lay
import Derived.SevenTiedAt
import Derived.Stop.Joined
import Derived.Test.YtpnghcaccfnngaaGreatDoorKKnown
namespace Go.Proofs.YtpnghcaccfnngaaGreatDoor.classKnown
open Go Go.ChangeShapes Go.WideShapes Go.ChangeAt Go.RowKit Go.Proofs.YtpnghcaccfnngaaGreatDoor.AM
set_option linter.unusedVariables false

theorem own : ownKnob Tryz.prog.godebug = none := by kernel_rfl

set_option maxRecDepth 100000 in
theorem lifted (os : Os) (started : os.Started) (H : Type) (enc : TypeId × Value → H) :
    ReturnsInHanded {} Tryz.checked os 7 .any (fun w args => (Rows.classKnownSpec.pre enc Tryz.prog Tryz.f7 Rows.classKnownRow.domain false w args ∧ laidMetH Tryz.prog Rows.classKnownRow.laid w) ∧ sizedMet enc Tryz.prog Tryz.f7 (OpenSpec.ofChange Rows.classKnownSpec) false w args)
      (Rows.classKnownSpec.post enc Tryz.prog Tryz.f7 false true false false) := by
  refine returnsInHanded_of_change_and (C := Tryz.checked) (X := fun w _ => laidMetH Tryz.prog Rows.classKnownRow.laid w) (fun _ _ _ hh h => h.of_heap hh) own started (by kernel_rfl) Tryz.func7
    (ChangeSpec.witness_shaped (enc := enc) (C := Tryz.checked) (os := os) (X := fun w _ => laidMetH Tryz.prog Rows.classKnownRow.laid w) false (World.laidAll Tryz.prog os Rows.classKnownRow.laid) #[] 8 (World.laidAll_os _ _ _)
      (World.shaped_of_ZipB (by kernel_rfl) (by kernel_rfl)) (by kernel_rfl) (by kernel_rfl) (by kernel_rfl)
      (by rw [MakeChecks.laidMetH_plain _ _ _ (by kernel_rfl)]; exact laidMet_laidAll _ (by kernel_rfl) (by kernel_rfl))) ?_
  intro W base args ds gs before hval0 hW hcnd _ _ _
  refine law_of_AC (n := 8) (t := 4) (gs := gs) (before := before) jf_laid (by kernel_rfl) (by kernel_rfl) rfl Tryz.underlying4 rfl ?_ ?_ hval0 hW
  · intro ds hds
    match ds, hds with
    | [], _ => rfl
  · intro avs hav
    exact law_ClassKnown avs hav

theorem q1 : (Rows.classKnownRow.inPlace == Tryz.prog.inPlace 7) = true := by kernel_rfl
theorem q2 : (Rows.classKnownRow.unfollowed == Tryz.prog.unfollowed 7) = true := by kernel_rfl
theorem q3 : (Rows.classKnownRow.recurses == Tryz.prog.recurses 7) = true := by kernel_rfl
theorem q4 : (Rows.classKnownRow.named == Tryz.prog.varsNamed 7) = true := by kernel_rfl
theorem q5 : restFacts Tryz.prog Tryz.f7 Rows.classKnownSpec Rows.classKnownRow = true := by kernel_rfl
theorem q6 : Tryz.prog.funcNamed Rows.classKnownRow.func = some 7 := by kernel_rfl
theorem q7 : Tryz.f7.isWrapper Tryz.prog Rows.classKnownRow.wrapper Rows.classKnownRow.mainSum := by
  unfold Func.isWrapper; first | (rw [if_pos (by decide +kernel)]; kernel_rfl) | (rw [if_neg (by decide +kernel)]; exact ⟨rfl, rfl⟩)
theorem q8 : Tryz.f7.isInstance Tryz.prog Rows.classKnownRow.origin Rows.classKnownRow.targs := of_decide_eq_true (by kernel_rfl)
theorem q9 : joinedFacts Tryz.prog 7 Tryz.f7 Rows.classKnownSpec Rows.classKnownRow = true := jf_mk jf_laid jf_maps jf_plain jf_stops jf_enter jf_lifts q1 q2 q3 q4 q5

theorem over : Rows.classKnownRow.holds Tryz.pinned (OpenSpec.ofChange Rows.classKnownSpec) :=
  OpenClaim.holds_of_wide 7 Tryz.f7 rfl rfl rfl rfl rfl rfl rfl ⟨rfl, rfl, rfl, rfl, rfl⟩ rfl rfl rfl rfl rfl q6 Tryz.func7 q9 q8 q7
    (fun os started H enc _ => lifted os started H enc)

theorem proved : Rows.ClassKnownCardSaid :=
  Claim7.holds_tied_plain_at .later [] [.data, .pinned] true (true, "91db0f7fb9adc892578cf4676a55cfa841b71875868d0880e18828398aea63f4") true over (fun _ h => by cases h) (by kernel_rfl) (fun _ h => by cases h) classKnown_row_tie rfl ⟨rfl, rfl⟩ (by kernel_rfl) rfl
    (fun f fn hf hfn => by
      obtain rfl : f = 7 := Option.some.inj ((show Tryz.prog.funcNamed "bitepoint/bitepointlaw01.ClassKnown" = some 7 by kernel_rfl).symm.trans hf) |>.symm
      obtain rfl : fn = Tryz.f7 := (Option.some.inj (Tryz.func7.symm.trans hfn)).symm
      exact ⟨by kernel_rfl, fun j t ht => by
        rw [show Tryz.f7.params = #[] by kernel_rfl] at ht
        simp at ht⟩)
    (by kernel_rfl)
#print axioms proved
end Go.Proofs.YtpnghcaccfnngaaGreatDoor.classKnown

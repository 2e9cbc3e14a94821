/- The statement ClassOrder is proved: the law returns true at every input, and its arguments read as before; no condition but what the row lists, which the card ties to the program. Dr off -/
import Derived.Test.YtpnghcaccfnngaaGreatDoorRows
import Derived.Test.YtpnghcaccfnngaaGreatDoorCards
import Derived.Test.YtpnghcaccfnngaaGreatDoorTie
import Derived.ProofKit
import Derived.OpenShut
import Derived.LaidMore
import Derived.Lay
import Derived.SevenTiedAt
import Derived.Stop.Joined
import Derived.Test.YtpnghcaccfnngaaGreatDoorKOrder
namespace Go.Proofs.YtpnghcaccfnngaaGreatDoor.classOrder
open Go Go.ChangeShapes Go.WideShapes Go.ChangeAt Go.RowKit Go.Proofs.YtpnghcaccfnngaaGreatDoor.AM
set_option linter.unusedVariables false

theorem own : ownKnob Tryz.prog.godebug = none := by kernel_rfl

set_option maxRecDepth 100000 in
theorem lifted (os : Os) (started : os.Started) (H : Type) (enc : TypeId × Value → H) :
    ReturnsInHanded {} Tryz.checked os 12 .any (fun w args => (Rows.classOrderSpec.pre enc Tryz.prog Tryz.f12 Rows.classOrderRow.domain false w args ∧ laidMetH Tryz.prog Rows.classOrderRow.laid w) ∧ sizedMet enc Tryz.prog Tryz.f12 (OpenSpec.ofChange Rows.classOrderSpec) false w args)
      (Rows.classOrderSpec.post enc Tryz.prog Tryz.f12 false true false false) := by
  refine returnsInHanded_of_change_and (C := Tryz.checked) (X := fun w _ => laidMetH Tryz.prog Rows.classOrderRow.laid w) (fun _ _ _ hh h => h.of_heap hh) own started (by kernel_rfl) Tryz.func12
    (ChangeSpec.witness_shaped (enc := enc) (C := Tryz.checked) (os := os) (X := fun w _ => laidMetH Tryz.prog Rows.classOrderRow.laid w) false (World.laidAll Tryz.prog os Rows.classOrderRow.laid) #[.agg #[.slice none 0 0, .slice none 0 0], .slice none 0 0, .slice none 0 0] 8 (World.laidAll_os _ _ _)
      (World.shaped_of_ZipB (by kernel_rfl) (by kernel_rfl)) (by kernel_rfl) (by kernel_rfl) (by kernel_rfl)
      (by rw [MakeChecks.laidMetH_plain _ _ _ (by kernel_rfl)]; exact laidMet_laidAll _ (by kernel_rfl) (by kernel_rfl))) ?_
  intro W base args ds gs before hval0 hW hcnd _ _ _
  refine law_of_AC (n := 8) (t := 4) (gs := gs) (before := before) jf_laid (by kernel_rfl) (by kernel_rfl) rfl Tryz.underlying4 rfl ?_ ?_ hval0 hW
  · intro ds hds
    match ds, hds with
    | [d1, d2, d3], _ => rfl
  · intro avs hav
    exact law_ClassOrder avs hav

theorem q1 : (Rows.classOrderRow.inPlace == Tryz.prog.inPlace 12) = true := by kernel_rfl
theorem q2 : (Rows.classOrderRow.unfollowed == Tryz.prog.unfollowed 12) = true := by kernel_rfl
theorem q3 : (Rows.classOrderRow.recurses == Tryz.prog.recurses 12) = true := by kernel_rfl
theorem q4 : (Rows.classOrderRow.named == Tryz.prog.varsNamed 12) = true := by kernel_rfl
theorem q5 : restFacts Tryz.prog Tryz.f12 Rows.classOrderSpec Rows.classOrderRow = true := by kernel_rfl
theorem q6 : Tryz.prog.funcNamed Rows.classOrderRow.func = some 12 := by kernel_rfl
theorem q7 : Tryz.f12.isWrapper Tryz.prog Rows.classOrderRow.wrapper Rows.classOrderRow.mainSum := by
  unfold Func.isWrapper; first | (rw [if_pos (by decide +kernel)]; kernel_rfl) | (rw [if_neg (by decide +kernel)]; exact ⟨rfl, rfl⟩)
theorem q8 : Tryz.f12.isInstance Tryz.prog Rows.classOrderRow.origin Rows.classOrderRow.targs := of_decide_eq_true (by kernel_rfl)
theorem q9 : joinedFacts Tryz.prog 12 Tryz.f12 Rows.classOrderSpec Rows.classOrderRow = true := jf_mk jf_laid jf_maps jf_plain jf_stops jf_enter jf_lifts q1 q2 q3 q4 q5

theorem over : Rows.classOrderRow.holds Tryz.pinned (OpenSpec.ofChange Rows.classOrderSpec) :=
  OpenClaim.holds_of_wide 12 Tryz.f12 rfl rfl rfl rfl rfl rfl rfl ⟨rfl, rfl, rfl, rfl, rfl⟩ rfl rfl rfl rfl rfl q6 Tryz.func12 q9 q8 q7
    (fun os started H enc _ => lifted os started H enc)

theorem proved : Rows.ClassOrderCardSaid :=
  Claim7.holds_tied_plain_at .later [] [.data, .pinned] true (true, "91db0f7fb9adc892578cf4676a55cfa841b71875868d0880e18828398aea63f4") true over (fun _ h => by cases h) (by kernel_rfl) (fun _ h => by cases h) classOrder_row_tie rfl ⟨rfl, rfl⟩ (by kernel_rfl) rfl
    (fun f fn hf hfn => by
      obtain rfl : f = 12 := Option.some.inj ((show Tryz.prog.funcNamed "bitepoint/bitepointlaw01.ClassOrder" = some 12 by kernel_rfl).symm.trans hf) |>.symm
      obtain rfl : fn = Tryz.f12 := (Option.some.inj (Tryz.func12.symm.trans hfn)).symm
      exact ⟨by kernel_rfl, fun j t ht => by
        rw [show Tryz.f12.params = #[38, 39, 74] by kernel_rfl] at ht
        have hm : t ∈ [38, 39, 74] := by simpa using Array.mem_of_getElem? ht
        have hall : ([38, 39, 74].all fun u => !Tryz.prog.wantsStandIn u) = true := by kernel_rfl
        exact (show Tryz.prog.wantsStandIn t = false by simpa using List.all_eq_true.1 hall t hm)⟩)
    (by kernel_rfl)
#print axioms proved
end Go.Proofs.YtpnghcaccfnngaaGreatDoor.classOrder

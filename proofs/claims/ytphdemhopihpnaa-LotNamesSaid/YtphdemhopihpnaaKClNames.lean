/- The statement LotNames is proved: the law returns true at every input, and its arguments read as before; no condition. -/
import Derived.Test.YtphdemhopihpnaaRows
import Derived.ProofKit
import Derived.OpenShut
import Derived.Test.YtphdemhopihpnaaKLawNames
namespace Go.Proofs.Ytphdemhopihpnaa.lotNames
open Go Go.ChangeShapes Go.WideShapes Go.ChangeAt Go.RowKit Go.Proofs.Ytphdemhopihpnaa.AM
set_option linter.unusedVariables false

theorem own : ownKnob Try.prog.godebug = none := by kernel_rfl

set_option maxRecDepth 100000 in
theorem lifted (os : Os) (started : os.Started) (H : Type) (enc : TypeId × Value → H) :
    ReturnsInHanded {} Try.checked os 15 .any (Rows.lotNamesSpec.pre6 enc Try.prog Try.f15 Rows.lotNamesRow.domain false) (Rows.lotNamesSpec.post enc Try.prog Try.f15 false true false false) := by
  refine returnsInHanded_of_change (C := Try.checked) own started (by kernel_rfl) Try.func15
    (ChangeSpec.witness6 (enc := enc) (C := Try.checked) false ⟨#[], #[.agg #[.slice none 0 0, .slice none 0 0], .slice none 0 0], []⟩ 8 (by kernel_rfl) (by kernel_rfl) (by kernel_rfl) (by kernel_rfl)) ?_
  intro W base args ds gs before hval0 hW hcnd _
  refine law_of_AC (n := 8) (t := 4) (gs := gs) (before := before) (by kernel_rfl) (by kernel_rfl) (by kernel_rfl) rfl Try.underlying4 rfl ?_ ?_ hval0 hW
  · intro ds hds
    match ds, hds with
    | [d1, d2], _ => rfl
  · intro avs hav
    exact law_LotNames avs hav

theorem over : Rows.lotNamesRow.holds Try.pinned (OpenSpec.ofChange Rows.lotNamesSpec) :=
  OpenClaim.holds_of_wide 15 Try.f15 rfl rfl rfl rfl rfl rfl rfl ⟨rfl, rfl, rfl, rfl, rfl⟩ rfl rfl rfl rfl rfl (by kernel_rfl) Try.func15 (by kernel_rfl)
    (of_decide_eq_true (by kernel_rfl)) (by unfold Func.isWrapper; first | (rw [if_pos (by decide +kernel)]; kernel_rfl) | (rw [if_neg (by decide +kernel)]; exact ⟨rfl, rfl⟩))
    (fun os started H enc _ => lifted os started H enc)

theorem proved : Rows.LotNamesSaid := over
#print axioms proved
end Go.Proofs.Ytphdemhopihpnaa.lotNames

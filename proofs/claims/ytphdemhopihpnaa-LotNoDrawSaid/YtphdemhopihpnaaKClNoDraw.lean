/- The statement LotNoDraw is proved: the law returns true at every input, and its arguments read as before; no condition. -/
import Derived.Test.YtphdemhopihpnaaRows
import Derived.ProofKit
import Derived.OpenShut
import Derived.Test.YtphdemhopihpnaaKLawNoDraw
namespace Go.Proofs.Ytphdemhopihpnaa.lotNoDraw
open Go Go.ChangeShapes Go.WideShapes Go.ChangeAt Go.RowKit Go.Proofs.Ytphdemhopihpnaa.AM
set_option linter.unusedVariables false

theorem own : ownKnob Try.prog.godebug = none := by kernel_rfl

set_option maxRecDepth 100000 in
theorem lifted (os : Os) (started : os.Started) (H : Type) (enc : TypeId × Value → H) :
    ReturnsInHanded {} Try.checked os 13 .any (Rows.lotNoDrawSpec.pre6 enc Try.prog Try.f13 Rows.lotNoDrawRow.domain false) (Rows.lotNoDrawSpec.post enc Try.prog Try.f13 false true false false) := by
  refine returnsInHanded_of_change (C := Try.checked) own started (by kernel_rfl) Try.func13
    (ChangeSpec.witness6 (enc := enc) (C := Try.checked) false ⟨#[], #[.agg #[.slice none 0 0, .slice none 0 0], .int .u8 0], []⟩ 8 (by kernel_rfl) (by kernel_rfl) (by kernel_rfl) (by kernel_rfl)) ?_
  intro W base args ds gs before hval0 hW hcnd _
  refine law_of_AC (n := 8) (t := 4) (gs := gs) (before := before) (by kernel_rfl) (by kernel_rfl) (by kernel_rfl) rfl Try.underlying4 rfl ?_ ?_ hval0 hW
  · intro ds hds
    match ds, hds with
    | [d1, d2], _ => rfl
  · intro avs hav
    exact law_LotNoDraw avs hav

theorem over : Rows.lotNoDrawRow.holds Try.pinned (OpenSpec.ofChange Rows.lotNoDrawSpec) :=
  OpenClaim.holds_of_wide 13 Try.f13 rfl rfl rfl rfl rfl rfl rfl ⟨rfl, rfl, rfl, rfl, rfl⟩ rfl rfl rfl rfl rfl (by kernel_rfl) Try.func13 (by kernel_rfl)
    (of_decide_eq_true (by kernel_rfl)) (by unfold Func.isWrapper; first | (rw [if_pos (by decide +kernel)]; kernel_rfl) | (rw [if_neg (by decide +kernel)]; exact ⟨rfl, rfl⟩))
    (fun os started H enc _ => lifted os started H enc)

theorem proved : Rows.LotNoDrawSaid := over
#print axioms proved
end Go.Proofs.Ytphdemhopihpnaa.lotNoDraw

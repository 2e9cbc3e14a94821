/- The statement LotKnown is proved: the law returns true; no condition. -/
import Derived.Test.YtphdemhopihpnaaRows
import Derived.ProofKit
import Derived.OpenShut
import Derived.Test.YtphdemhopihpnaaLotTab7
namespace Go.Proofs.Ytphdemhopihpnaa.lotKnown
open Go Go.ChangeShapes Go.WideShapes Go.ChangeAt Go.RowKit Go.Proofs.Ytphdemhopihpnaa.AM
set_option linter.unusedVariables false

theorem own : ownKnob Try.prog.godebug = none := by kernel_rfl

set_option maxRecDepth 100000 in
theorem run (b30 b58 b74 : Code) : runCall (TL7 b30 b58 b74) (callD (TL7 b30 b58 b74) 1000000 40) 1000000 [] 7 [] [] = some (true, .b true, []) := by kernel_rfl

theorem contract (σ : List AObj) : AC Try.prog 7 [] σ fun r τ => r = .b true ∧ τ = σ :=
  AC_run (Checked.mixed Try.checked) TL7_ok 1000000 40 (run _ _ _) rfl σ

set_option maxRecDepth 100000 in
theorem lifted (os : Os) (started : os.Started) (H : Type) (enc : TypeId × Value → H) :
    ReturnsInHanded {} Try.checked os 7 .any (Rows.lotKnownSpec.pre6 enc Try.prog Try.f7 Rows.lotKnownRow.domain false) (Rows.lotKnownSpec.post enc Try.prog Try.f7 false true false false) := by
  refine returnsInHanded_of_change (C := Try.checked) own started (by kernel_rfl) Try.func7
    (ChangeSpec.witness6 (enc := enc) (C := Try.checked) false ⟨#[], #[], []⟩ 8 (by kernel_rfl) (by kernel_rfl) (by kernel_rfl) (by kernel_rfl)) ?_
  intro W base args ds gs before hval0 hW hcnd _
  refine law_of_AC (n := 8) (t := 4) (gs := gs) (before := before) (by kernel_rfl) (by kernel_rfl) (by kernel_rfl) rfl Try.underlying4 rfl ?_ ?_ hval0 hW
  · intro ds hds
    have : ds = [] := List.eq_nil_of_length_eq_zero (by rw [hds]; rfl)
    subst this; rfl
  · intro avs hav
    have hav' : Args Try.prog [] avs := hav
    cases hav'
    exact (contract []).mono fun r σ' h => h.1

theorem over : Rows.lotKnownRow.holds Try.pinned (OpenSpec.ofChange Rows.lotKnownSpec) :=
  OpenClaim.holds_of_wide 7 Try.f7 rfl rfl rfl rfl rfl rfl rfl ⟨rfl, rfl, rfl, rfl, rfl⟩ rfl rfl rfl rfl rfl (by kernel_rfl) Try.func7 (by kernel_rfl)
    (of_decide_eq_true (by kernel_rfl)) (by unfold Func.isWrapper; first | (rw [if_pos (by decide +kernel)]; kernel_rfl) | (rw [if_neg (by decide +kernel)]; exact ⟨rfl, rfl⟩))
    (fun os started H enc _ => lifted os started H enc)

theorem proved : Rows.LotKnownSaid := over
#print axioms proved
end Go.Proofs.Ytphdemhopihpnaa.lotKnown

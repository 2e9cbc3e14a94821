/- The statement TopRoutes is proved: the law returns true at every input, and its arguments read as before; no condition. -/
import Derived.Test.YtogjcmnopidfpaaGreatRows
import Derived.ProofKit
import Derived.OpenShut
import Derived.Test.YtogjcmnopidfpaaGreatKTopRoutes
namespace Go.Proofs.YtogjcmnopidfpaaGreat.topRoutes
open Go Go.ChangeShapes Go.WideShapes Go.ChangeAt Go.RowKit Go.Proofs.YtogjcmnopidfpaaGreat.AM
set_option linter.unusedVariables false

theorem own : ownKnob Tryz.prog.godebug = none := by kernel_rfl

instance drTop : Dr := ⟨True, []⟩

set_option maxRecDepth 100000 in
theorem lifted (os : Os) (started : os.Started) (H : Type) (enc : TypeId × Value → H) :
    ReturnsInHanded {} Tryz.checked os 3 .any (Rows.topRoutesSpec.pre6 enc Tryz.prog Tryz.f3 Rows.topRoutesRow.domain false) (Rows.topRoutesSpec.post enc Tryz.prog Tryz.f3 false true false false) := by
  refine returnsInHanded_of_change (C := Tryz.checked) own started (by kernel_rfl) Tryz.func3
    (ChangeSpec.witness6 (enc := enc) (C := Tryz.checked) false ⟨#[], #[.agg #[.slice none 0 0, .slice none 0 0, .slice none 0 0, .slice none 0 0, .int .i64 0, .slice none 0 0, .slice none 0 0], .agg #[.slice none 0 0, .slice none 0 0, .slice none 0 0, .int .i64 0, .int .i64 0, .int .i64 0, .int .i64 0, .slice none 0 0]], []⟩ 8 (by kernel_rfl) (by kernel_rfl) (by kernel_rfl) (by kernel_rfl)) ?_
  intro W base args ds gs before hval0 hW hcnd _
  refine law_of_AC (n := 8) (t := 4) (gs := gs) (before := before) (by kernel_rfl) (by kernel_rfl) (by kernel_rfl) rfl Tryz.underlying4 rfl ?_ ?_ hval0 (fun q hq => (WK (show q ∈ ([] : List (Nat × List CV)) from hq)).elim) hW
  · intro ds hds
    match ds, hds with
    | [d1, d2], _ => rfl
  · intro avs hav
    exact law_TopRoutesU avs hav

theorem over : Rows.topRoutesRow.holds Tryz.pinned (OpenSpec.ofChange Rows.topRoutesSpec) :=
  OpenClaim.holds_of_wide 3 Tryz.f3 rfl rfl rfl rfl rfl rfl rfl ⟨rfl, rfl, rfl, rfl, rfl⟩ rfl rfl rfl rfl rfl (by kernel_rfl) Tryz.func3 (by kernel_rfl)
    (of_decide_eq_true (by kernel_rfl)) (by unfold Func.isWrapper; first | (rw [if_pos (by decide +kernel)]; kernel_rfl) | (rw [if_neg (by decide +kernel)]; exact ⟨rfl, rfl⟩))
    (fun os started H enc _ => lifted os started H enc)

theorem proved : Rows.TopRoutesSaid := over
#print axioms proved
end Go.Proofs.YtogjcmnopidfpaaGreat.topRoutes

/- The statement TopSeated is proved: the law returns true at every input, and its arguments read as before; no condition. -/
import Derived.Test.YtpmokaefmcffaaaGreatRows
import Derived.ProofKit
import Derived.OpenShut
import Derived.Test.YtpmokaefmcffaaaGreatKTopSeated2
namespace Go.Proofs.YtpmokaefmcffaaaGreat.topSeated
open Go Go.ChangeShapes Go.WideShapes Go.ChangeAt Go.RowKit Go.Proofs.YtpmokaefmcffaaaGreat.AM
set_option linter.unusedVariables false

theorem own : ownKnob Tryz.prog.godebug = none := by kernel_rfl

instance drTop : Dr := ⟨True, []⟩

set_option maxRecDepth 100000 in
theorem lifted (os : Os) (started : os.Started) (H : Type) (enc : TypeId × Value → H) :
    ReturnsInHanded {} Tryz.checked os 4 .any (Rows.topSeatedSpec.pre6 enc Tryz.prog Tryz.f4 Rows.topSeatedRow.domain false) (Rows.topSeatedSpec.post enc Tryz.prog Tryz.f4 false true false false) := by
  refine returnsInHanded_of_change (C := Tryz.checked) own started (by kernel_rfl) Tryz.func4
    (ChangeSpec.witness6 (enc := enc) (C := Tryz.checked) false ⟨#[], #[.agg #[.slice none 0 0, .slice none 0 0, .int .i64 0, .int .i64 0], .agg #[.int .i64 0, .int .i64 0, .int .i64 0], .agg #[.slice none 0 0, .int .u8 0, .int .u32 0]], []⟩ 8 (by kernel_rfl) (by kernel_rfl) (by kernel_rfl) (by kernel_rfl)) ?_
  intro W base args ds gs before hval0 hW hcnd _
  refine law_of_AC (n := 8) (t := 4) (gs := gs) (before := before) (by kernel_rfl) (by kernel_rfl) (by kernel_rfl) rfl Tryz.underlying4 rfl ?_ ?_ hval0 (fun q hq => (WK (show q ∈ ([] : List (Nat × List CV)) from hq)).elim) hW
  · intro ds hds
    match ds, hds with
    | [d1, d2, d3], _ => rfl
  · intro avs hav
    exact law_TopSeated avs hav

theorem over : Rows.topSeatedRow.holds Tryz.pinned (OpenSpec.ofChange Rows.topSeatedSpec) :=
  OpenClaim.holds_of_wide 4 Tryz.f4 rfl rfl rfl rfl rfl rfl rfl ⟨rfl, rfl, rfl, rfl, rfl⟩ rfl rfl rfl rfl rfl (by kernel_rfl) Tryz.func4 (by kernel_rfl)
    (of_decide_eq_true (by kernel_rfl)) (by unfold Func.isWrapper; first | (rw [if_pos (by decide +kernel)]; kernel_rfl) | (rw [if_neg (by decide +kernel)]; exact ⟨rfl, rfl⟩))
    (fun os started H enc _ => lifted os started H enc)

theorem proved : Rows.TopSeatedSaid := over
#print axioms proved
end Go.Proofs.YtpmokaefmcffaaaGreat.topSeated

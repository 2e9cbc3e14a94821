/- A list of bytes as an argument of a law. -/
import Derived.Test.YtphdemhopihpnaaZ46
import Derived.Test.YtphdemhopihpnaaZ49
namespace Go.Proofs.Ytphdemhopihpnaa.AM
open Go
set_option linter.unusedVariables false
set_option linter.unusedSimpArgs false

theorem u8_of {zs : List Int} (h : ∀ z ∈ zs, (Lit.int .u8 z).wf = true) : ∃ xs : List Nat, zs = xs.map (fun x : Nat => (x : Int)) ∧ (∀ x ∈ xs, x ≤ 255) := by
  refine ⟨zs.map Int.toNat, ?_, ?_⟩
  · rw [List.map_map]
    conv => lhs; rw [← List.map_id zs]
    apply List.map_congr_left
    intro z hz
    have := wf_u8 (h z hz)
    simp only [id, Function.comp]
    omega
  · intro x hx
    obtain ⟨z, hz, rfl⟩ := List.mem_map.1 hx
    have := wf_u8 (h z hz)
    omega

theorem typed_u8s {cs : List CV} (h : Typed Try.prog 51 cs) : ∃ xs : List Nat, avOf Try.prog 51 cs = u8s xs ∧ (∀ x ∈ xs, x ≤ 255) ∧ xs.length < 2 ^ 63 := by
  obtain ⟨zs, rfl, h1, h2⟩ := typed_ints Try.underlying51 Try.underlying5 h
  obtain ⟨xs, rfl, h3⟩ := u8_of h2
  exact ⟨xs, by simp [avOf, Try.underlying51], h3, by simpa using h1⟩


end Go.Proofs.Ytphdemhopihpnaa.AM

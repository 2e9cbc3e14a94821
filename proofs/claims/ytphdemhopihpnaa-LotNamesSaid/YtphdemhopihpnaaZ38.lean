/- Parts of the proof, joined: AmYe to AmYe. -/
import Derived.Test.YtphdemhopihpnaaZ37

namespace Go.Proofs.Ytphdemhopihpnaa.AM
open Go
set_option linter.unusedVariables false
set_option linter.unusedSimpArgs false

theorem VRels.caps {m : LM} {X : Nat → Prop} {w : World} {l off len esz : Nat} : ∀ (pre : List AV) {post : List AV} {vs : List Value}, VRels m X w (pre ++ .sl l off len esz :: post) vs → ∃ cap, len ≤ cap ∧ VRels m X w (pre ++ .slc l off len cap esz :: post) vs
  | [], post, [], h => by simp [VRels] at h
  | [], post, v :: vs, h => by
    simp only [List.nil_append, VRels, VRel] at h ⊢
    obtain ⟨⟨b, cap, h1, h2, h3, h4⟩, h5⟩ := h
    exact ⟨cap, h3, ⟨b, h1, h2, h3, h4⟩, h5⟩
  | a :: pre, post, [], h => by simp [VRels] at h
  | a :: pre, post, v :: vs, h => by
    simp only [List.cons_append, VRels] at h ⊢
    obtain ⟨cap, h1, h2⟩ := VRels.caps pre h.2
    exact ⟨cap, h1, h.1, h2⟩

theorem AC.caps {P : Program} {f : FuncId} {l off len esz : Nat} {post : List AV} {σ : List AObj} {K : AV → List AObj → Prop} (pre : List AV) (h : ∀ cap, len ≤ cap → AC P f (pre ++ .slc l off len cap esz :: post) σ K) : AC P f (pre ++ .sl l off len esz :: post) σ K := by
  refine ⟨(h len (Nat.le_refl _)).1, fun m X w cargs ha hh => ?_⟩
  obtain ⟨cap, h1, h2⟩ := VRels.caps pre ha
  exact (h cap h1).2 m X w cargs h2 hh

end Go.Proofs.Ytphdemhopihpnaa.AM


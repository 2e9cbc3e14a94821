/- Parts of the proof, joined: AmYh to AmYh. -/
import Derived.Test.YtphdemhopihpnaaZ40

namespace Go.Proofs.Ytphdemhopihpnaa.AM
open Go
set_option linter.unusedVariables false
set_option linter.unusedSimpArgs false

/-- a value that leads only to kept objects, under their new numbers, or one that is read as closed -/
def Move1 (g : Nat → Nat) (k : Nat) (σ : List AObj) (a b : AV) : Prop := (a = ren g b ∧ locsIn k b = true) ∨ FrzV anyC σ a b
inductive Moves (g : Nat → Nat) (k : Nat) (σ : List AObj) : List AV → List AV → Prop
  | nil : Moves g k σ [] []
  | cons {a b : AV} {as_ bs : List AV} : Move1 g k σ a b → Moves g k σ as_ bs → Moves g k σ (a :: as_) (b :: bs)

theorem Moves.len {g : Nat → Nat} {k : Nat} {σ : List AObj} {as_ bs : List AV} (h : Moves g k σ as_ bs) : as_.length = bs.length := by
  induction h with
  | nil => rfl
  | cons _ _ ih => simp [ih]
theorem Moves.get {g : Nat → Nat} {k : Nat} {σ : List AObj} {as_ bs : List AV} (h : Moves g k σ as_ bs) : ∀ i, Move1 g k σ (as_.getD i .undef) (bs.getD i .undef) := by
  induction h with
  | nil => intro i; exact .inl ⟨by simp [List.getD, ren], by simp [List.getD, locsIn]⟩
  | cons h _ ih =>
    intro i
    cases i with
    | zero => simpa [List.getD] using h
    | succ i => simpa [List.getD] using ih i

/-- a heap of which some objects are forgotten -/
theorem HRel.forgetF {m : LM} {X : Nat → Prop} {σ σf : List AObj} {w : World} (h : HRel m X σ w) (hl : σf.length = σ.length) (hf : ∀ (l : Nat) o, σf[l]? = some o → o = .dead ∨ σ[l]? = some o) : HRel m X σf w := by
  have hlv : ∀ (l : Nat) o, σf[l]? = some o → o.live → σ[l]? = some o := fun l o ho hv => by
    rcases hf l o ho with rfl | h
    · exact hv.elim
    · exact h
  refine ⟨h.xb, fun l b hb => by rw [hl]; exact h.dom l b hb, fun l b o hb ho hv => h.own l b o hb (hlv l o ho hv) hv, fun l l' b o' hb hb' ho' hv => h.inj l l' b o' hb hb' (hlv l' o' ho' hv) hv, fun l o ho => ?_⟩
  rcases hf l o ho with rfl | h2
  · cases m l <;> simp [ORel]
  · exact h.obj l o h2

theorem Weak.move {fx : Fx} {vals vals2 : List AV} {σ σ2 σf : List AObj} {g : Nat → Nat} (h0 : fx.n0 = 0) (hg : ∀ a b, a < b → b < σ2.length → g a < g b) (hfl : σf.length = σ.length)
    (hf : ∀ (l : Nat) o, σf[l]? = some o → o = .dead ∨ (σ[l]? = some o ∧ ∀ l2, l2 < σ2.length → g l2 ≠ l)) (hv : Moves g σ2.length σf vals vals2)
    (ho : ∀ (l : Nat) (o2 : AObj), σ2[l]? = some o2 → ∃ o, σ[g l]? = some o ∧ o.live ∧ ((o = renO g o2 ∧ objIn σ2.length o2 = true) ∨ ∃ as_ bs, o = .cells as_ ∧ o2 = .cells bs ∧ Moves g σ2.length σf as_ bs)) :
    Weak fx ⟨vals, σ⟩ ⟨vals2, σ2⟩ := by
  intro m X en ac w hs
  have hh := hs.heap
  let m2 : LM := fun l => if l < σ2.length then m (g l) else none
  have hm2 : ∀ l, l < σ2.length → m2 l = m (g l) := fun l hl => by simp only [m2]; rw [if_pos hl]
  have hm2s : ∀ l b, m2 l = some b → l < σ2.length ∧ m (g l) = some b := fun l b hl => by
    simp only [m2] at hl
    split at hl
    · rename_i h; exact ⟨h, hl⟩
    · cases hl
  have how : ∀ b, Own m2 X b → Own m X b := by
    rintro b (hx | ⟨l, hl⟩)
    · exact .inl hx
    · exact .inr ⟨g l, (hm2s l b hl).2⟩
  have hlv : ∀ l, l < σ2.length → ∃ o, σ[g l]? = some o ∧ o.live := fun l hl => by
    obtain ⟨o, h1, h2, _⟩ := ho l _ (List.getElem?_eq_getElem hl)
    exact ⟨o, h1, h2⟩
  have hnot : ∀ (l b : Nat) (o : AObj), m l = some b → σf[l]? = some o → o.live → ¬ Own m2 X b := by
    intro l b o hb hlo hlive hown
    rcases hf l o hlo with rfl | ⟨h1, h2⟩
    · exact hlive.elim
    · rcases hown with hx | ⟨l2, h3⟩
      · exact hh.own l b o hb h1 hlive hx
      · obtain ⟨h4, h5⟩ := hm2s l2 b h3
        obtain ⟨o2, h6, h7⟩ := hlv l2 h4
        have a1 := hh.inj l (g l2) b _ hb h5 h6 h7
        have a2 := hh.inj (g l2) l b _ h5 hb h1 hlive
        exact h2 l2 h4 (by omega)
  have hhf := hh.forgetF hfl fun l o h => (hf l o h).imp id fun h => h.1
  have one : ∀ {a b : AV}, Move1 g σ2.length σf a b → ∀ v, VRel m X w a v → VRel m2 X w b v := by
    rintro a b (⟨rfl, h⟩ | h) v hv
    · exact VRel.ren hm2 how b v h hv
    · exact frz_rel hhf (fun c v _ h => CV.rep_less how c v h) hnot h v hv
  have many : ∀ {as_ bs : List AV}, Moves g σ2.length σf as_ bs → ∀ vs, VRels m X w as_ vs → VRels m2 X w bs vs := by
    intro as_ bs h
    induction h with
    | nil => intro vs hv; rw [VRels.nil' hv]; simp [VRels]
    | cons h1 _ ih =>
      intro vs hv
      obtain ⟨v, us, rfl, g1, g2⟩ := hv.cons
      exact ⟨one h1 v g1, ih us g2⟩
  refine ⟨m2, ⟨hs.size, ?_, ?_, ⟨hh.xb, ?_, ?_, ?_, ?_⟩, by rw [h0]; exact Nat.zero_le _, hs.entry⟩, ?_⟩
  · intro i t hi
    exact one (hv.get i) _ (hs.vars i t hi)
  · obtain ⟨bs, h1, h2, h3⟩ := hs.defs
    exact ⟨bs, h1, h2, fun b hb => let ⟨g1, g2, g3, g4⟩ := h3 b hb; ⟨g1, g2, g3, fun hx => g4 (how b hx)⟩⟩
  · intro l b hl
    obtain ⟨h1, h2⟩ := hm2s l b hl
    exact ⟨h1, (hh.dom (g l) b h2).2⟩
  · intro l b o hl hlo hv
    obtain ⟨h1, h2⟩ := hm2s l b hl
    obtain ⟨o', h3, h4⟩ := hlv l h1
    exact hh.own (g l) b o' h2 h3 h4
  · intro l l' b o' hl hl' hlo hv
    obtain ⟨h1, h2⟩ := hm2s l b hl
    obtain ⟨h1', h2'⟩ := hm2s l' b hl'
    obtain ⟨o2, h3, h4⟩ := hlv l' h1'
    have := hh.inj (g l) (g l') b o2 h2 h2' h3 h4
    rcases Nat.lt_or_ge l' l with hlt | hge
    · have := hg l' l hlt h1; omega
    · exact hge
  · intro l o2 hlo
    obtain ⟨o, h1, h2, h3⟩ := ho l o2 hlo
    have hlt : l < σ2.length := (List.getElem?_eq_some_iff.1 hlo).1
    have hob := hh.obj (g l) o h1
    rw [hm2 l hlt]
    rcases h3 with ⟨rfl, hc⟩ | ⟨as_, bs, rfl, rfl, ht⟩
    · exact ORel.ren hm2 how hc hob
    · cases hm : m (g l) with
      | none => rw [hm] at hob; exact hob.elim
      | some b =>
        rw [hm] at hob
        obtain ⟨c, e, g1, g2, g3⟩ := hob
        refine ⟨c, e, g1, by rw [← ht.len]; exact g2, ?_⟩
        rw [← ht.len]
        exact many ht _ g3
  · rw [h0]
    exact ⟨fun l hl => absurd hl (Nat.not_lt_zero _), fun l b hl => .inl ⟨g l, (hm2s l b hl).2⟩, Nat.le_refl _, fun _ _ _ => rfl, fun b c e hb => ⟨c, hb, rfl⟩, rfl, rfl, rfl, Nat.le_refl _⟩

end Go.Proofs.Ytphdemhopihpnaa.AM


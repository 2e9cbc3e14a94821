/- Parts of the proof, joined: AmYg to AmYg. -/
import Derived.Test.YtphdemhopihpnaaZ39

namespace Go.Proofs.Ytphdemhopihpnaa.AM
open Go
set_option linter.unusedVariables false
set_option linter.unusedSimpArgs false

/-- a value that leads only below k, or one that is read as closed -/
def Turn1 (k : Nat) (σ : List AObj) (a b : AV) : Prop := (a = b ∧ locsIn k b = true) ∨ FrzV anyC σ a b
inductive Turns (k : Nat) (σ : List AObj) : List AV → List AV → Prop
  | nil : Turns k σ [] []
  | cons {a b : AV} {as_ bs : List AV} : Turn1 k σ a b → Turns k σ as_ bs → Turns k σ (a :: as_) (b :: bs)

theorem Turns.len {k : Nat} {σ : List AObj} {as_ bs : List AV} (h : Turns k σ as_ bs) : as_.length = bs.length := by
  induction h with
  | nil => rfl
  | cons _ _ ih => simp [ih]
theorem Turns.get {k : Nat} {σ : List AObj} {as_ bs : List AV} (h : Turns k σ as_ bs) : ∀ i, Turn1 k σ (as_.getD i .undef) (bs.getD i .undef) := by
  induction h with
  | nil => intro i; exact .inl ⟨by simp [List.getD], by simp [List.getD, locsIn]⟩
  | cons h _ ih =>
    intro i
    cases i with
    | zero => simpa [List.getD] using h
    | succ i => simpa [List.getD] using ih i

theorem Weak.turn {fx : Fx} {vals vals2 : List AV} {τ τ2 J : List AObj} (h0 : fx.n0 = 0) (hlen : τ2.length = τ.length)
    (hv : Turns τ.length (List.replicate τ.length .dead ++ J) vals vals2)
    (ho : ∀ (l : Nat) (o2 : AObj), τ2[l]? = some o2 → ∃ o, τ[l]? = some o ∧ o.live ∧ ((o2 = o ∧ objIn τ.length o = true) ∨ ∃ as_ bs, o = .cells as_ ∧ o2 = .cells bs ∧ Turns τ.length (List.replicate τ.length .dead ++ J) as_ bs)) :
    Weak fx ⟨vals, τ ++ J⟩ ⟨vals2, τ2⟩ := by
  intro m X en ac w hs
  have hh := hs.heap
  let m2 : LM := fun l => if l < τ.length then m l else none
  have hm2 : ∀ l, l < τ.length → m2 l = m l := fun l hl => by simp only [m2]; rw [if_pos hl]
  have hm2s : ∀ l b, m2 l = some b → l < τ.length ∧ m l = some b := fun l b hl => by
    simp only [m2] at hl
    split at hl
    · rename_i h; exact ⟨h, hl⟩
    · cases hl
  have how : ∀ b, Own m2 X b → Own m X b := by
    rintro b (hx | ⟨l, hl⟩)
    · exact .inl hx
    · exact .inr ⟨l, (hm2s l b hl).2⟩
  have hin : ∀ (l : Nat) o, τ[l]? = some o → (τ ++ J)[l]? = some o := fun l o hlo => by rw [List.getElem?_append_left (List.getElem?_eq_some_iff.1 hlo).1]; exact hlo
  have hlv : ∀ l, l < τ.length → ∃ o, (τ ++ J)[l]? = some o ∧ o.live := fun l hl => by
    obtain ⟨o, h1, h2, _⟩ := ho l _ (List.getElem?_eq_getElem (by omega))
    exact ⟨o, hin l o h1, h2⟩
  have hnot : ∀ (l b : Nat) (o : AObj), m l = some b → (List.replicate τ.length AObj.dead ++ J)[l]? = some o → o.live → ¬ Own m2 X b := by
    intro l b o hb hlo hlive hown
    have hge : τ.length ≤ l := by
      rcases Nat.lt_or_ge l τ.length with hlt | hge
      · rw [List.getElem?_append_left (by simpa using hlt)] at hlo
        have := List.mem_of_getElem? hlo
        rw [List.mem_replicate] at this
        rw [this.2] at hlive; exact hlive.elim
      · exact hge
    have hlo' : (τ ++ J)[l]? = some o := by
      rw [List.getElem?_append_right (by simpa using hge)] at hlo
      rw [List.getElem?_append_right hge]
      simpa using hlo
    rcases hown with hx | ⟨l2, h2⟩
    · exact hh.own l b o hb hlo' hlive hx
    · obtain ⟨h3, h4⟩ := hm2s l2 b h2
      obtain ⟨o2, h6, h7⟩ := hlv l2 h3
      have := hh.inj l l2 b _ hb h4 h6 h7
      omega
  have one : ∀ {a b : AV}, Turn1 τ.length (List.replicate τ.length .dead ++ J) a b → ∀ v, VRel m X w a v → VRel m2 X w b v := by
    rintro a b (⟨rfl, h⟩ | h) v hv
    · exact VRel.less hm2 how a v h hv
    · exact frz_rel (HRel.forget hh) (fun c v _ h => CV.rep_less how c v h) hnot h v hv
  have many : ∀ {as_ bs : List AV}, Turns τ.length (List.replicate τ.length .dead ++ J) as_ bs → ∀ vs, VRels m X w as_ vs → VRels m2 X w bs vs := by
    intro as_ bs h
    induction h with
    | nil => intro vs hv; rw [VRels.nil' hv]; simp [VRels]
    | cons h1 _ ih =>
      intro vs hv
      obtain ⟨v, us, rfl, g1, g2⟩ := hv.cons
      exact ⟨one h1 v g1, ih us g2⟩
  refine ⟨m2, ⟨hs.size, ?_, ?_, ⟨hh.xb, ?_, ?_, ?_, ?_⟩, by rw [h0]; exact Nat.zero_le _, hs.entry⟩, ?_⟩
  · intro i t hi
    exact one (hv.get i) _ (hs.vars i t hi)
  · obtain ⟨bs, h1, h2, h3⟩ := hs.defs
    exact ⟨bs, h1, h2, fun b hb => let ⟨g1, g2, g3, g4⟩ := h3 b hb; ⟨g1, g2, g3, fun hx => g4 (how b hx)⟩⟩
  · intro l b hl
    obtain ⟨h1, h2⟩ := hm2s l b hl
    exact ⟨by show l < τ2.length; omega, (hh.dom l b h2).2⟩
  · intro l b o hl hlo hv
    obtain ⟨h1, h2⟩ := hm2s l b hl
    obtain ⟨o', h3, h4⟩ := hlv l h1
    exact hh.own l b o' h2 h3 h4
  · intro l l' b o' hl hl' hlo hv
    obtain ⟨h1, h2⟩ := hm2s l b hl
    obtain ⟨h1', h2'⟩ := hm2s l' b hl'
    obtain ⟨o2, h3, h4⟩ := hlv l' h1'
    exact hh.inj l l' b o2 h2 h2' h3 h4
  · intro l o2 hlo
    obtain ⟨o, h1, h2, h3⟩ := ho l o2 hlo
    have hlt : l < τ.length := (List.getElem?_eq_some_iff.1 h1).1
    have hob := hh.obj l o (hin l o h1)
    rw [hm2 l hlt]
    rcases h3 with ⟨rfl, hc⟩ | ⟨as_, bs, rfl, rfl, ht⟩
    · refine ORel.ren (g := id) hm2 how hc ?_
      rw [renO_id (g := id) (k := τ.length) (fun _ _ => rfl) hc]
      exact hob
    · cases hm : m l with
      | none => rw [hm] at hob; exact hob.elim
      | some b =>
        rw [hm] at hob
        obtain ⟨c, e, g1, g2, g3⟩ := hob
        refine ⟨c, e, g1, by rw [← ht.len]; exact g2, ?_⟩
        rw [← ht.len]
        exact many ht _ g3
  · rw [h0]
    exact ⟨fun l hl => absurd hl (Nat.not_lt_zero _), fun l b hl => .inl ⟨l, (hm2s l b hl).2⟩, Nat.le_refl _, fun _ _ _ => rfl, fun b c e hb => ⟨c, hb, rfl⟩, rfl, rfl, rfl, Nat.le_refl _⟩

/-- the end of a round: what was made above is read as closed -/
theorem kFor_turn {fx : Fx} {c : Prop} {S : St → Prop} {Q : Exit → St → Prop} {vals vals2 : List AV} {heap : List AObj} (τ τ2 J : List AObj) (hh : heap = τ ++ J) (hc : c) (h0 : fx.n0 = 0) (hlen : τ2.length = τ.length)
    (hv : Turns τ.length (List.replicate τ.length .dead ++ J) vals vals2)
    (ho : ∀ (l : Nat) (o2 : AObj), τ2[l]? = some o2 → ∃ o, τ[l]? = some o ∧ o.live ∧ ((o2 = o ∧ objIn τ.length o = true) ∨ ∃ as_ bs, o = .cells as_ ∧ o2 = .cells bs ∧ Turns τ.length (List.replicate τ.length .dead ++ J) as_ bs))
    (h : S ⟨vals2, τ2⟩) : kFor fx c S Q .normal ⟨vals, heap⟩ := by
  subst hh
  exact kFor_weak hc (Weak.turn h0 hlen hv ho) h

end Go.Proofs.Ytphdemhopihpnaa.AM


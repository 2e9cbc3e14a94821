/- Parts of the proof, joined: AmYd to AmYd. -/
import Derived.Test.YtphdemhopihpnaaZ36

namespace Go.Proofs.Ytphdemhopihpnaa.AM
open Go
set_option linter.unusedVariables false
set_option linter.unusedSimpArgs false

section
variable {P : Program}

theorem AC.cut0 {f : FuncId} {args : List AV} {σ : List AObj} {v : AV} (h : AC P f args σ fun r τ => r = v ∧ ∃ junk, τ = σ ++ junk) (hv : locsIn σ.length v = true) : AC P f args σ fun r τ => r = v ∧ τ = σ :=
  h.cut rfl hv fun l o h => .inl h

/-- a closed value that was found out of a heap that grew -/
theorem AC.cutF {f : FuncId} {args : List AV} {σ : List AObj} {v : AV} (h : AC P f args σ fun r τ => r = v ∧ ∃ junk, τ = σ ++ junk) (hv : locsIn 0 v = true) : AC P f args σ fun r τ => r = v ∧ τ = σ :=
  h.cut0 (locsIn_mono (Nat.zero_le _) v hv)
end

/-- values that lead only below k; others are forgotten -/
def clip (k : Nat) : List AV → List AV
  | [] => []
  | a :: as_ => (if locsIn k a = true then a else .undef) :: clip k as_
theorem clip_subs (k : Nat) : ∀ vals : List AV, Subs vals (clip k vals)
  | [] => trivial
  | a :: as_ => ⟨by by_cases h : locsIn k a = true <;> simp [sub1, h], clip_subs k as_⟩
theorem clip_in (k : Nat) : ∀ vals : List AV, locsInAll k (clip k vals) = true
  | [] => rfl
  | a :: as_ => by
    simp only [clip, locsInAll, Bool.and_eq_true]
    refine ⟨?_, clip_in k as_⟩
    by_cases h : locsIn k a = true
    · rw [if_pos h]; exact h
    · rw [if_neg h]; rfl

/-- the end of a round: what was made above is dropped -/
theorem kFor_clip {fx : Fx} {c : Prop} {S : St → Prop} {Q : Exit → St → Prop} {vals : List AV} {heap : List AObj} (τ J : List AObj) (hh : heap = τ ++ J) (hc : c) (hn : fx.n0 ≤ τ.length) (ho : ∀ o ∈ τ, objIn τ.length o = true)
    (h : S ⟨clip τ.length vals, τ⟩) : kFor fx c S Q .normal ⟨vals, heap⟩ := by
  subst hh
  exact kFor_weak hc (Weak.cut (clip_subs _ _) hn (clip_in _ _) ho) h

/-- a heap of which the first objects are forgotten -/
theorem HRel.forget {m : LM} {X : Nat → Prop} {σ J : List AObj} {w : World} (h : HRel m X (σ ++ J) w) : HRel m X (List.replicate σ.length .dead ++ J) w := by
  have hl : (List.replicate σ.length AObj.dead ++ J).length = (σ ++ J).length := by simp
  have hg : ∀ (l : Nat) o, (List.replicate σ.length AObj.dead ++ J)[l]? = some o → o = .dead ∨ (σ ++ J)[l]? = some o := fun l o ho => by
    by_cases hlt : l < σ.length
    · rw [List.getElem?_append_left (by simpa using hlt)] at ho
      have := List.mem_of_getElem? ho
      rw [List.mem_replicate] at this
      exact .inl this.2
    · rw [List.getElem?_append_right (by simp; omega)] at ho
      rw [List.getElem?_append_right (by omega)]
      exact .inr (by simpa using ho)
  have hlv : ∀ (l : Nat) o, (List.replicate σ.length AObj.dead ++ J)[l]? = some o → o.live → (σ ++ J)[l]? = some o := fun l o ho hv => by
    rcases hg l o ho with rfl | h
    · exact hv.elim
    · exact h
  refine ⟨h.xb, fun l b hb => by rw [hl]; exact h.dom l b hb, fun l b o hb ho hv => h.own l b o hb (hlv l o ho hv) hv, fun l l' b o' hb hb' ho' hv => h.inj l l' b o' hb hb' (hlv l' o' ho' hv) hv, fun l o ho => ?_⟩
  rcases hg l o ho with rfl | h2
  · cases m l <;> simp [ORel]
  · exact h.obj l o h2

/-- What a function answers is read as closed, out of what it made alone; the heap that it was given, as it is behind the call, is left. -/
theorem AC.made {P : Program} {f : FuncId} {args : List AV} {σ σ2 : List AObj} {v : AV} {Q : AV → List AObj → Prop} (h : AC P f args σ Q)
    (hq : ∀ r τ, Q r τ → ∃ J, τ = σ2 ++ J ∧ FrzV scl (List.replicate σ2.length .dead ++ J) r v) (hl : σ2.length = σ.length)
    (ho : ∀ (l : Nat) (o : AObj), σ2[l]? = some o → σ[l]? = some o ∨ objIn σ.length o = true) (hlv : ∀ o ∈ σ2, o.live) : AC P f args σ fun r τ => r = v ∧ τ = σ2 := by
  refine ⟨h.1, fun m X w cargs ha hh => (h.2 m X w cargs ha hh).mono ?_⟩
  rintro e w' ⟨c, r, σ', m', rfl, hQ, hr, hh', hst, hle⟩
  obtain ⟨J, rfl, hf⟩ := hq r σ' hQ
  let m2 : LM := fun l => if l < σ.length then m' l else none
  have hm2 : ∀ l, l < σ.length → m2 l = m' l := fun l hl => by simp only [m2]; rw [if_pos hl]
  have hm2s : ∀ l b, m2 l = some b → l < σ.length ∧ m' l = some b := fun l b hl => by
    simp only [m2] at hl
    split at hl
    · rename_i h; exact ⟨h, hl⟩
    · cases hl
  have how : ∀ b, Own m2 X b → Own m' X b := by
    rintro b (hx | ⟨l, hl⟩)
    · exact .inl hx
    · exact .inr ⟨l, (hm2s l b hl).2⟩
  have hin : ∀ (l : Nat) o, σ2[l]? = some o → (σ2 ++ J)[l]? = some o := fun l o hlo => by rw [List.getElem?_append_left (List.getElem?_eq_some_iff.1 hlo).1]; exact hlo
  refine ⟨c, v, σ2, m2, rfl, ⟨rfl, rfl⟩, ?_, ⟨hh'.xb, ?_, ?_, ?_, ?_⟩, ⟨?_, ?_, hst.size, hst.fr, hst.shp, hst.os, hst.tape, hst.output, hst.drawn⟩, by omega⟩
  · refine frz_rel (HRel.forget hh') (fun c v hp h => scl_rep c v hp h) ?_ hf c hr
    intro l b o hb hlo hlive hown
    have hge : σ2.length ≤ l := by
      rcases Nat.lt_or_ge l σ2.length with hlt | hge
      · rw [List.getElem?_append_left (by simpa using hlt)] at hlo
        have := List.mem_of_getElem? hlo
        rw [List.mem_replicate] at this
        rw [this.2] at hlive; exact hlive.elim
      · exact hge
    have hlo' : (σ2 ++ J)[l]? = some o := by
      rw [List.getElem?_append_right (by simpa using hge)] at hlo
      rw [List.getElem?_append_right hge]
      simpa using hlo
    rcases hown with hx | ⟨l2, h2⟩
    · exact hh'.own l b o hb hlo' hlive hx
    · obtain ⟨h3, h4⟩ := hm2s l2 b h2
      have hlt : l2 < σ2.length := by omega
      have h6 : (σ2 ++ J)[l2]? = some σ2[l2] := by rw [List.getElem?_append_left hlt, List.getElem?_eq_getElem hlt]
      have := hh'.inj l l2 b _ hb h4 h6 (hlv _ (List.getElem_mem hlt))
      omega
  · intro l b hl'; obtain ⟨h1, h2⟩ := hm2s l b hl'; exact ⟨by omega, (hh'.dom _ b h2).2⟩
  · intro l b o hl' hlo hv
    exact hh'.own l b _ (hm2s l b hl').2 (hin l o hlo) hv
  · intro l l' b o' hl1 hl2 hlo hv
    exact hh'.inj l l' b _ (hm2s l b hl1).2 (hm2s l' b hl2).2 (hin l' o' hlo) hv
  · intro l o hlo
    have hlt : l < σ.length := by have := (List.getElem?_eq_some_iff.1 hlo).1; omega
    rw [hm2 l hlt]
    have hcl : objIn σ.length o = true := by
      rcases ho l o hlo with h1 | h1
      · exact hh.closed l o h1
      · exact h1
    have hob := hh'.obj l o (hin l o hlo)
    refine ORel.ren (g := id) hm2 how hcl ?_
    rw [renO_id (g := id) (k := σ.length) (fun _ _ => rfl) hcl]
    exact hob
  · intro l hl'; rw [hm2 l hl']; exact hst.keep l hl'
  · intro l b hl'; exact hst.new _ b (hm2s l b hl').2

theorem AC.made0 {P : Program} {f : FuncId} {args : List AV} {σ : List AObj} {v : AV} {Q : AV → List AObj → Prop} (h : AC P f args σ Q)
    (hq : ∀ r τ, Q r τ → ∃ J, τ = σ ++ J ∧ FrzV scl (List.replicate σ.length .dead ++ J) r v) (hlv : ∀ o ∈ σ, o.live) : AC P f args σ fun r τ => r = v ∧ τ = σ :=
  h.made hq rfl (fun l o h => .inl h) hlv

end Go.Proofs.Ytphdemhopihpnaa.AM


/- Parts of the proof, joined: AmFr to AmFr. -/
import Derived.Test.YtphdemhopihpnaaZ33

namespace Go.Proofs.Ytphdemhopihpnaa.AM
open Go
set_option linter.unusedVariables false
set_option linter.unusedSimpArgs false

section
variable {m m2 : LM} {X X2 : Nat → Prop} {w : World} {g : Nat → Nat}

mutual
theorem VRel.shift (hm : ∀ l b, m l = some b → m2 (g l) = some b) (ho : ∀ b, Own m2 X2 b → Own m X b) : ∀ (a : AV) (v : Value), VRel m X w a v → VRel m2 X2 w (AM.ren g a) v
  | .cv c, v, h => by simp only [AM.ren, VRel] at h ⊢; exact CV.rep_less ho c v h
  | .ptr l off, v, h => by simp only [AM.ren, VRel] at h ⊢; obtain ⟨b, h1, h2⟩ := h; exact ⟨b, hm l b h1, h2⟩
  | .sl l off len esz, v, h => by simp only [AM.ren, VRel] at h ⊢; obtain ⟨b, cap, h1, h2⟩ := h; exact ⟨b, cap, hm l b h1, h2⟩
  | .map l, v, h => by simp only [AM.ren, VRel] at h ⊢; obtain ⟨b, h1, h2⟩ := h; exact ⟨b, hm l b h1, h2⟩
  | .fn f cs, v, h => by simp only [AM.ren, VRel] at h ⊢; obtain ⟨vs, h1, h2⟩ := h; exact ⟨vs, h1, VRels.shift hm ho cs vs h2⟩
  | .bm f cs, v, h => by simp only [AM.ren, VRel] at h ⊢; obtain ⟨vs, h1, h2⟩ := h; exact ⟨vs, h1, VRels.shift hm ho cs vs h2⟩
  | .yld l, v, h => by simp only [AM.ren, VRel] at h ⊢; obtain ⟨b, h1, h2⟩ := h; exact ⟨b, hm l b h1, h2⟩
  | .agg cs, v, h => by simp only [AM.ren, VRel] at h ⊢; obtain ⟨vs, h1, h2⟩ := h; exact ⟨vs, h1, VRels.shift hm ho cs vs h2⟩
  | .tup cs, v, h => by simp only [AM.ren, VRel] at h ⊢; obtain ⟨vs, h1, h2⟩ := h; exact ⟨vs, h1, VRels.shift hm ho cs vs h2⟩
  | .undef, v, _ => by simp [AM.ren, VRel]
  | .slc l off len cap esz, v, h => by simp only [AM.ren, VRel] at h ⊢; obtain ⟨b, h1, h2⟩ := h; exact ⟨b, hm l b h1, h2⟩
theorem VRels.shift (hm : ∀ l b, m l = some b → m2 (g l) = some b) (ho : ∀ b, Own m2 X2 b → Own m X b) : ∀ (as_ : List AV) (vs : List Value), VRels m X w as_ vs → VRels m2 X2 w (AM.rens g as_) vs
  | [], [], _ => by simp [AM.rens, VRels]
  | a :: as_, v :: vs, h => by simp only [AM.rens, VRels] at h ⊢; exact ⟨VRel.shift hm ho a v h.1, VRels.shift hm ho as_ vs h.2⟩
  | [], _ :: _, h => by simp [VRels] at h
  | _ :: _, [], h => by simp [VRels] at h
end

theorem ORel.shift (hm : ∀ l b, m l = some b → m2 (g l) = some b) (ho : ∀ b, Own m2 X2 b → Own m X b) {b : Nat} {o : AObj} (h : ORel m X w (some b) o) : ORel m2 X2 w (some b) (renO g o) := by
  cases o with
  | dead => trivial
  | cells cs =>
    simp only [ORel, renO] at h ⊢
    obtain ⟨c, e, h1, h2, h3⟩ := h
    exact ⟨c, e, h1, by rw [rens_length]; exact h2, by rw [rens_length]; exact VRels.shift hm ho _ _ h3⟩
  | map es =>
    simp only [ORel, renO] at h ⊢
    obtain ⟨ces, clock, h1, h2, h3, h4, h5⟩ := h
    refine ⟨ces, clock, h1, h2, h3, by simpa using h4, fun i k a hi => ?_⟩
    rw [List.getElem?_map, Option.map_eq_some_iff] at hi
    obtain ⟨⟨k0, a0⟩, hi, he⟩ := hi
    simp only [Prod.mk.injEq] at he
    obtain ⟨rfl, rfl⟩ := he
    obtain ⟨e, g1, g2, g3⟩ := h5 i k0 a0 hi
    exact ⟨e, g1, VRel.shift hm ho _ _ g2, VRel.shift hm ho _ _ g3⟩
  | siter s p => simpa only [ORel, renO] using h
  | loop r =>
    simp only [ORel, renO] at h ⊢
    obtain ⟨tmps, d, fi, h1, h2, h3, h4⟩ := h
    refine ⟨tmps, d, fi, h1, fun i t hi => ?_, h3, by rw [rens_length]; exact h4⟩
    have := VRel.shift hm ho _ _ (h2 i t hi)
    rwa [← rens_getD] at this
end

abbrev sh (n : Nat) : Nat → Nat := fun l => l + n

theorem AC.frame {P : Program} {f : FuncId} {args : List AV} {Q : AV → List AObj → Prop} (hcl : locsInAll 0 args = true) (h : AC P f args [] Q) (σ : List AObj) :
    AC P f args σ fun r τ => ∃ r0 τ0, Q r0 τ0 ∧ r = ren (sh σ.length) r0 ∧ τ = σ ++ τ0.map (renO (sh σ.length)) := by
  refine ⟨h.1, fun m X w cargs ha hh => ?_⟩
  have hown : ∀ b, Own nom (Own m X) b ↔ Own m X b := fun b => ⟨fun h => h.elim id (fun ⟨l, hl⟩ => by cases hl), .inl⟩
  have ha0 : VRels nom (Own m X) w args cargs := VRels.less (k := 0) (fun l hl => absurd hl (Nat.not_lt_zero _)) (fun b hb => (hown b).1 hb) args cargs hcl ha
  have hlt : ∀ b, Own m X b → b < w.heap.size := fun b hb => by
    rcases hb with hb | ⟨l, hl⟩
    · exact hh.xb b hb
    · exact (hh.dom l b hl).2
  have hh0 : HRel nom (Own m X) [] w := ⟨hlt, fun l b hl => (by cases hl), fun l b o hl => (by cases hl), fun l l' b o hl => (by cases hl), fun l o ho => (by simp at ho)⟩
  refine (h.2 nom (Own m X) w cargs ha0 hh0).mono ?_
  rintro e w' ⟨c, r, τ0, m', rfl, hQ, hv, hh', hst, _⟩
  have hnew : ∀ l b, m' l = some b → w.heap.size ≤ b := fun l b hl => by
    rcases hst.new l b hl with ⟨l', hl'⟩ | hge
    · cases hl'
    · exact hge
  have hsame : ∀ b, b < w.heap.size → w'.heap[b]? = w.heap[b]? := fun b hb => hst.fr b hb (.inr fun l hl => by cases hl)
  let n := σ.length
  let m2 : LM := fun l => if l < n then m l else m' (l - n)
  have m2lo : ∀ l, l < n → m2 l = m l := fun l hl => by simp only [m2]; rw [if_pos hl]
  have m2hi : ∀ l, m2 (l + n) = m' l := fun l => by simp only [m2]; rw [if_neg (by omega), Nat.add_sub_cancel]
  have m2s : ∀ l b, m2 l = some b → (l < n ∧ m l = some b) ∨ (n ≤ l ∧ m' (l - n) = some b) := fun l b hl => by
    rcases Nat.lt_or_ge l n with h | h
    · exact .inl ⟨h, by rw [← m2lo l h]; exact hl⟩
    · exact .inr ⟨h, by rw [← m2hi, Nat.sub_add_cancel h]; exact hl⟩
  have how : ∀ b, Own m2 X b → Own m' (Own m X) b := by
    rintro b (hx | ⟨l, hl⟩)
    · exact .inl (.inl hx)
    · rcases m2s l b hl with ⟨_, h⟩ | ⟨_, h⟩
      · exact .inl (.inr ⟨l, h⟩)
      · exact .inr ⟨_, h⟩
  have hmap : ∀ l b, m' l = some b → m2 (sh n l) = some b := fun l b hl => by rw [← hl]; exact m2hi l
  have hlo : ∀ (l : Nat) (o : AObj), l < n → (σ ++ τ0.map (renO (sh n)))[l]? = some o → σ[l]? = some o := fun l o hl ho => by rwa [List.getElem?_append_left hl] at ho
  have hhi : ∀ (l : Nat) (o : AObj), n ≤ l → (σ ++ τ0.map (renO (sh n)))[l]? = some o → ∃ o0, τ0[l - n]? = some o0 ∧ o = renO (sh n) o0 := fun l o hl ho => by
    rw [List.getElem?_append_right hl, List.getElem?_map, Option.map_eq_some_iff] at ho
    obtain ⟨o0, h1, h2⟩ := ho
    exact ⟨o0, h1, h2.symm⟩
  have live0 : ∀ o : AObj, (renO (sh n) o).live → o.live := fun o h => by cases o <;> simp_all [renO, AObj.live]
  refine ⟨c, ren (sh n) r, σ ++ τ0.map (renO (sh n)), m2, rfl, ⟨r, τ0, hQ, rfl, rfl⟩, VRel.shift hmap how r c hv, ⟨?_, ?_, ?_, ?_, ?_⟩, ?_, by simp⟩
  · exact fun b hb => hh'.xb b (.inl hb)
  · intro l b hl
    rcases m2s l b hl with ⟨h1, h2⟩ | ⟨h1, h2⟩
    · have := hh.dom l b h2
      exact ⟨by simp; omega, Nat.lt_of_lt_of_le this.2 hst.size⟩
    · have := hh'.dom _ b h2
      exact ⟨by simp; omega, this.2⟩
  · intro l b o hl ho hv hx
    rcases m2s l b hl with ⟨h1, h2⟩ | ⟨h1, h2⟩
    · exact hh.own l b o h2 (hlo l o h1 ho) hv hx
    · obtain ⟨o0, g1, rfl⟩ := hhi l o h1 ho
      exact hh'.own _ b o0 h2 g1 (live0 o0 hv) (.inl hx)
  · intro l l' b o' hl hl' ho' hv
    rcases m2s l b hl with ⟨h1, h2⟩ | ⟨h1, h2⟩ <;> rcases m2s l' b hl' with ⟨h3, h4⟩ | ⟨h3, h4⟩
    · exact hh.inj l l' b o' h2 h4 (hlo l' o' h3 ho') hv
    · omega
    · have := hnew _ b h2
      have := (hh.dom l' b h4).2
      omega
    · obtain ⟨o0, g1, rfl⟩ := hhi l' o' h3 ho'
      have := hh'.inj _ _ b o0 h2 h4 g1 (live0 o0 hv)
      omega
  · intro l o ho
    rcases Nat.lt_or_ge l n with h1 | h1
    · have ho := hlo l o h1 ho
      rw [m2lo l h1]
      have hor := hh.obj l o ho
      cases hml : m l with
      | none => rw [hml] at hor; cases o <;> simp [ORel] at hor ⊢
      | some b =>
        rw [hml] at hor
        have hm : Mono m X w m2 X w' := by
          refine ⟨fun l b hl => ?_, fun b hb hc => ⟨hsame b hc.lt, ?_⟩, fun b c e hb => ⟨c, ?_, rfl⟩⟩
          · rw [m2lo l (hh.dom l b hl).1]; exact hl
          · rintro (hx | ⟨l, hl⟩)
            · exact hb (.inl hx)
            · rcases m2s l b hl with ⟨_, h⟩ | ⟨_, h⟩
              · exact hb (.inr ⟨l, h⟩)
              · have := hnew _ b h; have := hc.lt; omega
          · rw [hsame b ((Array.getElem?_eq_some_iff.1 hb).1), hb]
        exact ORel.mono hm (hsame b (hh.dom l b hml).2) hor
    · obtain ⟨o0, g1, rfl⟩ := hhi l o h1 ho
      have hor := hh'.obj _ o0 g1
      have e : m2 l = m' (l - n) := by rw [← m2hi, Nat.sub_add_cancel h1]
      rw [e]
      cases hml : m' (l - n) with
      | none => rw [hml] at hor; cases o0 <;> simp [ORel, renO] at hor ⊢
      | some b => rw [hml] at hor; exact ORel.shift hmap how hor
  · refine ⟨fun l hl => m2lo l hl, fun l b hl => ?_, hst.size, fun b hb _ => hsame b hb, hst.shp, hst.os, hst.tape, hst.output, hst.drawn⟩
    rcases m2s l b hl with ⟨_, h⟩ | ⟨_, h⟩
    · exact .inl ⟨l, h⟩
    · exact .inr (hnew _ b h)

/-- the heap behind a call: what it made above is dropped -/
theorem AC.cut {P : Program} {f : FuncId} {args : List AV} {σ σ2 : List AObj} {v : AV} (h : AC P f args σ fun r τ => r = v ∧ ∃ junk, τ = σ2 ++ junk) (hl : σ2.length = σ.length) (hv : locsIn σ.length v = true)
    (ho : ∀ (l : Nat) (o : AObj), σ2[l]? = some o → σ[l]? = some o ∨ objIn σ.length o = true) : AC P f args σ fun r τ => r = v ∧ τ = σ2 := by
  refine h.tidy ?_
  rintro r τ ⟨rfl, junk, rfl⟩
  refine ⟨id, r, σ2, ⟨fun _ _ => rfl, fun _ _ h _ => h, by omega, (ren_id (g := id) (k := σ.length) (fun _ _ => rfl) r hv).symm, by rw [hl]; exact hv, fun l o hlo => ?_⟩, rfl, rfl⟩
  have hlt : l < σ2.length := (List.getElem?_eq_some_iff.1 hlo).1
  have hin : (σ2 ++ junk)[l]? = some o := by rw [List.getElem?_append_left hlt]; exact hlo
  rcases ho l o hlo with h1 | h1
  · exact .inl ⟨by omega, h1, hin⟩
  · refine .inr ⟨by rw [hl]; exact h1, ?_⟩
    rw [renO_id (g := id) (k := σ.length) (fun _ _ => rfl) h1]; exact hin

end Go.Proofs.Ytphdemhopihpnaa.AM


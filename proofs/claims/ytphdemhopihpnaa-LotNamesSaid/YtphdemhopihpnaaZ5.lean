/- Parts of the proof, joined: AmE to AmE. -/
import Derived.Test.YtphdemhopihpnaaZ4

namespace Go.Proofs.Ytphdemhopihpnaa.AM
open Go
set_option linter.unusedVariables false
set_option linter.unusedSimpArgs false

variable {P : Program} {m : LM} {X : Nat → Prop} {σ : List AObj} {w : World}

def LM.put (m : LM) (l b : Nat) : LM := fun x => if x = l then some b else m x
theorem LM.put_same (m : LM) (l b : Nat) : m.put l b l = some b := by simp [LM.put]
theorem LM.put_other (m : LM) {l b x : Nat} (h : x ≠ l) : m.put l b x = m x := by simp [LM.put, h]

theorem heap_alloc_old (w : World) (o : Obj) {b : Nat} (h : b < w.heap.size) : (w.alloc o).heap[b]? = w.heap[b]? := by
  show (w.heap.push o)[b]? = _
  rw [Array.getElem?_push, if_neg (by omega)]
theorem heap_alloc_new (w : World) (o : Obj) : (w.alloc o).heap[w.heap.size]? = some o := by
  show (w.heap.push o)[w.heap.size]? = _
  rw [Array.getElem?_push, if_pos rfl]

theorem lt_of_heap {w : World} {b : Nat} {o : Obj} (h : w.heap[b]? = some o) : b < w.heap.size := (Array.getElem?_eq_some_iff.1 h).1

theorem Step.alloc (n0 : Nat) (m : LM) (X : Nat → Prop) (w : World) (o : Obj) (l : Nat) (hl : n0 ≤ l) : Step n0 m X w (m.put l w.heap.size) (w.alloc o) where
  keep x hx := LM.put_other m (by omega)
  new x b hb := by
    by_cases hx : x = l
    · subst hx; rw [LM.put_same] at hb; right; cases hb; exact Nat.le_refl _
    · rw [LM.put_other m hx] at hb; exact .inl ⟨x, hb⟩
  size := by simp
  fr b hb _ := heap_alloc_old w o hb
  shp b c e hb := ⟨c, by rw [heap_alloc_old w o (lt_of_heap hb)]; exact hb, rfl⟩
  os := rfl
  tape := rfl
  output := rfl
  drawn := Nat.le_refl _

/-- A new block. -/
theorem HRel.alloc (h : HRel m X σ w) (o : Obj) (ao : AObj) (ho : Mono m X w (m.put σ.length w.heap.size) X (w.alloc o) → ORel (m.put σ.length w.heap.size) X (w.alloc o) (some w.heap.size) ao) :
    HRel (m.put σ.length w.heap.size) X (σ ++ [ao]) (w.alloc o) ∧ Step σ.length m X w (m.put σ.length w.heap.size) (w.alloc o) ∧ Mono m X w (m.put σ.length w.heap.size) X (w.alloc o) := by
  have hs := Step.alloc σ.length m X w o σ.length (Nat.le_refl _)
  have hm := h.mono_of_step hs (Nat.le_refl _)
  refine ⟨⟨?_, ?_, ?_, ?_, ?_⟩, hs, hm⟩
  · intro b hb; have := h.xb b hb; simp; omega
  · intro l b hb
    by_cases hl : l = σ.length
    · subst hl; rw [LM.put_same] at hb; cases hb
      exact ⟨by simp, by simp⟩
    · rw [LM.put_other m hl] at hb
      have := h.dom l b hb
      exact ⟨by simp; omega, by simp; omega⟩
  · intro l b o1 hb ho1 hv
    by_cases hl : l = σ.length
    · subst hl; rw [LM.put_same] at hb; cases hb
      exact fun hx => Nat.lt_irrefl _ (h.xb _ hx)
    · rw [LM.put_other m hl] at hb
      rw [List.getElem?_append_left (h.dom l b hb).1] at ho1
      exact h.own l b o1 hb ho1 hv
  · intro l l' b o2 hb hb' ho2 hv2
    by_cases hl : l = σ.length <;> by_cases hl' : l' = σ.length
    · omega
    · subst hl; rw [LM.put_same] at hb; cases hb; rw [LM.put_other m hl'] at hb'
      have := (h.dom _ _ hb').2; omega
    · subst hl'; rw [LM.put_same] at hb'; cases hb'; rw [LM.put_other m hl] at hb
      have := (h.dom _ _ hb).2; omega
    · rw [LM.put_other m hl] at hb; rw [LM.put_other m hl'] at hb'
      have h2 := (h.dom _ _ hb').1
      rw [List.getElem?_append_left h2] at ho2
      exact h.inj l l' b o2 hb hb' ho2 hv2
  · intro l o1 ho1
    by_cases hl : l < σ.length
    · rw [List.getElem?_append_left hl] at ho1
      rw [LM.put_other m (by omega)]
      have := h.obj l o1 ho1
      cases hml : m l with
      | none => rw [hml] at this; cases o1 <;> simp [ORel] at this ⊢
      | some b => rw [hml] at this; exact ORel.mono hm (heap_alloc_old w o (h.dom l b hml).2) this
    · rw [List.getElem?_append_right (by omega)] at ho1
      have hl' : l = σ.length := by
        rcases Nat.lt_or_ge (l - σ.length) 1 with h1 | h1
        · omega
        · rw [List.getElem?_eq_none (by simpa using h1)] at ho1; cases ho1
      subst hl'
      simp at ho1; subst ho1
      rw [LM.put_same]; exact ho hm

/-- The world with one block turned. -/
structure Turned (w w' : World) (b : Nat) : Prop where
  size : w'.heap.size = w.heap.size
  other : ∀ k, k ≠ b → w'.heap[k]? = w.heap[k]?
  shp : ∀ (c : Array Value) (e : TypeId), w.heap[b]? = some (Obj.cells c e (0, 0)) → ∃ c', w'.heap[b]? = some (Obj.cells c' e (0, 0)) ∧ c'.size = c.size
  os : w'.os = w.os
  tape : w'.tape = w.tape
  output : w'.output = w.output
  drawn : w.drawn ≤ w'.drawn

theorem Turned.step {w' : World} {b : Nat} (t : Turned w w' b) (n0 : Nat) {l : Nat} (hl : m l = some b) (hx : ¬ X b) : Step n0 m X w m w' where
  keep _ _ := rfl
  new x c hc := .inl ⟨x, hc⟩
  size := by rw [t.size]; exact Nat.le_refl _
  fr k hk hno := t.other k fun hkb => by
    subst hkb
    rcases hno with h | h
    · exact hx h
    · exact h l hl
  shp k c e hk := by
    by_cases hkb : k = b
    · subst hkb; exact t.shp c e hk
    · exact ⟨c, by rw [t.other k hkb]; exact hk, rfl⟩
  os := t.os
  tape := t.tape
  output := t.output
  drawn := t.drawn

/-- A block of the abstract heap is written. -/
theorem HRel.turn (h : HRel m X σ w) {w' : World} {l b : Nat} {o o' : AObj} (hl : m l = some b) (ho : σ[l]? = some o) (hlive : o.live) (t : Turned w w' b)
    (hr : Mono m X w m X w' → ORel m X w' (some b) o') : HRel m X (σ.set l o') w' ∧ Step σ.length m X w m w' ∧ Mono m X w m X w' := by
  have hs := t.step (X := X) σ.length hl (h.own l b o hl ho hlive)
  have hm := h.mono_of_step hs (Nat.le_refl _)
  refine ⟨⟨?_, ?_, ?_, ?_, ?_⟩, hs, hm⟩
  · intro k hk; rw [t.size]; exact h.xb k hk
  · intro x k hk; have := h.dom x k hk; rw [t.size]; simpa using this
  · intro x k o1 hx ho1 hv
    rw [List.getElem?_set] at ho1
    by_cases hxl : l = x
    · subst hxl; exact h.own l k o hx ho hlive
    · rw [if_neg hxl] at ho1; exact h.own x k o1 hx ho1 hv
  · intro x y k o2 hx hy ho2 hv2
    rw [List.getElem?_set] at ho2
    by_cases hyl : l = y
    · subst hyl; exact h.inj x l k o hx hy ho hlive
    · rw [if_neg hyl] at ho2; exact h.inj x y k o2 hx hy ho2 hv2
  · intro x o1 ho1
    rw [List.getElem?_set] at ho1
    by_cases hxl : l = x
    · subst hxl
      rw [if_pos rfl] at ho1
      split at ho1
      · cases ho1; rw [hl]; exact hr hm
      · cases ho1
    · rw [if_neg hxl] at ho1
      have := h.obj x o1 ho1
      cases hmx : m x with
      | none => rw [hmx] at this; cases o1 <;> simp [ORel] at this ⊢
      | some k =>
        rw [hmx] at this
        by_cases hkb : k = b
        · subst hkb
          by_cases hv : o1.live
          · exact absurd (h.inj2 l x k o o1 hl hmx ho ho1 hlive hv) hxl
          · cases o1 <;> simp [AObj.live] at hv
            simp [ORel]
        · exact ORel.mono hm (t.other k hkb) this

theorem Turned.row (w : World) {b : Nat} {c : Array Value} {e : TypeId} {fr : Nat × Nat} (c' : Array Value) (hb : w.heap[b]? = some (.cells c e fr)) (hc : c'.size = c.size) : Turned w (w.setRow b c') b where
  size := by simp
  other k hk := setRow_other w b k c' hk
  shp c1 e1 h1 := by
    rw [hb] at h1; cases h1
    exact ⟨c', setRow_heap w b c c' e (0, 0) hb, hc⟩
  os := rfl
  tape := rfl
  output := rfl
  drawn := Nat.le_refl _

theorem Turned.obj (w : World) {b : Nat} {o : Obj} (o' : Obj) (hb : w.heap[b]? = some o) (ho : ∀ c e fr, o ≠ .cells c e fr) : Turned w (w.putObj b o') b where
  size := by simp
  other k hk := World.putObj_heap_other hk
  shp c e h1 := by rw [hb] at h1; cases h1; exact absurd rfl (ho c e (0, 0))
  os := rfl
  tape := rfl
  output := rfl
  drawn := Nat.le_refl _

/-- A place is given up: nothing is asked of it any more. -/
theorem HRel.kill (h : HRel m X σ w) (l : Nat) : HRel m X (σ.set l .dead) w := by
  refine ⟨h.xb, ?_, ?_, ?_, ?_⟩
  · intro x k hk; simpa using h.dom x k hk
  · intro x k o1 hx ho1 hv
    rw [List.getElem?_set] at ho1
    by_cases hxl : l = x
    · rw [if_pos hxl] at ho1; split at ho1 <;> cases ho1; exact hv.elim
    · rw [if_neg hxl] at ho1; exact h.own x k o1 hx ho1 hv
  · intro x y k o2 hx hy ho2 hv2
    rw [List.getElem?_set] at ho2
    have e2 : l ≠ y := by
      intro e; rw [if_pos e] at ho2; split at ho2 <;> cases ho2; exact hv2
    rw [if_neg e2] at ho2
    exact h.inj x y k o2 hx hy ho2 hv2
  · intro x o1 ho1
    rw [List.getElem?_set] at ho1
    by_cases e : l = x
    · rw [if_pos e] at ho1; split at ho1 <;> cases ho1; simp [ORel]
    · rw [if_neg e] at ho1; exact h.obj x o1 ho1

/-- A block that a given-up place had is taken over by a new place. -/
theorem HRel.adopt (h : HRel m X σ w) {l b : Nat} {ao : AObj} (hl : m l = some b) (hxb : ¬ X b) (hdead : ∀ x o, m x = some b → σ[x]? = some o → ¬ o.live)
    (hr : Mono m X w (m.put σ.length b) X w → ORel (m.put σ.length b) X w (some b) ao) :
    HRel (m.put σ.length b) X (σ ++ [ao]) w ∧ Step σ.length m X w (m.put σ.length b) w ∧ Mono m X w (m.put σ.length b) X w := by
  have hs : Step σ.length m X w (m.put σ.length b) w :=
    { keep := fun x hx => LM.put_other m (by omega)
      new := fun x k hk => by
        by_cases hx : x = σ.length
        · subst hx; rw [LM.put_same] at hk; cases hk; exact .inl ⟨l, hl⟩
        · rw [LM.put_other m hx] at hk; exact .inl ⟨x, hk⟩
      size := Nat.le_refl _
      fr := fun _ _ _ => rfl
      shp := fun _ c _ hk => ⟨c, hk, rfl⟩
      os := rfl, tape := rfl, output := rfl, drawn := Nat.le_refl _ }
  have hm := h.mono_of_step hs (Nat.le_refl _)
  refine ⟨⟨h.xb, ?_, ?_, ?_, ?_⟩, hs, hm⟩
  · intro x k hk
    by_cases hx : x = σ.length
    · subst hx; rw [LM.put_same] at hk; cases hk
      have := h.dom l b hl
      exact ⟨by simp, this.2⟩
    · rw [LM.put_other m hx] at hk
      have := h.dom x k hk
      exact ⟨by simp; omega, this.2⟩
  · intro x k o1 hk ho1 hv
    by_cases hx : x = σ.length
    · subst hx; rw [LM.put_same] at hk; cases hk; exact hxb
    · rw [LM.put_other m hx] at hk
      rw [List.getElem?_append_left (h.dom x k hk).1] at ho1
      exact h.own x k o1 hk ho1 hv
  · intro x y k o2 hx hy ho2 hv2
    by_cases ex : x = σ.length <;> by_cases ey : y = σ.length
    · omega
    · subst ex; rw [LM.put_same] at hx; cases hx; rw [LM.put_other m ey] at hy
      rw [List.getElem?_append_left (h.dom _ _ hy).1] at ho2
      exact absurd hv2 (hdead y o2 hy ho2)
    · rw [LM.put_other m ex] at hx; have := (h.dom _ _ hx).1; omega
    · rw [LM.put_other m ex] at hx; rw [LM.put_other m ey] at hy
      rw [List.getElem?_append_left (h.dom _ _ hy).1] at ho2
      exact h.inj x y k o2 hx hy ho2 hv2
  · intro x o1 ho1
    by_cases hx : x < σ.length
    · rw [List.getElem?_append_left hx] at ho1
      rw [LM.put_other m (by omega)]
      have := h.obj x o1 ho1
      cases hmx : m x with
      | none => rw [hmx] at this; cases o1 <;> simp [ORel] at this ⊢
      | some k => rw [hmx] at this; exact ORel.mono hm rfl this
    · rw [List.getElem?_append_right (by omega)] at ho1
      have hx' : x = σ.length := by
        rcases Nat.lt_or_ge (x - σ.length) 1 with h1 | h1
        · omega
        · rw [List.getElem?_eq_none (by simpa using h1)] at ho1; cases ho1
      subst hx'
      simp at ho1; subst ho1
      rw [LM.put_same]; exact hr hm

/-- The row of an abstract place, in memory. -/
theorem HRel.row (h : HRel m X σ w) {l : Nat} {cs : List AV} (hc : rowOf σ l = some cs) :
    ∃ b c e, m l = some b ∧ σ[l]? = some (.cells cs) ∧ w.heap[b]? = some (.cells c e (0, 0)) ∧ cs.length ≤ c.size ∧ VRels m X w cs (c.toList.take cs.length) := by
  unfold rowOf at hc
  split at hc
  · rename_i cs' hs
    cases hc
    have := h.obj l _ hs
    cases hml : m l with
    | none => rw [hml] at this; simp [ORel] at this
    | some b =>
      rw [hml] at this
      simp only [ORel] at this
      obtain ⟨c, e, h1, h2, h3⟩ := this
      exact ⟨b, c, e, rfl, hs, h1, h2, h3⟩
  · cases hc

end Go.Proofs.Ytphdemhopihpnaa.AM


/- Parts of the proof, joined: AmYl to AmYl. -/
import Derived.Test.YtphdemhopihpnaaZ26

namespace Go.Proofs.Ytphdemhopihpnaa.AM
open Go
set_option linter.unusedVariables false
set_option linter.unusedSimpArgs false

/-- the place that a value names -/
def locOf : AV → List Nat
  | .ptr l _ => [l]
  | .sl l _ _ _ => [l]
  | .map l => [l]
  | .slc l _ _ _ _ => [l]
  | _ => []

/-- an operation's operands, and where the next place would lie -/
inductive PlT where
  | no
  | at (io : IOp) (as_ : List AV) (n : Nat)
  deriving Inhabited

def newLoc (k n : Nat) : List Nat := match k with | 2 => [n] | _ => []
def plLocs : PlT → List Nat
  | .no => []
  | .at io as_ n => as_.flatMap locOf ++ newLoc (kindOf io) n

def plOf (i : Ins) (as_ : List AV) (σ : List AObj) : PlT :=
  match i.op with
  | .prim io => .at io as_ σ.length
  | .call => .no

theorem hideL_push {f : Nat → Bool} {σ : List AObj} {x : AObj} (h : f σ.length = false) : hideL f (σ ++ [x]) = hideL f σ ++ [x] := by
  simp [hideL, List.mapIdx_append, h]
theorem hideL_set {f : Nat → Bool} {σ : List AObj} {l : Nat} {x : AObj} (h : f l = false) : hideL f (σ.set l x) = (hideL f σ).set l x := by
  apply List.ext_getElem?
  intro k
  rw [hideL_get]
  by_cases hk : l = k
  · subst hk
    by_cases hl : l < σ.length
    · rw [List.getElem?_set_self hl, List.getElem?_set_self (by rw [hideL_length]; exact hl)]
      simp [h]
    · rw [List.getElem?_eq_none (by simp; omega), List.getElem?_eq_none (by simp [hideL_length]; omega)]; rfl
  · rw [List.getElem?_set_ne hk, List.getElem?_set_ne hk, hideL_get]
theorem rowOf_hide {f : Nat → Bool} {σ : List AObj} {l : Nat} (h : f l = false) : rowOf (hideL f σ) l = rowOf σ l := by
  unfold rowOf; rw [hideL_get]
  cases σ[l]? with
  | none => rfl
  | some o => simp [h]
theorem mapOf_hide {f : Nat → Bool} {σ : List AObj} {l : Nat} (h : f l = false) : mapOf (hideL f σ) l = mapOf σ l := by
  unfold mapOf; rw [hideL_get]
  cases σ[l]? with
  | none => rfl
  | some o => simp [h]
theorem siterOf_hide {f : Nat → Bool} {σ : List AObj} {l : Nat} (h : f l = false) : siterOf (hideL f σ) l = siterOf σ l := by
  unfold siterOf; rw [hideL_get]
  cases σ[l]? with
  | none => rfl
  | some o => simp [h]
theorem src_hide {f : Nat → Bool} {σ : List AObj} {e : Nat} {x : AV} (h : ∀ l ∈ locOf x, f l = false) : srcCells (hideL f σ) e x = srcCells σ e x := by
  cases x with
  | sl l off len esz =>
    simp only [srcCells]
    rw [rowOf_hide (h l (by simp [locOf]))]
  | slc l off len cap esz =>
    simp only [srcCells]
    rw [rowOf_hide (h l (by simp [locOf]))]
  | cv c => cases c <;> rfl
  | _ => rfl

theorem stepF_hide {io : IOp} {as_ : List AV} {σ σ' : List AObj} {r : AV} {f : Nat → Bool} (h : stepF io as_ σ = some (r, σ')) (hf : ∀ l ∈ plLocs (.at io as_ σ.length), f l = false) : stepF io as_ (hideL f σ) = some (r, hideL f σ') := by
  by_cases h0 : kindOf io = 0
  · obtain ⟨e1, e2⟩ := stepF_pure h0 h
    rw [e1]; exact e2 _
  have hn : kindOf io = 2 → f σ.length = false := fun hk => hf _ (by simp [plLocs, hk, newLoc])
  cases io <;> (try exact absurd rfl h0) <;> simp only [stepF] at h ⊢
  case alloc zs =>
    unfold f_alloc at h ⊢; split at h <;> (try (cases h; done))
    cases h; rw [hideL_push (hn rfl), hideL_length]
  case box =>
    unfold f_box at h ⊢; split at h <;> (try (cases h; done))
    split at h <;> (try (cases h; done))
    rename_i hc
    cases h; rw [if_neg hc, hideL_push (hn rfl), hideL_length]
  case bslice e n zs ps =>
    unfold f_bslice at h ⊢
    simp only [Option.map_eq_some_iff] at h ⊢
    obtain ⟨cs, h1, h2⟩ := h
    cases h2
    exact ⟨cs, h1, by rw [hideL_push (hn rfl), hideL_length]⟩
  case load1 =>
    unfold f_load1 at h ⊢; split at h <;> (try (cases h; done))
    · rename_i l off
      rw [rowOf_hide (hf l (by simp [plLocs, locOf]))]
      simp only [Option.bind_eq_some_iff, Option.map_eq_some_iff] at h ⊢; obtain ⟨cs, h1, v, h2, he⟩ := h; cases he; exact ⟨cs, h1, _, h2, rfl⟩
    · simp only [Option.map_eq_some_iff] at h ⊢; obtain ⟨v, h1, he⟩ := h; cases he; exact ⟨v, h1, rfl⟩
  case loadN n =>
    unfold f_loadN at h ⊢; split at h <;> (try (cases h; done))
    · rename_i l off
      rw [rowOf_hide (hf l (by simp [plLocs, locOf]))]
      simp only [Option.bind_eq_some_iff] at h ⊢; obtain ⟨cs, h1, h⟩ := h
      split at h <;> (try (cases h; done))
      rename_i hc; cases h; exact ⟨cs, h1, by rw [if_pos hc]⟩
    · split at h <;> (try (cases h; done))
      rename_i hc; cases h; rw [if_pos hc]
  case store n =>
    unfold f_store at h ⊢; split at h <;> (try (cases h; done))
    rename_i l off v
    have hl := hf l (by simp [plLocs, locOf])
    rw [rowOf_hide hl]
    simp only [Option.bind_eq_some_iff] at h ⊢; obtain ⟨cs, h1, h⟩ := h
    split at h <;> (try (cases h; done))
    rename_i hc; cases h; exact ⟨cs, h1, by rw [if_pos hc, hideL_set hl]⟩
  case mkmap =>
    unfold f_mkmap at h ⊢; split at h <;> (try (cases h; done))
    cases h; rw [hideL_push (hn rfl), hideL_length]
  case mkslice e b zs =>
    unfold f_mkslice at h ⊢; split at h <;> (try (cases h; done))
    split at h <;> (try (cases h; done))
    rename_i hc
    cases h; rw [if_pos hc, hideL_push (hn rfl), hideL_length]
  case mksliceC e b zs =>
    unfold f_mksliceC at h ⊢; split at h <;> (try (cases h; done))
    split at h <;> (try (cases h; done))
    rename_i hc
    cases h; rw [if_pos hc, hideL_push (hn rfl), hideL_length]
  case slA n e lo hi =>
    unfold f_slA at h ⊢; split at h <;> (try (cases h; done))
    rename_i l off bs
    rw [rowOf_hide (hf l (by simp [plLocs, locOf]))]
    simp only [Option.bind_eq_some_iff] at h ⊢; obtain ⟨cs, h1, p, h2, h⟩ := h
    split at h <;> (try (cases h; done))
    rename_i hc; cases h; exact ⟨cs, h1, p, h2, by rw [if_pos hc]⟩
  case append e b =>
    unfold f_append at h ⊢; split at h <;> (try (cases h; done))
    · rename_i x
      rw [src_hide (fun l hl => hf l (by simp [plLocs, hl]))]
      simp only [Option.bind_eq_some_iff] at h ⊢; obtain ⟨new, h1, n, h2, h⟩ := h
      refine ⟨new, h1, n, h2, ?_⟩
      split at h
      · rename_i hc; cases h; rw [if_pos hc]
      · rename_i hc
        rw [if_neg hc]
        split at h <;> (try (cases h; done))
        rename_i hc2; cases h; rw [if_pos hc2, hideL_push (hn rfl), hideL_length]
    · rename_i l len e' x
      have hl := hf l (by simp [plLocs, locOf])
      rw [src_hide (fun l hl => hf l (by simp [plLocs, hl])), rowOf_hide hl]
      simp only [Option.bind_eq_some_iff] at h ⊢; obtain ⟨cs, h0, new, h1, n, h2, h⟩ := h
      refine ⟨cs, h0, new, h1, n, h2, ?_⟩
      split at h <;> (try (cases h; done))
      rename_i hc2; cases h
      rw [if_pos hc2, hideL_push (by rw [List.length_set]; exact hn rfl), hideL_set hl, hideL_length]
    · rename_i l off len cap e' x
      have hl := hf l (by simp [plLocs, locOf])
      rw [src_hide (fun l hl => hf l (by simp [plLocs, hl])), rowOf_hide hl]
      simp only [Option.bind_eq_some_iff] at h ⊢; obtain ⟨cs, h0, new, h1, n, h2, h⟩ := h
      refine ⟨cs, h0, new, h1, n, h2, ?_⟩
      split at h
      · rename_i hcc; rw [if_pos hcc]
        split at h <;> (try (cases h; done))
        rename_i hc2; cases h; rw [if_pos hc2, hideL_set hl]
      · rename_i hcc; rw [if_neg hcc]
        split at h <;> (try (cases h; done))
        rename_i hc2; cases h; rw [if_pos hc2, hideL_push (hn rfl), hideL_length]
  case clear zs =>
    unfold f_clear at h ⊢; split at h <;> (try (cases h; done))
    · rename_i l off len e'
      have hl := hf l (by simp [plLocs, locOf])
      rw [rowOf_hide hl]
      simp only [Option.bind_eq_some_iff] at h ⊢; obtain ⟨cs, h0, h⟩ := h
      refine ⟨cs, h0, ?_⟩
      split at h <;> (try (cases h; done))
      rename_i hc2; cases h
      rw [if_pos hc2, hideL_set hl]
    · rename_i l off len cap e'
      have hl := hf l (by simp [plLocs, locOf])
      rw [rowOf_hide hl]
      simp only [Option.bind_eq_some_iff] at h ⊢; obtain ⟨cs, h0, h⟩ := h
      refine ⟨cs, h0, ?_⟩
      split at h <;> (try (cases h; done))
      rename_i hc2; cases h
      rw [if_pos hc2, hideL_set hl]
  case copy e =>
    unfold f_copy at h ⊢; split at h <;> (try (cases h; done))
    rename_i l off len e' x
    have hl := hf l (by simp [plLocs, locOf])
    rw [src_hide (fun l hl => hf l (by simp [plLocs, hl])), rowOf_hide hl]
    simp only [Option.bind_eq_some_iff] at h ⊢; obtain ⟨cs, h0, new, h1, n, h2, h⟩ := h
    refine ⟨cs, h0, new, h1, n, h2, ?_⟩
    split at h <;> (try (cases h; done))
    rename_i hc2; cases h
    rw [if_pos hc2, hideL_set hl]
  case lookup ks z ok =>
    unfold f_lookup at h ⊢; split at h <;> (try (cases h; done))
    rename_i l k
    rw [mapOf_hide (hf l (by simp [plLocs, locOf]))]
    simp only [Option.bind_eq_some_iff] at h ⊢; obtain ⟨es, h1, h⟩ := h
    refine ⟨es, h1, ?_⟩
    split at h <;> (try (cases h; done))
    rename_i hc
    rw [if_neg hc]
    simp only [Option.map_eq_some_iff] at h ⊢; obtain ⟨v, h2, he⟩ := h; cases he; exact ⟨v, h2, rfl⟩
  case mapset ks =>
    unfold f_mapset at h ⊢; split at h <;> (try (cases h; done))
    rename_i l k v
    have hl := hf l (by simp [plLocs, locOf])
    rw [mapOf_hide hl]
    simp only [Option.bind_eq_some_iff] at h ⊢; obtain ⟨es, h1, h⟩ := h
    refine ⟨es, h1, ?_⟩
    split at h <;> (try (cases h; done))
    rename_i hc
    rw [if_neg hc]
    simp only [Option.map_eq_some_iff] at h ⊢; obtain ⟨v, h2, he⟩ := h; cases he; exact ⟨v, h2, by rw [hideL_set hl]⟩
  case mapdel ks =>
    unfold f_mapdel at h ⊢; split at h <;> (try (cases h; done))
    rename_i l k
    have hl := hf l (by simp [plLocs, locOf])
    rw [mapOf_hide hl]
    simp only [Option.bind_eq_some_iff] at h ⊢; obtain ⟨es, h1, h⟩ := h
    refine ⟨es, h1, ?_⟩
    split at h <;> (try (cases h; done))
    rename_i hc
    rw [if_neg hc]
    simp only [Option.map_eq_some_iff] at h ⊢; obtain ⟨v, h2, he⟩ := h; cases he; exact ⟨v, h2, by rw [hideL_set hl]⟩
  case maplen =>
    unfold f_maplen at h ⊢; split at h <;> (try (cases h; done))
    rename_i l
    rw [mapOf_hide (hf l (by simp [plLocs, locOf]))]
    simp only [Option.map_eq_some_iff] at h ⊢; obtain ⟨v, h2, he⟩ := h; cases he; exact ⟨v, h2, rfl⟩
  case appendz e b zs =>
    unfold f_appendz at h ⊢; split at h <;> (try (cases h; done))
    rename_i l off len cap e' k nn
    have hl := hf l (by simp [plLocs, locOf])
    rw [rowOf_hide hl]
    simp only [Option.bind_eq_some_iff] at h ⊢; obtain ⟨cs, h0, h⟩ := h
    refine ⟨cs, h0, ?_⟩
    split at h <;> (try (cases h; done))
    rename_i hc2; cases h
    rw [if_pos hc2, hideL_push (hn rfl), hideL_length]
  case stuck => cases h
  case rstr =>
    unfold f_rstr at h ⊢; split at h <;> (try (cases h; done))
    cases h; rw [hideL_push (hn rfl), hideL_length]
  case snext =>
    unfold f_snext at h ⊢; split at h <;> (try (cases h; done))
    rename_i l
    have hl := hf l (by simp [plLocs, locOf])
    rw [siterOf_hide hl]
    simp only [Option.map_eq_some_iff] at h ⊢; obtain ⟨sp, h2, h⟩ := h
    refine ⟨sp, h2, ?_⟩
    split at h
    · rename_i hc; cases h; rw [if_pos hc, hideL_set hl]
    · rename_i hc; cases h; rw [if_neg hc]

theorem ch_push {σ : List AObj} {x : AObj} {l : Nat} (h : (σ ++ [x])[l]? ≠ σ[l]?) : l = σ.length := by
  rcases Nat.lt_trichotomy l σ.length with h1 | h1 | h1
  · rw [List.getElem?_append_left h1] at h; exact absurd rfl h
  · exact h1
  · rw [List.getElem?_eq_none (by simp; omega), List.getElem?_eq_none (by omega)] at h; exact absurd rfl h
theorem ch_set {σ : List AObj} {x : AObj} {l l0 : Nat} (h : (σ.set l0 x)[l]? ≠ σ[l]?) : l = l0 := by
  by_cases h1 : l0 = l
  · exact h1.symm
  · rw [List.getElem?_set_ne h1] at h; exact absurd rfl h

theorem stepF_ch {io : IOp} {as_ : List AV} {σ σ' : List AObj} {r : AV} (h : stepF io as_ σ = some (r, σ')) {l : Nat} (hl : σ'[l]? ≠ σ[l]?) : l ∈ plLocs (.at io as_ σ.length) := by
  by_cases h0 : kindOf io = 0
  · rw [(stepF_pure h0 h).1] at hl; exact absurd rfl hl
  by_cases h1 : kindOf io = 1
  · rw [stepF_reads h1 h] at hl; exact absurd rfl hl
  have hnew : kindOf io = 2 → ∀ x, σ' = σ ++ [x] → l ∈ plLocs (.at io as_ σ.length) := fun hk x he => by
    rw [he] at hl; rw [ch_push hl]; simp [plLocs, hk, newLoc]
  have hset : ∀ l0 x, l0 ∈ as_.flatMap locOf → σ' = σ.set l0 x → l ∈ plLocs (.at io as_ σ.length) := fun l0 x hm he => by
    rw [he] at hl; rw [ch_set hl]; simp only [plLocs, List.mem_append]; exact .inl hm
  cases io <;> (try exact absurd rfl h0) <;> (try exact absurd rfl h1) <;> simp only [stepF] at h
  case alloc zs =>
    unfold f_alloc at h; split at h <;> (try (cases h; done))
    cases h; exact hnew rfl _ rfl
  case box =>
    unfold f_box at h; split at h <;> (try (cases h; done))
    split at h <;> (try (cases h; done))
    cases h; exact hnew rfl _ rfl
  case bslice e n zs ps =>
    unfold f_bslice at h
    simp only [Option.map_eq_some_iff] at h
    obtain ⟨cs, h1, h2⟩ := h
    cases h2; exact hnew rfl _ rfl
  case store n =>
    unfold f_store at h; split at h <;> (try (cases h; done))
    simp only [Option.bind_eq_some_iff] at h; obtain ⟨cs, h1, h⟩ := h
    split at h <;> (try (cases h; done))
    cases h; exact hset _ _ (by simp [locOf]) rfl
  case mkmap =>
    unfold f_mkmap at h; split at h <;> (try (cases h; done))
    cases h; exact hnew rfl _ rfl
  case mkslice e b zs =>
    unfold f_mkslice at h; split at h <;> (try (cases h; done))
    split at h <;> (try (cases h; done))
    cases h; exact hnew rfl _ rfl
  case mksliceC e b zs =>
    unfold f_mksliceC at h; split at h <;> (try (cases h; done))
    split at h <;> (try (cases h; done))
    cases h; exact hnew rfl _ rfl
  case append e b =>
    unfold f_append at h; split at h <;> (try (cases h; done))
    · simp only [Option.bind_eq_some_iff] at h; obtain ⟨new, h1, n, h2, h⟩ := h
      split at h
      · cases h; exact absurd rfl hl
      · split at h <;> (try (cases h; done))
        cases h; exact hnew rfl _ rfl
    · rename_i l0 len e' x
      simp only [Option.bind_eq_some_iff] at h; obtain ⟨cs, h0, new, h1, n, h2, h⟩ := h
      split at h <;> (try (cases h; done))
      cases h
      by_cases he : l = l0
      · subst he; simp [plLocs, locOf]
      · have : (σ.set l0 AObj.dead)[l]? = σ[l]? := List.getElem?_set_ne (fun h => he h.symm)
        rw [← this] at hl
        have := ch_push hl
        rw [List.length_set] at this
        rw [this]; simp [plLocs, kindOf, newLoc]
    · simp only [Option.bind_eq_some_iff] at h; obtain ⟨cs, h0, new, h1, n, h2, h⟩ := h
      split at h
      · split at h <;> (try (cases h; done))
        cases h; exact hset _ _ (by simp [locOf]) rfl
      · split at h <;> (try (cases h; done))
        cases h; exact hnew rfl _ rfl
  case clear zs =>
    unfold f_clear at h; split at h <;> (try (cases h; done)) <;> (
      simp only [Option.bind_eq_some_iff] at h; obtain ⟨cs, h0, h⟩ := h
      split at h <;> (try (cases h; done))
      cases h; exact hset _ _ (by simp [locOf]) rfl)
  case copy e =>
    unfold f_copy at h; split at h <;> (try (cases h; done))
    simp only [Option.bind_eq_some_iff] at h; obtain ⟨cs, h0, new, h1, n, h2, h⟩ := h
    split at h <;> (try (cases h; done))
    cases h; exact hset _ _ (by simp [locOf]) rfl
  case mapset ks =>
    unfold f_mapset at h; split at h <;> (try (cases h; done))
    simp only [Option.bind_eq_some_iff] at h; obtain ⟨es, h1, h⟩ := h
    split at h <;> (try (cases h; done))
    simp only [Option.map_eq_some_iff] at h; obtain ⟨v, h2, he⟩ := h; cases he; exact hset _ _ (by simp [locOf]) rfl
  case mapdel ks =>
    unfold f_mapdel at h; split at h <;> (try (cases h; done))
    simp only [Option.bind_eq_some_iff] at h; obtain ⟨es, h1, h⟩ := h
    split at h <;> (try (cases h; done))
    simp only [Option.map_eq_some_iff] at h; obtain ⟨v, h2, he⟩ := h; cases he; exact hset _ _ (by simp [locOf]) rfl
  case appendz e b zs =>
    unfold f_appendz at h; split at h <;> (try (cases h; done))
    simp only [Option.bind_eq_some_iff] at h; obtain ⟨cs, h0, h⟩ := h
    split at h <;> (try (cases h; done))
    cases h; exact hnew rfl _ rfl
  case stuck => cases h
  case rstr =>
    unfold f_rstr at h; split at h <;> (try (cases h; done))
    cases h; exact hnew rfl _ rfl
  case snext =>
    unfold f_snext at h; split at h <;> (try (cases h; done))
    simp only [Option.map_eq_some_iff] at h; obtain ⟨_, _, h⟩ := h; split at h <;> cases h
    · exact hset _ _ (by simp [locOf]) rfl
    · exact absurd rfl hl

end Go.Proofs.Ytphdemhopihpnaa.AM


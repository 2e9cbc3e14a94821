/- Parts of the proof, joined: AmX to AmX. -/
import Derived.Test.YtphdemhopihpnaaZ24

namespace Go.Proofs.Ytphdemhopihpnaa.AM
open Go
set_option linter.unusedVariables false
set_option linter.unusedSimpArgs false

theorem Enter_of {P : Program} {f : FuncId} {fn : Func} {c : Code} (hf : P.funcs[f]? = some fn) (hn : (fn.name == "runtime.NumGoroutine") = false) (hb : fn.body = some c) : Enter P f := by
  intro args w
  unfold callFunc
  simp only [Sem.run_bind, show (program).run P w = .ok P w from rfl, Result.andThen_ok, hf, hn, hb, Option.isNone, Bool.false_eq_true, if_false, Sem.run_pure]

mutual
def ren (g : Nat → Nat) : AV → AV
  | .cv c => .cv c
  | .ptr l o => .ptr (g l) o
  | .sl l o n e => .sl (g l) o n e
  | .map l => .map (g l)
  | .fn f cs => .fn f (rens g cs)
  | .bm f cs => .bm f (rens g cs)
  | .yld l => .yld (g l)
  | .agg cs => .agg (rens g cs)
  | .tup cs => .tup (rens g cs)
  | .undef => .undef
  | .slc l o n c e => .slc (g l) o n c e
def rens (g : Nat → Nat) : List AV → List AV
  | [] => []
  | a :: as_ => ren g a :: rens g as_
end

def renO (g : Nat → Nat) : AObj → AObj
  | .dead => .dead
  | .cells cs => .cells (rens g cs)
  | .map es => .map (es.map fun e => (ren g e.1, ren g e.2))
  | .siter s p => .siter s p
  | .loop r => .loop { r with vals := rens g r.vals }

theorem rens_length (g : Nat → Nat) : ∀ vs : List AV, (rens g vs).length = vs.length
  | [] => rfl
  | v :: vs => by simp [rens, rens_length g vs]
theorem rens_getD (g : Nat → Nat) : ∀ (vs : List AV) (i : Nat), (rens g vs).getD i .undef = ren g (vs.getD i .undef)
  | [], i => by simp [rens, ren]
  | v :: vs, 0 => by simp [rens]
  | v :: vs, i + 1 => by simpa [rens] using rens_getD g vs i

mutual
theorem ren_id {g : Nat → Nat} {k : Nat} (hg : ∀ l, l < k → g l = l) : ∀ a : AV, locsIn k a = true → ren g a = a
  | .cv _, _ => rfl
  | .ptr l _, h => by simp only [locsIn, decide_eq_true_eq] at h; simp [ren, hg l h]
  | .sl l _ _ _, h => by simp only [locsIn, decide_eq_true_eq] at h; simp [ren, hg l h]
  | .map l, h => by simp only [locsIn, decide_eq_true_eq] at h; simp [ren, hg l h]
  | .fn _ cs, h => by simp only [locsIn] at h; simp [ren, rens_id hg cs h]
  | .bm _ cs, h => by simp only [locsIn] at h; simp [ren, rens_id hg cs h]
  | .yld l, h => by simp only [locsIn, decide_eq_true_eq] at h; simp [ren, hg l h]
  | .agg cs, h => by simp only [locsIn] at h; simp [ren, rens_id hg cs h]
  | .tup cs, h => by simp only [locsIn] at h; simp [ren, rens_id hg cs h]
  | .undef, _ => rfl
  | .slc l _ _ _ _, h => by simp only [locsIn, decide_eq_true_eq] at h; simp [ren, hg l h]
theorem rens_id {g : Nat → Nat} {k : Nat} (hg : ∀ l, l < k → g l = l) : ∀ vs : List AV, locsInAll k vs = true → rens g vs = vs
  | [], _ => rfl
  | v :: vs, h => by simp only [locsInAll, Bool.and_eq_true] at h; simp [rens, ren_id hg v h.1, rens_id hg vs h.2]
end

theorem renO_id {g : Nat → Nat} {k : Nat} (hg : ∀ l, l < k → g l = l) {o : AObj} (h : objIn k o = true) : renO g o = o := by
  cases o with
  | dead => rfl
  | cells cs => simp [renO, rens_id hg cs h]
  | map es =>
    simp only [objIn, List.all_eq_true, Bool.and_eq_true] at h
    simp only [renO, AObj.map.injEq]
    conv => rhs; rw [← List.map_id es]
    apply List.map_congr_left
    intro e he
    simp [ren_id hg _ (h e he).1, ren_id hg _ (h e he).2]
  | siter _ _ => rfl
  | loop r => simp only [objIn] at h; simp [renO, rens_id hg _ h]

section
variable {m m2 : LM} {X : Nat → Prop} {w : World} {g : Nat → Nat} {k : Nat}

mutual
theorem VRel.ren (hm : ∀ l, l < k → m2 l = m (g l)) (ho : ∀ b, Own m2 X b → Own m X b) : ∀ (a : AV) (v : Value), locsIn k a = true → VRel m X w (AM.ren g a) v → VRel m2 X w a v
  | .cv c, v, _, h => by simp only [AM.ren, VRel] at h ⊢; exact CV.rep_less ho c v h
  | .ptr l off, v, hk, h => by simp only [AM.ren, VRel, locsIn, decide_eq_true_eq] at h hk ⊢; rw [hm l hk]; exact h
  | .sl l off len esz, v, hk, h => by simp only [AM.ren, VRel, locsIn, decide_eq_true_eq] at h hk ⊢; rw [hm l hk]; exact h
  | .map l, v, hk, h => by simp only [AM.ren, VRel, locsIn, decide_eq_true_eq] at h hk ⊢; rw [hm l hk]; exact h
  | .fn f cs, v, hk, h => by simp only [AM.ren, VRel, locsIn] at h hk ⊢; obtain ⟨vs, h1, h2⟩ := h; exact ⟨vs, h1, VRels.ren hm ho cs vs hk h2⟩
  | .bm f cs, v, hk, h => by simp only [AM.ren, VRel, locsIn] at h hk ⊢; obtain ⟨vs, h1, h2⟩ := h; exact ⟨vs, h1, VRels.ren hm ho cs vs hk h2⟩
  | .yld l, v, hk, h => by simp only [AM.ren, VRel, locsIn, decide_eq_true_eq] at h hk ⊢; rw [hm l hk]; exact h
  | .agg cs, v, hk, h => by simp only [AM.ren, VRel, locsIn] at h hk ⊢; obtain ⟨vs, h1, h2⟩ := h; exact ⟨vs, h1, VRels.ren hm ho cs vs hk h2⟩
  | .tup cs, v, hk, h => by simp only [AM.ren, VRel, locsIn] at h hk ⊢; obtain ⟨vs, h1, h2⟩ := h; exact ⟨vs, h1, VRels.ren hm ho cs vs hk h2⟩
  | .undef, v, _, _ => by simp [VRel]
  | .slc l off len cap esz, v, hk, h => by simp only [AM.ren, VRel, locsIn, decide_eq_true_eq] at h hk ⊢; rw [hm l hk]; exact h
theorem VRels.ren (hm : ∀ l, l < k → m2 l = m (g l)) (ho : ∀ b, Own m2 X b → Own m X b) : ∀ (as_ : List AV) (vs : List Value), locsInAll k as_ = true → VRels m X w (AM.rens g as_) vs → VRels m2 X w as_ vs
  | [], [], _, _ => by simp [VRels]
  | a :: as_, v :: vs, hk, h => by simp only [AM.rens, VRels, locsInAll, Bool.and_eq_true] at h hk ⊢; exact ⟨VRel.ren hm ho a v hk.1 h.1, VRels.ren hm ho as_ vs hk.2 h.2⟩
  | [], _ :: _, _, h => by simp [AM.rens, VRels] at h
  | _ :: _, [], _, h => by simp [AM.rens, VRels] at h
end

theorem ORel.ren (hm : ∀ l, l < k → m2 l = m (g l)) (ho : ∀ b, Own m2 X b → Own m X b) {b : Option Nat} {o : AObj} (hk : objIn k o = true) (h : ORel m X w b (renO g o)) : ORel m2 X w b o := by
  cases b with
  | none => cases o <;> simp [ORel, renO] at h ⊢
  | some b =>
    cases o with
    | dead => trivial
    | cells cs =>
      simp only [ORel, renO, objIn, rens_length] at h hk ⊢
      obtain ⟨c, e, h1, h2, h3⟩ := h
      exact ⟨c, e, h1, h2, VRels.ren hm ho _ _ hk h3⟩
    | map es =>
      simp only [ORel, renO, objIn, List.length_map] at h hk ⊢
      obtain ⟨ces, clock, h1, h2, h3, h4, h5⟩ := h
      refine ⟨ces, clock, h1, h2, h3, h4, fun i kk a hi => ?_⟩
      obtain ⟨e, he, g1, g2⟩ := h5 i (AM.ren g kk) (AM.ren g a) (by rw [List.getElem?_map, hi]; rfl)
      rw [List.all_eq_true] at hk
      have := hk _ (List.mem_of_getElem? hi)
      simp only [Bool.and_eq_true] at this
      exact ⟨e, he, VRel.ren hm ho _ _ this.1 g1, VRel.ren hm ho _ _ this.2 g2⟩
    | siter s0 p => exact h
    | loop r =>
      simp only [ORel, renO, objIn, rens_length] at h hk ⊢
      obtain ⟨tmps, d, fi, h1, h2, h3⟩ := h
      refine ⟨tmps, d, fi, h1, fun i t hi => ?_, h3⟩
      have := h2 i t hi
      simp only [rens_getD] at this
      exact VRel.ren hm ho _ _ (locsInAll_getD hk i) this
end

theorem renO_live {g : Nat → Nat} {o : AObj} (h : o.live) : (renO g o).live := by cases o <;> simp_all [renO, AObj.live]

variable {P : Program}

/-- g: where each place of the tidied heap σ2 lies in the heap σ' that the contract tells of -/
structure Tidy (n0 : Nat) (σ : List AObj) (r : AV) (σ' : List AObj) (g : Nat → Nat) (r2 : AV) (σ2 : List AObj) : Prop where
  low : ∀ l, l < n0 → g l = l
  rise : ∀ a b, a < b → b < σ2.length → g a < g b
  le : n0 ≤ σ2.length
  res : r = ren g r2
  rin : locsIn σ2.length r2 = true
  obj : ∀ (l : Nat) o, σ2[l]? = some o → (l < n0 ∧ σ[l]? = some o ∧ σ'[l]? = some o) ∨ (objIn σ2.length o = true ∧ σ'[g l]? = some (renO g o))

theorem AC.tidy {f : FuncId} {args : List AV} {σ : List AObj} {Q Q' : AV → List AObj → Prop} (h : AC P f args σ Q) (hq : ∀ r σ', Q r σ' → ∃ g r2 σ2, Tidy σ.length σ r σ' g r2 σ2 ∧ Q' r2 σ2) : AC P f args σ Q' := by
  refine ⟨h.1, fun m X w cargs ha hh => (h.2 m X w cargs ha hh).mono ?_⟩
  rintro e w' ⟨c, r, σ', m', rfl, hQ, hr, hh', hst, hle⟩
  obtain ⟨g, r2, σ2, ht, hQ'⟩ := hq r σ' hQ
  let m2 : LM := fun l => if l < σ2.length then m' (g l) else none
  have hm2 : ∀ l, l < σ2.length → m2 l = m' (g l) := fun l hl => by simp only [m2]; rw [if_pos hl]
  have hm2s : ∀ l b, m2 l = some b → l < σ2.length ∧ m' (g l) = some b := fun l b hl => by
    simp only [m2] at hl
    split at hl
    · rename_i h; exact ⟨h, hl⟩
    · cases hl
  have how : ∀ b, Own m2 X b → Own m' X b := by
    rintro b (hx | ⟨l, hl⟩)
    · exact .inl hx
    · exact .inr ⟨g l, (hm2s l b hl).2⟩
  have hobj : ∀ (l : Nat) o, σ2[l]? = some o → objIn σ2.length o = true ∧ σ'[g l]? = some (renO g o) := by
    intro l o ho
    rcases ht.obj l o ho with ⟨h1, h2, h3⟩ | h1
    · have hin := hh.closed l o h2
      refine ⟨objIn_mono _ _ o ht.le hin, ?_⟩
      rw [ht.low l h1, renO_id ht.low hin]; exact h3
    · exact h1
  refine ⟨c, r2, σ2, m2, rfl, hQ', ?_, ⟨hh'.xb, ?_, ?_, ?_, ?_⟩, ⟨?_, ?_, hst.size, hst.fr, hst.shp, hst.os, hst.tape, hst.output, hst.drawn⟩, ht.le⟩
  · exact VRel.ren hm2 how r2 c ht.rin (by rw [← ht.res]; exact hr)
  · intro l b hl; obtain ⟨h1, h2⟩ := hm2s l b hl; exact ⟨h1, (hh'.dom _ b h2).2⟩
  · intro l b o hl ho hv
    obtain ⟨h1, h2⟩ := hm2s l b hl
    exact hh'.own (g l) b _ h2 (hobj l o ho).2 (renO_live hv)
  · intro l l' b o' hl hl' ho' hv
    obtain ⟨h1, h2⟩ := hm2s l b hl
    obtain ⟨h1', h2'⟩ := hm2s l' b hl'
    have := hh'.inj (g l) (g l') b _ h2 h2' (hobj l' o' ho').2 (renO_live hv)
    rcases Nat.lt_or_ge l' l with hlt | hge
    · have := ht.rise l' l hlt h1; omega
    · exact hge
  · intro l o ho
    obtain ⟨h1, h2⟩ := hobj l o ho
    have hl : l < σ2.length := (List.getElem?_eq_some_iff.1 ho).1
    rw [hm2 l hl]
    exact ORel.ren hm2 how h1 (hh'.obj _ _ h2)
  · intro l hl
    rw [hm2 l (by have := ht.le; omega), ht.low l hl]; exact hst.keep l hl
  · intro l b hl; exact hst.new _ b (hm2s l b hl).2

/-- the heap behind a call is as it was: what the function made is nobody's -/
theorem AC.same {f : FuncId} {args : List AV} {σ : List AObj} {Q : AV → List AObj → Prop} {R : AV → Prop} (h : AC P f args σ Q) (hq : ∀ r σ', Q r σ' → R r ∧ locsIn σ.length r = true ∧ ∀ (l : Nat) o, σ[l]? = some o → σ'[l]? = some o) : AC P f args σ fun r σ' => R r ∧ σ' = σ :=
  h.tidy fun r σ' hQ => by
    obtain ⟨h1, h2, h3⟩ := hq r σ' hQ
    refine ⟨id, r, σ, ⟨fun _ _ => rfl, fun _ _ h _ => h, Nat.le_refl _, ?_, h2, fun l o ho => .inl ⟨(List.getElem?_eq_some_iff.1 ho).1, ho, h3 l o ho⟩⟩, h1, rfl⟩
    exact (ren_id (g := id) (k := σ.length) (fun _ _ => rfl) r h2).symm

end Go.Proofs.Ytphdemhopihpnaa.AM


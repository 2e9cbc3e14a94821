/- Parts of the proof, joined: AmF to AmF. -/
import Derived.Test.YtphdemhopihpnaaZ5

namespace Go.Proofs.Ytphdemhopihpnaa.AM
open Go
set_option linter.unusedVariables false
set_option linter.unusedSimpArgs false

variable {P : Program} {m : LM} {X : Nat → Prop} {σ : List AObj} {w : World}

theorem rTypeInfo {t : TypeId} {i : TypeInfo} (h : P.info? t = some i) : (typeInfo t).run P w = .ok i w := by
  simp [typeInfo, h]
theorem rSizeOf {t : TypeId} {i : TypeInfo} (h : P.info? t = some i) : (sizeOf t).run P w = .ok i.size w := by
  simp [sizeOf, rTypeInfo h]
theorem rZero {t : TypeId} {i : TypeInfo} {z : Value} (h : P.info? t = some i) (hz : i.zero = some z) : (zeroValue t).run P w = .ok z w := by
  simp [zeroValue, rTypeInfo h, hz]
theorem rUnderlying {t : TypeId} {d : TypeDesc} (h : P.underlying t = some d) : (underlying t).run P w = .ok d w := run_underlying h w
theorem rIsAgg {t : TypeId} {g : Bool} (h : isAggT P t = some g) : (isAgg t).run P w = .ok g w := by
  unfold isAggT at h
  split at h
  · rename_i fs hu; cases h; simp [isAgg, rUnderlying hu]
  · rename_i n e hu; cases h; simp [isAgg, rUnderlying hu]
  · rename_i d h1 h2 hu; cases h
    simp only [isAgg, Sem.run_bind, rUnderlying hu, Result.andThen_ok]
    rfl
  · cases h

theorem ofScalar_rel (v : Value) : VRel m X w (ofScalar v) v := by
  unfold ofScalar; split <;> simp [VRel, CV.rep]

theorem ofScalar_rels : ∀ vs : List Value, VRels m X w (vs.map ofScalar) vs
  | [] => by simp [VRels]
  | v :: vs => by simp only [List.map_cons, VRels]; exact ⟨ofScalar_rel v, ofScalar_rels vs⟩

theorem ofConst_rel (v : Value) : VRel m X w (ofConst v) v := by
  unfold ofConst; split
  · rename_i cs; simp only [VRel]; exact ⟨cs.toList, by simp, ofScalar_rels _⟩
  · exact ofScalar_rel v

theorem cells_agg (vs : Array Value) : (Value.agg vs).cells = vs := rfl
theorem cells_one {v : Value} (h : ∀ vs, v ≠ .agg vs) : v.cells = #[v] := by
  cases v <;> first | rfl | exact absurd rfl (h _)

theorem zero_rels (z : Value) : VRels m X w (Go.Proofs.Ytphdemhopihpnaa.AM.cellsOf (ofConst z)) z.cells.toList := by
  by_cases h : ∃ vs, z = .agg vs
  · obtain ⟨vs, rfl⟩ := h; simp only [ofConst, cellsOf, cells_agg]; exact ofScalar_rels _
  · have h' : ∀ vs, z ≠ .agg vs := fun vs e => h ⟨vs, e⟩
    rw [cells_one h']
    have e1 : ofConst z = ofScalar z := by cases z <;> first | rfl | exact absurd rfl (h' _)
    have e2 : cellsOf (ofScalar z) = [ofScalar z] := by unfold ofScalar; split <;> rfl
    rw [e1, e2]; simp only [VRels]; exact ⟨ofScalar_rel z, trivial⟩

theorem VRel.not_agg {a : AV} {v : Value} (h : VRel m X w a v) (hu : a.isUndef = false) (ha : ∀ cs, a ≠ .agg cs) (vs : Array Value) : v ≠ .agg vs := by
  cases a with
  | cv c => cases c <;> simp only [VRel, CV.rep] at h <;> first | (subst h; simp; done) | (obtain ⟨_, rfl, _⟩ := h; simp; done) | (rcases h with ⟨rfl, _⟩ | ⟨_, _, rfl, _⟩ <;> simp)
  | ptr => simp only [VRel] at h; obtain ⟨_, _, rfl⟩ := h; simp
  | sl => simp only [VRel] at h; obtain ⟨_, _, _, rfl, _⟩ := h; simp
  | map => simp only [VRel] at h; obtain ⟨_, _, rfl⟩ := h; simp
  | fn => simp only [VRel] at h; obtain ⟨_, rfl, _⟩ := h; simp
  | bm => simp only [VRel] at h; obtain ⟨_, rfl, _⟩ := h; simp
  | yld => simp only [VRel] at h; obtain ⟨_, _, rfl⟩ := h; simp
  | agg cs => exact absurd rfl (ha cs)
  | tup => simp only [VRel] at h; obtain ⟨_, rfl, _⟩ := h; simp
  | undef => simp [AV.isUndef] at hu
  | slc => simp only [VRel] at h; obtain ⟨_, _, rfl, _⟩ := h; simp

theorem VRel.cells {a : AV} {v : Value} (h : VRel m X w a v) (hu : a.isUndef = false) : VRels m X w (cellsOf a) v.cells.toList := by
  by_cases ha : ∃ cs, a = .agg cs
  · obtain ⟨cs, rfl⟩ := ha
    simp only [VRel] at h; obtain ⟨vs, rfl, h2⟩ := h
    simpa [cellsOf, cells_agg] using h2
  · have ha' : ∀ cs, a ≠ .agg cs := fun cs e => ha ⟨cs, e⟩
    rw [cells_one (h.not_agg hu ha')]
    have : cellsOf a = [a] := by cases a <;> first | rfl | exact absurd rfl (ha' _)
    rw [this]; simp only [VRels]; exact ⟨h, trivial⟩

theorem VRel.one_cell {a : AV} {v : Value} (h : VRel m X w a v) (hs : a.isSc = true) : v.oneCell' = true := by
  cases a with
  | cv c => cases c <;> simp only [VRel, CV.rep] at h <;> first | (subst h; rfl) | (obtain ⟨_, rfl, _⟩ := h; rfl) | (rcases h with ⟨rfl, _⟩ | ⟨_, _, rfl, _⟩ <;> rfl)
  | ptr => simp only [VRel] at h; obtain ⟨_, _, rfl⟩ := h; rfl
  | sl => simp only [VRel] at h; obtain ⟨_, _, _, rfl, _⟩ := h; rfl
  | map => simp only [VRel] at h; obtain ⟨_, _, rfl⟩ := h; rfl
  | fn => simp only [VRel] at h; obtain ⟨_, rfl, _⟩ := h; rfl
  | bm => simp only [VRel] at h; obtain ⟨_, rfl, _⟩ := h; rfl
  | yld => simp only [VRel] at h; obtain ⟨_, _, rfl⟩ := h; rfl
  | agg cs => simp [AV.isSc] at hs
  | tup => simp [AV.isSc] at hs
  | undef => simp [AV.isSc] at hs
  | slc => simp only [VRel] at h; obtain ⟨_, _, rfl, _⟩ := h; rfl

theorem VRels.one_cells : ∀ {as : List AV} {vs : List Value}, VRels m X w as vs → as.all AV.isSc = true → ∀ v ∈ vs, v.oneCell' = true
  | [], [], _, _, v, hv => by simp at hv
  | a :: as, v :: vs, h, hs, u, hu => by
    simp only [VRels] at h; simp only [List.all_cons, Bool.and_eq_true] at hs
    rcases List.mem_cons.1 hu with rfl | hu
    · exact h.1.one_cell hs.1
    · exact VRels.one_cells h.2 hs.2 u hu
  | [], _ :: _, h, _, _, _ => by simp [VRels] at h
  | _ :: _, [], h, _, _, _ => by simp [VRels] at h

theorem addr_add0 (b o k : Nat) : (⟨b, o, none⟩ : Addr).add k = ⟨b, o + k, none⟩ := by
  unfold Addr.add; split
  · rename_i h; subst h; rfl
  · rfl

theorem cell_row {b off : Nat} {c : Array Value} {e : TypeId} {fr : Nat × Nat} (h : w.heap[b]? = some (.cells c e fr)) : w.cell? ⟨b, off, none⟩ = c[off]? := by
  simp [World.cell?, h]

theorem take_get {cs : List AV} {c : Array Value} (h : VRels m X w cs (c.toList.take cs.length)) {i : Nat} {a : AV} (ha : cs[i]? = some a) : ∃ v, c[i]? = some v ∧ VRel m X w a v := by
  obtain ⟨v, hv, hr⟩ := h.get i a ha
  rw [List.getElem?_take] at hv
  split at hv
  · exact ⟨v, by simpa using hv, hr⟩
  · cases hv

theorem reps_get {O : Nat → Prop} : ∀ {cs : List CV} {a : Addr} {i : Nat}, CV.reps w O cs a i → ∀ (j : Nat) (c : CV), cs[j]? = some c → ∃ v, w.cell? (a.add (i + j)) = some v ∧ c.rep w O v
  | [], a, i, _, j, c, hj => by simp at hj
  | d :: cs, a, i, h, 0, c, hj => by
    simp only [CV.reps] at h; simp at hj; subst hj
    obtain ⟨_, ⟨v, hv, hr⟩, _⟩ := h
    exact ⟨v, by simpa using hv, hr⟩
  | d :: cs, a, i, h, j + 1, c, hj => by
    simp only [CV.reps] at h; simp at hj
    obtain ⟨_, _, h⟩ := h
    obtain ⟨v, hv, hr⟩ := reps_get h j c hj
    exact ⟨v, by rw [show i + (j + 1) = i + 1 + j by omega]; exact hv, hr⟩

theorem reps_drop {O : Nat → Prop} : ∀ {cs : List CV} {a : Addr} {i : Nat} (k : Nat), CV.reps w O cs a i → CV.reps w O (cs.drop k) a (i + k)
  | [], a, i, k, _ => by simp [CV.reps]
  | c :: cs, a, i, 0, h => by simpa using h
  | c :: cs, a, i, k + 1, h => by
    simp only [CV.reps] at h
    have := reps_drop (a := a) (i := i + 1) k h.2.2
    rw [show i + (k + 1) = i + 1 + k by omega]; simpa using this

theorem reps_take {O : Nat → Prop} : ∀ {cs : List CV} {a : Addr} {i : Nat} (k : Nat), CV.reps w O cs a i → CV.reps w O (cs.take k) a i
  | [], a, i, k, _ => by simp [CV.reps]
  | c :: cs, a, i, 0, h => by simp [CV.reps]
  | c :: cs, a, i, k + 1, h => by
    simp only [CV.reps, List.take_succ_cons] at h ⊢
    exact ⟨h.1, h.2.1, reps_take k h.2.2⟩

theorem reps_shift {O : Nat → Prop} : ∀ {cs : List CV} {a : Addr} {i : Nat} (k : Nat), CV.reps w O cs a (k + i) → CV.reps w O cs (a.add k) i
  | [], a, i, k, _ => by simp [CV.reps]
  | c :: cs, a, i, k, h => by
    simp only [CV.reps] at h ⊢
    refine ⟨by rw [Addr.add_block]; exact h.1, ?_, reps_shift k (by rw [show k + (i + 1) = k + i + 1 by omega]; exact h.2.2)⟩
    rw [Addr.add_add]; exact h.2.1

/-- The values that a row of closed cells holds. -/
theorem reps_vals : ∀ {cs : List CV} {a : Addr} {i : Nat}, CV.reps w (Own m X) cs a i → ∃ vs : List Value, vs.length = cs.length ∧ VRels m X w (cs.map .cv) vs ∧ ∀ (j : Nat) (v : Value), vs[j]? = some v → w.cell? (a.add (i + j)) = some v
  | [], a, i, _ => ⟨[], rfl, by simp [VRels], by simp⟩
  | c :: cs, a, i, h => by
    simp only [CV.reps] at h
    obtain ⟨_, ⟨v, hv, hr⟩, h⟩ := h
    obtain ⟨vs, h1, h2, h3⟩ := reps_vals h
    refine ⟨v :: vs, by simp [h1], by simp only [List.map_cons, VRels, VRel]; exact ⟨hr, h2⟩, fun j u hj => ?_⟩
    cases j with
    | zero => simp at hj; subst hj; simpa using hv
    | succ j => simp at hj; rw [show i + (j + 1) = i + 1 + j by omega]; exact h3 j u hj

theorem setRange_length {α : Type} : ∀ (vs : List α) (l : List α) (off : Nat), (setRange l off vs).length = l.length
  | [], l, off => rfl
  | v :: vs, l, off => by simp only [setRange, setRange_length vs, List.length_set]

theorem setRange_take {α : Type} : ∀ (vs : List α) (l : List α) (off n : Nat), (setRange l off vs).take n = setRange (l.take n) off vs
  | [], l, off, n => rfl
  | v :: vs, l, off, n => by simp only [setRange]; rw [setRange_take vs, List.take_set]

theorem setRange_eq {α : Type} : ∀ (vs : List α) (l : List α) (off : Nat), off + vs.length ≤ l.length → setRange l off vs = l.take off ++ vs ++ l.drop (off + vs.length)
  | [], l, off, h => by simp [setRange]
  | v :: vs, l, off, h => by
    simp only [setRange, List.length_cons] at h ⊢
    rw [setRange_eq vs (l.set off v) (off + 1) (by simp; omega)]
    have h1 : (l.set off v).take (off + 1) = l.take off ++ [v] := by
      rw [List.take_succ_eq_append_getElem (by simp; omega)]
      simp [List.take_set, List.set_eq_of_length_le (l := List.take off l) (i := off) (a := v) (by simp; omega)]
    have h2 : (l.set off v).drop (off + 1 + vs.length) = l.drop (off + (vs.length + 1)) := by
      rw [List.drop_set_of_lt (by omega)]; congr 1; omega
    rw [h1, h2]; simp

theorem VRels.setRange : ∀ {bs : List AV} {vs : List Value} {as : List AV} {us : List Value} (off : Nat), VRels m X w as us → VRels m X w bs vs → VRels m X w (Go.Proofs.Ytphdemhopihpnaa.AM.setRange as off bs) (Go.Proofs.Ytphdemhopihpnaa.AM.setRange us off vs)
  | [], [], _, _, _, h, _ => by simpa [AM.setRange] using h
  | b :: bs, v :: vs, _, _, off, h, g => by
    simp only [VRels, AM.setRange] at g ⊢
    exact VRels.setRange (off + 1) (h.set off g.1) g.2
  | [], _ :: _, _, _, _, _, g => by simp [VRels] at g
  | _ :: _, [], _, _, _, _, g => by simp [VRels] at g

end Go.Proofs.Ytphdemhopihpnaa.AM


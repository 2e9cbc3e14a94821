/- Examiners in another order, in plain Lean: as many ways, the same tests that are short. -/
import Derived.Test.YtphdemhopihpnaaKLotN1
namespace Go.Proofs.Ytphdemhopihpnaa.AM
open Go Go.Proofs.Ytphdemhopihpnaa.Pl
set_option linter.unusedVariables false
set_option linter.unusedSimpArgs false

theorem perm_sum {a b : List Int} (h : a.Perm b) : a.sum = b.sum := by
  induction h with
  | nil => rfl
  | cons x _ ih => simp [ih]
  | swap x y l => simp; omega
  | trans _ _ h1 h2 => rw [h1, h2]

/-- a list in another order -/
def perL (o : List Nat) (ts : List Int) : List Int := o.map fun j => ts[j]?.getD 0
theorem perL_len (o : List Nat) (ts : List Int) : (perL o ts).length = o.length := by simp [perL]
theorem perL_get {o : List Nat} {ts : List Int} {i : Nat} (h : i < o.length) : (perL o ts)[i]?.getD 0 = ts[o[i]]?.getD 0 := by
  simp [perL, h]

theorem range_map {o : List Nat} {E : Nat} (ho : o.Perm (List.range E)) (g : Nat → Int) : ((List.range E).map fun i => g (o[i]?.getD 0)).sum = ((List.range E).map g).sum := by
  have hl : o.length = E := by rw [ho.length_eq]; simp
  have e : (List.range E).map (fun i => g (o[i]?.getD 0)) = o.map g := by
    refine List.ext_getElem (by simp [hl]) fun i h1 h2 => ?_
    simp only [List.length_map, List.length_range] at h1
    simp [show i < o.length by omega]
  rw [e]
  exact perm_sum (ho.map g)

/-- what another order of examiners is to the draw -/
structure PerOk (o : List Nat) (E : Nat) (ks ks' : List Int) : Prop where
  ho : o.Perm (List.range E)
  hl : ks'.length = ks.length
  hb : ∀ t i, t < ks.length → i < E → (ks'[t]?.getD 0).toNat.testBit i = (ks[t]?.getD 0).toNat.testBit (o[i]?.getD 0)

theorem PerOk.len {o : List Nat} {E : Nat} {ks ks' : List Int} (h : PerOk o E ks ks') : o.length = E := by rw [h.ho.length_eq]; simp
theorem PerOk.lt {o : List Nat} {E : Nat} {ks ks' : List Int} (h : PerOk o E ks ks') {i : Nat} (hi : i < E) : o[i]?.getD 0 < E := by
  have hl := h.len
  have hm : o[i]'(by omega) ∈ o := List.getElem_mem _
  have := h.ho.mem_iff.1 hm
  rw [List.mem_range] at this
  rw [List.getElem?_eq_getElem (by omega)]; exact this
theorem PerOk.inj {o : List Nat} {E : Nat} {ks ks' : List Int} (h : PerOk o E ks ks') {i j : Nat} (hi : i < E) (hj : j < E) (he : o[i]?.getD 0 = o[j]?.getD 0) : i = j := by
  have hl := h.len
  have hn : o.Nodup := h.ho.nodup_iff.2 List.nodup_range
  rw [List.getElem?_eq_getElem (by omega), List.getElem?_eq_getElem (by omega)] at he
  exact (List.getElem_inj hn).1 he

theorem perL_less {o : List Nat} {E : Nat} {ks ks' : List Int} (h : PerOk o E ks ks') {ts : List Int} (hts : ts.length = E) {i : Nat} (hi : i < E) : perL o (lessF ts (o[i]?.getD 0)) = lessF (perL o ts) i := by
  have hl := h.len
  refine List.ext_getElem (by simp [perL, lessF]) fun k h1 h2 => ?_
  have hk : k < E := by simp [perL] at h1; omega
  have hok := h.lt hk
  have hoi := h.lt hi
  have e1 : (perL o (lessF ts (o[i]?.getD 0)))[k] = (lessF ts (o[i]?.getD 0))[o[k]?.getD 0]?.getD 0 := by simp [perL, show k < o.length by omega]
  have e2 : (lessF (perL o ts) i)[k] = if i = k then (perL o ts)[i]?.getD 0 - 1 else ts[o[k]?.getD 0]?.getD 0 := by
    simp only [lessF, List.getElem_set]
    split
    · rfl
    · simp [perL, show k < o.length by omega]
  rw [e1, e2]
  by_cases he : i = k
  · subst he
    rw [if_pos rfl, perL_get (by omega)]
    unfold lessF
    rw [List.getElem?_set_self (by omega)]
    simp [show i < o.length by omega]
  · rw [if_neg he]
    unfold lessF
    rw [List.getElem?_set_ne fun hh => he (h.inj hi hk hh)]

theorem waysF_per {o : List Nat} {E : Nat} {ks ks' : List Int} (h : PerOk o E ks ks') : ∀ (r : Nat) (ts : List Int), r ≤ ks.length → ts.length = E → waysF ks' r (perL o ts) = waysF ks r ts
  | 0, _, _, _ => rfl
  | r + 1, ts, hr, hts => by
    have hl := h.len
    simp only [waysF]
    rw [perL_len, hl, hts, ← range_map h.ho fun i => if canB ks ts (ks.length - (r + 1)) i then waysF ks r (ts.set i (ts[i]?.getD 0 - 1)) else 0]
    congr 1
    refine List.map_congr_left fun i hi => ?_
    rw [List.mem_range] at hi
    have h1 : canB ks' (perL o ts) (ks'.length - (r + 1)) i = canB ks ts (ks.length - (r + 1)) (o[i]?.getD 0) := by
      unfold canB
      rw [h.hl, h.hb _ i (by omega) hi, perL_get (by omega)]
      simp [show i < o.length by omega]
    rw [h1]
    have h2 := waysF_per h r (lessF ts (o[i]?.getD 0)) (by omega) (by simp [lessF, hts])
    rw [perL_less h hts hi] at h2
    show (if _ then waysF ks' r (lessF (perL o ts) i) else 0) = _
    rw [h2]

theorem times_sum (ts ks : List Int) (s : Nat) : ∀ i, timesD ts ks s i = ((List.range i).map fun i => if anyN (fun t => s.testBit t && canT ks t i) ks.length = true then ts[i]?.getD 0 else 0).sum
  | 0 => rfl
  | i + 1 => by
    rw [List.range_succ, List.map_append, List.sum_append, ← times_sum ts ks s i, timesD]
    split
    · rename_i h; simp [h]
    · rename_i h; simp [h]

theorem lack_per {o : List Nat} {E : Nat} {ks ks' : List Int} (h : PerOk o E ks ks') {ts : List Int} (hts : ts.length = E) (s : Nat) : lackB (perL o ts) ks' s = lackB ts ks s := by
  have hl := h.len
  rw [lack_eq, lack_eq]
  unfold lackD
  rw [h.hl, perL_len, hl, hts, times_sum, times_sum]
  have e : ((List.range E).map fun i => if anyN (fun t => s.testBit t && canT ks' t i) ks'.length = true then (perL o ts)[i]?.getD 0 else 0) = (List.range E).map fun i => (fun j => if anyN (fun t => s.testBit t && canT ks t j) ks.length = true then ts[j]?.getD 0 else 0) (o[i]?.getD 0) := by
    refine List.map_congr_left fun i hi => ?_
    rw [List.mem_range] at hi
    have h1 : anyN (fun t => s.testBit t && canT ks' t i) ks'.length = anyN (fun t => s.testBit t && canT ks t (o[i]?.getD 0)) ks.length := by
      rw [Bool.eq_iff_iff, anyN_true, anyN_true, h.hl]
      constructor
      · rintro ⟨t, ht, hh⟩
        refine ⟨t, ht, ?_⟩
        unfold canT at hh ⊢
        rw [h.hb t i ht hi] at hh; exact hh
      · rintro ⟨t, ht, hh⟩
        refine ⟨t, ht, ?_⟩
        unfold canT at hh ⊢
        rw [h.hb t i ht hi]; exact hh
    rw [h1, perL_get (by omega)]
    simp [show i < o.length by omega]
  rw [e, range_map h.ho fun j => if anyN (fun t => s.testBit t && canT ks t j) ks.length = true then ts[j]?.getD 0 else 0]

theorem short_per {o : List Nat} {E : Nat} {ks ks' : List Int} (h : PerOk o E ks ks') {ts : List Int} (hts : ts.length = E) : shortQ (perL o ts) ks' = shortQ ts ks := by
  unfold shortQ
  rw [h.hl, waysF_per h _ _ (Nat.le_refl _) hts, show lackB (perL o ts) ks' = lackB ts ks from funext fun s => lack_per h hts s]

/-- the order that turns lead to -/
def ordF (xs : List Nat) : Nat → List Nat
  | 0 => []
  | i + 1 => (ordF xs i).take (turnF xs i % (i + 1)) ++ i :: (ordF xs i).drop (turnF xs i % (i + 1))
theorem ordF_perm (xs : List Nat) : ∀ i, (ordF xs i).Perm (List.range i)
  | 0 => .nil
  | i + 1 => by
    unfold ordF
    refine List.perm_middle.trans ?_
    rw [List.take_append_drop, List.range_succ]
    exact ((ordF_perm xs i).cons i).trans (List.perm_append_singleton i _).symm
theorem ordF_len (xs : List Nat) (i : Nat) : (ordF xs i).length = i := by rw [(ordF_perm xs i).length_eq]; simp

/-- the sets in another order -/
def perK (o : List Nat) (ks : List Int) : List Int := ks.map fun z => ((ofB o.length fun i => z.toNat.testBit (o[i]?.getD 0) : Nat) : Int)
theorem perK_ok (xs : List Nat) (E : Nat) (ks : List Int) : PerOk (ordF xs E) E ks (perK (ordF xs E) ks) := by
  refine ⟨ordF_perm xs E, by simp [perK], fun t i ht hi => ?_⟩
  simp only [perK, List.getElem?_map, List.getElem?_eq_getElem ht, Option.map_some, Option.getD_some, Int.toNat_natCast]
  rw [ofB_bit _ _ i (by rw [ordF_len]; exact hi)]
theorem per_draw {xs : List Nat} {ts ks : List Int} (hok : DrawOk ts ks) : DrawOk (perL (ordF xs ts.length) ts) (perK (ordF xs ts.length) ks) := by
  have hp := perK_ok xs ts.length ks
  have hl := ordF_len xs ts.length
  refine ⟨by rw [perL_len, hl]; exact hok.tl, by rw [hp.hl]; exact hok.kl, fun j hj => ?_, fun j hj => ?_⟩
  · rw [perL_len, hl] at hj
    rw [perL_get (by omega)]
    have := hok.tr _ (hp.lt hj)
    rw [List.getElem?_eq_getElem (show j < (ordF xs ts.length).length by omega)] at this
    exact this
  · rw [hp.hl] at hj
    simp only [perK, List.getElem?_map, List.getElem?_eq_getElem hj, Option.map_some, Option.getD_some]
    have := ofB_lt (fun i => (ks[j].toNat).testBit ((ordF xs ts.length)[i]?.getD 0)) (ordF xs ts.length).length
    rw [perL_len, hl]
    rw [hl] at this
    unfold capF
    refine ⟨Int.natCast_nonneg _, ?_⟩
    omega

end Go.Proofs.Ytphdemhopihpnaa.AM

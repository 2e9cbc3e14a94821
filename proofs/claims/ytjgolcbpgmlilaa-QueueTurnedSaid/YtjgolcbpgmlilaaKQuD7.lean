/- Lists in another order are valid; where each learner is put, by turns; in plain Lean. -/
import Derived.Test.YtjgolcbpgmlilaaKQuD6
namespace Go.Proofs.Ytjgolcbpgmlilaa.AM
open Go Go.Proofs.Ytjgolcbpgmlilaa.Qu Pl
set_option linter.unusedVariables false

section
variable {q q' : QL} {s : List Nat} (hs : s.Perm (List.range q.ls.length)) (hc : q'.cs = q.cs) (hl : q'.ls = s.map fun i => q.ls[i]!)
include hs

theorem turn_len : s.length = q.ls.length := by have := hs.length_eq; simpa using this
theorem turn_lt {k : Nat} (hk : k < q.ls.length) : s.getD k 0 < q.ls.length := by
  have hn := turn_len hs
  have : s.getD k 0 ∈ s := by
    rw [List.getD_eq_getElem?_getD, List.getElem?_eq_getElem (by omega)]
    exact List.getElem_mem _
  simpa using (hs.mem_iff (a := s.getD k 0)).1 this
theorem turn_inj {k k' : Nat} (hk : k < q.ls.length) (hk' : k' < q.ls.length) (e : s.getD k 0 = s.getD k' 0) : k = k' := by
  have hn := turn_len hs
  have hnd : s.Nodup := hs.nodup_iff.2 List.nodup_range
  refine Mk.nodup_idx hnd (c := s.getD k 0) ?_ ?_
  · rw [List.getD_eq_getElem?_getD, List.getElem?_eq_getElem (by omega)]; rfl
  · rw [e, List.getD_eq_getElem?_getD, List.getElem?_eq_getElem (by omega)]; rfl
include hl
theorem turn_get {k : Nat} (hk : k < q.ls.length) : q'.ls[k]! = q.ls[s.getD k 0]! := by
  have hn := turn_len hs
  rw [hl]; simp [hn, hk]
theorem turn_ll : q'.ls.length = q.ls.length := by rw [hl, List.length_map]; exact turn_len hs
include hc
theorem valid_turn (he : eQ q = 0) : eQ q' = 0 := by
  obtain ⟨h1, h2, h3, _⟩ := valid_iff (q := q) he
  obtain ⟨_, _, hL, _⟩ := val_of he
  have hll := turn_ll hs hl
  refine valid_of ⟨by rw [hc]; exact h1.1, by rw [hc]; exact h1.2.1, by rw [hll]; exact h1.2.2⟩ (fun c hc' => by rw [cenE_cs hc]; exact h2 c (by rw [← hc]; exact hc')) fun k hk => ?_
  rw [hll] at hk
  have hg := turn_get hs hl hk
  have hlt := turn_lt hs hk
  refine leaE_to (q := q) (q' := q') (by rw [hc]) (h3 _ hlt) (by rw [hg]; exact ⟨rfl, rfl, rfl, rfl⟩) (fun j hj => ?_) (by rw [hg]; exact (hL _ hlt).wi) (by rw [hg]; exact (hL _ hlt).nd)
  rw [hg, turn_get hs hl (by omega)]
  have hne : s.getD j 0 ≠ s.getD k 0 := fun e => by have := turn_inj hs (by omega) hk e; omega
  rcases Nat.lt_or_gt_of_ne hne with g | g
  · exact (hL _ hlt).nm _ g
  · exact Ne.symm ((hL _ (turn_lt hs (by omega))).nm _ g)
theorem qsz_turn (hq : QSz q) : QSz q' := by
  have hll := turn_ll hs hl
  refine ⟨by rw [hc]; exact hq.cs, by rw [hll]; exact hq.ls, by rw [hc]; exact hq.nm, by rw [hc]; exact hq.ru, fun k hk => ?_, fun k hk => ?_⟩
  · rw [hll] at hk; rw [turn_get hs hl hk]; exact hq.lm _ (turn_lt hs hk)
  · rw [hll] at hk; rw [turn_get hs hl hk]; exact hq.wi _ (turn_lt hs hk)
end

/-- where a learner is put -/
def atQ (xs : List Int) (i : Nat) : Nat := if 0 < xs.length then (xs[i % xs.length]?.getD 0).toNat % (i + 1) else 0
def insS (xs : List Int) : Nat → List Nat
  | 0 => []
  | i + 1 => (insS xs i).take (atQ xs i) ++ [i] ++ (insS xs i).drop (atQ xs i)

theorem at_le (xs : List Int) (i : Nat) : atQ xs i ≤ i := by
  unfold atQ
  split
  · have := Nat.mod_lt (xs[i % xs.length]?.getD 0).toNat (show 0 < i + 1 by omega); omega
  · exact Nat.zero_le _
theorem insS_perm (xs : List Int) : ∀ i, (insS xs i).Perm (List.range i)
  | 0 => by simp [insS]
  | i + 1 => by
    have ih := insS_perm xs i
    rw [List.range_succ]
    unfold insS
    have h1 : ((insS xs i).take (atQ xs i) ++ [i] ++ (insS xs i).drop (atQ xs i)).Perm ([i] ++ (insS xs i)) := by
      have h2 : ((insS xs i).take (atQ xs i) ++ [i]).Perm ([i] ++ (insS xs i).take (atQ xs i)) := List.perm_append_comm
      have h3 := h2.append_right ((insS xs i).drop (atQ xs i))
      rwa [List.append_assoc [i], List.take_append_drop] at h3
    exact h1.trans ((List.Perm.append_left [i] ih).trans List.perm_append_comm)
theorem insS_len (xs : List Int) (i : Nat) : (insS xs i).length = i := by have := (insS_perm xs i).length_eq; simpa using this

end Go.Proofs.Ytjgolcbpgmlilaa.AM

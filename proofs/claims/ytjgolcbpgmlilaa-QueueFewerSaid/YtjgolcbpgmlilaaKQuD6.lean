/- Lists that are valid: other wishes; another order; in plain Lean. -/
import Derived.Test.YtjgolcbpgmlilaaZ44
namespace Go.Proofs.Ytjgolcbpgmlilaa.AM
open Go Go.Proofs.Ytjgolcbpgmlilaa.Qu Pl
set_option linter.unusedVariables false

theorem firstE_no {f : Nat → Int} : ∀ {n i : Nat}, (∀ k, i ≤ k → k < i + n → f k = 0) → firstE f n i = none
  | 0, i, _ => rfl
  | n + 1, i, h => by
    unfold firstE
    rw [if_neg (by simpa using h i (by omega) (by omega))]
    exact firstE_no fun k h1 h2 => h k (by omega) (by omega)

theorem valid_of {q : QL} (h1 : 1 ≤ q.cs.length ∧ q.cs.length ≤ 5 ∧ q.ls.length ≤ 8) (h2 : ∀ i, i < q.cs.length → cenE q i = 0) (h3 : ∀ i, i < q.ls.length → leaE q i = 0) : eQ q = 0 := by
  unfold eQ checkQ
  rw [if_neg (by omega), firstE_no (fun k _ hk => h2 k (by omega)), firstE_no (fun k _ hk => h3 k (by omega))]

theorem unl_to {many : Int} : ∀ {l seen : List Int}, (∀ x ∈ l, 0 ≤ x ∧ x < many) → l.Nodup → (∀ x ∈ l, x ∉ seen) → unl many seen l = 0
  | [], _, _, _, _ => rfl
  | x :: l, seen, h1, h2, h3 => by
    unfold unl
    have := h1 x (by simp)
    rw [if_neg (by omega), if_neg (h3 x (by simp))]
    rw [List.nodup_cons] at h2
    refine unl_to (fun y hy => h1 y (by simp [hy])) h2.2 fun y hy hs => ?_
    rcases List.mem_append.1 hs with hs | hs
    · exact h3 y (by simp [hy]) hs
    · rw [List.mem_singleton] at hs
      subst hs
      exact h2.1 hy

theorem cenE_cs {q q' : QL} (h : q'.cs = q.cs) (i : Nat) : cenE q' i = cenE q i := by unfold cenE; rw [h]

/-- the names of the learners up to one, and that one but for the wishes -/
theorem leaE_to {q q' : QL} {i k : Nat} (hc : q'.cs.length = q.cs.length) (h : leaE q k = 0) (hf : (q'.ls[i]!).nm = (q.ls[k]!).nm ∧ (q'.ls[i]!).si = (q.ls[k]!).si ∧ (q'.ls[i]!).ho = (q.ls[k]!).ho ∧ (q'.ls[i]!).fa = (q.ls[k]!).fa)
    (hn : ∀ j, j < i → (q'.ls[j]!).nm ≠ (q'.ls[i]!).nm) (hw : ∀ x ∈ (q'.ls[i]!).wi, 0 ≤ x ∧ x < q.cs.length) (hd : (q'.ls[i]!).wi.Nodup) : leaE q' i = 0 := by
  obtain ⟨f1, f2, f3, f4⟩ := hf
  unfold leaE at h ⊢
  simp only at h ⊢
  rw [← f1, ← f2, ← f3, ← f4] at h
  by_cases h1 : nameOk (q'.ls[i]!).nm = false
  · rw [if_pos h1] at h; exact absurd h (by decide)
  rw [if_neg h1] at h ⊢
  by_cases h2 : ∃ j, j < k ∧ (q.ls[j]!).nm = (q'.ls[i]!).nm
  · rw [if_pos h2] at h; exact absurd h (by decide)
  rw [if_neg h2] at h
  rw [if_neg (by rintro ⟨j, hj, e⟩; exact hn j hj e)]
  by_cases h3 : ((q'.ls[i]!).si < 0 ∨ 40000 < (q'.ls[i]!).si) ∨ ((q'.ls[i]!).fa < 0 ∨ 20 < (q'.ls[i]!).fa)
  · rw [if_pos h3] at h; exact absurd h (by decide)
  rw [if_neg h3] at h ⊢
  rw [hc]
  by_cases h4 : (q'.ls[i]!).ho < -1 ∨ (q.cs.length : Int) - 1 < (q'.ls[i]!).ho
  · rw [if_pos h4] at h; exact absurd h (by decide)
  rw [if_neg h4] at h ⊢
  exact unl_to hw hd (by simp)

theorem valid_wish {q : QL} (he : eQ q = 0) {i : Nat} (hi : i < q.ls.length) {v : List Int} (hv : ∀ x ∈ v, 0 ≤ x ∧ x < q.cs.length) (hd : v.Nodup) : eQ (wishQ q i v) = 0 := by
  obtain ⟨h1, h2, h3, _⟩ := valid_iff (q := q) he
  obtain ⟨_, _, hL, _⟩ := val_of he
  have hl : (wishQ q i v).ls.length = q.ls.length := by simp [wishQ]
  have hf : ∀ k : Nat, ((wishQ q i v).ls[k]!).nm = (q.ls[k]!).nm ∧ ((wishQ q i v).ls[k]!).si = (q.ls[k]!).si ∧ ((wishQ q i v).ls[k]!).ho = (q.ls[k]!).ho ∧ ((wishQ q i v).ls[k]!).fa = (q.ls[k]!).fa := by
    intro k
    rw [wishQ_get q hi]
    by_cases h : k = i <;> simp [h]
  refine valid_of ⟨h1.1, h1.2.1, by rw [hl]; exact h1.2.2⟩ (fun c hc => by rw [cenE_cs rfl]; exact h2 c hc) fun k hk => ?_
  rw [hl] at hk
  refine leaE_to (q := q) (q' := wishQ q i v) rfl (h3 k hk) (hf k) (fun j hj => by rw [(hf j).1, (hf k).1]; exact (hL k hk).nm j hj) ?_ ?_
  · rw [wishQ_get q hi]
    by_cases e : k = i
    · rw [if_pos e]; exact hv
    · rw [if_neg e]; exact (hL k hk).wi
  · rw [wishQ_get q hi]
    by_cases e : k = i
    · rw [if_pos e]; exact hd
    · rw [if_neg e]; exact (hL k hk).nd

theorem qsz_wish {q : QL} (hq : QSz q) {i : Nat} (hi : i < q.ls.length) {v : List Int} (hv : v.length < 2 ^ 63) : QSz (wishQ q i v) := by
  have hl : (wishQ q i v).ls.length = q.ls.length := by simp [wishQ]
  refine ⟨hq.cs, by rw [hl]; exact hq.ls, hq.nm, hq.ru, fun k hk => ?_, fun k hk => ?_⟩
  · rw [hl] at hk
    rw [wishQ_get q hi]
    split
    · exact hq.lm i hi
    · exact hq.lm k hk
  · rw [hl] at hk
    rw [wishQ_get q hi]
    split
    · exact hv
    · exact hq.wi k hk

/-- wishes by numbers: each centre once -/
def wlQ (m : Nat) (xs : List Int) : Nat → List Int
  | 0 => []
  | k + 1 => if (wlQ m xs k).any (· == (((xs[k]?.getD 0).toNat % m : Nat) : Int)) = true then wlQ m xs k else wlQ m xs k ++ [(((xs[k]?.getD 0).toNat % m : Nat) : Int)]

theorem wl_ok {m : Nat} (hm : 0 < m) (xs : List Int) : ∀ k, (∀ x ∈ wlQ m xs k, 0 ≤ x ∧ x < m) ∧ (wlQ m xs k).Nodup
  | 0 => ⟨by simp [wlQ], by simp [wlQ]⟩
  | k + 1 => by
    obtain ⟨h1, h2⟩ := wl_ok hm xs k
    unfold wlQ
    split
    · exact ⟨h1, h2⟩
    · rename_i h
      have hlt := Nat.mod_lt (xs[k]?.getD 0).toNat hm
      refine ⟨fun x hx => ?_, ?_⟩
      · rcases List.mem_append.1 hx with hx | hx
        · exact h1 x hx
        · rw [List.mem_singleton] at hx; omega
      · rw [List.nodup_append]
        refine ⟨h2, by simp, fun a ha b hb => ?_⟩
        rw [List.mem_singleton] at hb
        intro e
        apply h
        rw [List.any_eq_true]
        exact ⟨a, ha, by simp [e, hb]⟩
theorem wl_len {m : Nat} (hm : 0 < m) (xs : List Int) (k : Nat) : (wlQ m xs k).length ≤ m := by
  obtain ⟨h1, h2⟩ := wl_ok hm xs k
  have hs : ((wlQ m xs k).map Int.toNat).Nodup := by
    rw [List.Nodup, List.pairwise_map]
    refine h2.imp_of_mem ?_
    intro a b ha hb hne e
    have := h1 a ha
    have := h1 b hb
    omega
  have hsub : (wlQ m xs k).map Int.toNat ⊆ List.range m := by
    intro x hx
    obtain ⟨y, hy, rfl⟩ := List.mem_map.1 hx
    have := h1 y hy
    rw [List.mem_range]; omega
  have := hs.length_le_of_subset hsub
  simpa using this

end Go.Proofs.Ytjgolcbpgmlilaa.AM

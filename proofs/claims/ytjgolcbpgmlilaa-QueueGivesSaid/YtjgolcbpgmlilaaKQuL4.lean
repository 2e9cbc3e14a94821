/- The law QueueGives, by the contracts. -/
import Derived.Test.YtjgolcbpgmlilaaZ44
import Derived.Test.YtjgolcbpgmlilaaKQuI4
namespace Go.Proofs.Ytjgolcbpgmlilaa.AM
open Go Go.Proofs.Ytjgolcbpgmlilaa.Qu
set_option linter.unusedVariables false
set_option linter.unusedSimpArgs false

theorem giveV_at (q : QL) : ∃ (zs : List Int) (e : Int), giveV q = .tup [ints zs, .i e] ∧ zs.length ≤ q.ls.length := by
  unfold giveV
  split
  · exact ⟨_, _, rfl, by rw [giveQ_len]; exact Nat.le_refl _⟩
  · exact ⟨[], _, rfl, Nat.zero_le _⟩
theorem cutV_at (q : QL) : ∃ (zs : List Int) (e : Int), cutV q = .tup [ints zs, .i e] ∧ zs.length ≤ q.cs.length := by
  unfold cutV
  split
  · exact ⟨_, _, rfl, by rw [cutQ_list, listN_len]; exact Nat.le_refl _⟩
  · exact ⟨[], _, rfl, Nat.zero_le _⟩

theorem lc4 (q : QL) (hq : QSz q) : AC Try.prog 4 [qV q] [] fun r _ => r = .b true := by
  refine AC_FE (fok4 true) (Nat.le_of_ble_eq_true rfl) ?_
  have hcs := hq.cs
  have hls := hq.ls
  obtain ⟨g, e, hg, hgl⟩ := giveV_at q
  obtain ⟨k, f, hk, hkl⟩ := cutV_at q
  have d1 : decide (g = g) = true := decide_eq_true rfl
  have d2 : decide (k = k) = true := decide_eq_true rfl
  simp only [ic4, evA, if_true, if_false, beq_false, simprocAttr]
  refine (c22 q hq).call ?_
  simp only [hg, evA, if_true, if_false, beq_false, simprocAttr]
  refine (c23 q hq).call ?_
  simp only [hg, evA, if_true, if_false, beq_false, simprocAttr]
  refine (c20 g g (by omega)).call frz ?_
  simp only [d1, evA, if_true, if_false, beq_false, simprocAttr]
  refine (c24 q hq).call frz ?_
  simp only [hk, evA, if_true, if_false, beq_false, simprocAttr]
  refine (c25 q hq).call frz ?_
  simp only [hk, evA, if_true, if_false, beq_false, simprocAttr]
  refine (c20 k k (by omega)).call frz ?_
  simp only [d2, evA, if_true, if_false, beq_false, simprocAttr]
  refine c21.call .nil ?_
  simp only [evA, if_true, if_false, beq_false, simprocAttr]

theorem law_QueueGives (avs : List AV) (h : Args Try.prog Try.f4.params.toList avs) : AC Try.prog 4 avs [] fun r _ => r = .b true := by
  have h : Args Try.prog [25] avs := h
  obtain ⟨cs1, avs, rfl, h1, h⟩ := args_cons h
  cases args_nil h
  obtain ⟨q, e, hq⟩ := typed_q h1
  rw [e]
  exact lc4 q hq

end Go.Proofs.Ytjgolcbpgmlilaa.AM

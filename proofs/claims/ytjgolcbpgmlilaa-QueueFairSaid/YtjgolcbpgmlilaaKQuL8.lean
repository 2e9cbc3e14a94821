/- The law QueueFair, by the contracts. -/
import Derived.Test.YtjgolcbpgmlilaaZ44
import Derived.Test.YtjgolcbpgmlilaaKQuI8
namespace Go.Proofs.Ytjgolcbpgmlilaa.AM
open Go Go.Proofs.Ytjgolcbpgmlilaa.Qu
set_option linter.unusedVariables false
set_option linter.unusedSimpArgs false

theorem lc8 (q : QL) (hq : QSz q) : AC Try.prog 8 [qV q] [] fun r _ => r = .b true := by
  refine AC_FE (fok8 true) (Nat.le_of_ble_eq_true rfl) ?_
  simp only [ic8, evA, if_true, if_false, beq_false, simprocAttr]
  refine (c22 q hq).call ?_
  by_cases he : eQ q = 0
  · have hg : giveV q = .tup [ints (giveQ q), .i 0] := by unfold giveV; rw [if_pos he]
    have hgl := giveQ_len q
    have hl := (val_of he).2.1
    have hv := accV_of (give_acc he)
    simp only [hg, evA, if_true, if_false, beq_false, simprocAttr]
    refine (c26 q hq (giveQ q) (by omega)).call frz ?_
    simp only [hv, evA, if_true, if_false, beq_false, simprocAttr]
    refine (c34 q hq).call frz ?_
    simp only [he, hgl, evA, if_true, if_false, beq_false, simprocAttr]
    refine c21.call .nil ?_
    simp only [evA, if_true, if_false, beq_false, simprocAttr]
  · have hg : giveV q = .tup [ints [], .i (eQ q)] := by unfold giveV; rw [if_neg he]
    have hv := accV_of (accQ_e (g := []) he)
    have hb := bne_t he
    have hb2 : (eQ q == 0) = false := beq_f he
    simp only [hg, evA, if_true, if_false, beq_false, simprocAttr]
    refine (c26 q hq [] (by decide)).call frz ?_
    simp only [hv, evA, if_true, if_false, beq_false, simprocAttr]
    refine (c34 q hq).call frz ?_
    simp only [hb, hb2, evA, if_true, if_false, beq_false, simprocAttr]
    refine c21.call .nil ?_
    simp only [evA, if_true, if_false, beq_false, simprocAttr]

theorem law_QueueFair (avs : List AV) (h : Args Try.prog Try.f8.params.toList avs) : AC Try.prog 8 avs [] fun r _ => r = .b true := by
  have h : Args Try.prog [25] avs := h
  obtain ⟨cs1, avs, rfl, h1, h⟩ := args_cons h
  cases args_nil h
  obtain ⟨q, e, hq⟩ := typed_q h1
  rw [e]
  exact lc8 q hq

end Go.Proofs.Ytjgolcbpgmlilaa.AM

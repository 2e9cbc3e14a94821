/- The law QueueBest, by the contracts. -/
import Derived.Test.YtjgolcbpgmlilaaZ44
import Derived.Test.YtjgolcbpgmlilaaKQuI9
namespace Go.Proofs.Ytjgolcbpgmlilaa.AM
open Go Go.Proofs.Ytjgolcbpgmlilaa.Qu Pl
set_option linter.unusedVariables false
set_option linter.unusedSimpArgs false

theorem lc9 (q : QL) (hq : QSz q) (d : List Int) (hd : d.length < 2 ^ 63) : AC Try.prog 9 [qV q, ints d] [] fun r _ => r = .b true := by
  refine AC_FE (fok9 true) (Nat.le_of_ble_eq_true rfl) ?_
  obtain ⟨a, b, f, hv, hf⟩ : ∃ a b c, accV q d = .tup [.i a, .i b, .i c] ∧ c = (accQ q d).2.2 := ⟨_, _, _, rfl, rfl⟩
  simp only [ic9, evA, if_true, if_false, beq_false, simprocAttr]
  refine (c22 q hq).call ?_
  by_cases he : eQ q = 0
  rotate_left
  · have hb := bne_t he
    have hb2 : (eQ q == 0) = false := beq_f he
    simp only [giveV_no he, evA, if_true, if_false, beq_false, simprocAttr]
    refine (c26 q hq d hd).call frz ?_
    simp only [hv, hb, evA, if_true, if_false, beq_false, simprocAttr]
    refine (c34 q hq).call frz ?_
    simp only [hb2, evA, if_true, if_false, beq_false, simprocAttr]
    refine c21.call .nil ?_
    simp only [evA, if_true, if_false, beq_false, simprocAttr]
  simp only [giveV_ok he, evA, if_true, if_false, beq_false, simprocAttr]
  refine (c26 q hq d hd).call frz ?_
  simp only [hv, evA, if_true, if_false, beq_false, simprocAttr]
  refine (c34 q hq).call frz ?_
  by_cases h0 : f = 0
  rotate_left
  · have hb := bne_t h0
    simp only [he, hb, evA, if_true, if_false, beq_false, simprocAttr]
    refine (c34 q hq).call frz ?_
    simp only [he, evA, if_true, if_false, beq_false, simprocAttr]
    refine c21.call .nil ?_
    simp only [evA, if_true, if_false, beq_false, simprocAttr]
  have hA := acc_of he (h0 ▸ hf).symm
  obtain ⟨h5, h8, hL, hC⟩ := val_of he
  have hdl := hA.ok.1
  have hgl := giveQ_len q
  have hls := hq.ls
  simp only [he, h0, hgl, hdl, evA, if_true, if_false, beq_false, simprocAttr]
  refine IL_for q.ls.length (fun i s => ∃ v8 v9 v10 v11, s = ⟨[qV q, ints d, .ptr 0 0, .b false, ints (giveQ q), .i 0, .i 0, .i i, v8, v9, v10, v11], [.cells [cenL q.cs, leaL q.ls]]⟩) ?_ 0 (Nat.zero_le _) ⟨_, _, _, _, rfl⟩
  rintro i s hi ⟨v8, v9, v10, v11, rfl⟩
  by_cases h : i < q.ls.length
  rotate_left
  · simp only [ic9l0, hgl, Int.ofNat_lt, h, evA, if_true, if_false, beq_false, simprocAttr]
    refine c21.call .nil ?_
    simp only [evA, if_true, if_false, beq_false, simprocAttr]
  have hid : i < d.length := by omega
  have hig : i < (giveQ q).length := by omega
  have hws : IntKind.i64.wrap ((i : Int) + 1) = ((i + 1 : Nat) : Int) := wrap_succ (by omega)
  have hb := give_best hL hC hA h
  rw [getI, getI] at hb
  have hb := Nat.not_lt.2 hb
  simp only [ic9l0, hgl, Int.ofNat_lt, h, evA, if_true, if_false, beq_false, simprocAttr]
  refine DW_s [9, 19] [] hmix (by kernel_rfl) rfl ?_
  simp only [ia_rsl h, lea_ld h, hid, evA, if_true, if_false, beq_false, simprocAttr]
  refine kK_keep ((c35 (q.ls[i]!) (d[i]?.getD 0) (hq.wi i h)).call frz ⟨rfl, rfl⟩) rfl ?_
  simp only [ia_rsl h, lea_ld h, hig, evA, if_true, if_false, beq_false, simprocAttr]
  refine kK_keep ((c35 (q.ls[i]!) ((giveQ q)[i]?.getD 0) (hq.wi i h)).call frz ⟨rfl, rfl⟩) rfl ?_
  simp only [Int.ofNat_lt, hb, hws, evA, if_true, if_false, beq_false, simprocAttr]
  exact kFor_go (by first | trivial | omega) ⟨_, _, _, _, rfl⟩

theorem law_QueueBest (avs : List AV) (h : Args Try.prog Try.f9.params.toList avs) : AC Try.prog 9 avs [] fun r _ => r = .b true := by
  have h : Args Try.prog [25, 29] avs := h
  obtain ⟨cs1, avs, rfl, h1, h⟩ := args_cons h
  obtain ⟨cs2, avs, rfl, h2, h⟩ := args_cons h
  cases args_nil h
  obtain ⟨q, e, hq⟩ := typed_q h1
  obtain ⟨d, e2, hd⟩ := typed_d h2
  rw [e, e2]
  exact lc9 q hq d hd

end Go.Proofs.Ytjgolcbpgmlilaa.AM

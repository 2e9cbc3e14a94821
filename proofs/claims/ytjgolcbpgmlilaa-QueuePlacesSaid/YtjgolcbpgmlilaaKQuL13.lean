/- The law QueuePlaces, by the contracts. -/
import Derived.Test.YtjgolcbpgmlilaaZ44
import Derived.Test.YtjgolcbpgmlilaaKQuI13
namespace Go.Proofs.Ytjgolcbpgmlilaa.AM
open Go Go.Proofs.Ytjgolcbpgmlilaa.Qu Pl
set_option linter.unusedVariables false
set_option linter.unusedSimpArgs false

theorem lc13 (q : QL) (hq : QSz q) (d : List Int) (hd : d.length < 2 ^ 63) : AC Try.prog 13 [qV q, ints d] [] fun r _ => r = .b true := by
  refine AC_FE (fok13 true) (Nat.le_of_ble_eq_true rfl) ?_
  obtain ⟨a, b, f, hv, hf⟩ : ∃ a b c, accV q d = .tup [.i a, .i b, .i c] ∧ c = (accQ q d).2.2 := ⟨_, _, _, rfl, rfl⟩
  simp only [ic13, evA, if_true, if_false, beq_false, simprocAttr]
  refine (c22 q hq).call ?_
  by_cases he : eQ q = 0
  rotate_left
  · have hb := bne_t he
    have hb2 : (eQ q == 0) = false := beq_f he
    simp only [giveV_no he, evA, if_true, if_false, beq_false, simprocAttr]
    refine (c26 q hq d hd).call frz ?_
    simp only [hv, hb, evA, if_true, if_false, beq_false, simprocAttr]
    refine (c34 q hq).call frz ?_
    simp only [hb2, evA, if_true, if_false, beq_false, simprocAttr]
    refine c21.call .nil ?_
    simp only [evA, if_true, if_false, beq_false, simprocAttr]
  simp only [giveV_ok he, evA, if_true, if_false, beq_false, simprocAttr]
  refine (c26 q hq d hd).call frz ?_
  simp only [hv, evA, if_true, if_false, beq_false, simprocAttr]
  refine (c34 q hq).call frz ?_
  by_cases h0 : f = 0
  rotate_left
  · have hb := bne_t h0
    simp only [he, hb, evA, if_true, if_false, beq_false, simprocAttr]
    refine (c34 q hq).call frz ?_
    simp only [he, evA, if_true, if_false, beq_false, simprocAttr]
    refine c21.call .nil ?_
    simp only [evA, if_true, if_false, beq_false, simprocAttr]
  have hA := acc_of he (h0 ▸ hf).symm
  obtain ⟨h5, h8, hL, hC⟩ := val_of he
  obtain ⟨hR1, hR2⟩ := give_rural hL hC hA
  have hdl := hA.ok.1
  have hgl := giveQ_len q
  have hls := hq.ls
  have hcs := hq.cs
  simp only [he, h0, hgl, hdl, evA, if_true, if_false, beq_false, simprocAttr]
  refine IL_for q.cs.length (fun i s => ∃ v9 v10 v11 v12, s = ⟨[qV q, ints d, .ptr 0 0, .b false, ints (giveQ q), .i 0, .i 0, .i i, .undef, v9, v10, v11, v12, .undef, .undef], [.cells [cenL q.cs, leaL q.ls]]⟩) ?_ 0 (Nat.zero_le _) ⟨_, _, _, _, rfl⟩
  rintro i s hi ⟨v9, v10, v11, v12, rfl⟩
  by_cases h : i < q.cs.length
  · have hws : IntKind.i64.wrap ((i : Int) + 1) = ((i + 1 : Nat) : Int) := wrap_succ (by omega)
    have hc := hR1 i h
    simp only [ic13l1, Int.ofNat_lt, h, evA, if_true, if_false, beq_false, simprocAttr]
    refine (c38 (giveQ q) (i : Int) (by omega)).call frz ?_
    simp only [evA, if_true, if_false, beq_false, simprocAttr]
    refine (c38 d (i : Int) (by omega)).call frz ?_
    simp only [hc, hws, evA, if_true, if_false, beq_false, simprocAttr]
    exact kFor_go (by first | trivial | omega) ⟨_, _, _, _, rfl⟩
  simp only [ic13l1, Int.ofNat_lt, h, evA, if_true, if_false, beq_false, simprocAttr]
  refine IL_for q.ls.length (fun i s => ∃ v7 v9 v10 v11 v12 v13 v14, s = ⟨[qV q, ints d, .ptr 0 0, .b false, ints (giveQ q), .i 0, .i 0, v7, .i i, v9, v10, v11, v12, v13, v14], [.cells [cenL q.cs, leaL q.ls]]⟩) ?_ 0 (Nat.zero_le _) ⟨_, _, _, _, _, _, _, rfl⟩
  clear v9 v10 v11 v12 h hi i
  rintro i s hi ⟨v7, v9, v10, v11, v12, v13, v14, rfl⟩
  by_cases h : i < q.ls.length
  rotate_left
  · simp only [ic13l0, hgl, Int.ofNat_lt, h, evA, if_true, if_false, beq_false, simprocAttr]
    refine c21.call .nil ?_
    simp only [evA, if_true, if_false, beq_false, simprocAttr]
  have hid : i < d.length := by omega
  have hig : i < (giveQ q).length := by omega
  have hws : IntKind.i64.wrap ((i : Int) + 1) = ((i + 1 : Nat) : Int) := wrap_succ (by omega)
  have hb := hR2 i h
  rw [getI, getI] at hb
  have hb : ((giveQ q)[i]?.getD 0 == -1) = (d[i]?.getD 0 == -1) := by rw [Bool.eq_iff_iff]; simpa using hb
  simp only [ic13l0, hgl, Int.ofNat_lt, h, evA, if_true, if_false, beq_false, simprocAttr]
  refine DW_s [] [] hmix (by kernel_rfl) rfl ?_
  simp only [hid, hig, hb, hws, evA, if_true, if_false, beq_false, simprocAttr]
  exact kFor_go (by first | trivial | omega) ⟨_, _, _, _, _, _, _, rfl⟩

theorem law_QueuePlaces (avs : List AV) (h : Args Try.prog Try.f13.params.toList avs) : AC Try.prog 13 avs [] fun r _ => r = .b true := by
  have h : Args Try.prog [25, 29] avs := h
  obtain ⟨cs1, avs, rfl, h1, h⟩ := args_cons h
  obtain ⟨cs2, avs, rfl, h2, h⟩ := args_cons h
  cases args_nil h
  obtain ⟨q, e, hq⟩ := typed_q h1
  obtain ⟨d, e2, hd⟩ := typed_d h2
  rw [e, e2]
  exact lc13 q hq d hd

end Go.Proofs.Ytjgolcbpgmlilaa.AM

/- The law LotCounts, by the contracts. -/
import Derived.Test.YtphdemhopihpnaaZ38
import Derived.Test.YtphdemhopihpnaaKLotI4
namespace Go.Proofs.Ytphdemhopihpnaa.AM
open Go
set_option linter.unusedVariables false
set_option linter.unusedSimpArgs false
set_option maxRecDepth 20000

theorem c4 (ts ks : List Int) (ht : ts.length < 2 ^ 63) (hk : ks.length < 2 ^ 63) : AC Try.prog 4 [drw ts ks] [] fun r _ => r = .b true := by
  refine AC_FE (fok4 true) (Nat.le_of_ble_eq_true rfl) ?_
  simp only [ic4, f_box, cellsOf, evA, if_true, if_false, reduceIte, Nat.reduceAdd, Nat.reduceMul, Nat.reduceSub, Nat.reduceLeDiff, Nat.reduceEqDiff, Nat.reduceBEq, Nat.reduceBNe, Int.reduceAdd, Int.reduceMul, Int.reduceSub, Int.reduceLT, Int.reduceGT, Int.reduceGE, Int.reduceLE, Int.reduceEq, Int.reduceNeg, Int.reduceToNat, reduceCtorEq, beq_false, Int.reduceBEq, Int.reduceBNe]
  refine (c24 ts ks ht hk).call (by (try dsimp only); repeat (first | exact trivial | rfl | exact frz_ints_nl | (apply frz_ints (fun _ => trivial); first | rfl | (simp [rowOf]; done)) | constructor | simp only [frzA])) ?_
  rcases checkV_cases ts ks with ⟨hv, hok⟩ | ⟨x, y, e, hv, he⟩
  · simp only [hv, evA, if_true, if_false, reduceIte, Nat.reduceAdd, Nat.reduceMul, Nat.reduceSub, Nat.reduceLeDiff, Nat.reduceEqDiff, Nat.reduceBEq, Nat.reduceBNe, Int.reduceAdd, Int.reduceMul, Int.reduceSub, Int.reduceLT, Int.reduceGT, Int.reduceGE, Int.reduceLE, Int.reduceEq, Int.reduceNeg, Int.reduceToNat, reduceCtorEq, beq_false, Int.reduceBEq, Int.reduceBNe]
    refine (c25 ts ks ht hk).call (by (try dsimp only); repeat (first | exact trivial | rfl | exact frz_ints_nl | (apply frz_ints (fun _ => trivial); first | rfl | (simp [rowOf]; done)) | constructor | simp only [frzA])) ?_
    simp only [hv, evA, if_true, if_false, reduceIte, Nat.reduceAdd, Nat.reduceMul, Nat.reduceSub, Nat.reduceLeDiff, Nat.reduceEqDiff, Nat.reduceBEq, Nat.reduceBNe, Int.reduceAdd, Int.reduceMul, Int.reduceSub, Int.reduceLT, Int.reduceGT, Int.reduceGE, Int.reduceLE, Int.reduceEq, Int.reduceNeg, Int.reduceToNat, reduceCtorEq, beq_false, Int.reduceBEq, Int.reduceBNe]
    refine (c26_ok ts ks ht hk hv hok).call (by (try dsimp only); repeat (first | exact trivial | rfl | exact frz_ints_nl | (apply frz_ints (fun _ => trivial); first | rfl | (simp [rowOf]; done)) | constructor | simp only [frzA])) ?_
    have h27 := c27_ok ts ks ht hk hv hok
    rw [countM_eq hok] at h27
    generalize waysF ks ks.length ts = n at h27 ⊢
    simp only [evA, if_true, if_false, reduceIte, Nat.reduceAdd, Nat.reduceMul, Nat.reduceSub, Nat.reduceLeDiff, Nat.reduceEqDiff, Nat.reduceBEq, Nat.reduceBNe, Int.reduceAdd, Int.reduceMul, Int.reduceSub, Int.reduceLT, Int.reduceGT, Int.reduceGE, Int.reduceLE, Int.reduceEq, Int.reduceNeg, Int.reduceToNat, reduceCtorEq, beq_false, Int.reduceBEq, Int.reduceBNe]
    refine h27.call (by (try dsimp only); repeat (first | exact trivial | rfl | exact frz_ints_nl | (apply frz_ints (fun _ => trivial); first | rfl | (simp [rowOf]; done)) | constructor | simp only [frzA])) ?_
    simp only [evA, if_true, if_false, reduceIte, Nat.reduceAdd, Nat.reduceMul, Nat.reduceSub, Nat.reduceLeDiff, Nat.reduceEqDiff, Nat.reduceBEq, Nat.reduceBNe, Int.reduceAdd, Int.reduceMul, Int.reduceSub, Int.reduceLT, Int.reduceGT, Int.reduceGE, Int.reduceLE, Int.reduceEq, Int.reduceNeg, Int.reduceToNat, reduceCtorEq, beq_false, Int.reduceBEq, Int.reduceBNe]
    refine (awake _).run ?_
    simp only [evA, if_true, if_false, reduceIte, Nat.reduceAdd, Nat.reduceMul, Nat.reduceSub, Nat.reduceLeDiff, Nat.reduceEqDiff, Nat.reduceBEq, Nat.reduceBNe, Int.reduceAdd, Int.reduceMul, Int.reduceSub, Int.reduceLT, Int.reduceGT, Int.reduceGE, Int.reduceLE, Int.reduceEq, Int.reduceNeg, Int.reduceToNat, reduceCtorEq, beq_false, Int.reduceBEq, Int.reduceBNe]
  · simp only [hv, evA, if_true, if_false, reduceIte, Nat.reduceAdd, Nat.reduceMul, Nat.reduceSub, Nat.reduceLeDiff, Nat.reduceEqDiff, Nat.reduceBEq, Nat.reduceBNe, Int.reduceAdd, Int.reduceMul, Int.reduceSub, Int.reduceLT, Int.reduceGT, Int.reduceGE, Int.reduceLE, Int.reduceEq, Int.reduceNeg, Int.reduceToNat, reduceCtorEq, beq_false, Int.reduceBEq, Int.reduceBNe]
    refine (c25 ts ks ht hk).call (by (try dsimp only); repeat (first | exact trivial | rfl | exact frz_ints_nl | (apply frz_ints (fun _ => trivial); first | rfl | (simp [rowOf]; done)) | constructor | simp only [frzA])) ?_
    simp only [hv, evA, if_true, if_false, reduceIte, Nat.reduceAdd, Nat.reduceMul, Nat.reduceSub, Nat.reduceLeDiff, Nat.reduceEqDiff, Nat.reduceBEq, Nat.reduceBNe, Int.reduceAdd, Int.reduceMul, Int.reduceSub, Int.reduceLT, Int.reduceGT, Int.reduceGE, Int.reduceLE, Int.reduceEq, Int.reduceNeg, Int.reduceToNat, reduceCtorEq, beq_false, Int.reduceBEq, Int.reduceBNe]
    refine (c26_err ts ks ht hk hv he).call (by (try dsimp only); repeat (first | exact trivial | rfl | exact frz_ints_nl | (apply frz_ints (fun _ => trivial); first | rfl | (simp [rowOf]; done)) | constructor | simp only [frzA])) ?_
    simp only [evA, if_true, if_false, reduceIte, Nat.reduceAdd, Nat.reduceMul, Nat.reduceSub, Nat.reduceLeDiff, Nat.reduceEqDiff, Nat.reduceBEq, Nat.reduceBNe, Int.reduceAdd, Int.reduceMul, Int.reduceSub, Int.reduceLT, Int.reduceGT, Int.reduceGE, Int.reduceLE, Int.reduceEq, Int.reduceNeg, Int.reduceToNat, reduceCtorEq, beq_false, Int.reduceBEq, Int.reduceBNe]
    refine (c27_err ts ks ht hk hv he).call (by (try dsimp only); repeat (first | exact trivial | rfl | exact frz_ints_nl | (apply frz_ints (fun _ => trivial); first | rfl | (simp [rowOf]; done)) | constructor | simp only [frzA])) ?_
    simp only [evA, if_true, if_false, reduceIte, Nat.reduceAdd, Nat.reduceMul, Nat.reduceSub, Nat.reduceLeDiff, Nat.reduceEqDiff, Nat.reduceBEq, Nat.reduceBNe, Int.reduceAdd, Int.reduceMul, Int.reduceSub, Int.reduceLT, Int.reduceGT, Int.reduceGE, Int.reduceLE, Int.reduceEq, Int.reduceNeg, Int.reduceToNat, reduceCtorEq, beq_false, Int.reduceBEq, Int.reduceBNe]
    refine (awake _).run ?_
    simp only [evA, if_true, if_false, reduceIte, Nat.reduceAdd, Nat.reduceMul, Nat.reduceSub, Nat.reduceLeDiff, Nat.reduceEqDiff, Nat.reduceBEq, Nat.reduceBNe, Int.reduceAdd, Int.reduceMul, Int.reduceSub, Int.reduceLT, Int.reduceGT, Int.reduceGE, Int.reduceLE, Int.reduceEq, Int.reduceNeg, Int.reduceToNat, reduceCtorEq, beq_false, Int.reduceBEq, Int.reduceBNe]

theorem law_LotCounts (avs : List AV) (h : Args Try.prog Try.f4.params.toList avs) : AC Try.prog 4 avs [] fun r _ => r = .b true := by
  have h : Args Try.prog [34] avs := h
  obtain ⟨cs1, avs, rfl, h1, h⟩ := args_cons h
  cases args_nil h
  obtain ⟨ts, ks, he, ht, hk, _, _⟩ := typed_draw h1
  rw [he]
  exact c4 ts ks ht hk

end Go.Proofs.Ytphdemhopihpnaa.AM

/- The law LotOpen, by the contracts. -/
import Derived.Test.YtphdemhopihpnaaZ39
import Derived.Test.YtphdemhopihpnaaKLotI11
import Derived.Test.YtphdemhopihpnaaKLawCheats
namespace Go.Proofs.Ytphdemhopihpnaa.AM
open Go
set_option linter.unusedVariables false
set_option linter.unusedSimpArgs false
set_option maxRecDepth 20000

theorem promErr_prom {zs : List Int} (hz : NumsOk zs) : promErr (promL zs zs.length) zs = 0 := by
  have h1 := numErr_of hz
  have h2 : outF 0 2147483646 (promL zs zs.length) = false := outF_false.2 fun j hj => by
    rw [promL_length] at hj
    rw [promL_get zs zs.length j hj]
    exact inB_iff.2 (by have := promiseF_bounds (j : Int) (zs[j]?.getD 0); omega)
  unfold promErr
  rw [if_pos h1, if_pos (promL_length _ _), h2]
  rfl

theorem honest_prom {ts ks zs as_ : List Int} (hz : NumsOk zs) (hl : as_.length = ks.length) (hw : waysF ks ks.length ts ≠ 0) :
    honestV ts ks (promL zs zs.length) zs as_ = .tup [.b (decide (pickF ks ks.length ts (lotF zs zs.length % waysF ks ks.length ts) = as_)), .i 0] := by
  have h1 := promErr_prom hz
  have h2 : cheatF (promL zs zs.length) zs zs.length = [] := cheatF_none zs.length fun j hj => (promL_get zs zs.length j hj).symm
  unfold honestV
  rw [if_neg (by simpa using h1), if_neg (by simpa using hl), h2, if_neg (by simp), if_neg hw]

theorem c11 (ts ks zs : List Int) (xs : List Nat) (ht : ts.length < 2 ^ 63) (hk : ks.length < 2 ^ 63) (hz : zs.length < 2 ^ 63) (hx : ∀ x ∈ xs, x ≤ 255) (hxl : xs.length < 2 ^ 63) : AC Try.prog 11 [drw ts ks, ints zs, u8s xs] [] fun r _ => r = .b true := by
  refine AC_FE (fok11 true) (Nat.le_of_ble_eq_true rfl) ?_
  simp only [ic11, f_box, cellsOf, evA, if_true, if_false, reduceIte, Nat.reduceAdd, Nat.reduceMul, Nat.reduceSub, Nat.reduceLeDiff, Nat.reduceEqDiff, Nat.reduceBEq, Nat.reduceBNe, Int.reduceAdd, Int.reduceMul, Int.reduceSub, Int.reduceLT, Int.reduceGT, Int.reduceGE, Int.reduceLE, Int.reduceEq, Int.reduceNeg, Int.reduceToNat, reduceCtorEq, beq_false, Int.reduceBEq, Int.reduceBNe]
  obtain ⟨b, hb, hbt, hbf⟩ := c38 ts ks ht hk
  refine hb.call (by (try dsimp only); repeat (first | exact trivial | rfl | exact frz_ints_nl | (apply frz_ints (fun _ => trivial); first | rfl | (simp [rowOf]; done)) | constructor | simp only [frzA])) ?_
  cases b with
  | false =>
    obtain ⟨x, y, e, hv, he⟩ := hbf rfl
    have hne : (e != 0) = true := bneI_true he
    simp only [evA, if_true, if_false, reduceIte, Nat.reduceAdd, Nat.reduceMul, Nat.reduceSub, Nat.reduceLeDiff, Nat.reduceEqDiff, Nat.reduceBEq, Nat.reduceBNe, Int.reduceAdd, Int.reduceMul, Int.reduceSub, Int.reduceLT, Int.reduceGT, Int.reduceGE, Int.reduceLE, Int.reduceEq, Int.reduceNeg, Int.reduceToNat, reduceCtorEq, beq_false, Int.reduceBEq, Int.reduceBNe]
    refine (c34_err ts ks [] zs [] ht hk hv he).call (.cons (.agg (.cons (.c (.c _ trivial)) (.cons (.c (.c _ trivial)) .nil))) (.cons frz_ints_nl (.cons (.c (.c _ trivial)) (.cons frz_ints_nl .nil)))) ?_
    simp only [hne, evA, if_true, if_false, reduceIte, Nat.reduceAdd, Nat.reduceMul, Nat.reduceSub, Nat.reduceLeDiff, Nat.reduceEqDiff, Nat.reduceBEq, Nat.reduceBNe, Int.reduceAdd, Int.reduceMul, Int.reduceSub, Int.reduceLT, Int.reduceGT, Int.reduceGE, Int.reduceLE, Int.reduceEq, Int.reduceNeg, Int.reduceToNat, reduceCtorEq, beq_false, Int.reduceBEq, Int.reduceBNe]
    refine (awake _).run ?_
    simp only [evA, if_true, if_false, reduceIte, Nat.reduceAdd, Nat.reduceMul, Nat.reduceSub, Nat.reduceLeDiff, Nat.reduceEqDiff, Nat.reduceBEq, Nat.reduceBNe, Int.reduceAdd, Int.reduceMul, Int.reduceSub, Int.reduceLT, Int.reduceGT, Int.reduceGE, Int.reduceLE, Int.reduceEq, Int.reduceNeg, Int.reduceToNat, reduceCtorEq, beq_false, Int.reduceBEq, Int.reduceBNe]
  | true =>
  obtain ⟨hok, hv⟩ := hbt rfl
  simp only [evA, if_true, if_false, reduceIte, Nat.reduceAdd, Nat.reduceMul, Nat.reduceSub, Nat.reduceLeDiff, Nat.reduceEqDiff, Nat.reduceBEq, Nat.reduceBNe, Int.reduceAdd, Int.reduceMul, Int.reduceSub, Int.reduceLT, Int.reduceGT, Int.reduceGE, Int.reduceLE, Int.reduceEq, Int.reduceNeg, Int.reduceToNat, reduceCtorEq, beq_false, Int.reduceBEq, Int.reduceBNe]
  refine (c41 zs hz).call (by (try dsimp only); repeat (first | exact trivial | rfl | exact frz_ints_nl | (apply frz_ints (fun _ => trivial); first | rfl | (simp [rowOf]; done)) | constructor | simp only [frzA])) ?_
  by_cases hn : numErr zs = 0
  rotate_left
  · have hne := bneI_true hn
    have hpe : promErr [] zs ≠ 0 := by unfold promErr; rw [if_neg hn]; exact hn
    have hh : honestV ts ks [] zs [] = .tup [.b false, .i (promErr [] zs)] := by unfold honestV; rw [if_pos hpe]
    have hne2 := bneI_true hpe
    have h34 := c34_ok ts ks [] zs [] ht hk (by simp) hz (by simp) hok
    rw [hh] at h34
    simp only [hne, evA, if_true, if_false, reduceIte, Nat.reduceAdd, Nat.reduceMul, Nat.reduceSub, Nat.reduceLeDiff, Nat.reduceEqDiff, Nat.reduceBEq, Nat.reduceBNe, Int.reduceAdd, Int.reduceMul, Int.reduceSub, Int.reduceLT, Int.reduceGT, Int.reduceGE, Int.reduceLE, Int.reduceEq, Int.reduceNeg, Int.reduceToNat, reduceCtorEq, beq_false, Int.reduceBEq, Int.reduceBNe]
    refine h34.call (.cons (.agg (.cons (.c (.c _ trivial)) (.cons (.c (.c _ trivial)) .nil))) (.cons frz_ints_nl (.cons (.c (.c _ trivial)) (.cons frz_ints_nl .nil)))) ?_
    simp only [hne2, evA, if_true, if_false, reduceIte, Nat.reduceAdd, Nat.reduceMul, Nat.reduceSub, Nat.reduceLeDiff, Nat.reduceEqDiff, Nat.reduceBEq, Nat.reduceBNe, Int.reduceAdd, Int.reduceMul, Int.reduceSub, Int.reduceLT, Int.reduceGT, Int.reduceGE, Int.reduceLE, Int.reduceEq, Int.reduceNeg, Int.reduceToNat, reduceCtorEq, beq_false, Int.reduceBEq, Int.reduceBNe]
    refine (awake _).run ?_
    simp only [evA, if_true, if_false, reduceIte, Nat.reduceAdd, Nat.reduceMul, Nat.reduceSub, Nat.reduceLeDiff, Nat.reduceEqDiff, Nat.reduceBEq, Nat.reduceBNe, Int.reduceAdd, Int.reduceMul, Int.reduceSub, Int.reduceLT, Int.reduceGT, Int.reduceGE, Int.reduceLE, Int.reduceEq, Int.reduceNeg, Int.reduceToNat, reduceCtorEq, beq_false, Int.reduceBEq, Int.reduceBNe]
  have hne := bneI_false hn
  have hzs := numErr_ok hn
  simp only [hne, evA, if_true, if_false, reduceIte, Nat.reduceAdd, Nat.reduceMul, Nat.reduceSub, Nat.reduceLeDiff, Nat.reduceEqDiff, Nat.reduceBEq, Nat.reduceBNe, Int.reduceAdd, Int.reduceMul, Int.reduceSub, Int.reduceLT, Int.reduceGT, Int.reduceGE, Int.reduceLE, Int.reduceEq, Int.reduceNeg, Int.reduceToNat, reduceCtorEq, beq_false, Int.reduceBEq, Int.reduceBNe]
  refine (c21 zs hz).call (by (try dsimp only); repeat (first | exact trivial | rfl | exact frz_ints_nl | (apply frz_ints (fun _ => trivial); first | rfl | (simp [rowOf]; done)) | constructor | simp only [frzA])) ?_
  rw [lotV_ok hn]
  have hlb := lotF_bounds zs zs.length
  have hal := allowF_A (ks := ks) (xs := xs) ks.length ts
  have h28 := c28_ok ts ks (lotF zs zs.length) ht hk hok
  have hwn := waysF_nonneg ks ks.length ts
  have hpl := fun x h0 h1 => pickF_length (ks := ks) ks.length ts x (Nat.le_refl _) h0 h1
  have hhon := fun as_ (hl : as_.length = ks.length) hw => honest_prom (ts := ts) (ks := ks) (as_ := as_) hzs hl hw
  have h34 := fun as_ (ha : as_.length < 2 ^ 63) => c34_ok ts ks (promL zs zs.length) zs as_ ht hk (by rw [promL_length]; exact hz) hz ha hok
  have hix := fun l h => index_in ks.length ts l (hal l h)
  generalize lotF zs zs.length = n at *
  simp only [evA, if_true, if_false, reduceIte, Nat.reduceAdd, Nat.reduceMul, Nat.reduceSub, Nat.reduceLeDiff, Nat.reduceEqDiff, Nat.reduceBEq, Nat.reduceBNe, Int.reduceAdd, Int.reduceMul, Int.reduceSub, Int.reduceLT, Int.reduceGT, Int.reduceGE, Int.reduceLE, Int.reduceEq, Int.reduceNeg, Int.reduceToNat, reduceCtorEq, beq_false, Int.reduceBEq, Int.reduceBNe]
  refine h28.call (by (try dsimp only); repeat (first | exact trivial | rfl | exact frz_ints_nl | (apply frz_ints (fun _ => trivial); first | rfl | (simp [rowOf]; done)) | constructor | simp only [frzA])) ?_
  have hin : ¬ (n < 0 ∨ n > 2147483646) := by omega
  by_cases hm0 : waysF ks ks.length ts = 0
  · have hpv : pickV ts ks n = .tup [ints [], .i 9] := by unfold pickV; rw [if_neg hin, if_pos hm0]
    rw [hpv]
    have hnone : allowF ks xs ks.length ts = none := by
      cases ha : allowF ks xs ks.length ts with
      | none => rfl
      | some l => have := hix l ha; omega
    simp only [evA, if_true, if_false, reduceIte, Nat.reduceAdd, Nat.reduceMul, Nat.reduceSub, Nat.reduceLeDiff, Nat.reduceEqDiff, Nat.reduceBEq, Nat.reduceBNe, Int.reduceAdd, Int.reduceMul, Int.reduceSub, Int.reduceLT, Int.reduceGT, Int.reduceGE, Int.reduceLE, Int.reduceEq, Int.reduceNeg, Int.reduceToNat, reduceCtorEq, beq_false, Int.reduceBEq, Int.reduceBNe]
    refine (c39 ts ks xs hok hx hxl).call (by (try dsimp only); repeat (first | exact trivial | rfl | exact frz_ints_nl | (apply frz_ints (fun _ => trivial); first | rfl | (simp [rowOf]; done)) | constructor | simp only [frzA])) ?_
    rw [hnone]
    simp only [allowV, evA, if_true, if_false, reduceIte, Nat.reduceAdd, Nat.reduceMul, Nat.reduceSub, Nat.reduceLeDiff, Nat.reduceEqDiff, Nat.reduceBEq, Nat.reduceBNe, Int.reduceAdd, Int.reduceMul, Int.reduceSub, Int.reduceLT, Int.reduceGT, Int.reduceGE, Int.reduceLE, Int.reduceEq, Int.reduceNeg, Int.reduceToNat, reduceCtorEq, beq_false, Int.reduceBEq, Int.reduceBNe]
    refine (awake _).run ?_
    simp only [evA, if_true, if_false, reduceIte, Nat.reduceAdd, Nat.reduceMul, Nat.reduceSub, Nat.reduceLeDiff, Nat.reduceEqDiff, Nat.reduceBEq, Nat.reduceBNe, Int.reduceAdd, Int.reduceMul, Int.reduceSub, Int.reduceLT, Int.reduceGT, Int.reduceGE, Int.reduceLE, Int.reduceEq, Int.reduceNeg, Int.reduceToNat, reduceCtorEq, beq_false, Int.reduceBEq, Int.reduceBNe]
  have hpv : pickV ts ks n = .tup [ints (pickF ks ks.length ts (n % waysF ks ks.length ts)), .i 0] := by unfold pickV; rw [if_neg hin, if_neg hm0]
  rw [hpv]
  obtain ⟨g1, g2, g3⟩ := mod_in (n := n) (m := waysF ks ks.length ts) (by omega) (by omega)
  have hPl := hpl _ g2 g3
  have hh1 := hhon _ hPl hm0
  have h341 := h34 (pickF ks ks.length ts (n % waysF ks ks.length ts)) (by rw [hPl]; exact hk)
  rw [hh1, decide_eq_true rfl] at h341
  generalize hP : pickF ks ks.length ts (n % waysF ks ks.length ts) = P at *
  simp only [evA, if_true, if_false, reduceIte, Nat.reduceAdd, Nat.reduceMul, Nat.reduceSub, Nat.reduceLeDiff, Nat.reduceEqDiff, Nat.reduceBEq, Nat.reduceBNe, Int.reduceAdd, Int.reduceMul, Int.reduceSub, Int.reduceLT, Int.reduceGT, Int.reduceGE, Int.reduceLE, Int.reduceEq, Int.reduceNeg, Int.reduceToNat, reduceCtorEq, beq_false, Int.reduceBEq, Int.reduceBNe]
  refine (c39 ts ks xs hok hx hxl).call (by (try dsimp only); repeat (first | exact trivial | rfl | exact frz_ints_nl | (apply frz_ints (fun _ => trivial); first | rfl | (simp [rowOf]; done)) | constructor | simp only [frzA])) ?_
  cases ha : allowF ks xs ks.length ts with
  | none =>
    simp only [allowV, evA, if_true, if_false, reduceIte, Nat.reduceAdd, Nat.reduceMul, Nat.reduceSub, Nat.reduceLeDiff, Nat.reduceEqDiff, Nat.reduceBEq, Nat.reduceBNe, Int.reduceAdd, Int.reduceMul, Int.reduceSub, Int.reduceLT, Int.reduceGT, Int.reduceGE, Int.reduceLE, Int.reduceEq, Int.reduceNeg, Int.reduceToNat, reduceCtorEq, beq_false, Int.reduceBEq, Int.reduceBNe]
    refine DW_s [2, 5] [] hmix (by kernel_rfl) rfl ?_
    simp only [evA, if_true, if_false, reduceIte, Nat.reduceAdd, Nat.reduceMul, Nat.reduceSub, Nat.reduceLeDiff, Nat.reduceEqDiff, Nat.reduceBEq, Nat.reduceBNe, Int.reduceAdd, Int.reduceMul, Int.reduceSub, Int.reduceLT, Int.reduceGT, Int.reduceGE, Int.reduceLE, Int.reduceEq, Int.reduceNeg, Int.reduceToNat, reduceCtorEq, beq_false, Int.reduceBEq, Int.reduceBNe]
    refine kK_keep ((c42 zs hzs).call (by (try dsimp only); repeat (first | exact trivial | rfl | exact frz_ints_nl | (apply frz_ints (fun _ => trivial); first | rfl | (simp [rowOf]; done)) | constructor | simp only [frzA])) ⟨rfl, rfl⟩) rfl ?_
    simp only [evA, if_true, if_false, reduceIte, Nat.reduceAdd, Nat.reduceMul, Nat.reduceSub, Nat.reduceLeDiff, Nat.reduceEqDiff, Nat.reduceBEq, Nat.reduceBNe, Int.reduceAdd, Int.reduceMul, Int.reduceSub, Int.reduceLT, Int.reduceGT, Int.reduceGE, Int.reduceLE, Int.reduceEq, Int.reduceNeg, Int.reduceToNat, reduceCtorEq, beq_false, Int.reduceBEq, Int.reduceBNe]
    refine kK_keep (h341.call (by (try dsimp only); repeat (first | exact trivial | rfl | exact frz_ints_nl | (apply frz_ints (fun _ => trivial); first | rfl | (simp [rowOf]; done)) | constructor | simp only [frzA])) ⟨rfl, rfl⟩) rfl ?_
    simp only [evA, if_true, if_false, reduceIte, Nat.reduceAdd, Nat.reduceMul, Nat.reduceSub, Nat.reduceLeDiff, Nat.reduceEqDiff, Nat.reduceBEq, Nat.reduceBNe, Int.reduceAdd, Int.reduceMul, Int.reduceSub, Int.reduceLT, Int.reduceGT, Int.reduceGE, Int.reduceLE, Int.reduceEq, Int.reduceNeg, Int.reduceToNat, reduceCtorEq, beq_false, Int.reduceBEq, Int.reduceBNe]
    refine (awake _).run ?_
    simp only [evA, if_true, if_false, reduceIte, Nat.reduceAdd, Nat.reduceMul, Nat.reduceSub, Nat.reduceLeDiff, Nat.reduceEqDiff, Nat.reduceBEq, Nat.reduceBNe, Int.reduceAdd, Int.reduceMul, Int.reduceSub, Int.reduceLT, Int.reduceGT, Int.reduceGE, Int.reduceLE, Int.reduceEq, Int.reduceNeg, Int.reduceToNat, reduceCtorEq, beq_false, Int.reduceBEq, Int.reduceBNe]
  | some l =>
    have hll := (hal l ha).length
    have hh2 := hhon l hll hm0
    have h342 := h34 l (by rw [hll]; exact hk)
    rw [hh2] at h342
    simp only [allowV, evA, if_true, if_false, reduceIte, Nat.reduceAdd, Nat.reduceMul, Nat.reduceSub, Nat.reduceLeDiff, Nat.reduceEqDiff, Nat.reduceBEq, Nat.reduceBNe, Int.reduceAdd, Int.reduceMul, Int.reduceSub, Int.reduceLT, Int.reduceGT, Int.reduceGE, Int.reduceLE, Int.reduceEq, Int.reduceNeg, Int.reduceToNat, reduceCtorEq, beq_false, Int.reduceBEq, Int.reduceBNe]
    refine DW_s [2, 5] [] hmix (by kernel_rfl) rfl ?_
    simp only [evA, if_true, if_false, reduceIte, Nat.reduceAdd, Nat.reduceMul, Nat.reduceSub, Nat.reduceLeDiff, Nat.reduceEqDiff, Nat.reduceBEq, Nat.reduceBNe, Int.reduceAdd, Int.reduceMul, Int.reduceSub, Int.reduceLT, Int.reduceGT, Int.reduceGE, Int.reduceLE, Int.reduceEq, Int.reduceNeg, Int.reduceToNat, reduceCtorEq, beq_false, Int.reduceBEq, Int.reduceBNe]
    refine kK_keep ((c42 zs hzs).call (by (try dsimp only); repeat (first | exact trivial | rfl | exact frz_ints_nl | (apply frz_ints (fun _ => trivial); first | rfl | (simp [rowOf]; done)) | constructor | simp only [frzA])) ⟨rfl, rfl⟩) rfl ?_
    simp only [evA, if_true, if_false, reduceIte, Nat.reduceAdd, Nat.reduceMul, Nat.reduceSub, Nat.reduceLeDiff, Nat.reduceEqDiff, Nat.reduceBEq, Nat.reduceBNe, Int.reduceAdd, Int.reduceMul, Int.reduceSub, Int.reduceLT, Int.reduceGT, Int.reduceGE, Int.reduceLE, Int.reduceEq, Int.reduceNeg, Int.reduceToNat, reduceCtorEq, beq_false, Int.reduceBEq, Int.reduceBNe]
    refine kK_keep (h341.call (by (try dsimp only); repeat (first | exact trivial | rfl | exact frz_ints_nl | (apply frz_ints (fun _ => trivial); first | rfl | (simp [rowOf]; done)) | constructor | simp only [frzA])) ⟨rfl, rfl⟩) rfl ?_
    simp only [evA, if_true, if_false, reduceIte, Nat.reduceAdd, Nat.reduceMul, Nat.reduceSub, Nat.reduceLeDiff, Nat.reduceEqDiff, Nat.reduceBEq, Nat.reduceBNe, Int.reduceAdd, Int.reduceMul, Int.reduceSub, Int.reduceLT, Int.reduceGT, Int.reduceGE, Int.reduceLE, Int.reduceEq, Int.reduceNeg, Int.reduceToNat, reduceCtorEq, beq_false, Int.reduceBEq, Int.reduceBNe]
    refine DW_s [2, 5] [] hmix (by kernel_rfl) rfl ?_
    simp only [evA, if_true, if_false, reduceIte, Nat.reduceAdd, Nat.reduceMul, Nat.reduceSub, Nat.reduceLeDiff, Nat.reduceEqDiff, Nat.reduceBEq, Nat.reduceBNe, Int.reduceAdd, Int.reduceMul, Int.reduceSub, Int.reduceLT, Int.reduceGT, Int.reduceGE, Int.reduceLE, Int.reduceEq, Int.reduceNeg, Int.reduceToNat, reduceCtorEq, beq_false, Int.reduceBEq, Int.reduceBNe]
    refine kK_keep ((c42 zs hzs).call (by (try dsimp only); repeat (first | exact trivial | rfl | exact frz_ints_nl | (apply frz_ints (fun _ => trivial); first | rfl | (simp [rowOf]; done)) | constructor | simp only [frzA])) ⟨rfl, rfl⟩) rfl ?_
    simp only [evA, if_true, if_false, reduceIte, Nat.reduceAdd, Nat.reduceMul, Nat.reduceSub, Nat.reduceLeDiff, Nat.reduceEqDiff, Nat.reduceBEq, Nat.reduceBNe, Int.reduceAdd, Int.reduceMul, Int.reduceSub, Int.reduceLT, Int.reduceGT, Int.reduceGE, Int.reduceLE, Int.reduceEq, Int.reduceNeg, Int.reduceToNat, reduceCtorEq, beq_false, Int.reduceBEq, Int.reduceBNe]
    refine kK_keep (h342.call (by (try dsimp only); repeat (first | exact trivial | rfl | exact frz_ints_nl | (apply frz_ints (fun _ => trivial); first | rfl | (simp [rowOf]; done)) | constructor | simp only [frzA])) ⟨rfl, rfl⟩) rfl ?_
    have hbb : ∀ b : Bool, (b == b) = true := fun b => by simp
    simp only [evA, if_true, if_false, reduceIte, Nat.reduceAdd, Nat.reduceMul, Nat.reduceSub, Nat.reduceLeDiff, Nat.reduceEqDiff, Nat.reduceBEq, Nat.reduceBNe, Int.reduceAdd, Int.reduceMul, Int.reduceSub, Int.reduceLT, Int.reduceGT, Int.reduceGE, Int.reduceLE, Int.reduceEq, Int.reduceNeg, Int.reduceToNat, reduceCtorEq, beq_false, Int.reduceBEq, Int.reduceBNe]
    refine (c20 P l (by rw [hPl]; exact hk)).call (by (try dsimp only); repeat (first | exact trivial | rfl | exact frz_ints_nl | (apply frz_ints (fun _ => trivial); first | rfl | (simp [rowOf]; done)) | constructor | simp only [frzA])) ?_
    simp only [hbb, evA, if_true, if_false, reduceIte, Nat.reduceAdd, Nat.reduceMul, Nat.reduceSub, Nat.reduceLeDiff, Nat.reduceEqDiff, Nat.reduceBEq, Nat.reduceBNe, Int.reduceAdd, Int.reduceMul, Int.reduceSub, Int.reduceLT, Int.reduceGT, Int.reduceGE, Int.reduceLE, Int.reduceEq, Int.reduceNeg, Int.reduceToNat, reduceCtorEq, beq_false, Int.reduceBEq, Int.reduceBNe]
    refine (awake _).run ?_
    simp only [evA, if_true, if_false, reduceIte, Nat.reduceAdd, Nat.reduceMul, Nat.reduceSub, Nat.reduceLeDiff, Nat.reduceEqDiff, Nat.reduceBEq, Nat.reduceBNe, Int.reduceAdd, Int.reduceMul, Int.reduceSub, Int.reduceLT, Int.reduceGT, Int.reduceGE, Int.reduceLE, Int.reduceEq, Int.reduceNeg, Int.reduceToNat, reduceCtorEq, beq_false, Int.reduceBEq, Int.reduceBNe]

theorem law_LotOpen (avs : List AV) (h : Args Try.prog Try.f11.params.toList avs) : AC Try.prog 11 avs [] fun r _ => r = .b true := by
  have h : Args Try.prog [34, 23, 51] avs := h
  obtain ⟨cs1, avs, rfl, h1, h⟩ := args_cons h
  obtain ⟨cs2, avs, rfl, h2, h⟩ := args_cons h
  obtain ⟨cs3, avs, rfl, h3, h⟩ := args_cons h
  cases args_nil h
  obtain ⟨ts, ks, he, ht, hk, _, _⟩ := typed_draw h1
  obtain ⟨zs, rfl, g2, _⟩ := typed_ints Try.underlying23 Try.underlying3 h2
  obtain ⟨xs, he3, g3, g4⟩ := typed_u8s h3
  have e2 : avOf Try.prog 23 [CV.rsl (zs.map (.int .i64)) zs.length] = ints zs := by simp [avOf, Try.underlying23]
  rw [he, e2, he3]
  exact c11 ts ks zs xs ht hk g2 g3 g4

end Go.Proofs.Ytphdemhopihpnaa.AM

/- The law LotCheats, by the contracts. -/
import Derived.Test.YtphdemhopihpnaaZ38
import Derived.Test.YtphdemhopihpnaaKLotI10
namespace Go.Proofs.Ytphdemhopihpnaa.AM
open Go
set_option linter.unusedVariables false
set_option linter.unusedSimpArgs false
set_option maxRecDepth 20000

theorem numErr_of {zs : List Int} (h : NumsOk zs) : numErr zs = 0 := by
  have h1 : inB (zs.length : Int) 1 8 = true := inB_iff.2 (by have := h.len; omega)
  have h2 : outF 0 1000000000 zs = false := outF_false.2 fun j hj => inB_iff.2 (h.rng j hj)
  simp [numErr, h1, h2]

/-- the promises of the numbers before i -/
def promL (zs : List Int) : Nat → List Int
  | 0 => []
  | i + 1 => promL zs i ++ [promiseF (i : Int) (zs[i]?.getD 0)]
theorem promL_length (zs : List Int) : ∀ i, (promL zs i).length = i
  | 0 => rfl
  | i + 1 => by simp [promL, promL_length zs i]
theorem promL_get (zs : List Int) : ∀ i j, j < i → (promL zs i)[j]?.getD 0 = promiseF (j : Int) (zs[j]?.getD 0)
  | 0, j, h => by omega
  | i + 1, j, h => by
    simp only [promL]
    by_cases hj : j < i
    · rw [List.getElem?_append_left (by rw [promL_length]; exact hj)]; exact promL_get zs i j hj
    · have : j = i := by omega
      subst this
      rw [List.getElem?_append_right (by rw [promL_length]; omega)]
      simp [promL_length]

theorem promV_ok {i : Nat} {n : Int} (hi : i < 8) (hn : 0 ≤ n ∧ n ≤ 1000000000) : promV (i : Int) n = .tup [.i (promiseF (i : Int) n), .i 0] := by
  have e1 : inB (i : Int) 0 7 = true := inB_iff.2 (by omega)
  have e2 : inB n 0 1000000000 = true := inB_iff.2 hn
  simp [promV, errP, e1, e2]

/-- the law's promised -/
theorem c42 (zs : List Int) (hz : NumsOk zs) : PC Try.prog 42 [ints zs] (ints (promL zs zs.length)) := by
  refine ⟨AC_FE (fok42 true) (Nat.le_of_ble_eq_true rfl) ?_, rfl⟩
  have h8 := hz.len
  simp only [ic42, evA, if_true, if_false, reduceIte, Nat.reduceAdd, Nat.reduceMul, Nat.reduceSub, Nat.reduceLeDiff, Nat.reduceEqDiff, Nat.reduceBEq, Nat.reduceBNe, Int.reduceAdd, Int.reduceMul, Int.reduceSub, Int.reduceLT, Int.reduceGT, Int.reduceGE, Int.reduceLE, Int.reduceEq, Int.reduceNeg, Int.reduceToNat, reduceCtorEq, beq_false, Int.reduceBEq, Int.reduceBNe]
  refine IL_for zs.length (fun i s => ∃ σ v v4 v5, AccAt σ v (promL zs i) ∧ s = ⟨[ints zs, .cv .nils, v, .i i, v4, v5], σ⟩) ?_ 0 (Nat.zero_le _) ⟨[], _, _, _, .nil _, rfl⟩
  rintro i s hi ⟨σ, v, v4, v5, hacc, rfl⟩
  by_cases h : i < zs.length
  · simp only [ic42l0, Int.ofNat_lt, h, evA, if_true, if_false, reduceIte, Nat.reduceAdd, Nat.reduceMul, Nat.reduceSub, Nat.reduceLeDiff, Nat.reduceEqDiff, Nat.reduceBEq, Nat.reduceBNe, Int.reduceAdd, Int.reduceMul, Int.reduceSub, Int.reduceLT, Int.reduceGT, Int.reduceGE, Int.reduceLE, Int.reduceEq, Int.reduceNeg, Int.reduceToNat, reduceCtorEq, beq_false, Int.reduceBEq, Int.reduceBNe]
    refine (c16 (i : Int) _).call (by (try dsimp only); repeat (first | exact trivial | rfl | exact frz_ints_nl | (apply frz_ints (fun _ => trivial); first | rfl | (simp [rowOf]; done)) | constructor | simp only [frzA])) ?_
    rw [promV_ok (by omega) (hz.rng i h)]
    obtain ⟨v', σ', he, hacc'⟩ := acc_append (promiseF (i : Int) (zs[i]?.getD 0)) hacc (by rw [promL_length]; omega)
    simp only [he, evA, if_true, if_false, reduceIte, Nat.reduceAdd, Nat.reduceMul, Nat.reduceSub, Nat.reduceLeDiff, Nat.reduceEqDiff, Nat.reduceBEq, Nat.reduceBNe, Int.reduceAdd, Int.reduceMul, Int.reduceSub, Int.reduceLT, Int.reduceGT, Int.reduceGE, Int.reduceLE, Int.reduceEq, Int.reduceNeg, Int.reduceToNat, reduceCtorEq, beq_false, Int.reduceBEq, Int.reduceBNe]
    exact kFor_go (by first | trivial | omega) ⟨_, _, _, _, hacc', by rw [wrap_in (by omega)]; rfl⟩
  · have : i = zs.length := by omega
    subst this
    simp only [ic42l0, Int.ofNat_lt, h, evA, if_true, if_false, reduceIte, Nat.reduceAdd, Nat.reduceMul, Nat.reduceSub, Nat.reduceLeDiff, Nat.reduceEqDiff, Nat.reduceBEq, Nat.reduceBNe, Int.reduceAdd, Int.reduceMul, Int.reduceSub, Int.reduceLT, Int.reduceGT, Int.reduceGE, Int.reduceLE, Int.reduceEq, Int.reduceNeg, Int.reduceToNat, reduceCtorEq, beq_false, Int.reduceBEq, Int.reduceBNe]
    exact acc_frz (fun _ => trivial) hacc

theorem cheatF_congr {ps zs ys : List Int} : ∀ i, (∀ j, j < i → zs[j]?.getD 0 = ys[j]?.getD 0) → cheatF ps zs i = cheatF ps ys i
  | 0, _ => rfl
  | i + 1, h => by
    have hb : cheatB ps zs i = cheatB ps ys i := by simp only [cheatB]; rw [h i (by omega)]
    simp only [cheatF, hb]
    rw [cheatF_congr i fun j hj => h j (by omega)]

theorem cheatF_none {ps zs : List Int} : ∀ i : Nat, (∀ j : Nat, j < i → promiseF (j : Int) (zs[j]?.getD 0) = ps[j]?.getD 0) → cheatF ps zs i = []
  | 0, _ => rfl
  | i + 1, h => by
    have hb : cheatB ps zs i = false := by simp only [cheatB]; rw [h i (by omega)]; simp
    simp only [cheatF, hb]
    exact cheatF_none i fun j hj => h j (by omega)

theorem promErr_of {zs ys : List Int} (hy : NumsOk ys) (hl : ys.length = zs.length) : promErr (promL zs zs.length) ys = 0 := by
  have ho : outF 0 2147483646 (promL zs zs.length) = false := outF_false.2 fun j hj => by
    rw [promL_length] at hj
    rw [promL_get zs _ j hj]
    have := promiseF_bounds (j : Int) (zs[j]?.getD 0)
    exact inB_iff.2 (by omega)
  simp [promErr, numErr_of hy, promL_length, hl, ho]

theorem c10 (zs us : List Int) (w : Int) (hz : zs.length < 2 ^ 63) (hw : 0 ≤ w ∧ w ≤ 255) (hu : us.length < 2 ^ 63) (hur : ∀ u ∈ us, 0 ≤ u ∧ u ≤ 4294967295) : AC Try.prog 10 [ints zs, .cv (.int .u8 w), .cv (.rsl (us.map (.int .u32)) us.length)] [] fun r _ => r = .b true := by
  refine AC_FE (fok10 true) (Nat.le_of_ble_eq_true rfl) ?_
  simp only [ic10, evA, if_true, if_false, reduceIte, Nat.reduceAdd, Nat.reduceMul, Nat.reduceSub, Nat.reduceLeDiff, Nat.reduceEqDiff, Nat.reduceBEq, Nat.reduceBNe, Int.reduceAdd, Int.reduceMul, Int.reduceSub, Int.reduceLT, Int.reduceGT, Int.reduceGE, Int.reduceLE, Int.reduceEq, Int.reduceNeg, Int.reduceToNat, reduceCtorEq, beq_false, Int.reduceBEq, Int.reduceBNe]
  refine (c41 zs hz).call (by (try dsimp only); repeat (first | exact trivial | rfl | exact frz_ints_nl | (apply frz_ints (fun _ => trivial); first | rfl | (simp [rowOf]; done)) | constructor | simp only [frzA])) ?_
  by_cases h0 : numErr zs = 0
  · rw [h0]
    have hok := numErr_ok h0
    have h8 := hok.len
    simp only [evA, if_true, if_false, reduceIte, Nat.reduceAdd, Nat.reduceMul, Nat.reduceSub, Nat.reduceLeDiff, Nat.reduceEqDiff, Nat.reduceBEq, Nat.reduceBNe, Int.reduceAdd, Int.reduceMul, Int.reduceSub, Int.reduceLT, Int.reduceGT, Int.reduceGE, Int.reduceLE, Int.reduceEq, Int.reduceNeg, Int.reduceToNat, reduceCtorEq, beq_false, Int.reduceBEq, Int.reduceBNe]
    refine (c42 zs hok).call (by (try dsimp only); repeat (first | exact trivial | rfl | exact frz_ints_nl | (apply frz_ints (fun _ => trivial); first | rfl | (simp [rowOf]; done)) | constructor | simp only [frzA])) ?_
    simp only [evA, if_true, if_false, reduceIte, Nat.reduceAdd, Nat.reduceMul, Nat.reduceSub, Nat.reduceLeDiff, Nat.reduceEqDiff, Nat.reduceBEq, Nat.reduceBNe, Int.reduceAdd, Int.reduceMul, Int.reduceSub, Int.reduceLT, Int.reduceGT, Int.reduceGE, Int.reduceLE, Int.reduceEq, Int.reduceNeg, Int.reduceToNat, reduceCtorEq, beq_false, Int.reduceBEq, Int.reduceBNe]
    refine (c18 (promL zs zs.length) zs (by rw [promL_length]; omega) hz).call (by (try dsimp only); repeat (first | exact trivial | rfl | exact frz_ints_nl | (apply frz_ints (fun _ => trivial); first | rfl | (simp [rowOf]; done)) | constructor | simp only [frzA])) ?_
    have hcv : cheatsV (promL zs zs.length) zs = .tup [ints [], .i 0] := by
      have := cheatF_none (ps := promL zs zs.length) (zs := zs) zs.length (fun j hj => (promL_get zs _ j hj).symm)
      simp [cheatsV, promErr_of hok rfl, this]
    rw [hcv]
    simp only [append_copy (σ := [AObj.cells []]) (l := 0) (zs := zs) rfl (by omega), Int.natCast_zero, evA, if_true, if_false, reduceIte, Nat.reduceAdd, Nat.reduceMul, Nat.reduceSub, Nat.reduceLeDiff, Nat.reduceEqDiff, Nat.reduceBEq, Nat.reduceBNe, Int.reduceAdd, Int.reduceMul, Int.reduceSub, Int.reduceLT, Int.reduceGT, Int.reduceGE, Int.reduceLE, Int.reduceEq, Int.reduceNeg, Int.reduceToNat, reduceCtorEq, beq_false, Int.reduceBEq, Int.reduceBNe]
    generalize hps : promL zs zs.length = ps
    have hpl : ps.length = zs.length := by rw [← hps, promL_length]
    refine IL_for zs.length (fun i s => ∃ ys σ v9 v11 v12 v16 v17 v18 v19, ys.length = zs.length ∧ NumsOk ys ∧ rowOf σ 1 = some (ys.map AV.i) ∧ AccFrom 2 σ v9 (cheatF ps ys i) ∧
      s = ⟨[ints zs, .cv (.int .u8 w), .cv (.rsl (us.map (.int .u32)) us.length), .cv (.bool false), .undef, ints ps, ints [], .i 0, .sl 1 0 zs.length 1, v9, .i i, v11, v12, .undef, .b false, .b false, v16, v17, v18, v19], σ⟩) ?_ 0 (Nat.zero_le _)
      ⟨zs, [AObj.dead, AObj.cells (zs.map AV.i)], _, _, _, _, _, _, _, rfl, hok, rfl, .nil (by simp), rfl⟩
    rintro i s hi ⟨ys, σ, v9, v11, v12, v16, v17, v18, v19, hyl, hyok, hrow, hacc, rfl⟩
    by_cases h : i < zs.length
    · have hi1 : i < ys.length := by omega
      have hip : i < ps.length := by omega
      have hi0 : ¬ ((i : Int) < 0) := by omega
      simp only [ic10l0, Int.ofNat_lt, h, hi0, shiftI, evA, if_true, if_false, reduceIte, Nat.reduceAdd, Nat.reduceMul, Nat.reduceSub, Nat.reduceLeDiff, Nat.reduceEqDiff, Nat.reduceBEq, Nat.reduceBNe, Int.reduceAdd, Int.reduceMul, Int.reduceSub, Int.reduceLT, Int.reduceGT, Int.reduceGE, Int.reduceLE, Int.reduceEq, Int.reduceNeg, Int.reduceToNat, reduceCtorEq, beq_false, Int.reduceBEq, Int.reduceBNe]
      generalize ((w.fdiv (2 ^ min i IntKind.u8.bits)).tmod 2 == 1) = b
      have key : b = false ∨ (b = true ∧ us.length = 0) ∨ (b = true ∧ us.length ≠ 0) := by
        cases b
        · exact .inl rfl
        · exact .inr ((Nat.eq_zero_or_pos us.length).imp (fun h => ⟨rfl, h⟩) fun h => ⟨rfl, by omega⟩)
      rcases key with rfl | ⟨rfl, hul⟩ | ⟨rfl, hul⟩
      · simp only [h, hi1, hrow, evA, if_true, if_false, reduceIte, Nat.reduceAdd, Nat.reduceMul, Nat.reduceSub, Nat.reduceLeDiff, Nat.reduceEqDiff, Nat.reduceBEq, Nat.reduceBNe, Int.reduceAdd, Int.reduceMul, Int.reduceSub, Int.reduceLT, Int.reduceGT, Int.reduceGE, Int.reduceLE, Int.reduceEq, Int.reduceNeg, Int.reduceToNat, reduceCtorEq, beq_false, Int.reduceBEq, Int.reduceBNe]
        refine (c16 (i : Int) _).call (by (try dsimp only); repeat (first | exact trivial | rfl | exact frz_ints_nl | (apply frz_ints (fun _ => trivial); first | rfl | (simp [rowOf]; done)) | constructor | simp only [frzA])) ?_
        rw [promV_ok (by omega) (hyok.rng i hi1)]
        simp only [h, hi1, hip, hrow, evA, if_true, if_false, reduceIte, Nat.reduceAdd, Nat.reduceMul, Nat.reduceSub, Nat.reduceLeDiff, Nat.reduceEqDiff, Nat.reduceBEq, Nat.reduceBNe, Int.reduceAdd, Int.reduceMul, Int.reduceSub, Int.reduceLT, Int.reduceGT, Int.reduceGE, Int.reduceLE, Int.reduceEq, Int.reduceNeg, Int.reduceToNat, reduceCtorEq, beq_false, Int.reduceBEq, Int.reduceBNe]
        have hcb : (promiseF (i : Int) (ys[i]?.getD 0) != ps[i]?.getD 0) = cheatB ps ys i := rfl
        rw [hcb]
        have hlen := cheatF_length ps ys i
        cases hc : cheatB ps ys i
        · simp only [evA, if_true, if_false, reduceIte, Nat.reduceAdd, Nat.reduceMul, Nat.reduceSub, Nat.reduceLeDiff, Nat.reduceEqDiff, Nat.reduceBEq, Nat.reduceBNe, Int.reduceAdd, Int.reduceMul, Int.reduceSub, Int.reduceLT, Int.reduceGT, Int.reduceGE, Int.reduceLE, Int.reduceEq, Int.reduceNeg, Int.reduceToNat, reduceCtorEq, beq_false, Int.reduceBEq, Int.reduceBNe]
          exact kFor_go (by first | trivial | omega) ⟨ys, _, _, _, _, _, _, _, _, hyl, hyok, hrow, by simpa [cheatF, hc] using hacc, by rw [wrap_in (by omega)]; rfl⟩
        · obtain ⟨v', σ', he, hacc', hlow⟩ := accFrom_append (i : Int) hacc (by omega)
          simp only [he, evA, if_true, if_false, reduceIte, Nat.reduceAdd, Nat.reduceMul, Nat.reduceSub, Nat.reduceLeDiff, Nat.reduceEqDiff, Nat.reduceBEq, Nat.reduceBNe, Int.reduceAdd, Int.reduceMul, Int.reduceSub, Int.reduceLT, Int.reduceGT, Int.reduceGE, Int.reduceLE, Int.reduceEq, Int.reduceNeg, Int.reduceToNat, reduceCtorEq, beq_false, Int.reduceBEq, Int.reduceBNe]
          exact kFor_go (by first | trivial | omega) ⟨ys, _, _, _, _, _, _, _, _, hyl, hyok, by rw [hlow 1 (by omega)]; exact hrow, by simpa [cheatF, hc] using hacc', by rw [wrap_in (by omega)]; rfl⟩
      · have hg : ((us.length : Int) > 0) = False := by simp [hul]
        simp only [h, hg, hi1, hrow, evA, if_true, if_false, reduceIte, Nat.reduceAdd, Nat.reduceMul, Nat.reduceSub, Nat.reduceLeDiff, Nat.reduceEqDiff, Nat.reduceBEq, Nat.reduceBNe, Int.reduceAdd, Int.reduceMul, Int.reduceSub, Int.reduceLT, Int.reduceGT, Int.reduceGE, Int.reduceLE, Int.reduceEq, Int.reduceNeg, Int.reduceToNat, reduceCtorEq, beq_false, Int.reduceBEq, Int.reduceBNe]
        refine (c16 (i : Int) _).call (by (try dsimp only); repeat (first | exact trivial | rfl | exact frz_ints_nl | (apply frz_ints (fun _ => trivial); first | rfl | (simp [rowOf]; done)) | constructor | simp only [frzA])) ?_
        rw [promV_ok (by omega) (hyok.rng i hi1)]
        simp only [h, hi1, hip, hrow, evA, if_true, if_false, reduceIte, Nat.reduceAdd, Nat.reduceMul, Nat.reduceSub, Nat.reduceLeDiff, Nat.reduceEqDiff, Nat.reduceBEq, Nat.reduceBNe, Int.reduceAdd, Int.reduceMul, Int.reduceSub, Int.reduceLT, Int.reduceGT, Int.reduceGE, Int.reduceLE, Int.reduceEq, Int.reduceNeg, Int.reduceToNat, reduceCtorEq, beq_false, Int.reduceBEq, Int.reduceBNe]
        have hcb : (promiseF (i : Int) (ys[i]?.getD 0) != ps[i]?.getD 0) = cheatB ps ys i := rfl
        rw [hcb]
        have hlen := cheatF_length ps ys i
        cases hc : cheatB ps ys i
        · simp only [evA, if_true, if_false, reduceIte, Nat.reduceAdd, Nat.reduceMul, Nat.reduceSub, Nat.reduceLeDiff, Nat.reduceEqDiff, Nat.reduceBEq, Nat.reduceBNe, Int.reduceAdd, Int.reduceMul, Int.reduceSub, Int.reduceLT, Int.reduceGT, Int.reduceGE, Int.reduceLE, Int.reduceEq, Int.reduceNeg, Int.reduceToNat, reduceCtorEq, beq_false, Int.reduceBEq, Int.reduceBNe]
          exact kFor_go (by first | trivial | omega) ⟨ys, _, _, _, _, _, _, _, _, hyl, hyok, hrow, by simpa [cheatF, hc] using hacc, by rw [wrap_in (by omega)]; rfl⟩
        · obtain ⟨v', σ', he, hacc', hlow⟩ := accFrom_append (i : Int) hacc (by omega)
          simp only [he, evA, if_true, if_false, reduceIte, Nat.reduceAdd, Nat.reduceMul, Nat.reduceSub, Nat.reduceLeDiff, Nat.reduceEqDiff, Nat.reduceBEq, Nat.reduceBNe, Int.reduceAdd, Int.reduceMul, Int.reduceSub, Int.reduceLT, Int.reduceGT, Int.reduceGE, Int.reduceLE, Int.reduceEq, Int.reduceNeg, Int.reduceToNat, reduceCtorEq, beq_false, Int.reduceBEq, Int.reduceBNe]
          exact kFor_go (by first | trivial | omega) ⟨ys, _, _, _, _, _, _, _, _, hyl, hyok, by rw [hlow 1 (by omega)]; exact hrow, by simpa [cheatF, hc] using hacc', by rw [wrap_in (by omega)]; rfl⟩
      · have hg : ((us.length : Int) > 0) = True := by simp; omega
        have hu0 : ¬ ((us.length : Int) = 0) := by omega
        obtain ⟨k, hk, hku⟩ : ∃ k : Nat, (i : Int).tmod us.length = (k : Int) ∧ k < us.length := by
          have h1 : (i : Int).tmod us.length = (i : Int) % us.length := Int.tmod_eq_emod_of_nonneg (by omega)
          have h2 := Int.emod_lt_of_pos (i : Int) (show (0 : Int) < us.length by omega)
          have h3 := Int.emod_nonneg (i : Int) (show (us.length : Int) ≠ 0 by omega)
          exact ⟨((i : Int) % us.length).toNat, by rw [h1]; omega, by omega⟩
        have hur' : 0 ≤ us[k]?.getD 0 ∧ us[k]?.getD 0 ≤ 4294967295 := by
          rw [List.getElem?_eq_getElem hku]; exact hur _ (List.getElem_mem hku)
        have hu64 : IntKind.i64.wrap (us[k]?.getD 0) = us[k]?.getD 0 := wrap_in (by omega)
        obtain ⟨o', ho'⟩ : ∃ o', o' = (us[k]?.getD 0).tmod 1000000001 := ⟨_, rfl⟩
        have hor : 0 ≤ o' ∧ o' ≤ 1000000000 := by rw [ho', Int.tmod_eq_emod_of_nonneg hur'.1]; omega
        have hi2 : i + 1 ≤ ys.length := hi1
        have hrow' : rowOf (σ.set 1 (AObj.cells ((ys.set i o').map AV.i))) 1 = some ((ys.set i o').map AV.i) := rowOf_set_self hrow
        have hi3 : i < (ys.set i o').length := by simpa using hi1
        simp only [h, hg, hu0, hi1, hi2, hi3, hk, hku, hu64, ← ho', hrow, hrow', evA, if_true, if_false, reduceIte, Nat.reduceAdd, Nat.reduceMul, Nat.reduceSub, Nat.reduceLeDiff, Nat.reduceEqDiff, Nat.reduceBEq, Nat.reduceBNe, Int.reduceAdd, Int.reduceMul, Int.reduceSub, Int.reduceLT, Int.reduceGT, Int.reduceGE, Int.reduceLE, Int.reduceEq, Int.reduceNeg, Int.reduceToNat, reduceCtorEq, beq_false, Int.reduceBEq, Int.reduceBNe]
        have hyl' : (ys.set i o').length = zs.length := by simpa using hyl
        have hyok' : NumsOk (ys.set i o') := ⟨by rw [hyl']; exact h8, fun j hj => by
          by_cases hij : i = j
          · subst hij; simp [hi1, hor]
          · rw [List.getElem?_set_ne hij]; exact hyok.rng j (by simpa using hj)⟩
        have hacc' : AccFrom 2 (σ.set 1 (AObj.cells ((ys.set i o').map AV.i))) v9 (cheatF ps (ys.set i o') i) := by
          rw [← cheatF_congr (zs := ys) i fun j hj => by rw [List.getElem?_set_ne (by omega)]]
          exact hacc.store (by omega) _
        clear hyl hyok hrow hacc hi1 hi2
        generalize σ.set 1 (AObj.cells ((ys.set i o').map AV.i)) = σ at *
        generalize ys.set i o' = ys at *
        have hyl := hyl'
        have hyok := hyok'
        have hrow := hrow'
        have hacc := hacc'
        have hi1 := hi3
        refine (c16 (i : Int) _).call (by (try dsimp only); repeat (first | exact trivial | rfl | exact frz_ints_nl | (apply frz_ints (fun _ => trivial); first | rfl | (simp [rowOf]; done)) | constructor | simp only [frzA])) ?_
        rw [promV_ok (by omega) (hyok.rng i hi1)]
        simp only [h, hi1, hip, hrow, evA, if_true, if_false, reduceIte, Nat.reduceAdd, Nat.reduceMul, Nat.reduceSub, Nat.reduceLeDiff, Nat.reduceEqDiff, Nat.reduceBEq, Nat.reduceBNe, Int.reduceAdd, Int.reduceMul, Int.reduceSub, Int.reduceLT, Int.reduceGT, Int.reduceGE, Int.reduceLE, Int.reduceEq, Int.reduceNeg, Int.reduceToNat, reduceCtorEq, beq_false, Int.reduceBEq, Int.reduceBNe]
        have hcb : (promiseF (i : Int) (ys[i]?.getD 0) != ps[i]?.getD 0) = cheatB ps ys i := rfl
        rw [hcb]
        have hlen := cheatF_length ps ys i
        cases hc : cheatB ps ys i
        · simp only [evA, if_true, if_false, reduceIte, Nat.reduceAdd, Nat.reduceMul, Nat.reduceSub, Nat.reduceLeDiff, Nat.reduceEqDiff, Nat.reduceBEq, Nat.reduceBNe, Int.reduceAdd, Int.reduceMul, Int.reduceSub, Int.reduceLT, Int.reduceGT, Int.reduceGE, Int.reduceLE, Int.reduceEq, Int.reduceNeg, Int.reduceToNat, reduceCtorEq, beq_false, Int.reduceBEq, Int.reduceBNe]
          exact kFor_go (by first | trivial | omega) ⟨ys, _, _, _, _, _, _, _, _, hyl, hyok, hrow, by simpa [cheatF, hc] using hacc, by rw [wrap_in (by omega)]; rfl⟩
        · obtain ⟨v', σ', he, hacc', hlow⟩ := accFrom_append (i : Int) hacc (by omega)
          simp only [he, evA, if_true, if_false, reduceIte, Nat.reduceAdd, Nat.reduceMul, Nat.reduceSub, Nat.reduceLeDiff, Nat.reduceEqDiff, Nat.reduceBEq, Nat.reduceBNe, Int.reduceAdd, Int.reduceMul, Int.reduceSub, Int.reduceLT, Int.reduceGT, Int.reduceGE, Int.reduceLE, Int.reduceEq, Int.reduceNeg, Int.reduceToNat, reduceCtorEq, beq_false, Int.reduceBEq, Int.reduceBNe]
          exact kFor_go (by first | trivial | omega) ⟨ys, _, _, _, _, _, _, _, _, hyl, hyok, by rw [hlow 1 (by omega)]; exact hrow, by simpa [cheatF, hc] using hacc', by rw [wrap_in (by omega)]; rfl⟩
    · have : i = zs.length := by omega
      subst this
      simp only [ic10l0, Int.ofNat_lt, h, evA, if_true, if_false, reduceIte, Nat.reduceAdd, Nat.reduceMul, Nat.reduceSub, Nat.reduceLeDiff, Nat.reduceEqDiff, Nat.reduceBEq, Nat.reduceBNe, Int.reduceAdd, Int.reduceMul, Int.reduceSub, Int.reduceLT, Int.reduceGT, Int.reduceGE, Int.reduceLE, Int.reduceEq, Int.reduceNeg, Int.reduceToNat, reduceCtorEq, beq_false, Int.reduceBEq, Int.reduceBNe]
      refine (c18 ps ys (by omega) (by omega)).call (.cons (.c (.c _ trivial)) (.cons (frz_ints' (fun _ => trivial) hyl.symm hrow) .nil)) ?_
      have hcv2 : cheatsV ps ys = .tup [ints (cheatF ps ys zs.length), .i 0] := by
        have := promErr_of (zs := zs) hyok hyl
        rw [hps] at this
        simp [cheatsV, this, hyl]
      rw [hcv2]
      have hle := cheatF_length ps ys zs.length
      have hacc' := hacc.acc
      generalize cheatF ps ys zs.length = L at hle hacc' ⊢
      simp only [evA, if_true, if_false, reduceIte, Nat.reduceAdd, Nat.reduceMul, Nat.reduceSub, Nat.reduceLeDiff, Nat.reduceEqDiff, Nat.reduceBEq, Nat.reduceBNe, Int.reduceAdd, Int.reduceMul, Int.reduceSub, Int.reduceLT, Int.reduceGT, Int.reduceGE, Int.reduceLE, Int.reduceEq, Int.reduceNeg, Int.reduceToNat, reduceCtorEq, beq_false, Int.reduceBEq, Int.reduceBNe]
      refine (c20 L L (by omega)).call (.cons (.c (.c _ trivial)) (.cons (acc_frz (fun _ => trivial) hacc') .nil)) ?_
      simp only [evA, if_true, if_false, reduceIte, Nat.reduceAdd, Nat.reduceMul, Nat.reduceSub, Nat.reduceLeDiff, Nat.reduceEqDiff, Nat.reduceBEq, Nat.reduceBNe, Int.reduceAdd, Int.reduceMul, Int.reduceSub, Int.reduceLT, Int.reduceGT, Int.reduceGE, Int.reduceLE, Int.reduceEq, Int.reduceNeg, Int.reduceToNat, reduceCtorEq, beq_false, Int.reduceBEq, Int.reduceBNe]
      refine (awake _).run ?_
      simp only [evA, if_true, if_false, reduceIte, Nat.reduceAdd, Nat.reduceMul, Nat.reduceSub, Nat.reduceLeDiff, Nat.reduceEqDiff, Nat.reduceBEq, Nat.reduceBNe, Int.reduceAdd, Int.reduceMul, Int.reduceSub, Int.reduceLT, Int.reduceGT, Int.reduceGE, Int.reduceLE, Int.reduceEq, Int.reduceNeg, Int.reduceToNat, reduceCtorEq, beq_false, Int.reduceBEq, Int.reduceBNe]
  · obtain ⟨e, he, hne⟩ : ∃ e, numErr zs = e ∧ e ≠ 0 := ⟨_, rfl, h0⟩
    have hv : lotV zs = .tup [.i 0, .i e] := by simp [lotV, he, hne]
    have hb : (e != 0) = true := by simpa using hne
    rw [he]
    simp only [hb, evA, if_true, if_false, reduceIte, Nat.reduceAdd, Nat.reduceMul, Nat.reduceSub, Nat.reduceLeDiff, Nat.reduceEqDiff, Nat.reduceBEq, Nat.reduceBNe, Int.reduceAdd, Int.reduceMul, Int.reduceSub, Int.reduceLT, Int.reduceGT, Int.reduceGE, Int.reduceLE, Int.reduceEq, Int.reduceNeg, Int.reduceToNat, reduceCtorEq, beq_false, Int.reduceBEq, Int.reduceBNe]
    refine (c21 zs hz).call (by (try dsimp only); repeat (first | exact trivial | rfl | exact frz_ints_nl | (apply frz_ints (fun _ => trivial); first | rfl | (simp [rowOf]; done)) | constructor | simp only [frzA])) ?_
    rw [hv]
    simp only [hb, evA, if_true, if_false, reduceIte, Nat.reduceAdd, Nat.reduceMul, Nat.reduceSub, Nat.reduceLeDiff, Nat.reduceEqDiff, Nat.reduceBEq, Nat.reduceBNe, Int.reduceAdd, Int.reduceMul, Int.reduceSub, Int.reduceLT, Int.reduceGT, Int.reduceGE, Int.reduceLE, Int.reduceEq, Int.reduceNeg, Int.reduceToNat, reduceCtorEq, beq_false, Int.reduceBEq, Int.reduceBNe]
    refine (awake _).run ?_
    simp only [evA, if_true, if_false, reduceIte, Nat.reduceAdd, Nat.reduceMul, Nat.reduceSub, Nat.reduceLeDiff, Nat.reduceEqDiff, Nat.reduceBEq, Nat.reduceBNe, Int.reduceAdd, Int.reduceMul, Int.reduceSub, Int.reduceLT, Int.reduceGT, Int.reduceGE, Int.reduceLE, Int.reduceEq, Int.reduceNeg, Int.reduceToNat, reduceCtorEq, beq_false, Int.reduceBEq, Int.reduceBNe]

theorem law_LotCheats (avs : List AV) (h : Args Try.prog Try.f10.params.toList avs) : AC Try.prog 10 avs [] fun r _ => r = .b true := by
  have h : Args Try.prog [23, 5, 58] avs := h
  obtain ⟨cs1, avs, rfl, h1, h⟩ := args_cons h
  obtain ⟨cs2, avs, rfl, h2, h⟩ := args_cons h
  obtain ⟨cs3, avs, rfl, h3, h⟩ := args_cons h
  cases args_nil h
  obtain ⟨zs, rfl, hz, _⟩ := typed_ints Try.underlying23 Try.underlying3 h1
  obtain ⟨w, rfl, hw⟩ := typed_int Try.underlying5 h2
  obtain ⟨us, rfl, hu, hur⟩ := typed_ints Try.underlying58 Try.underlying50 h3
  simp only [avOf, Try.underlying23, Try.underlying5, Try.underlying58]
  exact c10 zs us w hz (wf_u8 hw) hu fun u h => wf_u32 (hur u h)

end Go.Proofs.Ytphdemhopihpnaa.AM

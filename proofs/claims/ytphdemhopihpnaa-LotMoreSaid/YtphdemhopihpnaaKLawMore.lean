/- The law LotMore, by the contracts. -/
import Derived.Test.YtphdemhopihpnaaZ38
import Derived.Test.YtphdemhopihpnaaKLotI14
namespace Go.Proofs.Ytphdemhopihpnaa.AM
open Go
set_option linter.unusedVariables false
set_option linter.unusedSimpArgs false
set_option maxRecDepth 20000

theorem arr_addr0 {N : Nat} {l o : Nat} {k : Int} (h : 0 ≤ k ∧ k < N) (σ : List AObj) : f_iaA N 1 [.ptr l o, .cv (.int .i64 k)] σ = some (.ptr l (o + k.toNat), σ) := by
  simp [f_iaA, h]

theorem c14 (ts ks : List Int) (x0 x1 : Nat) (h0 : x0 ≤ 255) (h1 : x1 ≤ 255) (ht : ts.length < 2 ^ 63) (hk : ks.length < 2 ^ 63) : AC Try.prog 14 [drw ts ks, .agg [.cv (.int .u8 x0), .cv (.int .u8 x1)]] [] fun r _ => r = .b true := by
  refine AC_FE (fok14 true) (Nat.le_of_ble_eq_true rfl) ?_
  simp only [ic14, f_box, cellsOf, evA, if_true, if_false, reduceIte, Nat.reduceAdd, Nat.reduceMul, Nat.reduceSub, Nat.reduceLeDiff, Nat.reduceEqDiff, Nat.reduceBEq, Nat.reduceBNe, Int.reduceAdd, Int.reduceMul, Int.reduceSub, Int.reduceLT, Int.reduceGT, Int.reduceGE, Int.reduceLE, Int.reduceEq, Int.reduceNeg, Int.reduceToNat, reduceCtorEq, beq_false, Int.reduceBEq, Int.reduceBNe]
  rcases checkV_cases ts ks with ⟨hv, hok⟩ | ⟨x, y, e, hv, he⟩
  rotate_left
  · refine (c26_err ts ks ht hk hv he).call (by (try dsimp only); repeat (first | exact trivial | rfl | exact frz_ints_nl | (apply frz_ints (fun _ => trivial); first | rfl | (simp [rowOf]; done)) | constructor | simp only [frzA])) ?_
    obtain ⟨b, hb, hbt, hbf⟩ := c38 ts ks ht hk
    cases b with
    | true => have := (hbt rfl).2; rw [hv] at this; cases this; exact absurd rfl he
    | false =>
    have hne : (e != 0) = true := by simpa using he
    simp only [evA, if_true, if_false, reduceIte, Nat.reduceAdd, Nat.reduceMul, Nat.reduceSub, Nat.reduceLeDiff, Nat.reduceEqDiff, Nat.reduceBEq, Nat.reduceBNe, Int.reduceAdd, Int.reduceMul, Int.reduceSub, Int.reduceLT, Int.reduceGT, Int.reduceGE, Int.reduceLE, Int.reduceEq, Int.reduceNeg, Int.reduceToNat, reduceCtorEq, beq_false, Int.reduceBEq, Int.reduceBNe]
    refine hb.call (by (try dsimp only); repeat (first | exact trivial | rfl | exact frz_ints_nl | (apply frz_ints (fun _ => trivial); first | rfl | (simp [rowOf]; done)) | constructor | simp only [frzA])) ?_
    simp only [hne, evA, if_true, if_false, reduceIte, Nat.reduceAdd, Nat.reduceMul, Nat.reduceSub, Nat.reduceLeDiff, Nat.reduceEqDiff, Nat.reduceBEq, Nat.reduceBNe, Int.reduceAdd, Int.reduceMul, Int.reduceSub, Int.reduceLT, Int.reduceGT, Int.reduceGE, Int.reduceLE, Int.reduceEq, Int.reduceNeg, Int.reduceToNat, reduceCtorEq, beq_false, Int.reduceBEq, Int.reduceBNe]
    refine (awake _).run ?_
    simp only [evA, if_true, if_false, reduceIte, Nat.reduceAdd, Nat.reduceMul, Nat.reduceSub, Nat.reduceLeDiff, Nat.reduceEqDiff, Nat.reduceBEq, Nat.reduceBNe, Int.reduceAdd, Int.reduceMul, Int.reduceSub, Int.reduceLT, Int.reduceGT, Int.reduceGE, Int.reduceLE, Int.reduceEq, Int.reduceNeg, Int.reduceToNat, reduceCtorEq, beq_false, Int.reduceBEq, Int.reduceBNe]
  refine (c26_ok ts ks ht hk hv hok).call (by (try dsimp only); repeat (first | exact trivial | rfl | exact frz_ints_nl | (apply frz_ints (fun _ => trivial); first | rfl | (simp [rowOf]; done)) | constructor | simp only [frzA])) ?_
  obtain ⟨b, hb, hbt, hbf⟩ := c38 ts ks ht hk
  cases b with
  | false => obtain ⟨x, y, e, hv2, he⟩ := hbf rfl; rw [hv] at hv2; cases hv2; exact absurd rfl he
  | true => 
  generalize hN : waysF ks ks.length ts = n
  simp only [evA, if_true, if_false, reduceIte, Nat.reduceAdd, Nat.reduceMul, Nat.reduceSub, Nat.reduceLeDiff, Nat.reduceEqDiff, Nat.reduceBEq, Nat.reduceBNe, Int.reduceAdd, Int.reduceMul, Int.reduceSub, Int.reduceLT, Int.reduceGT, Int.reduceGE, Int.reduceLE, Int.reduceEq, Int.reduceNeg, Int.reduceToNat, reduceCtorEq, beq_false, Int.reduceBEq, Int.reduceBNe]
  refine hb.call (by (try dsimp only); repeat (first | exact trivial | rfl | exact frz_ints_nl | (apply frz_ints (fun _ => trivial); first | rfl | (simp [rowOf]; done)) | constructor | simp only [frzA])) ?_
  have a20 : ∀ l o σ, f_iaA 2 1 [.ptr l o, .cv (.int .i64 0)] σ = some (.ptr l o, σ) := fun l o σ => by simp [f_iaA]
  have a21 : ∀ l o σ, f_iaA 2 1 [.ptr l o, .cv (.int .i64 1)] σ = some (.ptr l (o + 1), σ) := fun l o σ => by simp [f_iaA]
  have h6 := hok.tl
  have hk8 := hok.kl
  have hlen0 : ¬ ((ts.length : Int) = 0) := by omega
  have hx0 : IntKind.i64.wrap (x0 : Int) = x0 := wrap_in (by omega)
  have hx1 : IntKind.i64.wrap (x1 : Int) = x1 := wrap_in (by omega)
  have hrem0 : (x0 : Int).tmod ts.length = ((x0 % ts.length : Nat) : Int) := by rw [Int.tmod_eq_emod_of_nonneg (by omega)]; rfl
  have hil : x0 % ts.length < ts.length := Nat.mod_lt _ (by omega)
  generalize x0 % ts.length = i at *
  simp only [a20, hx0, hrem0, hlen0, evA, if_true, if_false, reduceIte, Nat.reduceAdd, Nat.reduceMul, Nat.reduceSub, Nat.reduceLeDiff, Nat.reduceEqDiff, Nat.reduceBEq, Nat.reduceBNe, Int.reduceAdd, Int.reduceMul, Int.reduceSub, Int.reduceLT, Int.reduceGT, Int.reduceGE, Int.reduceLE, Int.reduceEq, Int.reduceNeg, Int.reduceToNat, reduceCtorEq, beq_false, Int.reduceBEq, Int.reduceBNe]
  refine DW_s [] [(0, 3), (0, 4), (0, 5), (1, 3), (1, 4), (1, 5), (1, 6), (2, 3), (2, 4), (2, 5), (2, 6), (2, 7), (3, 4), (3, 5), (4, 3), (4, 5), (5, 3), (5, 4)] hmix (by kernel_rfl) rfl ?_
  simp only [evA, if_true, if_false, reduceIte, Nat.reduceAdd, Nat.reduceMul, Nat.reduceSub, Nat.reduceLeDiff, Nat.reduceEqDiff, Nat.reduceBEq, Nat.reduceBNe, Int.reduceAdd, Int.reduceMul, Int.reduceSub, Int.reduceLT, Int.reduceGT, Int.reduceGE, Int.reduceLE, Int.reduceEq, Int.reduceNeg, Int.reduceToNat, reduceCtorEq, beq_false, Int.reduceBEq, Int.reduceBNe]
  have hts40 : ts.length < 2 ^ 40 := by omega
  have hapt := apI_nil hts40
  have hapk := apI_nil (zs := ks) (by omega)
  have hks40 : ks.length < 2 ^ 40 := by omega
  have hd := hok.tr i hil
  have hw1 : IntKind.i64.wrap (ts[i]?.getD 0 + 1) = ts[i]?.getD 0 + 1 := wrap_in (by omega)
  have hil' : i + 1 ≤ ts.length := hil
  obtain ⟨m, hm⟩ : ∃ m : Int, (if ts[i]?.getD 0 + 1 < 4 then ts[i]?.getD 0 + 1 else 4) = m := ⟨_, rfl⟩
  simp only [append_I, hapt, evA, if_true, if_false, reduceIte, Nat.reduceAdd, Nat.reduceMul, Nat.reduceSub, Nat.reduceLeDiff, Nat.reduceEqDiff, Nat.reduceBEq, Nat.reduceBNe, Int.reduceAdd, Int.reduceMul, Int.reduceSub, Int.reduceLT, Int.reduceGT, Int.reduceGE, Int.reduceLE, Int.reduceEq, Int.reduceNeg, Int.reduceToNat, reduceCtorEq, beq_false, Int.reduceBEq, Int.reduceBNe]
  refine DW_s [] [] hmix (by kernel_rfl) rfl ?_
  simp only [hil, hil', hw1, hm, evA, if_true, if_false, reduceIte, Nat.reduceAdd, Nat.reduceMul, Nat.reduceSub, Nat.reduceLeDiff, Nat.reduceEqDiff, Nat.reduceBEq, Nat.reduceBNe, Int.reduceAdd, Int.reduceMul, Int.reduceSub, Int.reduceLT, Int.reduceGT, Int.reduceGE, Int.reduceLE, Int.reduceEq, Int.reduceNeg, Int.reduceToNat, reduceCtorEq, beq_false, Int.reduceBEq, Int.reduceBNe]
  refine DW_s [] [(0, 4), (0, 8), (2, 0), (2, 4), (2, 8), (3, 4), (3, 8), (4, 0), (4, 3), (4, 8), (6, 0), (6, 3), (6, 4), (6, 8), (7, 8), (8, 0), (8, 3), (8, 4), (8, 7)] hmix (by kernel_rfl) rfl ?_
  simp only [append_I, hapk, append_O, apO_ints hks40, evA, if_true, if_false, reduceIte, Nat.reduceAdd, Nat.reduceMul, Nat.reduceSub, Nat.reduceLeDiff, Nat.reduceEqDiff, Nat.reduceBEq, Nat.reduceBNe, Int.reduceAdd, Int.reduceMul, Int.reduceSub, Int.reduceLT, Int.reduceGT, Int.reduceGE, Int.reduceLE, Int.reduceEq, Int.reduceNeg, Int.reduceToNat, reduceCtorEq, beq_false, Int.reduceBEq, Int.reduceBNe]
  obtain ⟨j, hj⟩ : ∃ j, j = x1 % ks.length := ⟨_, rfl⟩
  obtain ⟨S, hSd⟩ : ∃ S : Nat, S = (ks[j]?.getD 0).toNat := ⟨_, rfl⟩
  obtain ⟨lk, hlk⟩ : ∃ lk : List Int, lk = if S.testBit i then ks.set j (ks[j]?.getD 0 - ((2 ^ i : Nat) : Int)) else ks := ⟨_, rfl⟩
  have hlkl : lk.length = ks.length := by rw [hlk]; split <;> simp
  refine IL_for ks.length (fun t s => ∃ v19 v20, s = ⟨[drw ts ks, .agg [.cv (.int .u8 x0), .cv (.int .u8 x1)], .ptr 0 0, .ptr 1 0, .b false, .i n, .i 0, .i i, .ptr 2 0, .ptr 3 0, .ptr 4 0, .i t, .undef, .undef, .undef, .undef, .undef, .undef, .b false, v19, v20, .undef, .undef],
    [.cells [ints ts, ints ks], .cells [.cv (.int .u8 x0), .cv (.int .u8 x1)], .cells [.sl 6 0 ts.length 1, ints ks], .cells [ints ts, .sl 8 0 ks.length 1], .cells [ints ts, .sl 12 0 (ks.length + 1) 1], .dead, .cells ((ts.set i m).map .i), .dead, .cells ((if t ≤ j then ks else lk).map .i), .dead, .dead, .cells [.i 0], .cells ((ks ++ [0]).map .i)]⟩) ?_ 0 (Nat.zero_le _) ⟨_, _, rfl⟩
  rintro t s htl ⟨v19, v20, rfl⟩
  by_cases h : t < ks.length
  · have hkl0 : ¬ ((ks.length : Int) = 0) := by omega
    have hrem1 : (x1 : Int).tmod ks.length = (j : Int) := by rw [hj, Int.tmod_eq_emod_of_nonneg (by omega)]; rfl
    have hwt : IntKind.i64.wrap ((t : Int) + 1) = ((t + 1 : Nat) : Int) := by rw [wrap_in (by omega)]; rfl
    have hjl : j < ks.length := by rw [hj]; exact Nat.mod_lt _ (by omega)
    have hkr := hok.kr j hjl
    have hSi : ks[j]?.getD 0 = (S : Int) := by rw [hSd]; exact (Int.toNat_of_nonneg hkr.1).symm
    have h' : t + 1 ≤ ks.length := h
    by_cases htj : t = j
    · subst htj
      have hbe : (((t : Nat) : Int) == ((t : Nat) : Int)) = true := by simp
      have hle : (t ≤ t) = True := by simp
      simp only [ic14l0, Int.ofNat_lt, h, h', a21, hx1, hkl0, hrem1, hbe, hle, hSi, evA, if_true, if_false, reduceIte, Nat.reduceAdd, Nat.reduceMul, Nat.reduceSub, Nat.reduceLeDiff, Nat.reduceEqDiff, Nat.reduceBEq, Nat.reduceBNe, Int.reduceAdd, Int.reduceMul, Int.reduceSub, Int.reduceLT, Int.reduceGT, Int.reduceGE, Int.reduceLE, Int.reduceEq, Int.reduceNeg, Int.reduceToNat, reduceCtorEq, beq_false, Int.reduceBEq, Int.reduceBNe]
      refine (c45 S i (by
          have := hkr.2
          rw [hSi] at this
          unfold capF at this
          have hp : (2 : Nat) ^ ts.length ≤ 2 ^ 6 := Nat.pow_le_pow_right (by omega) (by omega)
          generalize 2 ^ ts.length = q at *
          omega) (by omega)).call (by (try dsimp only); repeat (first | exact trivial | rfl | exact frz_ints_nl | (apply frz_ints (fun _ => trivial); first | rfl | (simp [rowOf]; done)) | constructor | simp only [frzA])) ?_
      cases hbit : S.testBit i
      · rw [hbit] at hlk
        simp only [Bool.false_eq_true, if_false] at hlk
        subst hlk
        simp only [hwt, evA, if_true, if_false, reduceIte, Nat.reduceAdd, Nat.reduceMul, Nat.reduceSub, Nat.reduceLeDiff, Nat.reduceEqDiff, Nat.reduceBEq, Nat.reduceBNe, Int.reduceAdd, Int.reduceMul, Int.reduceSub, Int.reduceLT, Int.reduceGT, Int.reduceGE, Int.reduceLE, Int.reduceEq, Int.reduceNeg, Int.reduceToNat, reduceCtorEq, beq_false, Int.reduceBEq, Int.reduceBNe]
        exact kFor_go (by first | trivial | omega) ⟨_, _, by simp only [ite_self]; rfl⟩
      · rw [hbit] at hlk
        simp only [if_true] at hlk
        have h2i : 2 ^ i ≤ S := Nat.ge_two_pow_of_testBit hbit
        simp only [evA, if_true, if_false, reduceIte, Nat.reduceAdd, Nat.reduceMul, Nat.reduceSub, Nat.reduceLeDiff, Nat.reduceEqDiff, Nat.reduceBEq, Nat.reduceBNe, Int.reduceAdd, Int.reduceMul, Int.reduceSub, Int.reduceLT, Int.reduceGT, Int.reduceGE, Int.reduceLE, Int.reduceEq, Int.reduceNeg, Int.reduceToNat, reduceCtorEq, beq_false, Int.reduceBEq, Int.reduceBNe]
        refine DW_s [9] [] hmix (by kernel_rfl) rfl ?_
        simp only [h, h', hSi, evA, if_true, if_false, reduceIte, Nat.reduceAdd, Nat.reduceMul, Nat.reduceSub, Nat.reduceLeDiff, Nat.reduceEqDiff, Nat.reduceBEq, Nat.reduceBNe, Int.reduceAdd, Int.reduceMul, Int.reduceSub, Int.reduceLT, Int.reduceGT, Int.reduceGE, Int.reduceLE, Int.reduceEq, Int.reduceNeg, Int.reduceToNat, reduceCtorEq, beq_false, Int.reduceBEq, Int.reduceBNe]
        refine kK_keep ((c44 i (by omega)).call (by (try dsimp only); repeat (first | exact trivial | rfl | exact frz_ints_nl | (apply frz_ints (fun _ => trivial); first | rfl | (simp [rowOf]; done)) | constructor | simp only [frzA])) ⟨rfl, rfl⟩) rfl ?_
        have hw2 : IntKind.i64.wrap ((S : Int) - ((2 ^ i : Nat) : Int)) = (S : Int) - ((2 ^ i : Nat) : Int) := by
          have := hkr.2
          rw [hSi] at this
          unfold capF at this
          have hp : (2 : Nat) ^ ts.length ≤ 2 ^ 6 := Nat.pow_le_pow_right (by omega) (by omega)
          generalize 2 ^ ts.length = q at *
          generalize 2 ^ i = p at *
          rw [wrap_in (by omega)]
        rw [hSi] at hlk
        generalize ((2 ^ i : Nat) : Int) = p at *
        simp only [h, h', hw2, hwt, evA, if_true, if_false, reduceIte, Nat.reduceAdd, Nat.reduceMul, Nat.reduceSub, Nat.reduceLeDiff, Nat.reduceEqDiff, Nat.reduceBEq, Nat.reduceBNe, Int.reduceAdd, Int.reduceMul, Int.reduceSub, Int.reduceLT, Int.reduceGT, Int.reduceGE, Int.reduceLE, Int.reduceEq, Int.reduceNeg, Int.reduceToNat, reduceCtorEq, beq_false, Int.reduceBEq, Int.reduceBNe]
        refine kFor_go (by first | trivial | omega) ⟨_, _, by rw [if_neg (by omega), hlk]⟩
    · have hbe : (((t : Nat) : Int) == ((j : Nat) : Int)) = false := by simp; omega
      have hif : (if t + 1 ≤ j then ks else lk) = if t ≤ j then ks else lk := by
        by_cases hlt : t ≤ j
        · rw [if_pos hlt, if_pos (by omega)]
        · rw [if_neg hlt, if_neg (by omega)]
      have hlen : (if t ≤ j then ks else lk).length = ks.length := by split <;> simp [hlkl]
      generalize hrow : (if t ≤ j then ks else lk) = row at *
      simp only [ic14l0, Int.ofNat_lt, h, h', a21, hx1, hkl0, hrem1, hbe, hwt, evA, if_true, if_false, reduceIte, Nat.reduceAdd, Nat.reduceMul, Nat.reduceSub, Nat.reduceLeDiff, Nat.reduceEqDiff, Nat.reduceBEq, Nat.reduceBNe, Int.reduceAdd, Int.reduceMul, Int.reduceSub, Int.reduceLT, Int.reduceGT, Int.reduceGE, Int.reduceLE, Int.reduceEq, Int.reduceNeg, Int.reduceToNat, reduceCtorEq, beq_false, Int.reduceBEq, Int.reduceBNe]
      exact kFor_go (by first | trivial | omega) ⟨_, _, by rw [hif]⟩
  · have hte : t = ks.length := by omega
    subst hte
    have hrow : (if ks.length ≤ j then ks else lk) = lk := by
      by_cases hk0 : ks.length = 0
      · have : ks = [] := List.eq_nil_of_length_eq_zero hk0
        subst this
        split
        · have : lk = [] := List.eq_nil_of_length_eq_zero (by simpa using hlkl)
          rw [this]
        · rfl
      · have := Nat.mod_lt x1 (show ks.length > 0 by omega)
        rw [if_neg (by omega)]
    rw [hrow]
    simp only [ic14l0, Int.ofNat_lt, h, evA, if_true, if_false, reduceIte, Nat.reduceAdd, Nat.reduceMul, Nat.reduceSub, Nat.reduceLeDiff, Nat.reduceEqDiff, Nat.reduceBEq, Nat.reduceBNe, Int.reduceAdd, Int.reduceMul, Int.reduceSub, Int.reduceLT, Int.reduceGT, Int.reduceGE, Int.reduceLE, Int.reduceEq, Int.reduceNeg, Int.reduceToNat, reduceCtorEq, beq_false, Int.reduceBEq, Int.reduceBNe]
    have hm4 : ts[i]?.getD 0 ≤ m ∧ 0 ≤ m ∧ m ≤ 4 := by rw [← hm]; split <;> omega
    have hok1 : DrawOk (ts.set i m) ks := ⟨by simpa using hok.tl, hok.kl, fun j hj => by
      simp only [List.length_set] at hj
      by_cases hij : i = j
      · subst hij; rw [List.getElem?_set_self hj]; exact hm4.2
      · rw [List.getElem?_set_ne hij]; exact hok.tr j hj, fun j hj => by rw [List.length_set]; exact hok.kr j hj⟩
    have hbits : ∀ t k : Nat, ((lk[t]?.getD (0 : Int)).toNat.testBit k) = true → ((ks[t]?.getD (0 : Int)).toNat.testBit k) = true := by
      intro t k hb
      rw [hlk] at hb
      split at hb
      · rename_i hS
        by_cases hjt : j = t
        · subst hjt
          by_cases hjl : j < ks.length
          · rw [List.getElem?_set_self hjl] at hb
            have hkr := hok.kr j hjl
            have hSi : ks[j]?.getD 0 = (S : Int) := by rw [hSd]; exact (Int.toNat_of_nonneg hkr.1).symm
            have h2i : 2 ^ i ≤ S := Nat.ge_two_pow_of_testBit hS
            rw [hSi] at hb ⊢
            have e : (((S : Int) - ((2 ^ i : Nat) : Int)).toNat) = S - 2 ^ i := by omega
            simp only [Option.getD_some, e] at hb
            exact sub_bits hS k hb
          · rw [List.getElem?_eq_none (by simp; omega)] at hb; simp at hb
        · rw [List.getElem?_set_ne hjt] at hb; exact hb
      · exact hb
    have hok2 : DrawOk ts lk := ⟨hok.tl, by rw [hlkl]; exact hok.kl, hok.tr, fun t htl => by
      rw [hlkl] at htl
      have hkt := hok.kr t htl
      rw [hlk]
      split
      · rename_i hS
        by_cases hjt : j = t
        · subst hjt
          rw [List.getElem?_set_self htl]
          have hSi : ks[j]?.getD 0 = (S : Int) := by rw [hSd]; exact (Int.toNat_of_nonneg hkt.1).symm
          have h2i : 2 ^ i ≤ S := Nat.ge_two_pow_of_testBit hS
          rw [hSi] at hkt ⊢
          simp only [Option.getD_some]
          generalize 2 ^ i = p at *
          omega
        · rw [List.getElem?_set_ne hjt]; exact hkt
      · exact hkt⟩
    have hn1 : n ≤ waysF ks ks.length (ts.set i m) := by rw [← hN]; exact waysF_mono rfl (fun _ _ h => h) _ _ _ (set_leT hm4.1)
    have hn2 : n ≤ waysF lk lk.length ts := by rw [← hN, hlkl]; exact waysF_mono hlkl.symm hbits _ _ _ ⟨rfl, fun j _ => Int.le_refl _⟩
    have hn3 := waysF_long (ks := ks) 0 ks.length ts (Nat.le_refl _)
    rw [hN] at hn3
    have hnb := waysF_bounds ks ks.length ts h6.2
    rw [hN] at hnb
    have hk68 : 6 ^ ks.length ≤ 6 ^ 8 := Nat.pow_le_pow_right (by omega) hk8
    refine (c26_ok (ts.set i m) ks (by simpa using ht) hk (checkV_ok hok1) hok1).call (.cons (.agg (.cons (frz_ints' (fun _ => trivial) (by simp) rfl) (.cons (.c (.c _ trivial)) .nil))) .nil) ?_
    generalize waysF ks ks.length (ts.set i m) = n1 at hn1 ⊢
    simp only [evA, if_true, if_false, reduceIte, Nat.reduceAdd, Nat.reduceMul, Nat.reduceSub, Nat.reduceLeDiff, Nat.reduceEqDiff, Nat.reduceBEq, Nat.reduceBNe, Int.reduceAdd, Int.reduceMul, Int.reduceSub, Int.reduceLT, Int.reduceGT, Int.reduceGE, Int.reduceLE, Int.reduceEq, Int.reduceNeg, Int.reduceToNat, reduceCtorEq, beq_false, Int.reduceBEq, Int.reduceBNe]
    refine (c26_ok ts lk ht (by rw [hlkl]; exact hk) (checkV_ok hok2) hok2).call (.cons (.agg (.cons (.c (.c _ trivial)) (.cons (frz_ints' (fun _ => trivial) hlkl.symm rfl) .nil))) .nil) ?_
    generalize waysF lk lk.length ts = n2 at hn2 ⊢
    have hd1 : ¬ (n1 < n) := by omega
    have hd2 : ¬ (n2 < n) := by omega
    simp only [hd1, hd2, evA, if_true, if_false, reduceIte, Nat.reduceAdd, Nat.reduceMul, Nat.reduceSub, Nat.reduceLeDiff, Nat.reduceEqDiff, Nat.reduceBEq, Nat.reduceBNe, Int.reduceAdd, Int.reduceMul, Int.reduceSub, Int.reduceLT, Int.reduceGT, Int.reduceGE, Int.reduceLE, Int.reduceEq, Int.reduceNeg, Int.reduceToNat, reduceCtorEq, beq_false, Int.reduceBEq, Int.reduceBNe]
    by_cases hk9 : ks.length ≤ 7
    · have hok3 : DrawOk ts (ks ++ [0]) := ⟨hok.tl, by simp; omega, hok.tr, fun t htl => by
        by_cases htl2 : t < ks.length
        · rw [List.getElem?_append_left htl2]; exact hok.kr t htl2
        · have : t = ks.length := by simp at htl; omega
          subst this
          simp only [List.getElem?_concat_length, Option.getD_some]
          unfold capF
          have : 0 < 2 ^ ts.length := Nat.pow_pos (by omega)
          generalize 2 ^ ts.length = q at *
          omega⟩
      refine (c26_ok ts (ks ++ [0]) ht (by simp; omega) (checkV_ok hok3) hok3).call (.cons (.agg (.cons (.c (.c _ trivial)) (.cons (frz_ints' (fun _ => trivial) (by simp) rfl) .nil))) .nil) ?_
      rw [show (ks ++ [(0 : Int)]).length = ks.length + 1 by simp]
      generalize waysF (ks ++ [0]) (ks.length + 1) ts = n3 at hn3 ⊢
      have hlen9 : ¬ (((ks.length + 1 : Nat) : Int) > 8) := by omega
      have hmul : IntKind.i64.wrap (n * (ts.length : Int)) = n * (ts.length : Int) := by
        have h1 : n * (ts.length : Int) ≤ ((6 ^ 8 : Nat) : Int) * 6 := Int.mul_le_mul (by generalize 6 ^ ks.length = q at *; omega) (by omega) (by omega) (by omega)
        have h2 : 0 ≤ n * (ts.length : Int) := Int.mul_nonneg hnb.1 (by omega)
        rw [wrap_in (by omega)]
      simp only [hlen9, hmul, hn3, evA, if_true, if_false, reduceIte, Nat.reduceAdd, Nat.reduceMul, Nat.reduceSub, Nat.reduceLeDiff, Nat.reduceEqDiff, Nat.reduceBEq, Nat.reduceBNe, Int.reduceAdd, Int.reduceMul, Int.reduceSub, Int.reduceLT, Int.reduceGT, Int.reduceGE, Int.reduceLE, Int.reduceEq, Int.reduceNeg, Int.reduceToNat, reduceCtorEq, beq_false, Int.reduceBEq, Int.reduceBNe]
      refine (awake _).run ?_
      simp only [evA, if_true, if_false, reduceIte, Nat.reduceAdd, Nat.reduceMul, Nat.reduceSub, Nat.reduceLeDiff, Nat.reduceEqDiff, Nat.reduceBEq, Nat.reduceBNe, Int.reduceAdd, Int.reduceMul, Int.reduceSub, Int.reduceLT, Int.reduceGT, Int.reduceGE, Int.reduceLE, Int.reduceEq, Int.reduceNeg, Int.reduceToNat, reduceCtorEq, beq_false, Int.reduceBEq, Int.reduceBNe]
    · have hk9' : ks.length = 8 := by omega
      have hv3 : checkV ts (ks ++ [0]) = tup3 1 0 3 := by simp [checkV, hk9']
      refine (c26_err ts (ks ++ [0]) ht (by simp; omega) hv3 (by decide)).call (.cons (.agg (.cons (.c (.c _ trivial)) (.cons (frz_ints' (fun _ => trivial) (by simp) rfl) .nil))) .nil) ?_
      have hlen9 : (((ks.length + 1 : Nat) : Int) > 8) := by omega
      simp only [hlen9, evA, if_true, if_false, reduceIte, Nat.reduceAdd, Nat.reduceMul, Nat.reduceSub, Nat.reduceLeDiff, Nat.reduceEqDiff, Nat.reduceBEq, Nat.reduceBNe, Int.reduceAdd, Int.reduceMul, Int.reduceSub, Int.reduceLT, Int.reduceGT, Int.reduceGE, Int.reduceLE, Int.reduceEq, Int.reduceNeg, Int.reduceToNat, reduceCtorEq, beq_false, Int.reduceBEq, Int.reduceBNe]
      refine (awake _).run ?_
      simp only [evA, if_true, if_false, reduceIte, Nat.reduceAdd, Nat.reduceMul, Nat.reduceSub, Nat.reduceLeDiff, Nat.reduceEqDiff, Nat.reduceBEq, Nat.reduceBNe, Int.reduceAdd, Int.reduceMul, Int.reduceSub, Int.reduceLT, Int.reduceGT, Int.reduceGE, Int.reduceLE, Int.reduceEq, Int.reduceNeg, Int.reduceToNat, reduceCtorEq, beq_false, Int.reduceBEq, Int.reduceBNe]

theorem law_LotMore (avs : List AV) (h : Args Try.prog Try.f14.params.toList avs) : AC Try.prog 14 avs [] fun r _ => r = .b true := by
  have h : Args Try.prog [34, 67] avs := h
  obtain ⟨cs1, avs, rfl, h1, h⟩ := args_cons h
  obtain ⟨cs2, avs, rfl, h2, h⟩ := args_cons h
  cases args_nil h
  obtain ⟨ts, ks, he, ht, hk, _, _⟩ := typed_draw h1
  obtain ⟨L, rfl, hl, hl2, hl3⟩ := typed_arr Try.underlying67 h2
  obtain ⟨xs, hx1, hx2, hx3⟩ := ints_of Try.underlying5 L hl3
  rw [he, hx1]
  match xs, (hx2.symm.trans hl), hx3 with
  | [a, b], _, hx3 =>
    have ha := wf_u8 (hx3 a (by simp))
    have hb := wf_u8 (hx3 b (by simp))
    simp only [avOf, Try.underlying67]
    obtain ⟨a', rfl⟩ : ∃ n : Nat, a = (n : Int) := ⟨a.toNat, (Int.toNat_of_nonneg ha.1).symm⟩
    obtain ⟨b', rfl⟩ : ∃ n : Nat, b = (n : Int) := ⟨b.toNat, (Int.toNat_of_nonneg hb.1).symm⟩
    exact c14 ts ks a' b' (by omega) (by omega) ht hk

end Go.Proofs.Ytphdemhopihpnaa.AM

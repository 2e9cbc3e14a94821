/- The law LotLikely, by the contracts. -/
import Derived.Test.YtphdemhopihpnaaKLawMeets
import Derived.Test.YtphdemhopihpnaaKLotI9
namespace Go.Proofs.Ytphdemhopihpnaa.AM
open Go
set_option linter.unusedVariables false
set_option linter.unusedSimpArgs false
set_option maxRecDepth 20000

theorem lots_facts {P m i : Nat} (hm : 0 < m) (hi : i < m) (hP : m ≤ P) :
    ((P - i + m - 1) / m = P / m ∨ (P - i + m - 1) / m = P / m + 1) ∧ 0 < (P - i + m - 1) / m ∧ ∀ k, k < (P - i + m - 1) / m → i + m * k < P := by
  obtain ⟨q, hq⟩ : ∃ q, q = P / m := ⟨_, rfl⟩
  obtain ⟨s, hs⟩ : ∃ s, s = P % m := ⟨_, rfl⟩
  have hPe : P = m * q + s := by rw [hq, hs]; exact (Nat.div_add_mod P m).symm
  have hsm : s < m := by rw [hs]; exact Nat.mod_lt _ hm
  have hq1 : 1 ≤ q := by rw [hq]; exact (Nat.one_le_div_iff hm).2 hP
  have hmq : m ≤ m * q := Nat.le_mul_of_pos_right m hq1
  have he : P - i + m - 1 = m * q + (s + m - 1 - i) := by omega
  have hL : (P - i + m - 1) / m = q + (s + m - 1 - i) / m := by rw [he, Nat.mul_add_div hm]
  rw [hL, ← hq]
  by_cases hsi : s ≤ i
  · have h0 : (s + m - 1 - i) / m = 0 := Nat.div_eq_of_lt (by omega)
    rw [h0]
    refine ⟨.inl rfl, by omega, fun k hk => ?_⟩
    have h1 : m * (k + 1) ≤ m * q := Nat.mul_le_mul_left m (by omega)
    rw [Nat.mul_add, Nat.mul_one] at h1
    omega
  · have h1 : (s + m - 1 - i) / m = 1 := by
      have : s + m - 1 - i = m * 1 + (s - 1 - i) := by omega
      rw [this, Nat.mul_add_div hm, Nat.div_eq_of_lt (by omega)]
    rw [h1]
    refine ⟨.inr rfl, by omega, fun k hk => ?_⟩
    have h2 : m * k ≤ m * q := Nat.mul_le_mul_left m (by omega)
    omega

theorem c9 (ts ks : List Int) (xs : List Nat) (y0 y1 : Nat) (ht : ts.length < 2 ^ 63) (hk : ks.length < 2 ^ 63) (h0 : y0 ≤ 4294967295) (h1 : y1 ≤ 4294967295) (hx : ∀ x ∈ xs, x ≤ 255) (hxl : xs.length < 2 ^ 63) : AC Try.prog 9 [drw ts ks, u8s xs, .agg [.cv (.int .u32 y0), .cv (.int .u32 y1)]] [] fun r _ => r = .b true := by
  refine AC_FE (fok9 true) (Nat.le_of_ble_eq_true rfl) ?_
  simp only [ic9, f_box, cellsOf, evA, if_true, if_false, reduceIte, Nat.reduceAdd, Nat.reduceMul, Nat.reduceSub, Nat.reduceLeDiff, Nat.reduceEqDiff, Nat.reduceBEq, Nat.reduceBNe, Int.reduceAdd, Int.reduceMul, Int.reduceSub, Int.reduceLT, Int.reduceGT, Int.reduceGE, Int.reduceLE, Int.reduceEq, Int.reduceNeg, Int.reduceToNat, reduceCtorEq, beq_false, Int.reduceBEq, Int.reduceBNe]
  obtain ⟨b, hb, hbt, hbf⟩ := c38 ts ks ht hk
  refine hb.call (by (try dsimp only); repeat (first | exact trivial | rfl | exact frz_ints_nl | (apply frz_ints (fun _ => trivial); first | rfl | (simp [rowOf]; done)) | constructor | simp only [frzA])) ?_
  cases b with
  | false =>
    simp only [evA, if_true, if_false, reduceIte, Nat.reduceAdd, Nat.reduceMul, Nat.reduceSub, Nat.reduceLeDiff, Nat.reduceEqDiff, Nat.reduceBEq, Nat.reduceBNe, Int.reduceAdd, Int.reduceMul, Int.reduceSub, Int.reduceLT, Int.reduceGT, Int.reduceGE, Int.reduceLE, Int.reduceEq, Int.reduceNeg, Int.reduceToNat, reduceCtorEq, beq_false, Int.reduceBEq, Int.reduceBNe]
    refine (awake _).run ?_
    simp only [evA, if_true, if_false, reduceIte, Nat.reduceAdd, Nat.reduceMul, Nat.reduceSub, Nat.reduceLeDiff, Nat.reduceEqDiff, Nat.reduceBEq, Nat.reduceBNe, Int.reduceAdd, Int.reduceMul, Int.reduceSub, Int.reduceLT, Int.reduceGT, Int.reduceGE, Int.reduceLE, Int.reduceEq, Int.reduceNeg, Int.reduceToNat, reduceCtorEq, beq_false, Int.reduceBEq, Int.reduceBNe]
  | true =>
  obtain ⟨hok, hv⟩ := hbt rfl
  simp only [evA, if_true, if_false, reduceIte, Nat.reduceAdd, Nat.reduceMul, Nat.reduceSub, Nat.reduceLeDiff, Nat.reduceEqDiff, Nat.reduceBEq, Nat.reduceBNe, Int.reduceAdd, Int.reduceMul, Int.reduceSub, Int.reduceLT, Int.reduceGT, Int.reduceGE, Int.reduceLE, Int.reduceEq, Int.reduceNeg, Int.reduceToNat, reduceCtorEq, beq_false, Int.reduceBEq, Int.reduceBNe]
  refine (c39 ts ks xs hok hx hxl).call (.cons (.agg (.cons (.c (.c _ trivial)) (.cons (.c (.c _ trivial)) .nil))) (.cons (.c (.c _ trivial)) .nil)) ?_
  cases ha : allowF ks xs ks.length ts with
  | none =>
    simp only [allowV, evA, if_true, if_false, reduceIte, Nat.reduceAdd, Nat.reduceMul, Nat.reduceSub, Nat.reduceLeDiff, Nat.reduceEqDiff, Nat.reduceBEq, Nat.reduceBNe, Int.reduceAdd, Int.reduceMul, Int.reduceSub, Int.reduceLT, Int.reduceGT, Int.reduceGE, Int.reduceLE, Int.reduceEq, Int.reduceNeg, Int.reduceToNat, reduceCtorEq, beq_false, Int.reduceBEq, Int.reduceBNe]
    refine (awake _).run ?_
    simp only [evA, if_true, if_false, reduceIte, Nat.reduceAdd, Nat.reduceMul, Nat.reduceSub, Nat.reduceLeDiff, Nat.reduceEqDiff, Nat.reduceBEq, Nat.reduceBNe, Int.reduceAdd, Int.reduceMul, Int.reduceSub, Int.reduceLT, Int.reduceGT, Int.reduceGE, Int.reduceLE, Int.reduceEq, Int.reduceNeg, Int.reduceToNat, reduceCtorEq, beq_false, Int.reduceBEq, Int.reduceBNe]
  | some l =>
  have hlA := allowF_A (ks := ks) (xs := xs) ks.length ts l ha
  obtain ⟨i1, i2, i3⟩ := index_in ks.length ts l hlA
  have hll := hlA.length
  have h26 := c26_ok ts ks ht hk hv hok
  have hLix := c30_ok ts ks l ht hk (by rw [hll]; have := hok.kl; omega) hok
  rw [indexV_A hlA] at hLix
  have hwb := waysF_bounds ks ks.length ts hok.tl.2
  have hk68 : 6 ^ ks.length ≤ 6 ^ 8 := Nat.pow_le_pow_right (by omega) hok.kl
  have hwle : waysF ks ks.length ts ≤ 1679616 := by
    generalize 6 ^ ks.length = q at *
    omega
  clear hwb hk68
  have hm0 : waysF ks ks.length ts ≠ 0 := by omega
  have hpv : ∀ x : Int, 0 ≤ x → x ≤ 2147483646 → pickV ts ks x = .tup [ints (pickF ks ks.length ts (x % waysF ks ks.length ts)), .i 0] := fun x h0 h2 => by
    unfold pickV; rw [if_neg (by omega), if_neg hm0]
  have h28 := fun x => c28_ok ts ks x ht hk hok
  have hinj := fun x y => pick_inj (ks := ks) (r := ks.length) (us := ts) (x := x) (y := y)
  have hpl := fun x h0 h1 => pickF_length (ks := ks) ks.length ts x (Nat.le_refl _) h0 h1
  obtain ⟨m, hm⟩ : ∃ m : Nat, waysF ks ks.length ts = (m : Int) := ⟨(waysF ks ks.length ts).toNat, (Int.toNat_of_nonneg (by omega)).symm⟩
  obtain ⟨ix, hix⟩ : ∃ ix : Nat, indexF ks ks.length ts l = (ix : Int) := ⟨(indexF ks ks.length ts l).toNat, (Int.toNat_of_nonneg i1).symm⟩
  rw [hm] at h26 i2 hwle hm0 hpv hinj hpl
  rw [hix] at hLix i1 i2 i3
  have him : ix < m := by omega
  obtain ⟨f1, f2, f3⟩ := lots_facts (P := 2147483647) (m := m) (i := ix) (by omega) him (by omega)
  have e1 : IntKind.i64.wrap (2147483647 - (ix : Int)) = ((2147483647 - ix : Nat) : Int) := by rw [wrap_in (by omega)]; omega
  have e2 : IntKind.i64.wrap (((2147483647 - ix : Nat) : Int) + (m : Int)) = ((2147483647 - ix + m : Nat) : Int) := by rw [wrap_in (by omega)]; omega
  have e3 : IntKind.i64.wrap (((2147483647 - ix + m : Nat) : Int) - 1) = ((2147483647 - ix + m - 1 : Nat) : Int) := by rw [wrap_in (by omega)]; omega
  have hle : (2147483647 - ix + m - 1) / m ≤ 2147483647 - ix + m - 1 := Nat.div_le_self _ _
  have e4 : IntKind.i64.wrap (((2147483647 - ix + m - 1 : Nat) : Int).tdiv (m : Int)) = (((2147483647 - ix + m - 1) / m : Nat) : Int) := by
    rw [Int.tdiv_eq_ediv_of_nonneg (by omega), ← Int.natCast_ediv, wrap_in (by omega)]
  have hle2 : 2147483647 / m ≤ 2147483647 := Nat.div_le_self _ _
  have e5 : IntKind.i64.wrap ((2147483647 : Int).tdiv (m : Int)) = ((2147483647 / m : Nat) : Int) := by
    rw [Int.tdiv_eq_ediv_of_nonneg (by omega), show (2147483647 : Int) = ((2147483647 : Nat) : Int) from rfl, ← Int.natCast_ediv, wrap_in (by omega)]
  generalize hLd : (2147483647 - ix + m - 1) / m = L at *
  generalize hQd : 2147483647 / m = Q at *
  have e6 : IntKind.i64.wrap ((Q : Int) + 1) = ((Q + 1 : Nat) : Int) := by rw [wrap_in (by omega)]; rfl
  have hw0 : IntKind.i64.wrap (y0 : Int) = y0 := wrap_in (by omega)
  have hw1 : IntKind.i64.wrap (y1 : Int) = y1 := wrap_in (by omega)
  have hr0 : (y0 : Int).tmod (L : Int) = ((y0 % L : Nat) : Int) := by rw [Int.tmod_eq_emod_of_nonneg (by omega)]; rfl
  have hr1 : (y1 : Int).tmod (m : Int) = ((y1 % m : Nat) : Int) := by rw [Int.tmod_eq_emod_of_nonneg (by omega)]; rfl
  have hkL : y0 % L < L := Nat.mod_lt _ f2
  have hbm : y1 % m < m := Nat.mod_lt _ (by omega)
  have hn := f3 _ hkL
  have hnm : (ix + m * (y0 % L)) % m = ix := by rw [Nat.add_mul_mod_self_left, Nat.mod_eq_of_lt him]
  have e7 : IntKind.i64.wrap ((m : Int) * ((y0 % L : Nat) : Int)) = ((m * (y0 % L) : Nat) : Int) := by rw [wrap_in (by rw [← Int.natCast_mul]; omega)]; rfl
  have e8 : IntKind.i64.wrap ((ix : Int) + ((m * (y0 % L) : Nat) : Int)) = ((ix + m * (y0 % L) : Nat) : Int) := by rw [wrap_in (by omega)]; rfl
  generalize m * (y0 % L) = mk at *
  generalize hNd : ix + mk = N at *
  generalize hBd : y1 % m = B at *
  have hb1 : ((m : Int) < 1) = False := eq_false (by omega)
  have hb2 : ((ix : Int) < 0) = False := eq_false (by omega)
  have hb3 : ((ix : Int) ≥ (m : Int)) = False := eq_false (by omega)
  have hz : ¬ ((m : Int) = 0) := by omega
  have hzL : ¬ ((L : Int) = 0) := by omega
  have a20 : ∀ l o σ, f_iaA 2 1 [.ptr l o, .cv (.int .i64 0)] σ = some (.ptr l o, σ) := fun l o σ => by simp [f_iaA]
  have a21 : ∀ l o σ, f_iaA 2 1 [.ptr l o, .cv (.int .i64 1)] σ = some (.ptr l (o + 1), σ) := fun l o σ => by simp [f_iaA]
  have hpN := h28 (N : Int)
  rw [hpv (N : Int) (by omega) (by omega), show ((N : Int) % (m : Int)) = (ix : Int) by rw [← Int.natCast_emod, hnm], i3] at hpN
  have hll2 := c20 l l (by rw [hll]; exact hk)
  rw [decide_eq_true rfl] at hll2
  simp only [allowV, evA, if_true, if_false, reduceIte, Nat.reduceAdd, Nat.reduceMul, Nat.reduceSub, Nat.reduceLeDiff, Nat.reduceEqDiff, Nat.reduceBEq, Nat.reduceBNe, Int.reduceAdd, Int.reduceMul, Int.reduceSub, Int.reduceLT, Int.reduceGT, Int.reduceGE, Int.reduceLE, Int.reduceEq, Int.reduceNeg, Int.reduceToNat, reduceCtorEq, beq_false, Int.reduceBEq, Int.reduceBNe]
  refine h26.call (by (try dsimp only); repeat (first | exact trivial | rfl | exact frz_ints_nl | (apply frz_ints (fun _ => trivial); first | rfl | (simp [rowOf]; done)) | constructor | simp only [frzA])) ?_
  simp only [evA, if_true, if_false, reduceIte, Nat.reduceAdd, Nat.reduceMul, Nat.reduceSub, Nat.reduceLeDiff, Nat.reduceEqDiff, Nat.reduceBEq, Nat.reduceBNe, Int.reduceAdd, Int.reduceMul, Int.reduceSub, Int.reduceLT, Int.reduceGT, Int.reduceGE, Int.reduceLE, Int.reduceEq, Int.reduceNeg, Int.reduceToNat, reduceCtorEq, beq_false, Int.reduceBEq, Int.reduceBNe]
  refine hLix.call (by (try dsimp only); repeat (first | exact trivial | rfl | exact frz_ints_nl | (apply frz_ints (fun _ => trivial); first | rfl | (simp [rowOf]; done)) | constructor | simp only [frzA])) ?_
  have e9 : IntKind.i64.wrap ((N : Int) + (B : Int)) = ((N + B : Nat) : Int) := by rw [wrap_in (by omega)]; rfl
  have hB0 : B = 0 → ((B : Int) == 0) = true := fun h => beqI_true (by omega)
  have hB1 : B ≠ 0 → ((B : Int) == 0) = false := fun h => beqI_false (by omega)
  have hpM : N + B < 2147483647 → B ≠ 0 → ∃ P : List Int, P.length < 2 ^ 63 ∧ decide (P = l) = false ∧ PC Try.prog 28 [drw ts ks, .i ((N + B : Nat) : Int)] (.tup [ints P, .i 0]) := fun h1 h2 => by
    have hpNB := h28 ((N + B : Nat) : Int)
    have hmodN : ((N + B : Nat) : Int) % (m : Int) = (((N + B) % m : Nat) : Int) := rfl
    rw [hpv ((N + B : Nat) : Int) (by omega) (by omega), hmodN] at hpNB
    have hlt : (N + B) % m < m := Nat.mod_lt _ (by omega)
    refine ⟨_, ?_, ?_, hpNB⟩
    · rw [hpl _ (by omega) (by omega)]; exact hk
    · simp only [decide_eq_false_iff_not]
      intro he
      have hx : (((N + B) % m : Nat) : Int) = (ix : Int) := hinj _ _ ⟨by omega, by omega⟩ ⟨by omega, by omega⟩ (he.trans i3.symm)
      have hx' : (N + B) % m = ix := by omega
      rw [← hnm] at hx'
      -- B is less than m and not 0
      have h3 : (N + B) % m = (N % m + B) % m := by rw [Nat.add_mod, Nat.mod_eq_of_lt hbm]
      rw [h3] at hx'
      have h4 : N % m < m := Nat.mod_lt _ (by omega)
      rcases Nat.lt_or_ge (N % m + B) m with h5 | h5
      · rw [Nat.mod_eq_of_lt h5] at hx'; omega
      · have h6 : N % m + B = m + (N % m + B - m) := by omega
        rw [h6, Nat.add_mod_left, Nat.mod_eq_of_lt (by omega)] at hx'
        omega
  have hcase : (((L : Int) != (Q : Int)) = false) ∨ ((((L : Int) != (Q : Int)) = true) ∧ ((L : Int) != ((Q + 1 : Nat) : Int)) = false) := by
    rcases f1 with h | h
    · exact .inl (bneI_false (by omega))
    · exact .inr ⟨bneI_true (by omega), bneI_false (by omega)⟩
  rcases hcase with hl1 | ⟨hl1, hl2⟩
  · simp only [hb1, hb2, hb3, hz, e1, e2, e3, e4, e5, e6, hl1, evA, if_true, if_false, reduceIte, Nat.reduceAdd, Nat.reduceMul, Nat.reduceSub, Nat.reduceLeDiff, Nat.reduceEqDiff, Nat.reduceBEq, Nat.reduceBNe, Int.reduceAdd, Int.reduceMul, Int.reduceSub, Int.reduceLT, Int.reduceGT, Int.reduceGE, Int.reduceLE, Int.reduceEq, Int.reduceNeg, Int.reduceToNat, reduceCtorEq, beq_false, Int.reduceBEq, Int.reduceBNe]
    simp only [a20, a21, hw0, hw1, hr0, hr1, hz, hzL, e7, e8, evA, if_true, if_false, reduceIte, Nat.reduceAdd, Nat.reduceMul, Nat.reduceSub, Nat.reduceLeDiff, Nat.reduceEqDiff, Nat.reduceBEq, Nat.reduceBNe, Int.reduceAdd, Int.reduceMul, Int.reduceSub, Int.reduceLT, Int.reduceGT, Int.reduceGE, Int.reduceLE, Int.reduceEq, Int.reduceNeg, Int.reduceToNat, reduceCtorEq, beq_false, Int.reduceBEq, Int.reduceBNe]
    refine hpN.call (by (try dsimp only); repeat (first | exact trivial | rfl | exact frz_ints_nl | (apply frz_ints (fun _ => trivial); first | rfl | (simp [rowOf]; done)) | constructor | simp only [frzA])) ?_
    simp only [evA, if_true, if_false, reduceIte, Nat.reduceAdd, Nat.reduceMul, Nat.reduceSub, Nat.reduceLeDiff, Nat.reduceEqDiff, Nat.reduceBEq, Nat.reduceBNe, Int.reduceAdd, Int.reduceMul, Int.reduceSub, Int.reduceLT, Int.reduceGT, Int.reduceGE, Int.reduceLE, Int.reduceEq, Int.reduceNeg, Int.reduceToNat, reduceCtorEq, beq_false, Int.reduceBEq, Int.reduceBNe]
    refine hll2.call (by (try dsimp only); repeat (first | exact trivial | rfl | exact frz_ints_nl | (apply frz_ints (fun _ => trivial); first | rfl | (simp [rowOf]; done)) | constructor | simp only [frzA])) ?_
    by_cases hge : N + B < 2147483647
    rotate_left
    · have hgi : (((N + B : Nat) : Int) ≥ 2147483647) = True := eq_true (by omega)
      simp only [a21, hw1, hr1, hz, e9, hgi, evA, if_true, if_false, reduceIte, Nat.reduceAdd, Nat.reduceMul, Nat.reduceSub, Nat.reduceLeDiff, Nat.reduceEqDiff, Nat.reduceBEq, Nat.reduceBNe, Int.reduceAdd, Int.reduceMul, Int.reduceSub, Int.reduceLT, Int.reduceGT, Int.reduceGE, Int.reduceLE, Int.reduceEq, Int.reduceNeg, Int.reduceToNat, reduceCtorEq, beq_false, Int.reduceBEq, Int.reduceBNe]
      refine (awake _).run ?_
      simp only [evA, if_true, if_false, reduceIte, Nat.reduceAdd, Nat.reduceMul, Nat.reduceSub, Nat.reduceLeDiff, Nat.reduceEqDiff, Nat.reduceBEq, Nat.reduceBNe, Int.reduceAdd, Int.reduceMul, Int.reduceSub, Int.reduceLT, Int.reduceGT, Int.reduceGE, Int.reduceLE, Int.reduceEq, Int.reduceNeg, Int.reduceToNat, reduceCtorEq, beq_false, Int.reduceBEq, Int.reduceBNe]
    have hgi : (((N + B : Nat) : Int) ≥ 2147483647) = False := eq_false (by omega)
    by_cases hb0 : B = 0
    · have hbb := hB0 hb0
      simp only [a21, hw1, hr1, hz, e9, hgi, hbb, evA, if_true, if_false, reduceIte, Nat.reduceAdd, Nat.reduceMul, Nat.reduceSub, Nat.reduceLeDiff, Nat.reduceEqDiff, Nat.reduceBEq, Nat.reduceBNe, Int.reduceAdd, Int.reduceMul, Int.reduceSub, Int.reduceLT, Int.reduceGT, Int.reduceGE, Int.reduceLE, Int.reduceEq, Int.reduceNeg, Int.reduceToNat, reduceCtorEq, beq_false, Int.reduceBEq, Int.reduceBNe]
      refine (awake _).run ?_
      simp only [evA, if_true, if_false, reduceIte, Nat.reduceAdd, Nat.reduceMul, Nat.reduceSub, Nat.reduceLeDiff, Nat.reduceEqDiff, Nat.reduceBEq, Nat.reduceBNe, Int.reduceAdd, Int.reduceMul, Int.reduceSub, Int.reduceLT, Int.reduceGT, Int.reduceGE, Int.reduceLE, Int.reduceEq, Int.reduceNeg, Int.reduceToNat, reduceCtorEq, beq_false, Int.reduceBEq, Int.reduceBNe]
    have hbb := hB1 hb0
    obtain ⟨P, hP1, hP2, hP3⟩ := hpM hge hb0
    have hPl := c20 P l hP1
    rw [hP2] at hPl
    simp only [a21, hw1, hr1, hz, e9, hgi, hbb, evA, if_true, if_false, reduceIte, Nat.reduceAdd, Nat.reduceMul, Nat.reduceSub, Nat.reduceLeDiff, Nat.reduceEqDiff, Nat.reduceBEq, Nat.reduceBNe, Int.reduceAdd, Int.reduceMul, Int.reduceSub, Int.reduceLT, Int.reduceGT, Int.reduceGE, Int.reduceLE, Int.reduceEq, Int.reduceNeg, Int.reduceToNat, reduceCtorEq, beq_false, Int.reduceBEq, Int.reduceBNe]
    refine hP3.call (by (try dsimp only); repeat (first | exact trivial | rfl | exact frz_ints_nl | (apply frz_ints (fun _ => trivial); first | rfl | (simp [rowOf]; done)) | constructor | simp only [frzA])) ?_
    simp only [evA, if_true, if_false, reduceIte, Nat.reduceAdd, Nat.reduceMul, Nat.reduceSub, Nat.reduceLeDiff, Nat.reduceEqDiff, Nat.reduceBEq, Nat.reduceBNe, Int.reduceAdd, Int.reduceMul, Int.reduceSub, Int.reduceLT, Int.reduceGT, Int.reduceGE, Int.reduceLE, Int.reduceEq, Int.reduceNeg, Int.reduceToNat, reduceCtorEq, beq_false, Int.reduceBEq, Int.reduceBNe]
    refine hPl.call (by (try dsimp only); repeat (first | exact trivial | rfl | exact frz_ints_nl | (apply frz_ints (fun _ => trivial); first | rfl | (simp [rowOf]; done)) | constructor | simp only [frzA])) ?_
    simp only [evA, if_true, if_false, reduceIte, Nat.reduceAdd, Nat.reduceMul, Nat.reduceSub, Nat.reduceLeDiff, Nat.reduceEqDiff, Nat.reduceBEq, Nat.reduceBNe, Int.reduceAdd, Int.reduceMul, Int.reduceSub, Int.reduceLT, Int.reduceGT, Int.reduceGE, Int.reduceLE, Int.reduceEq, Int.reduceNeg, Int.reduceToNat, reduceCtorEq, beq_false, Int.reduceBEq, Int.reduceBNe]
    refine (awake _).run ?_
    simp only [evA, if_true, if_false, reduceIte, Nat.reduceAdd, Nat.reduceMul, Nat.reduceSub, Nat.reduceLeDiff, Nat.reduceEqDiff, Nat.reduceBEq, Nat.reduceBNe, Int.reduceAdd, Int.reduceMul, Int.reduceSub, Int.reduceLT, Int.reduceGT, Int.reduceGE, Int.reduceLE, Int.reduceEq, Int.reduceNeg, Int.reduceToNat, reduceCtorEq, beq_false, Int.reduceBEq, Int.reduceBNe]
  · simp only [hb1, hb2, hb3, hz, e1, e2, e3, e4, e5, e6, hl1, hl2, evA, if_true, if_false, reduceIte, Nat.reduceAdd, Nat.reduceMul, Nat.reduceSub, Nat.reduceLeDiff, Nat.reduceEqDiff, Nat.reduceBEq, Nat.reduceBNe, Int.reduceAdd, Int.reduceMul, Int.reduceSub, Int.reduceLT, Int.reduceGT, Int.reduceGE, Int.reduceLE, Int.reduceEq, Int.reduceNeg, Int.reduceToNat, reduceCtorEq, beq_false, Int.reduceBEq, Int.reduceBNe]
    simp only [a20, a21, hw0, hw1, hr0, hr1, hz, hzL, e7, e8, evA, if_true, if_false, reduceIte, Nat.reduceAdd, Nat.reduceMul, Nat.reduceSub, Nat.reduceLeDiff, Nat.reduceEqDiff, Nat.reduceBEq, Nat.reduceBNe, Int.reduceAdd, Int.reduceMul, Int.reduceSub, Int.reduceLT, Int.reduceGT, Int.reduceGE, Int.reduceLE, Int.reduceEq, Int.reduceNeg, Int.reduceToNat, reduceCtorEq, beq_false, Int.reduceBEq, Int.reduceBNe]
    refine hpN.call (by (try dsimp only); repeat (first | exact trivial | rfl | exact frz_ints_nl | (apply frz_ints (fun _ => trivial); first | rfl | (simp [rowOf]; done)) | constructor | simp only [frzA])) ?_
    simp only [evA, if_true, if_false, reduceIte, Nat.reduceAdd, Nat.reduceMul, Nat.reduceSub, Nat.reduceLeDiff, Nat.reduceEqDiff, Nat.reduceBEq, Nat.reduceBNe, Int.reduceAdd, Int.reduceMul, Int.reduceSub, Int.reduceLT, Int.reduceGT, Int.reduceGE, Int.reduceLE, Int.reduceEq, Int.reduceNeg, Int.reduceToNat, reduceCtorEq, beq_false, Int.reduceBEq, Int.reduceBNe]
    refine hll2.call (by (try dsimp only); repeat (first | exact trivial | rfl | exact frz_ints_nl | (apply frz_ints (fun _ => trivial); first | rfl | (simp [rowOf]; done)) | constructor | simp only [frzA])) ?_
    by_cases hge : N + B < 2147483647
    rotate_left
    · have hgi : (((N + B : Nat) : Int) ≥ 2147483647) = True := eq_true (by omega)
      simp only [a21, hw1, hr1, hz, e9, hgi, evA, if_true, if_false, reduceIte, Nat.reduceAdd, Nat.reduceMul, Nat.reduceSub, Nat.reduceLeDiff, Nat.reduceEqDiff, Nat.reduceBEq, Nat.reduceBNe, Int.reduceAdd, Int.reduceMul, Int.reduceSub, Int.reduceLT, Int.reduceGT, Int.reduceGE, Int.reduceLE, Int.reduceEq, Int.reduceNeg, Int.reduceToNat, reduceCtorEq, beq_false, Int.reduceBEq, Int.reduceBNe]
      refine (awake _).run ?_
      simp only [evA, if_true, if_false, reduceIte, Nat.reduceAdd, Nat.reduceMul, Nat.reduceSub, Nat.reduceLeDiff, Nat.reduceEqDiff, Nat.reduceBEq, Nat.reduceBNe, Int.reduceAdd, Int.reduceMul, Int.reduceSub, Int.reduceLT, Int.reduceGT, Int.reduceGE, Int.reduceLE, Int.reduceEq, Int.reduceNeg, Int.reduceToNat, reduceCtorEq, beq_false, Int.reduceBEq, Int.reduceBNe]
    have hgi : (((N + B : Nat) : Int) ≥ 2147483647) = False := eq_false (by omega)
    by_cases hb0 : B = 0
    · have hbb := hB0 hb0
      simp only [a21, hw1, hr1, hz, e9, hgi, hbb, evA, if_true, if_false, reduceIte, Nat.reduceAdd, Nat.reduceMul, Nat.reduceSub, Nat.reduceLeDiff, Nat.reduceEqDiff, Nat.reduceBEq, Nat.reduceBNe, Int.reduceAdd, Int.reduceMul, Int.reduceSub, Int.reduceLT, Int.reduceGT, Int.reduceGE, Int.reduceLE, Int.reduceEq, Int.reduceNeg, Int.reduceToNat, reduceCtorEq, beq_false, Int.reduceBEq, Int.reduceBNe]
      refine (awake _).run ?_
      simp only [evA, if_true, if_false, reduceIte, Nat.reduceAdd, Nat.reduceMul, Nat.reduceSub, Nat.reduceLeDiff, Nat.reduceEqDiff, Nat.reduceBEq, Nat.reduceBNe, Int.reduceAdd, Int.reduceMul, Int.reduceSub, Int.reduceLT, Int.reduceGT, Int.reduceGE, Int.reduceLE, Int.reduceEq, Int.reduceNeg, Int.reduceToNat, reduceCtorEq, beq_false, Int.reduceBEq, Int.reduceBNe]
    have hbb := hB1 hb0
    obtain ⟨P, hP1, hP2, hP3⟩ := hpM hge hb0
    have hPl := c20 P l hP1
    rw [hP2] at hPl
    simp only [a21, hw1, hr1, hz, e9, hgi, hbb, evA, if_true, if_false, reduceIte, Nat.reduceAdd, Nat.reduceMul, Nat.reduceSub, Nat.reduceLeDiff, Nat.reduceEqDiff, Nat.reduceBEq, Nat.reduceBNe, Int.reduceAdd, Int.reduceMul, Int.reduceSub, Int.reduceLT, Int.reduceGT, Int.reduceGE, Int.reduceLE, Int.reduceEq, Int.reduceNeg, Int.reduceToNat, reduceCtorEq, beq_false, Int.reduceBEq, Int.reduceBNe]
    refine hP3.call (by (try dsimp only); repeat (first | exact trivial | rfl | exact frz_ints_nl | (apply frz_ints (fun _ => trivial); first | rfl | (simp [rowOf]; done)) | constructor | simp only [frzA])) ?_
    simp only [evA, if_true, if_false, reduceIte, Nat.reduceAdd, Nat.reduceMul, Nat.reduceSub, Nat.reduceLeDiff, Nat.reduceEqDiff, Nat.reduceBEq, Nat.reduceBNe, Int.reduceAdd, Int.reduceMul, Int.reduceSub, Int.reduceLT, Int.reduceGT, Int.reduceGE, Int.reduceLE, Int.reduceEq, Int.reduceNeg, Int.reduceToNat, reduceCtorEq, beq_false, Int.reduceBEq, Int.reduceBNe]
    refine hPl.call (by (try dsimp only); repeat (first | exact trivial | rfl | exact frz_ints_nl | (apply frz_ints (fun _ => trivial); first | rfl | (simp [rowOf]; done)) | constructor | simp only [frzA])) ?_
    simp only [evA, if_true, if_false, reduceIte, Nat.reduceAdd, Nat.reduceMul, Nat.reduceSub, Nat.reduceLeDiff, Nat.reduceEqDiff, Nat.reduceBEq, Nat.reduceBNe, Int.reduceAdd, Int.reduceMul, Int.reduceSub, Int.reduceLT, Int.reduceGT, Int.reduceGE, Int.reduceLE, Int.reduceEq, Int.reduceNeg, Int.reduceToNat, reduceCtorEq, beq_false, Int.reduceBEq, Int.reduceBNe]
    refine (awake _).run ?_
    simp only [evA, if_true, if_false, reduceIte, Nat.reduceAdd, Nat.reduceMul, Nat.reduceSub, Nat.reduceLeDiff, Nat.reduceEqDiff, Nat.reduceBEq, Nat.reduceBNe, Int.reduceAdd, Int.reduceMul, Int.reduceSub, Int.reduceLT, Int.reduceGT, Int.reduceGE, Int.reduceLE, Int.reduceEq, Int.reduceNeg, Int.reduceToNat, reduceCtorEq, beq_false, Int.reduceBEq, Int.reduceBNe]

theorem law_LotLikely (avs : List AV) (h : Args Try.prog Try.f9.params.toList avs) : AC Try.prog 9 avs [] fun r _ => r = .b true := by
  have h : Args Try.prog [34, 51, 56] avs := h
  obtain ⟨cs1, avs, rfl, h1, h⟩ := args_cons h
  obtain ⟨cs2, avs, rfl, h2, h⟩ := args_cons h
  obtain ⟨cs3, avs, rfl, h3, h⟩ := args_cons h
  cases args_nil h
  obtain ⟨ts, ks, he, ht, hk, _, _⟩ := typed_draw h1
  obtain ⟨xs, he2, g3, g4⟩ := typed_u8s h2
  obtain ⟨L, rfl, hl, hl2, hl3⟩ := typed_arr Try.underlying56 h3
  obtain ⟨ys, hx1, hx2, hx3⟩ := ints_of Try.underlying50 L hl3
  rw [he, he2, hx1]
  match ys, (hx2.symm.trans hl), hx3 with
  | [a, b], _, hx3 =>
    have ha := wf_u32 (hx3 a (by simp))
    have hb := wf_u32 (hx3 b (by simp))
    simp only [avOf, Try.underlying56]
    obtain ⟨a', rfl⟩ : ∃ n : Nat, a = (n : Int) := ⟨a.toNat, (Int.toNat_of_nonneg ha.1).symm⟩
    obtain ⟨b', rfl⟩ : ∃ n : Nat, b = (n : Int) := ⟨b.toNat, (Int.toNat_of_nonneg hb.1).symm⟩
    exact c9 ts ks xs a' b' ht hk (by omega) (by omega) g3 g4

end Go.Proofs.Ytphdemhopihpnaa.AM

/- The law LotMeets, by the contracts. -/
import Derived.Test.YtphdemhopihpnaaZ39
import Derived.Test.YtphdemhopihpnaaKLotI8
namespace Go.Proofs.Ytphdemhopihpnaa.AM
open Go
set_option linter.unusedVariables false
set_option linter.unusedSimpArgs false
set_option maxRecDepth 20000

theorem AllowA.mem {ks : List Int} : ∀ {r : Nat} {us l : List Int}, AllowA ks r us l → ∀ z ∈ l, 0 ≤ z ∧ z < us.length
  | 0, us, l, h, z, hz => by simp [AllowA] at h; subst h; cases hz
  | r + 1, us, l, h, z, hz => by
    obtain ⟨i, l', rfl, hi, _, h⟩ := h
    rcases List.mem_cons.1 hz with rfl | hz
    · omega
    · have := h.mem z hz
      simpa using this

theorem AllowA.rng {ks : List Int} {r : Nat} {us l : List Int} (h : AllowA ks r us l) : firstBad 0 (us.length - 1) l = none := firstBad_none fun j hj => by
  have := h.mem (l[j]) (List.getElem_mem hj)
  refine inB_iff.2 ?_
  simp only [List.getElem?_eq_getElem hj, Option.getD_some]
  omega

theorem AllowA.allow {ks : List Int} {r : Nat} {us l : List Int} (h : AllowA ks r us l) : allowB ks r us l = true := (allowB_A r us l h.length (fun z hz => (h.mem z hz).1)).2 h

theorem indexV_A {ts ks l : List Int} (h : AllowA ks ks.length ts l) : indexV ts ks l = .tup [.i (indexF ks ks.length ts l), .i 0] := by
  unfold indexV
  rw [if_neg (by simpa using h.length), h.rng, if_neg (by simp), if_pos h.allow]

theorem assignE_A {ts ks l : List Int} (hok : DrawOk ts ks) (h : AllowA ks ks.length ts l) : assignE ts ks l = 0 := by
  unfold assignE
  rw [if_neg (by simpa using h.length), h.rng, if_neg (by simp), assign_allow hok h.length (fun j hj => by
    have := h.mem (l[j]) (List.getElem_mem hj)
    simp only [List.getElem?_eq_getElem hj, Option.getD_some]; exact this), h.allow]
  rfl

theorem c8 (ts ks : List Int) (n : Nat) (xs : List Nat) (ht : ts.length < 2 ^ 63) (hk : ks.length < 2 ^ 63) (hn : n ≤ 4294967295) (hx : ∀ x ∈ xs, x ≤ 255) (hxl : xs.length < 2 ^ 63) : AC Try.prog 8 [drw ts ks, .cv (.int .u32 n), u8s xs] [] fun r _ => r = .b true := by
  refine AC_FE (fok8 true) (Nat.le_of_ble_eq_true rfl) ?_
  obtain ⟨at_, hat⟩ : ∃ at_ : Nat, at_ = n % 2147483647 := ⟨_, rfl⟩
  have hatl : at_ < 2147483647 := by rw [hat]; exact Nat.mod_lt _ (by omega)
  have hw : IntKind.i64.wrap (n : Int) = n := wrap_in (by omega)
  have hr : (n : Int).tmod 2147483647 = (at_ : Int) := by rw [hat, Int.tmod_eq_emod_of_nonneg (by omega)]; rfl
  simp only [ic8, f_box, cellsOf, hw, hr, evA, if_true, if_false, reduceIte, Nat.reduceAdd, Nat.reduceMul, Nat.reduceSub, Nat.reduceLeDiff, Nat.reduceEqDiff, Nat.reduceBEq, Nat.reduceBNe, Int.reduceAdd, Int.reduceMul, Int.reduceSub, Int.reduceLT, Int.reduceGT, Int.reduceGE, Int.reduceLE, Int.reduceEq, Int.reduceNeg, Int.reduceToNat, reduceCtorEq, beq_false, Int.reduceBEq, Int.reduceBNe]
  obtain ⟨b, hb, hbt, hbf⟩ := c38 ts ks ht hk
  cases b with
  | false =>
    obtain ⟨x, y, e, hv, he⟩ := hbf rfl
    have hne : (e != 0) = true := bneI_true he
    have hee := beqI_true (a := e) rfl
    refine (c28_err ts ks (at_ : Int) ht hk hv he).call (by (try dsimp only); repeat (first | exact trivial | rfl | exact frz_ints_nl | (apply frz_ints (fun _ => trivial); first | rfl | (simp [rowOf]; done)) | constructor | simp only [frzA])) ?_
    simp only [evA, if_true, if_false, reduceIte, Nat.reduceAdd, Nat.reduceMul, Nat.reduceSub, Nat.reduceLeDiff, Nat.reduceEqDiff, Nat.reduceBEq, Nat.reduceBNe, Int.reduceAdd, Int.reduceMul, Int.reduceSub, Int.reduceLT, Int.reduceGT, Int.reduceGE, Int.reduceLE, Int.reduceEq, Int.reduceNeg, Int.reduceToNat, reduceCtorEq, beq_false, Int.reduceBEq, Int.reduceBNe]
    refine (c26_err ts ks ht hk hv he).call (by (try dsimp only); repeat (first | exact trivial | rfl | exact frz_ints_nl | (apply frz_ints (fun _ => trivial); first | rfl | (simp [rowOf]; done)) | constructor | simp only [frzA])) ?_
    simp only [evA, if_true, if_false, reduceIte, Nat.reduceAdd, Nat.reduceMul, Nat.reduceSub, Nat.reduceLeDiff, Nat.reduceEqDiff, Nat.reduceBEq, Nat.reduceBNe, Int.reduceAdd, Int.reduceMul, Int.reduceSub, Int.reduceLT, Int.reduceGT, Int.reduceGE, Int.reduceLE, Int.reduceEq, Int.reduceNeg, Int.reduceToNat, reduceCtorEq, beq_false, Int.reduceBEq, Int.reduceBNe]
    refine hb.call (by (try dsimp only); repeat (first | exact trivial | rfl | exact frz_ints_nl | (apply frz_ints (fun _ => trivial); first | rfl | (simp [rowOf]; done)) | constructor | simp only [frzA])) ?_
    have hz0 : (((0 : Nat) : Int) == 0) = true := rfl
    simp only [hne, hee, hz0, evA, if_true, if_false, reduceIte, Nat.reduceAdd, Nat.reduceMul, Nat.reduceSub, Nat.reduceLeDiff, Nat.reduceEqDiff, Nat.reduceBEq, Nat.reduceBNe, Int.reduceAdd, Int.reduceMul, Int.reduceSub, Int.reduceLT, Int.reduceGT, Int.reduceGE, Int.reduceLE, Int.reduceEq, Int.reduceNeg, Int.reduceToNat, reduceCtorEq, beq_false, Int.reduceBEq, Int.reduceBNe]
    refine (awake _).run ?_
    simp only [hz0, evA, if_true, if_false, reduceIte, Nat.reduceAdd, Nat.reduceMul, Nat.reduceSub, Nat.reduceLeDiff, Nat.reduceEqDiff, Nat.reduceBEq, Nat.reduceBNe, Int.reduceAdd, Int.reduceMul, Int.reduceSub, Int.reduceLT, Int.reduceGT, Int.reduceGE, Int.reduceLE, Int.reduceEq, Int.reduceNeg, Int.reduceToNat, reduceCtorEq, beq_false, Int.reduceBEq, Int.reduceBNe]
  | true =>
  obtain ⟨hok, hv⟩ := hbt rfl
  refine (c28_ok ts ks (at_ : Int) ht hk hok).call (by (try dsimp only); repeat (first | exact trivial | rfl | exact frz_ints_nl | (apply frz_ints (fun _ => trivial); first | rfl | (simp [rowOf]; done)) | constructor | simp only [frzA])) ?_
  have h26 := c26_ok ts ks ht hk hv hok
  have hwn := waysF_nonneg ks ks.length ts
  have hin : ¬ ((at_ : Int) < 0 ∨ (at_ : Int) > 2147483646) := by omega
  have hal := fun l (h : allowF ks xs ks.length ts = some l) => allowF_A (ks := ks) (xs := xs) ks.length ts l h
  have hix := fun l h => index_in ks.length ts l (hal l h)
  have hpA := pick_A (ks := ks) ks.length ts
  have h28 := fun x => c28_ok ts ks x ht hk hok
  by_cases hm0 : waysF ks ks.length ts = 0
  · have hpv : pickV ts ks at_ = .tup [ints [], .i 9] := by unfold pickV; rw [if_neg hin, if_pos hm0]
    rw [hm0] at h26
    have hnone : allowF ks xs ks.length ts = none := by
      cases ha : allowF ks xs ks.length ts with
      | none => rfl
      | some l => have := hix l ha; omega
    rw [hpv]
    simp only [evA, if_true, if_false, reduceIte, Nat.reduceAdd, Nat.reduceMul, Nat.reduceSub, Nat.reduceLeDiff, Nat.reduceEqDiff, Nat.reduceBEq, Nat.reduceBNe, Int.reduceAdd, Int.reduceMul, Int.reduceSub, Int.reduceLT, Int.reduceGT, Int.reduceGE, Int.reduceLE, Int.reduceEq, Int.reduceNeg, Int.reduceToNat, reduceCtorEq, beq_false, Int.reduceBEq, Int.reduceBNe]
    refine h26.call (by (try dsimp only); repeat (first | exact trivial | rfl | exact frz_ints_nl | (apply frz_ints (fun _ => trivial); first | rfl | (simp [rowOf]; done)) | constructor | simp only [frzA])) ?_
    simp only [evA, if_true, if_false, reduceIte, Nat.reduceAdd, Nat.reduceMul, Nat.reduceSub, Nat.reduceLeDiff, Nat.reduceEqDiff, Nat.reduceBEq, Nat.reduceBNe, Int.reduceAdd, Int.reduceMul, Int.reduceSub, Int.reduceLT, Int.reduceGT, Int.reduceGE, Int.reduceLE, Int.reduceEq, Int.reduceNeg, Int.reduceToNat, reduceCtorEq, beq_false, Int.reduceBEq, Int.reduceBNe]
    refine hb.call (by (try dsimp only); repeat (first | exact trivial | rfl | exact frz_ints_nl | (apply frz_ints (fun _ => trivial); first | rfl | (simp [rowOf]; done)) | constructor | simp only [frzA])) ?_
    simp only [evA, if_true, if_false, reduceIte, Nat.reduceAdd, Nat.reduceMul, Nat.reduceSub, Nat.reduceLeDiff, Nat.reduceEqDiff, Nat.reduceBEq, Nat.reduceBNe, Int.reduceAdd, Int.reduceMul, Int.reduceSub, Int.reduceLT, Int.reduceGT, Int.reduceGE, Int.reduceLE, Int.reduceEq, Int.reduceNeg, Int.reduceToNat, reduceCtorEq, beq_false, Int.reduceBEq, Int.reduceBNe]
    refine (c39 ts ks xs hok hx hxl).call (.cons (.agg (.cons (.c (.c _ trivial)) (.cons (.c (.c _ trivial)) .nil))) (.cons (.c (.c _ trivial)) .nil)) ?_
    rw [hnone]
    have hz0 : (((0 : Nat) : Int) == 0) = true := rfl
    simp only [allowV, hz0, evA, if_true, if_false, reduceIte, Nat.reduceAdd, Nat.reduceMul, Nat.reduceSub, Nat.reduceLeDiff, Nat.reduceEqDiff, Nat.reduceBEq, Nat.reduceBNe, Int.reduceAdd, Int.reduceMul, Int.reduceSub, Int.reduceLT, Int.reduceGT, Int.reduceGE, Int.reduceLE, Int.reduceEq, Int.reduceNeg, Int.reduceToNat, reduceCtorEq, beq_false, Int.reduceBEq, Int.reduceBNe]
    refine (awake _).run ?_
    simp only [hz0, evA, if_true, if_false, reduceIte, Nat.reduceAdd, Nat.reduceMul, Nat.reduceSub, Nat.reduceLeDiff, Nat.reduceEqDiff, Nat.reduceBEq, Nat.reduceBNe, Int.reduceAdd, Int.reduceMul, Int.reduceSub, Int.reduceLT, Int.reduceGT, Int.reduceGE, Int.reduceLE, Int.reduceEq, Int.reduceNeg, Int.reduceToNat, reduceCtorEq, beq_false, Int.reduceBEq, Int.reduceBNe]
  have hpv : pickV ts ks at_ = .tup [ints (pickF ks ks.length ts ((at_ : Int) % waysF ks ks.length ts)), .i 0] := by unfold pickV; rw [if_neg hin, if_neg hm0]
  rw [hpv]
  obtain ⟨g1, g2, g3⟩ := mod_in (n := (at_ : Int)) (m := waysF ks ks.length ts) (by omega) (by omega)
  obtain ⟨hPA, hPx⟩ := hpA _ g2 g3
  have hPl := hPA.length
  have hPas := c40 ts ks (pickF ks ks.length ts ((at_ : Int) % waysF ks ks.length ts)) hok (by rw [hPl]; have := hok.kl; omega)
  rw [assignE_A hok hPA] at hPas
  have hPix := c30_ok ts ks (pickF ks ks.length ts ((at_ : Int) % waysF ks ks.length ts)) ht hk (by rw [hPl]; have := hok.kl; omega) hok
  rw [indexV_A hPA, hPx] at hPix
  have hpv2 : ∀ x : Int, 0 ≤ x → x < waysF ks ks.length ts → x ≤ 2147483646 → pickV ts ks x = .tup [ints (pickF ks ks.length ts x), .i 0] := fun x h0 h1 h2 => by
    unfold pickV; rw [if_neg (by omega), if_neg hm0, Int.emod_eq_of_lt h0 h1]
  have hwb := waysF_bounds ks ks.length ts hok.tl.2
  have hk68 : 6 ^ ks.length ≤ 6 ^ 8 := Nat.pow_le_pow_right (by omega) hok.kl
  have hwle : waysF ks ks.length ts ≤ 1679616 := by
    generalize 6 ^ ks.length = q at *
    omega
  clear hwb hk68
  have h30 := fun l (hl : l.length < 2 ^ 62) => c30_ok ts ks l ht hk hl hok
  generalize pickF ks ks.length ts ((at_ : Int) % waysF ks ks.length ts) = P at *
  generalize hmm : waysF ks ks.length ts = m at *
  have hm1 : ¬ (m < 0) := by omega
  have hm2 := beqI_false hm0
  simp only [evA, if_true, if_false, reduceIte, Nat.reduceAdd, Nat.reduceMul, Nat.reduceSub, Nat.reduceLeDiff, Nat.reduceEqDiff, Nat.reduceBEq, Nat.reduceBNe, Int.reduceAdd, Int.reduceMul, Int.reduceSub, Int.reduceLT, Int.reduceGT, Int.reduceGE, Int.reduceLE, Int.reduceEq, Int.reduceNeg, Int.reduceToNat, reduceCtorEq, beq_false, Int.reduceBEq, Int.reduceBNe]
  refine h26.call (by (try dsimp only); repeat (first | exact trivial | rfl | exact frz_ints_nl | (apply frz_ints (fun _ => trivial); first | rfl | (simp [rowOf]; done)) | constructor | simp only [frzA])) ?_
  simp only [evA, if_true, if_false, reduceIte, Nat.reduceAdd, Nat.reduceMul, Nat.reduceSub, Nat.reduceLeDiff, Nat.reduceEqDiff, Nat.reduceBEq, Nat.reduceBNe, Int.reduceAdd, Int.reduceMul, Int.reduceSub, Int.reduceLT, Int.reduceGT, Int.reduceGE, Int.reduceLE, Int.reduceEq, Int.reduceNeg, Int.reduceToNat, reduceCtorEq, beq_false, Int.reduceBEq, Int.reduceBNe]
  refine hb.call (by (try dsimp only); repeat (first | exact trivial | rfl | exact frz_ints_nl | (apply frz_ints (fun _ => trivial); first | rfl | (simp [rowOf]; done)) | constructor | simp only [frzA])) ?_
  simp only [evA, if_true, if_false, reduceIte, Nat.reduceAdd, Nat.reduceMul, Nat.reduceSub, Nat.reduceLeDiff, Nat.reduceEqDiff, Nat.reduceBEq, Nat.reduceBNe, Int.reduceAdd, Int.reduceMul, Int.reduceSub, Int.reduceLT, Int.reduceGT, Int.reduceGE, Int.reduceLE, Int.reduceEq, Int.reduceNeg, Int.reduceToNat, reduceCtorEq, beq_false, Int.reduceBEq, Int.reduceBNe]
  refine (c39 ts ks xs hok hx hxl).call (.cons (.agg (.cons (.c (.c _ trivial)) (.cons (.c (.c _ trivial)) .nil))) (.cons (.c (.c _ trivial)) .nil)) ?_
  have hbn := bneI_false (a := (at_ : Int) % m) rfl
  cases ha : allowF ks xs ks.length ts with
  | none =>
    simp only [allowV, hm1, hm2, evA, if_true, if_false, reduceIte, Nat.reduceAdd, Nat.reduceMul, Nat.reduceSub, Nat.reduceLeDiff, Nat.reduceEqDiff, Nat.reduceBEq, Nat.reduceBNe, Int.reduceAdd, Int.reduceMul, Int.reduceSub, Int.reduceLT, Int.reduceGT, Int.reduceGE, Int.reduceLE, Int.reduceEq, Int.reduceNeg, Int.reduceToNat, reduceCtorEq, beq_false, Int.reduceBEq, Int.reduceBNe]
    refine hPas.call (by (try dsimp only); repeat (first | exact trivial | rfl | exact frz_ints_nl | (apply frz_ints (fun _ => trivial); first | rfl | (simp [rowOf]; done)) | constructor | simp only [frzA])) ?_
    simp only [evA, if_true, if_false, reduceIte, Nat.reduceAdd, Nat.reduceMul, Nat.reduceSub, Nat.reduceLeDiff, Nat.reduceEqDiff, Nat.reduceBEq, Nat.reduceBNe, Int.reduceAdd, Int.reduceMul, Int.reduceSub, Int.reduceLT, Int.reduceGT, Int.reduceGE, Int.reduceLE, Int.reduceEq, Int.reduceNeg, Int.reduceToNat, reduceCtorEq, beq_false, Int.reduceBEq, Int.reduceBNe]
    refine hPix.call (by (try dsimp only); repeat (first | exact trivial | rfl | exact frz_ints_nl | (apply frz_ints (fun _ => trivial); first | rfl | (simp [rowOf]; done)) | constructor | simp only [frzA])) ?_
    simp only [hm0, g1, hbn, evA, if_true, if_false, reduceIte, Nat.reduceAdd, Nat.reduceMul, Nat.reduceSub, Nat.reduceLeDiff, Nat.reduceEqDiff, Nat.reduceBEq, Nat.reduceBNe, Int.reduceAdd, Int.reduceMul, Int.reduceSub, Int.reduceLT, Int.reduceGT, Int.reduceGE, Int.reduceLE, Int.reduceEq, Int.reduceNeg, Int.reduceToNat, reduceCtorEq, beq_false, Int.reduceBEq, Int.reduceBNe]
    refine (awake _).run ?_
    simp only [evA, if_true, if_false, reduceIte, Nat.reduceAdd, Nat.reduceMul, Nat.reduceSub, Nat.reduceLeDiff, Nat.reduceEqDiff, Nat.reduceBEq, Nat.reduceBNe, Int.reduceAdd, Int.reduceMul, Int.reduceSub, Int.reduceLT, Int.reduceGT, Int.reduceGE, Int.reduceLE, Int.reduceEq, Int.reduceNeg, Int.reduceToNat, reduceCtorEq, beq_false, Int.reduceBEq, Int.reduceBNe]
  | some l =>
    have hlA := hal l ha
    obtain ⟨i1, i2, i3⟩ := hix l ha
    have hll := hlA.length
    have hLix := h30 l (by rw [hll]; have := hok.kl; omega)
    rw [indexV_A hlA] at hLix
    have hLp := h28 (indexF ks ks.length ts l)
    rw [hpv2 _ i1 i2 (by omega), i3] at hLp
    generalize indexF ks ks.length ts l = ix at *
    have hi1 : ¬ (ix < 0) := by omega
    have hi2 : ¬ (ix ≥ m) := by omega
    simp only [allowV, hm1, hm2, evA, if_true, if_false, reduceIte, Nat.reduceAdd, Nat.reduceMul, Nat.reduceSub, Nat.reduceLeDiff, Nat.reduceEqDiff, Nat.reduceBEq, Nat.reduceBNe, Int.reduceAdd, Int.reduceMul, Int.reduceSub, Int.reduceLT, Int.reduceGT, Int.reduceGE, Int.reduceLE, Int.reduceEq, Int.reduceNeg, Int.reduceToNat, reduceCtorEq, beq_false, Int.reduceBEq, Int.reduceBNe]
    refine hPas.call (by (try dsimp only); repeat (first | exact trivial | rfl | exact frz_ints_nl | (apply frz_ints (fun _ => trivial); first | rfl | (simp [rowOf]; done)) | constructor | simp only [frzA])) ?_
    simp only [evA, if_true, if_false, reduceIte, Nat.reduceAdd, Nat.reduceMul, Nat.reduceSub, Nat.reduceLeDiff, Nat.reduceEqDiff, Nat.reduceBEq, Nat.reduceBNe, Int.reduceAdd, Int.reduceMul, Int.reduceSub, Int.reduceLT, Int.reduceGT, Int.reduceGE, Int.reduceLE, Int.reduceEq, Int.reduceNeg, Int.reduceToNat, reduceCtorEq, beq_false, Int.reduceBEq, Int.reduceBNe]
    refine hPix.call (by (try dsimp only); repeat (first | exact trivial | rfl | exact frz_ints_nl | (apply frz_ints (fun _ => trivial); first | rfl | (simp [rowOf]; done)) | constructor | simp only [frzA])) ?_
    simp only [hm0, g1, hbn, evA, if_true, if_false, reduceIte, Nat.reduceAdd, Nat.reduceMul, Nat.reduceSub, Nat.reduceLeDiff, Nat.reduceEqDiff, Nat.reduceBEq, Nat.reduceBNe, Int.reduceAdd, Int.reduceMul, Int.reduceSub, Int.reduceLT, Int.reduceGT, Int.reduceGE, Int.reduceLE, Int.reduceEq, Int.reduceNeg, Int.reduceToNat, reduceCtorEq, beq_false, Int.reduceBEq, Int.reduceBNe]
    refine hLix.call (by (try dsimp only); repeat (first | exact trivial | rfl | exact frz_ints_nl | (apply frz_ints (fun _ => trivial); first | rfl | (simp [rowOf]; done)) | constructor | simp only [frzA])) ?_
    simp only [hi1, hi2, evA, if_true, if_false, reduceIte, Nat.reduceAdd, Nat.reduceMul, Nat.reduceSub, Nat.reduceLeDiff, Nat.reduceEqDiff, Nat.reduceBEq, Nat.reduceBNe, Int.reduceAdd, Int.reduceMul, Int.reduceSub, Int.reduceLT, Int.reduceGT, Int.reduceGE, Int.reduceLE, Int.reduceEq, Int.reduceNeg, Int.reduceToNat, reduceCtorEq, beq_false, Int.reduceBEq, Int.reduceBNe]
    refine hLp.call (by (try dsimp only); repeat (first | exact trivial | rfl | exact frz_ints_nl | (apply frz_ints (fun _ => trivial); first | rfl | (simp [rowOf]; done)) | constructor | simp only [frzA])) ?_
    simp only [evA, if_true, if_false, reduceIte, Nat.reduceAdd, Nat.reduceMul, Nat.reduceSub, Nat.reduceLeDiff, Nat.reduceEqDiff, Nat.reduceBEq, Nat.reduceBNe, Int.reduceAdd, Int.reduceMul, Int.reduceSub, Int.reduceLT, Int.reduceGT, Int.reduceGE, Int.reduceLE, Int.reduceEq, Int.reduceNeg, Int.reduceToNat, reduceCtorEq, beq_false, Int.reduceBEq, Int.reduceBNe]
    refine (c20 l l (by rw [hll]; exact hk)).call (by (try dsimp only); repeat (first | exact trivial | rfl | exact frz_ints_nl | (apply frz_ints (fun _ => trivial); first | rfl | (simp [rowOf]; done)) | constructor | simp only [frzA])) ?_
    simp only [decide_true, evA, if_true, if_false, reduceIte, Nat.reduceAdd, Nat.reduceMul, Nat.reduceSub, Nat.reduceLeDiff, Nat.reduceEqDiff, Nat.reduceBEq, Nat.reduceBNe, Int.reduceAdd, Int.reduceMul, Int.reduceSub, Int.reduceLT, Int.reduceGT, Int.reduceGE, Int.reduceLE, Int.reduceEq, Int.reduceNeg, Int.reduceToNat, reduceCtorEq, beq_false, Int.reduceBEq, Int.reduceBNe]
    refine (awake _).run ?_
    simp only [evA, if_true, if_false, reduceIte, Nat.reduceAdd, Nat.reduceMul, Nat.reduceSub, Nat.reduceLeDiff, Nat.reduceEqDiff, Nat.reduceBEq, Nat.reduceBNe, Int.reduceAdd, Int.reduceMul, Int.reduceSub, Int.reduceLT, Int.reduceGT, Int.reduceGE, Int.reduceLE, Int.reduceEq, Int.reduceNeg, Int.reduceToNat, reduceCtorEq, beq_false, Int.reduceBEq, Int.reduceBNe]

theorem law_LotMeets (avs : List AV) (h : Args Try.prog Try.f8.params.toList avs) : AC Try.prog 8 avs [] fun r _ => r = .b true := by
  have h : Args Try.prog [34, 50, 51] avs := h
  obtain ⟨cs1, avs, rfl, h1, h⟩ := args_cons h
  obtain ⟨cs2, avs, rfl, h2, h⟩ := args_cons h
  obtain ⟨cs3, avs, rfl, h3, h⟩ := args_cons h
  cases args_nil h
  obtain ⟨ts, ks, he, ht, hk, _, _⟩ := typed_draw h1
  obtain ⟨n, rfl, hn⟩ := typed_int Try.underlying50 h2
  have hn := wf_u32 hn
  obtain ⟨n', rfl⟩ : ∃ k : Nat, n = (k : Int) := ⟨n.toNat, (Int.toNat_of_nonneg hn.1).symm⟩
  obtain ⟨xs, he3, g3, g4⟩ := typed_u8s h3
  have e2 : avOf Try.prog 50 [CV.int .u32 (n' : Int)] = .cv (.int .u32 n') := by simp [avOf, Try.underlying50]
  rw [he, e2, he3]
  exact c8 ts ks n' xs ht hk (by omega) g3 g4

end Go.Proofs.Ytphdemhopihpnaa.AM

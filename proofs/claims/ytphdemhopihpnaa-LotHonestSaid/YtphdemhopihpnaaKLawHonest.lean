/- The law LotHonest, by the contracts. -/
import Derived.Test.YtphdemhopihpnaaZ39
import Derived.Test.YtphdemhopihpnaaZ38
import Derived.Test.YtphdemhopihpnaaKLotI6
namespace Go.Proofs.Ytphdemhopihpnaa.AM
open Go
set_option linter.unusedVariables false
set_option linter.unusedSimpArgs false
set_option maxRecDepth 20000

theorem honestV_is (ts ks ps zs as_ : List Int) : ∃ b e, honestV ts ks ps zs as_ = .tup [.b b, .i e] := by
  unfold honestV
  repeat (split; · exact ⟨_, _, rfl⟩)
  exact ⟨_, _, rfl⟩

theorem c6 (ts ks ps zs as_ : List Int) (ht : ts.length < 2 ^ 63) (hk : ks.length < 2 ^ 63) (hp : ps.length < 2 ^ 63) (hz : zs.length < 2 ^ 63) (ha : as_.length < 2 ^ 63) : AC Try.prog 6 [drw ts ks, .agg [ints ps, ints zs, ints as_]] [] fun r _ => r = .b true := by
  refine AC_FE (fok6 true) (Nat.le_of_ble_eq_true rfl) ?_
  simp only [ic6, f_box, cellsOf, evA, if_true, if_false, reduceIte, Nat.reduceAdd, Nat.reduceMul, Nat.reduceSub, Nat.reduceLeDiff, Nat.reduceEqDiff, Nat.reduceBEq, Nat.reduceBNe, Int.reduceAdd, Int.reduceMul, Int.reduceSub, Int.reduceLT, Int.reduceGT, Int.reduceGE, Int.reduceLE, Int.reduceEq, Int.reduceNeg, Int.reduceToNat, reduceCtorEq, beq_false, Int.reduceBEq, Int.reduceBNe]
  have hb2 : ∀ b : Bool, (b == b) = true := fun b => by simp
  have hi2 : ∀ e : Int, (e == e) = true := fun e => by simp
  rcases checkV_cases ts ks with ⟨hv, hok⟩ | ⟨x, y, e, hv, he⟩
  · obtain ⟨b, e, hh⟩ := honestV_is ts ks ps zs as_
    have h1 := c34_ok ts ks ps zs as_ ht hk hp hz ha hok
    have h2 := c35_ok ts ks ps zs as_ ht hk hp hz ha hok
    rw [hh] at h1 h2
    refine h1.call (by (try dsimp only); repeat (first | exact trivial | rfl | exact frz_ints_nl | (apply frz_ints (fun _ => trivial); first | rfl | (simp [rowOf]; done)) | constructor | simp only [frzA])) ?_
    simp only [evA, if_true, if_false, reduceIte, Nat.reduceAdd, Nat.reduceMul, Nat.reduceSub, Nat.reduceLeDiff, Nat.reduceEqDiff, Nat.reduceBEq, Nat.reduceBNe, Int.reduceAdd, Int.reduceMul, Int.reduceSub, Int.reduceLT, Int.reduceGT, Int.reduceGE, Int.reduceLE, Int.reduceEq, Int.reduceNeg, Int.reduceToNat, reduceCtorEq, beq_false, Int.reduceBEq, Int.reduceBNe]
    refine h2.call (by (try dsimp only); repeat (first | exact trivial | rfl | exact frz_ints_nl | (apply frz_ints (fun _ => trivial); first | rfl | (simp [rowOf]; done)) | constructor | simp only [frzA])) ?_
    simp only [hb2, hi2, evA, if_true, if_false, reduceIte, Nat.reduceAdd, Nat.reduceMul, Nat.reduceSub, Nat.reduceLeDiff, Nat.reduceEqDiff, Nat.reduceBEq, Nat.reduceBNe, Int.reduceAdd, Int.reduceMul, Int.reduceSub, Int.reduceLT, Int.reduceGT, Int.reduceGE, Int.reduceLE, Int.reduceEq, Int.reduceNeg, Int.reduceToNat, reduceCtorEq, beq_false, Int.reduceBEq, Int.reduceBNe]
    refine (awake _).run ?_
    simp only [evA, if_true, if_false, reduceIte, Nat.reduceAdd, Nat.reduceMul, Nat.reduceSub, Nat.reduceLeDiff, Nat.reduceEqDiff, Nat.reduceBEq, Nat.reduceBNe, Int.reduceAdd, Int.reduceMul, Int.reduceSub, Int.reduceLT, Int.reduceGT, Int.reduceGE, Int.reduceLE, Int.reduceEq, Int.reduceNeg, Int.reduceToNat, reduceCtorEq, beq_false, Int.reduceBEq, Int.reduceBNe]
  · refine (c34_err ts ks ps zs as_ ht hk hv he).call (by (try dsimp only); repeat (first | exact trivial | rfl | exact frz_ints_nl | (apply frz_ints (fun _ => trivial); first | rfl | (simp [rowOf]; done)) | constructor | simp only [frzA])) ?_
    simp only [evA, if_true, if_false, reduceIte, Nat.reduceAdd, Nat.reduceMul, Nat.reduceSub, Nat.reduceLeDiff, Nat.reduceEqDiff, Nat.reduceBEq, Nat.reduceBNe, Int.reduceAdd, Int.reduceMul, Int.reduceSub, Int.reduceLT, Int.reduceGT, Int.reduceGE, Int.reduceLE, Int.reduceEq, Int.reduceNeg, Int.reduceToNat, reduceCtorEq, beq_false, Int.reduceBEq, Int.reduceBNe]
    refine (c35_err ts ks ps zs as_ ht hk hv he).call (by (try dsimp only); repeat (first | exact trivial | rfl | exact frz_ints_nl | (apply frz_ints (fun _ => trivial); first | rfl | (simp [rowOf]; done)) | constructor | simp only [frzA])) ?_
    simp only [hb2, hi2, evA, if_true, if_false, reduceIte, Nat.reduceAdd, Nat.reduceMul, Nat.reduceSub, Nat.reduceLeDiff, Nat.reduceEqDiff, Nat.reduceBEq, Nat.reduceBNe, Int.reduceAdd, Int.reduceMul, Int.reduceSub, Int.reduceLT, Int.reduceGT, Int.reduceGE, Int.reduceLE, Int.reduceEq, Int.reduceNeg, Int.reduceToNat, reduceCtorEq, beq_false, Int.reduceBEq, Int.reduceBNe]
    refine (awake _).run ?_
    simp only [evA, if_true, if_false, reduceIte, Nat.reduceAdd, Nat.reduceMul, Nat.reduceSub, Nat.reduceLeDiff, Nat.reduceEqDiff, Nat.reduceBEq, Nat.reduceBNe, Int.reduceAdd, Int.reduceMul, Int.reduceSub, Int.reduceLT, Int.reduceGT, Int.reduceGE, Int.reduceLE, Int.reduceEq, Int.reduceNeg, Int.reduceToNat, reduceCtorEq, beq_false, Int.reduceBEq, Int.reduceBNe]

theorem law_LotHonest (avs : List AV) (h : Args Try.prog Try.f6.params.toList avs) : AC Try.prog 6 avs [] fun r _ => r = .b true := by
  have h : Args Try.prog [34, 44] avs := h
  obtain ⟨cs1, avs, rfl, h1, h⟩ := args_cons h
  obtain ⟨cs2, avs, rfl, h2, h⟩ := args_cons h
  cases args_nil h
  obtain ⟨ts, ks, he, ht, hk, _, _⟩ := typed_draw h1
  obtain ⟨L, rfl, hn, hf⟩ := typed_struct Try.underlying44 h2
  match L, hn with
  | [a, b, c], _ =>
    obtain ⟨ps, rfl, g1, _⟩ := typed_ints Try.underlying23 Try.underlying3 (hf 0 _ a rfl rfl)
    obtain ⟨zs, rfl, g2, _⟩ := typed_ints Try.underlying23 Try.underlying3 (hf 1 _ b rfl rfl)
    obtain ⟨us, rfl, g3, _⟩ := typed_ints Try.underlying23 Try.underlying3 (hf 2 _ c rfl rfl)
    have e2 : avOf Try.prog 44 ([[CV.rsl (ps.map (.int .i64)) ps.length], [CV.rsl (zs.map (.int .i64)) zs.length], [CV.rsl (us.map (.int .i64)) us.length]] : List (List CV)).flatten = .agg [ints ps, ints zs, ints us] := by simp [avOf, Try.underlying44]
    rw [he, e2]
    exact c6 ts ks ps zs us ht hk g1 g2 g3

end Go.Proofs.Ytphdemhopihpnaa.AM

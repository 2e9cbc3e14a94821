/- Contracts: the document's lists without a learner and with a place more. -/
import Derived.Test.YtjgolcbpgmlilaaZ44
namespace Go.Proofs.Ytjgolcbpgmlilaa.AM
open Go Go.Proofs.Ytjgolcbpgmlilaa.Qu Pl
set_option linter.unusedVariables false
set_option linter.unusedSimpArgs false

/-- a closed list is appended to a row -/
theorem app_rsl {e by_ l n m : Nat} {σ : List AObj} {xs cs : List CV} (hr : rowOf σ l = some (xs.map .cv)) (hx : xs.length = n * e) (hc : cs.length = m * e) (hb : (n + m) * by_ ≤ 2 ^ 44) (hn : n + m ≤ 2 ^ 44) :
    f_append e by_ [.sl l 0 n e, .cv (.rsl cs m)] σ = some (.sl σ.length 0 (n + m) e, σ.set l .dead ++ [.cells ((xs ++ cs).map .cv)]) := by
  simp only [f_append, hr, srcCells, hc, if_true, lenF, Option.bind_some]
  have h1 : True ∧ n * e ≤ (xs.map AV.cv).length ∧ m * e = (cs.map AV.cv).length ∧ (n + m) * by_ ≤ 2 ^ 44 ∧ n + m ≤ 2 ^ 44 ∧ (cs.map AV.cv).all AV.isSc = true := ⟨trivial, by simp [hx], by simp [hc], hb, hn, sc_cv cs⟩
  rw [if_pos h1, List.take_of_length_le (by simp [hx]), List.map_append]

theorem lea_sr {ls : List Lea} {k : Nat} (h : k ≤ ls.length) (σ : List AObj) : f_slS 5 true false [leaL ls, .cv (.int .i64 k)] σ = some (leaL (ls.drop k), σ) := by
  rw [sr_rsl h (leaCs_len ls)]; unfold leaCs; rw [flat_drop leaC_len]; simp [leaCs]

/-- the document's Without -/
theorem c62 (q : QL) (hq : QSz q) (i : Nat) (hi : i < q.ls.length) (h38 : q.ls.length < 2 ^ 38) : PA Try.prog 62 [qV q, .i i] (qV (woQ q i)) := by
  refine ⟨AC_FE (fok62 true) (Nat.le_of_ble_eq_true rfl) ?_, rfl, rfl⟩
  have hp : (2 : Nat) ^ 38 = 274877906944 := by decide
  have hp2 : (2 : Nat) ^ 44 = 17592186044416 := by decide
  have hl := hq.ls
  have hws : IntKind.i64.wrap ((i : Int) + 1) = ((i + 1 : Nat) : Int) := wrap_succ (by omega)
  have e1 := lea_sl (ls := q.ls) (k := i) (by omega)
  have e2 := lea_sr (ls := q.ls) (k := i + 1) (by omega)
  have hz : zcells 0 [] = [] := rfl
  have t1 : (q.ls.take i).length = i := by simp; omega
  have t2 : (q.ls.drop (i + 1)).length = q.ls.length - (i + 1) := by simp
  have hn : (q.ls.take i).length + (q.ls.drop (i + 1)).length = (woQ q i).ls.length := by rw [wo_len q hi]; omega
  have hcs : leaCs (q.ls.take i) ++ leaCs (q.ls.drop (i + 1)) = leaCs (woQ q i).ls := by
    show _ = leaCs (q.ls.eraseIdx i)
    rw [List.eraseIdx_eq_take_drop_succ]; simp [leaCs]
  simp only [ic62, evA, if_true, if_false, beq_false, simprocAttr]
  refine DW_s [] [(1, 2), (1, 7), (1, 13), (4, 2), (9, 2), (9, 7)] hmix (by kernel_rfl) rfl ?_
  have ha1 : f_append 5 64 [.sl 2 0 0 5, leaL (q.ls.take i)] [.cells [cenL q.cs, leaL q.ls], .cells [.cv .nils, .cv .nils], .cells []] = some (.sl 3 0 (q.ls.take i).length 5, [.cells [cenL q.cs, leaL q.ls], .cells [.cv .nils, .cv .nils], .dead, .cells ((leaCs (q.ls.take i)).map .cv)]) := by
    rw [app_rsl (xs := []) rfl rfl (leaCs_len _) (by omega) (by omega), Nat.zero_add]; rfl
  have ha2 : f_append 5 64 [.sl 3 0 (q.ls.take i).length 5, leaL (q.ls.drop (i + 1))] [.cells [cenL q.cs, leaL q.ls], .cells [.cv .nils, .cv .nils], .dead, .cells ((leaCs (q.ls.take i)).map .cv)] = some (.sl 4 0 (woQ q i).ls.length 5, [.cells [cenL q.cs, leaL q.ls], .cells [.cv .nils, .cv .nils], .dead, .dead, .cells ((leaCs (woQ q i).ls).map .cv)]) := by
    rw [app_rsl rfl (leaCs_len _) (leaCs_len _) (by omega) (by omega), hn, hcs]; rfl
  simp only [e1, e2, hws, hz, ha1, ha2, evA, if_true, if_false, beq_false, simprocAttr]
  refine .agg (.cons (.c (.c _ trivial)) (.cons (sl_frz (rest := []) ?_ (leaCs_len _) fun _ _ => trivial) .nil))
  simp [rowOf]

/-- the document's More -/
theorem c64 (q : QL) (hq : QSz q) (c : Nat) (hc : c < q.cs.length) (hpl : 0 ≤ (q.cs[c]!).pl ∧ (q.cs[c]!).pl ≤ 6) (h38 : q.cs.length < 2 ^ 38) : PA Try.prog 64 [qV q, .i c] (qV (moreQ q c)) := by
  refine ⟨AC_FE (fok64 true) (Nat.le_of_ble_eq_true rfl) ?_, rfl, rfl⟩
  have hp : (2 : Nat) ^ 38 = 274877906944 := by decide
  have hp2 : (2 : Nat) ^ 44 = 17592186044416 := by decide
  have hz : zcells 0 [] = [] := rfl
  have hwp : IntKind.i64.wrap ((q.cs[c]!).pl + 1) = (q.cs[c]!).pl + 1 := wrap_in (by omega)
  have hlen := more_len q c
  simp only [ic64, evA, if_true, if_false, beq_false, simprocAttr]
  refine DW_s [] [(0, 7), (2, 0), (2, 7), (3, 7), (5, 0), (5, 3), (5, 7), (7, 0), (7, 3)] hmix (by kernel_rfl) rfl ?_
  have ha1 : f_append 3 48 [.sl 2 0 0 3, cenL q.cs] [.cells [cenL q.cs, leaL q.ls], .cells [.cv .nils, .cv .nils], .cells []] = some (.sl 3 0 q.cs.length 3, [.cells [cenL q.cs, leaL q.ls], .cells [.cv .nils, .cv .nils], .dead, .cells ((cenCs q.cs).map .cv)]) := by
    rw [app_rsl (xs := []) rfl rfl (cenCs_len _) (by omega) (by omega), Nat.zero_add]; rfl
  have hia : ∀ σ, f_iaS 3 [.sl 3 0 q.cs.length 3, .cv (.int .i64 c)] σ = some (.ptr 3 (c * 3), σ) := fun σ => by simp [f_iaS, hc]
  have hget : ((cenCs q.cs).map AV.cv)[c * 3 + 1]? = some (.i (q.cs[c]!).pl) := by rw [List.getElem?_map, cen_1 hc]; rfl
  have hset : ((cenCs q.cs).map AV.cv).set (c * 3 + 1) (.i ((q.cs[c]!).pl + 1)) = (cenCs (moreQ q c).cs).map .cv := by
    rw [← List.map_set (f := AV.cv) (a := .int .i64 ((q.cs[c]!).pl + 1))]
    congr 1
    exact flat_set cenC_len (j := 1) (by omega) hc rfl
  have hbd : c * 3 + 1 + 1 ≤ (cenCs q.cs).length := by rw [cenCs_len]; omega
  simp only [hz, ha1, hia, hget, hwp, hset, hbd, evA, if_true, if_false, beq_false, simprocAttr]
  rw [← hlen]
  refine .agg (.cons (sl_frz (rest := []) ?_ (cenCs_len _) fun _ _ => trivial) (.cons (.c (.c _ trivial)) .nil))
  simp [rowOf]

end Go.Proofs.Ytjgolcbpgmlilaa.AM

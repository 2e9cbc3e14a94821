/- The law QueueOrders, by the contracts. -/
import Derived.Test.YtjgolcbpgmlilaaZ44
import Derived.Test.YtjgolcbpgmlilaaKQuI3
namespace Go.Proofs.Ytjgolcbpgmlilaa.AM
open Go Go.Proofs.Ytjgolcbpgmlilaa.Qu
set_option linter.unusedVariables false
set_option linter.unusedSimpArgs false

theorem ordV_at (q : QL) (c : Int) : ∃ (zs : List Int) (e : Int), ordV q c = .tup [ints zs, .i e] ∧ zs.length ≤ q.ls.length := by
  unfold ordV
  split
  · split
    · exact ⟨_, _, rfl, by rw [show (ordQ q c.toNat).length = q.ls.length from ordF_len q c.toNat _]; exact Nat.le_refl _⟩
    · exact ⟨[], _, rfl, Nat.zero_le _⟩
  · exact ⟨[], _, rfl, Nat.zero_le _⟩

theorem lc3 (q : QL) (hq : QSz q) (c : Int) : AC Try.prog 3 [qV q, .i c] [] fun r _ => r = .b true := by
  refine AC_FE (fok3 true) (Nat.le_of_ble_eq_true rfl) ?_
  have hls := hq.ls
  obtain ⟨zs, e, hv, hl⟩ := ordV_at q c
  obtain ⟨x, y, z, hc⟩ : ∃ x y z, chkV q = .tup [.i x, .i y, .i z] := ⟨_, _, _, rfl⟩
  have d1 : decide (zs = zs) = true := decide_eq_true rfl
  simp only [ic3, evA, if_true, if_false, beq_false, simprocAttr]
  refine (c16 q hq).call frz ?_
  simp only [hc, evA, if_true, if_false, beq_false, simprocAttr]
  refine (c17 q hq).call frz ?_
  simp only [hc, evA, if_true, if_false, beq_false, simprocAttr]
  refine (c18 q hq c).call ?_
  simp only [hv, evA, if_true, if_false, beq_false, simprocAttr]
  refine (c19 q hq c).call frz ?_
  simp only [hv, evA, if_true, if_false, beq_false, simprocAttr]
  refine (c20 zs zs (by omega)).call frz ?_
  simp only [d1, evA, if_true, if_false, beq_false, simprocAttr]
  refine c21.call .nil ?_
  simp only [evA, if_true, if_false, beq_false, simprocAttr]

theorem law_QueueOrders (avs : List AV) (h : Args Try.prog Try.f3.params.toList avs) : AC Try.prog 3 avs [] fun r _ => r = .b true := by
  have h : Args Try.prog [25, 3] avs := h
  obtain ⟨cs1, avs, rfl, h1, h⟩ := args_cons h
  obtain ⟨cs2, avs, rfl, h2, h⟩ := args_cons h
  cases args_nil h
  obtain ⟨q, e, hq⟩ := typed_q h1
  obtain ⟨n, rfl, _⟩ := typed_int Try.underlying3 h2
  rw [e]
  have e2 : avOf Try.prog 3 [.int .i64 n] = .i n := by simp [avOf, Try.underlying3]
  rw [e2]
  exact lc3 q hq n

end Go.Proofs.Ytjgolcbpgmlilaa.AM

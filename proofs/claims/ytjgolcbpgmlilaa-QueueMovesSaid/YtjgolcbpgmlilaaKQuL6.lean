/- The law QueueMoves, by the contracts. -/
import Derived.Test.YtjgolcbpgmlilaaKQuC38
import Derived.Test.YtjgolcbpgmlilaaKQuD5
import Derived.Test.YtjgolcbpgmlilaaKQuI6
namespace Go.Proofs.Ytjgolcbpgmlilaa.AM
open Go Go.Proofs.Ytjgolcbpgmlilaa.Qu Pl
set_option linter.unusedVariables false
set_option linter.unusedSimpArgs false

theorem lc6 (q : QL) (hq : QSz q) (x y : Int) : AC Try.prog 6 [qV q, .agg [.i x, .i y]] [] fun r _ => r = .b true := by
  refine AC_FE (fok6 true) (Nat.le_of_ble_eq_true rfl) ?_
  obtain ⟨ms, e, hv, _, _, hn, hm⟩ := cancV_at q x
  obtain ⟨ns, f, hw, _, _, kn, km⟩ := openV_at q y
  have d1 : decide (ms = ms) = true := decide_eq_true rfl
  have d2 : decide (ns = ns) = true := decide_eq_true rfl
  have hm := btr_ok fun m h => (hm m h).1
  have km := btr_ok km
  simp only [ic6, evA, if_true, if_false, beq_false, simprocAttr]
  refine (c28 q hq x).call ?_
  simp only [hv, evA, if_true, if_false, beq_false, simprocAttr]
  refine (c29 q hq x).call ?_
  simp only [hv, evA, if_true, if_false, beq_false, simprocAttr]
  refine (c30 ms ms hn hm hm).call frz ?_
  simp only [d1, evA, if_true, if_false, beq_false, simprocAttr]
  refine (c31 q hq y).call ?_
  simp only [hw, evA, if_true, if_false, beq_false, simprocAttr]
  refine (c32 q hq y).call ?_
  simp only [hw, evA, if_true, if_false, beq_false, simprocAttr]
  refine (c30 ns ns kn km km).call frz ?_
  simp only [d2, evA, if_true, if_false, beq_false, simprocAttr]
  refine c21.call .nil ?_
  simp only [evA, if_true, if_false, beq_false, simprocAttr]

theorem law_QueueMoves (avs : List AV) (h : Args Try.prog Try.f6.params.toList avs) : AC Try.prog 6 avs [] fun r _ => r = .b true := by
  have h : Args Try.prog [25, 39] avs := h
  obtain ⟨cs1, avs, rfl, h1, h⟩ := args_cons h
  obtain ⟨cs2, avs, rfl, h2, h⟩ := args_cons h
  cases args_nil h
  obtain ⟨q, e, hq⟩ := typed_q h1
  obtain ⟨x, y, e2⟩ := typed_two h2
  rw [e, e2]
  exact lc6 q hq x y

end Go.Proofs.Ytjgolcbpgmlilaa.AM

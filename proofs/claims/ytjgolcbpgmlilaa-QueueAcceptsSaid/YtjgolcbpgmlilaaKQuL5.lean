/- The law QueueAccepts, by the contracts. -/
import Derived.Test.YtjgolcbpgmlilaaZ44
import Derived.Test.YtjgolcbpgmlilaaKQuI5
namespace Go.Proofs.Ytjgolcbpgmlilaa.AM
open Go Go.Proofs.Ytjgolcbpgmlilaa.Qu
set_option linter.unusedVariables false
set_option linter.unusedSimpArgs false

theorem lc5 (q : QL) (hq : QSz q) (g : List Int) (hg : g.length < 2 ^ 63) : AC Try.prog 5 [qV q, ints g] [] fun r _ => r = .b true := by
  refine AC_FE (fok5 true) (Nat.le_of_ble_eq_true rfl) ?_
  obtain ⟨a, b, c, hv⟩ : ∃ a b c, accV q g = .tup [.i a, .i b, .i c] := ⟨_, _, _, rfl⟩
  simp only [ic5, evA, if_true, if_false, beq_false, simprocAttr]
  refine (c26 q hq g hg).call frz ?_
  simp only [hv, evA, if_true, if_false, beq_false, simprocAttr]
  refine (c27 q hq g hg).call frz ?_
  simp only [hv, evA, if_true, if_false, beq_false, simprocAttr]
  refine c21.call .nil ?_
  simp only [evA, if_true, if_false, beq_false, simprocAttr]

theorem law_QueueAccepts (avs : List AV) (h : Args Try.prog Try.f5.params.toList avs) : AC Try.prog 5 avs [] fun r _ => r = .b true := by
  have h : Args Try.prog [25, 29] avs := h
  obtain ⟨cs1, avs, rfl, h1, h⟩ := args_cons h
  obtain ⟨cs2, avs, rfl, h2, h⟩ := args_cons h
  cases args_nil h
  obtain ⟨q, e, hq⟩ := typed_q h1
  obtain ⟨zs, rfl, hz, _⟩ := typed_ints Try.underlying29 Try.underlying3 h2
  rw [e]
  have e2 : avOf Try.prog 29 [.rsl (zs.map (.int .i64)) zs.length] = ints zs := by simp [avOf, Try.underlying29]
  rw [e2]
  exact lc5 q hq zs hz

end Go.Proofs.Ytjgolcbpgmlilaa.AM

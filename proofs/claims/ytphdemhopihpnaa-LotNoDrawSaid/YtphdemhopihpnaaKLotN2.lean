/- Lists of sets: in order, and the set again as a sum; in plain Lean. -/
import Derived.Test.YtphdemhopihpnaaKLotN1
namespace Go.Proofs.Ytphdemhopihpnaa.AM
open Go Go.Proofs.Ytphdemhopihpnaa.Pl
set_option linter.unusedVariables false
set_option linter.unusedSimpArgs false

theorem setL_pair (n s : Nat) : (setL n s).Pairwise (· < ·) := by
  unfold setL
  rw [List.pairwise_map]
  refine (List.Pairwise.filter _ List.pairwise_lt_range).imp ?_
  intro a b h; omega
theorem setL_less {n s i j : Nat} (hj : j < i) (hi : i < (setL n s).length) : (setL n s)[j]?.getD 0 < (setL n s)[i]?.getD 0 := by
  have h := List.pairwise_iff_getElem.1 (setL_pair n s) j i (by omega) hi hj
  rw [List.getElem?_eq_getElem hi, List.getElem?_eq_getElem (by omega)]
  exact h

def sumT (zs : List Int) (i : Nat) : Nat := ((zs.take i).map fun z => 2 ^ z.toNat).sum
theorem sumT_succ {zs : List Int} {i : Nat} (h : i < zs.length) : sumT zs (i + 1) = sumT zs i + 2 ^ (zs[i]?.getD 0).toNat := by
  unfold sumT
  rw [List.take_add_one, List.getElem?_eq_getElem h, List.map_append, List.sum_append]
  rfl
theorem sumT_le (zs : List Int) (i : Nat) : sumT zs i ≤ sumT zs zs.length := by
  unfold sumT
  rw [List.take_length]
  conv => rhs; rw [← List.take_append_drop i zs]
  rw [List.map_append, List.sum_append]
  omega
theorem sum_setL (s : Nat) : ∀ n, ((setL n s).map fun z => 2 ^ z.toNat).sum = ofB n s.testBit
  | 0 => rfl
  | n + 1 => by
    rw [setL_succ, List.map_append, List.sum_append, sum_setL s n]
    rw [ofB]
    by_cases h : s.testBit n = true
    · rw [if_pos h, if_pos h]; simp; omega
    · rw [if_neg h, if_neg h]; simp
theorem sumT_set {n s : Nat} (h : s < 2 ^ n) : sumT (setL n s) (setL n s).length = s := by
  unfold sumT
  rw [List.take_length, sum_setL, ofB_self h]

end Go.Proofs.Ytphdemhopihpnaa.AM

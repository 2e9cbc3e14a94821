/- The law QueueGains, by the contracts. -/
import Derived.Test.YtjgolcbpgmlilaaKQuC39
import Derived.Test.YtjgolcbpgmlilaaKQuI10
namespace Go.Proofs.Ytjgolcbpgmlilaa.AM
open Go Go.Proofs.Ytjgolcbpgmlilaa.Qu Pl
set_option linter.unusedVariables false
set_option linter.unusedSimpArgs false

theorem lc10 (q : QL) (hq : QSz q) (w : Nat) (hw : w < 256) (xs : List Int) (hx : xs.length < 2 ^ 63) (hb : ∀ x ∈ xs, 0 ≤ x ∧ x ≤ 255) : AC Try.prog 10 [qV q, .cv (.int .u8 w), .cv (.rsl (xs.map (.int .u8)) xs.length)] [] fun r _ => r = .b true := by
  refine AC_FE (fok10 true) (Nat.le_of_ble_eq_true rfl) ?_
  simp only [ic10, evA, if_true, if_false, beq_false, simprocAttr]
  refine (c22 q hq).call ?_
  by_cases he : eQ q = 0
  rotate_left
  · have hb2 : (eQ q == 0) = false := beq_f he
    simp only [giveV_no he, evA, if_true, if_false, beq_false, simprocAttr]
    refine (c34 q hq).call frz ?_
    simp only [hb2, evA, if_true, if_false, beq_false, simprocAttr]
    refine (c34 q hq).call frz ?_
    simp only [hb2, evA, if_true, if_false, beq_false, simprocAttr]
    refine c21.call .nil ?_
    simp only [evA, if_true, if_false, beq_false, simprocAttr]
  have hgl := giveQ_len q
  obtain ⟨⟨hc1, hc5, h8⟩, _, _, _⟩ := valid_iff (q := q) he
  obtain ⟨_, _, hL, hC⟩ := id (val_of he)
  simp only [giveV_ok he, evA, if_true, if_false, beq_false, simprocAttr]
  refine (c34 q hq).call frz ?_
  by_cases h0 : q.ls.length = 0
  · have hz : ((q.ls.length : Int) == 0) = true := by rw [h0]; rfl
    have hz2 : (((giveQ q).length : Int) == 0) = true := by rw [hgl, h0]; rfl
    simp only [he, hz, evA, if_true, if_false, beq_false, simprocAttr]
    refine (c34 q hq).call frz ?_
    simp only [he, hz2, evA, if_true, if_false, beq_false, simprocAttr]
    refine c21.call .nil ?_
    simp only [evA, if_true, if_false, beq_false, simprocAttr]
  have hz : ((q.ls.length : Int) == 0) = false := beq_f (by omega)
  have hz0 : ¬ ((q.ls.length : Int) = 0) := by omega
  have hww : IntKind.i64.wrap (w : Int) = (w : Int) := wrap_nat (by omega)
  have htm : (w : Int).tmod (q.ls.length : Int) = ((w % q.ls.length : Nat) : Int) := rfl
  have hi := Nat.mod_lt w (show 0 < q.ls.length by omega)
  generalize w % q.ls.length = i at htm hi
  simp only [he, hz, hww, hz0, htm, evA, if_true, if_false, beq_false, simprocAttr]
  refine (c36 q he i hi xs hx hb).call ?_
  have hwl := wl_len hc1 xs xs.length
  obtain ⟨hwo, hwd⟩ := wl_ok hc1 xs xs.length
  generalize wlQ q.cs.length xs xs.length = v at hwl hwo hwd
  have hev := valid_wish he hi hwo hwd
  have hq2 := qsz_wish hq hi (v := v) (by omega)
  have hg2 : (giveQ (wishQ q i v)).length = q.ls.length := by rw [giveQ_len]; simp [wishQ]
  simp only [evA, if_true, if_false, beq_false, simprocAttr]
  refine (c22 (wishQ q i v) hq2).call ?_
  have hn := give_gains hL hi hwo hwd
  rw [getI, getI] at hn
  have hig : i < (giveQ q).length := by omega
  have hih : i < (giveQ (wishQ q i v)).length := by omega
  simp only [giveV_ok hev, hgl, hg2, evA, if_true, if_false, beq_false, simprocAttr]
  refine DW_s [9, 19, 22] [] hmix (by kernel_rfl) rfl ?_
  simp only [ia_rsl hi, lea_ld hi, hig, hih, evA, if_true, if_false, beq_false, simprocAttr]
  refine kK_keep ((c35 (q.ls[i]!) ((giveQ (wishQ q i v))[i]?.getD 0) (hq.wi i hi)).call frz ⟨rfl, rfl⟩) rfl ?_
  simp only [ia_rsl hi, lea_ld hi, hig, hih, evA, if_true, if_false, beq_false, simprocAttr]
  refine kK_keep ((c35 (q.ls[i]!) ((giveQ q)[i]?.getD 0) (hq.wi i hi)).call frz ⟨rfl, rfl⟩) rfl ?_
  simp only [Int.ofNat_le, ge_iff_le, hn, evA, if_true, if_false, beq_false, simprocAttr]
  refine kK_keep (c21.call .nil ⟨rfl, rfl⟩) rfl ?_
  simp only [evA, if_true, if_false, beq_false, simprocAttr]

theorem law_QueueGains (avs : List AV) (h : Args Try.prog Try.f10.params.toList avs) : AC Try.prog 10 avs [] fun r _ => r = .b true := by
  have h : Args Try.prog [25, 5, 51] avs := h
  obtain ⟨cs1, avs, rfl, h1, h⟩ := args_cons h
  obtain ⟨cs2, avs, rfl, h2, h⟩ := args_cons h
  obtain ⟨cs3, avs, rfl, h3, h⟩ := args_cons h
  cases args_nil h
  obtain ⟨q, e, hq⟩ := typed_q h1
  obtain ⟨n, rfl, hn⟩ := typed_int Try.underlying5 h2
  have hn := wf_u8 hn
  obtain ⟨xs, e3, hx, hb⟩ := typed_bs h3
  obtain ⟨w, rfl⟩ : ∃ w : Nat, n = (w : Int) := ⟨n.toNat, (Int.toNat_of_nonneg hn.1).symm⟩
  have e2 : avOf Try.prog 5 [.int .u8 (w : Int)] = .cv (.int .u8 w) := by simp [avOf, Try.underlying5]
  rw [e, e2, e3]
  exact lc10 q hq w (by omega) xs hx hb

end Go.Proofs.Ytjgolcbpgmlilaa.AM

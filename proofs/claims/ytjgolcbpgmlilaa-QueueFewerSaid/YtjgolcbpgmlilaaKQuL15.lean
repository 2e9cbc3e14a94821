/- The law QueueFewer, by the contracts. -/
import Derived.Test.YtjgolcbpgmlilaaKQuC39
import Derived.Test.YtjgolcbpgmlilaaKQuI15
namespace Go.Proofs.Ytjgolcbpgmlilaa.AM
open Go Go.Proofs.Ytjgolcbpgmlilaa.Qu Pl
set_option linter.unusedVariables false
set_option linter.unusedSimpArgs false

/-- the first wishes, of those that are kept -/
def fewL (w : List Int) (p : Nat → Bool) : Nat → List Int
  | 0 => []
  | n + 1 => if p n = true then fewL w p n ++ [w[n]?.getD 0] else fewL w p n
theorem few_sub {w : List Int} {p : Nat → Bool} : ∀ {n : Nat}, n ≤ w.length → List.Sublist (fewL w p n) (w.take n)
  | 0, _ => by simp [fewL]
  | n + 1, h => by
    have ih := few_sub (w := w) (p := p) (n := n) (by omega)
    unfold fewL
    rw [List.take_add_one, List.getElem?_eq_getElem (by omega)]
    split
    · exact ih.append (List.Sublist.refl _)
    · exact ih.trans (List.sublist_append_left _ _)
theorem few_mem {w : List Int} {p : Nat → Bool} : ∀ {n j : Nat}, j < n → p j = true → w[j]?.getD 0 ∈ fewL w p n
  | n + 1, j, h, hp => by
    unfold fewL
    by_cases hj : j = n
    · subst hj; rw [if_pos hp]; simp
    · have := few_mem (w := w) (p := p) (n := n) (j := j) (by omega) hp
      split
      · simp [this]
      · exact this

theorem slC {l n e : Nat} {σ : List AObj} {as_ : List AV} {cs : List CV} (hr : rowOf σ l = some as_) (hl : as_.length = n * e) (h : FrzCs anyC σ as_ cs) : FrzC anyC σ (.sl l 0 n e) (.rsl cs n) := by
  refine .sl l 0 n e _ _ hr (by omega) ?_
  rw [List.drop_zero, List.take_of_length_le (by omega)]
  exact h

set_option maxRecDepth 4000 in
theorem lc15 (q : QL) (hq : QSz q) (x y : Nat) (hx : x < 256) (hy : y < 256) : AC Try.prog 15 [qV q, .agg [.cv (.int .u8 x), .cv (.int .u8 y)]] [] fun r _ => r = .b true := by
  refine AC_SW (fok15 true) (Nat.le_of_ble_eq_true rfl) ?_
  simp only [ic15]
  refine SW_seq ?_
  simp only [kSW_n, evA, if_true, if_false, beq_false, simprocAttr]
  refine SW_seq ?_
  simp only [kSW_n, evA, if_true, if_false, beq_false, simprocAttr]
  refine (c22 q hq).call ?_
  by_cases he : eQ q = 0
  rotate_left
  · have hb := bne_t he
    have hb2 : (eQ q == 0) = false := beq_f he
    simp only [giveV_no he, kSW_n, evA, if_true, if_false, beq_false, simprocAttr]
    refine SW_seq ?_
    simp only [hb, kSW_n, kSW_r, evA, if_true, if_false, beq_false, simprocAttr]
    refine (c34 q hq).call frz ?_
    simp only [hb2, hb, kSW_r, evA, if_true, if_false, beq_false, simprocAttr]
    refine c21.call .nil ?_
    simp only [kSW_r, evA, if_true, if_false, beq_false, simprocAttr]
  have hgl := giveQ_len q
  obtain ⟨⟨hc1, hc5, h8⟩, _, _, _⟩ := valid_iff (q := q) he
  obtain ⟨_, _, hL, hC⟩ := id (val_of he)
  simp only [giveV_ok he, kSW_n, evA, if_true, if_false, beq_false, simprocAttr]
  refine SW_seq ?_
  simp only [kSW_n, evA, if_true, if_false, beq_false, simprocAttr]
  refine (c34 q hq).call frz ?_
  by_cases h0 : q.ls.length = 0
  · have hz : ((q.ls.length : Int) == 0) = true := by rw [h0]; rfl
    simp only [he, hgl, hz, kSW_n, kSW_r, evA, if_true, if_false, beq_false, simprocAttr]
    refine (c34 q hq).call frz ?_
    simp only [he, hgl, kSW_n, kSW_r, evA, if_true, if_false, beq_false, simprocAttr]
    refine c21.call .nil ?_
    simp only [kSW_r, evA, if_true, if_false, beq_false, simprocAttr]
  have hz : ((q.ls.length : Int) == 0) = false := beq_f (by omega)
  have hz0 : ¬ ((q.ls.length : Int) = 0) := by omega
  have hww : IntKind.i64.wrap (x : Int) = (x : Int) := wrap_nat (by omega)
  have htm : (x : Int).tmod (q.ls.length : Int) = ((x % q.ls.length : Nat) : Int) := rfl
  have hi := Nat.mod_lt x (show 0 < q.ls.length by omega)
  generalize x % q.ls.length = i at htm hi
  simp only [he, hgl, hz, kSW_n, evA, if_true, if_false, beq_false, simprocAttr]
  refine SW_seq ?_
  simp only [f_iaA, hww, hgl, hz0, htm, kSW_n, evA, if_true, if_false, beq_false, simprocAttr]
  refine SW_seq ?_
  simp only [kSW_n, evA, if_true, if_false, beq_false, simprocAttr]
  have hp2 : (2 : Nat) ^ 44 = 17592186044416 := by decide
  have hzc : zcells 0 [] = [] := rfl
  have ha1 : f_append 5 64 [.sl 2 0 0 5, leaL q.ls] [.cells [cenL q.cs, leaL q.ls], .cells [.cv (.int .u8 x), .cv (.int .u8 y)], .cells []] = some (.sl 3 0 q.ls.length 5, [.cells [cenL q.cs, leaL q.ls], .cells [.cv (.int .u8 x), .cv (.int .u8 y)], .dead, .cells ((leaCs q.ls).map .cv)]) := by
    rw [app_rsl (xs := []) rfl rfl (leaCs_len _) (by omega) (by omega), Nat.zero_add]; rfl
  refine DW_s [] [(1, 2), (1, 5), (1, 7), (2, 7), (4, 2), (4, 7), (5, 7), (7, 2), (7, 5)] hmix (by kernel_rfl) rfl ?_
  simp only [hzc, ha1, kSW_n, evA, if_true, if_false, beq_false, simprocAttr]
  refine SW_seq ?_
  simp only [kSW_n, evA, if_true, if_false, beq_false, simprocAttr]
  refine SW_seq ?_
  simp only [kSW_n, evA, if_true, if_false, beq_false, simprocAttr]
  obtain ⟨g, hg⟩ : ∃ g, g = (giveQ q)[i]?.getD 0 := ⟨_, rfl⟩
  obtain ⟨W, hW⟩ : ∃ W, W = (q.ls[i]!).wi := ⟨_, rfl⟩
  have hWl : W.length ≤ 5 := by
    obtain ⟨w1, w2⟩ : (∀ x ∈ W, 0 ≤ x ∧ x < q.cs.length) ∧ W.Nodup := by rw [hW]; exact ⟨(hL i hi).wi, (hL i hi).nd⟩
    have hs : (W.map Int.toNat).Nodup := by
      rw [List.Nodup, List.pairwise_map]
      refine w2.imp_of_mem ?_
      intro a b ha hb hne e
      have := w1 a ha
      have := w1 b hb
      omega
    have hsub : W.map Int.toNat ⊆ List.range q.cs.length := by
      intro x hx
      obtain ⟨y, hy, rfl⟩ := List.mem_map.1 hx
      have := w1 y hy
      rw [List.mem_range]; omega
    have := hs.length_le_of_subset hsub
    simp at this
    omega
  obtain ⟨p, hp⟩ : ∃ p : Nat → Bool, p = fun n => (W[n]?.getD 0 == g) || ((((y : Int).fdiv (2 ^ min n 8)).tmod 2) == 0) := ⟨_, rfl⟩
  refine IL_for W.length (fun n s => ∃ v9 v11 v15 v16 τ, ((rowOf τ 0 = some [cenL q.cs, leaL q.ls] ∧ rowOf τ 1 = some [.cv (.int .u8 x), .cv (.int .u8 y)] ∧ rowOf τ 3 = some ((leaCs q.ls).map .cv) ∧ rowOf τ 4 = some [cenL q.cs, .sl 3 0 q.ls.length 5]) ∧ AccFrom 5 τ v9 (fewL W p n)) ∧ s = ⟨[qV q, .agg [.cv (.int .u8 x), .cv (.int .u8 y)], .ptr 0 0, .ptr 1 0, .b false, ints (giveQ q), .i 0, .i i, .ptr 4 0, v9, .i n, v11, .undef, .undef, .b false, v15, v16], τ⟩) ?_ 0 (Nat.zero_le _) ⟨_, _, _, _, _, ⟨⟨rfl, rfl, rfl, rfl⟩, AccFrom.nil (Nat.le_refl _)⟩, rfl⟩
  rintro n s hn ⟨v9, v11, v15, v16, τ, ⟨⟨h0r, h1r, h3r, h4r⟩, hacc⟩, rfl⟩
  have hfl : (fewL W p n).length ≤ 5 := by have := (few_sub (w := W) (p := p) hn).length_le; simp at this; omega
  by_cases h : n < W.length
  rotate_left
  · have : n = W.length := by omega
    subst this
    have hsub : List.Sublist (fewL W p W.length) (q.ls[i]!).wi := by
      have := few_sub (w := W) (p := p) (n := W.length) (Nat.le_refl _)
      rw [List.take_length] at this
      rw [← hW]; exact this
    have hkp : (giveQ q)[i]! ≠ -1 → (giveQ q)[i]! ∈ fewL W p W.length := fun hne => by
      have hm : (giveQ q)[i]! ∈ W := by
        rw [hW]
        rcases (give_ok hL).2 i hi with e | e
        · exact absurd e hne
        · exact e
      obtain ⟨j, hj, hje⟩ := List.getElem_of_mem hm
      have hpj : p j = true := by
        rw [hp]
        show ((W[j]?.getD 0 == g) || _) = true
        rw [List.getElem?_eq_getElem hj, Option.getD_some, hje, hg, getI, beq_self_eq_true, Bool.true_or]
      have := few_mem (w := W) (p := p) hj hpj
      rwa [List.getElem?_eq_getElem hj, Option.getD_some, hje] at this
    have hfew := give_fewer hL hi hsub hkp
    rw [getI, getI, ← hg] at hfew
    have hvo : ∀ x ∈ fewL W p W.length, 0 ≤ x ∧ x < q.cs.length := fun x hx => (hL i hi).wi x (hsub.subset hx)
    have hvd := (hL i hi).nd.sublist hsub
    generalize fewL W p W.length = v at hacc hfl hfew hvo hvd
    have hev := valid_wish he hi hvo hvd
    have hq2 := qsz_wish hq hi (v := v) (by omega)
    have hg2 : (giveQ (wishQ q i v)).length = q.ls.length := by rw [giveQ_len]; simp [wishQ]
    have hll : (wishQ q i v).ls.length = q.ls.length := by simp [wishQ]
    have hia : ∀ σ, f_iaS 5 [.sl 3 0 q.ls.length 5, .cv (.int .i64 i)] σ = some (.ptr 3 (i * 5), σ) := fun σ => by simp [f_iaS, hi]
    obtain ⟨hc, hs⟩ := acc_sc hacc.acc
    obtain ⟨σ1, hσ1⟩ : ∃ σ1, σ1 = τ.set 3 (AObj.cells (((leaCs q.ls).map AV.cv).set (i * 5 + 4) v9)) := ⟨_, rfl⟩
    have hst : f_store 1 [.ptr 3 (i * 5 + 4), v9] τ = some (.undef, σ1) := by
      have hcond : (cellsOf v9).length = 1 ∧ i * 5 + 4 + 1 ≤ ((leaCs q.ls).map AV.cv).length ∧ (cellsOf v9).all AV.isSc = true := by
        rw [hc]; exact ⟨rfl, by rw [List.length_map, leaCs_len]; omega, by simp [hs]⟩
      simp only [f_store, h3r, Option.bind_some]
      rw [if_pos hcond, hc, hσ1]; rfl
    have g4 : rowOf σ1 4 = some [cenL q.cs, .sl 3 0 q.ls.length 5] := by rw [hσ1, rowOf_set_ne (by decide)]; exact h4r
    have g3 : rowOf σ1 3 = some (((leaCs q.ls).map AV.cv).set (i * 5 + 4) v9) := by rw [hσ1]; exact rowOf_set_self h3r
    have hacc2 : AccAt σ1 v9 v := by rw [hσ1]; exact (hacc.store (by decide) _).acc
    have hlc : leaCs (wishQ q i v).ls = (leaCs q.ls).set (i * 5 + 4) (.rsl (v.map (.int .i64)) v.length) :=
      (flat_set leaC_len (j := 4) (by omega) hi (y := { q.ls[i]! with wi := v }) rfl).symm
    simp only [ic15l0, ← hW, Int.ofNat_lt, h, h0r, ia_rsl hi, lea_4 hi, kSW_n, evA, if_true, if_false, beq_false, simprocAttr]
    refine SW_seq ?_
    simp only [h4r, hia, hst, kSW_n, evA, if_true, if_false, beq_false, simprocAttr]
    refine SW.freeze rfl (vals' := [.undef, .undef, .undef, .undef, .b false, ints (giveQ q), .i 0, .i i, .cv (.rp [.rsl (cenCs q.cs) q.cs.length, .rsl (leaCs (wishQ q i v).ls) q.ls.length] 0), .undef, .undef, .undef, .undef, .undef, .b false, .undef, .undef]) ?_ ?_
    · refine .cons (.un _) (.cons (.un _) (.cons (.un _) (.cons (.un _) (.cons (.c (.c _ trivial)) (.cons (.c (.c _ trivial)) (.cons (.c (.c _ trivial)) (.cons (.c (.c _ trivial)) (.cons (.c (.ptr 4 0 _ _ g4 (.cons (.c _ trivial) (.cons ?_ .nil)))) (.cons (.un _) (.cons (.un _) (.cons (.un _) (.cons (.un _) (.cons (.un _) (.cons (.c (.c _ trivial)) (.cons (.un _) (.cons (.un _) .nil))))))))))))))))
      refine slC g3 (by rw [List.length_set, List.length_map, leaCs_len]) ?_
      rw [hlc]
      exact frzCs_set (accC hacc2) fun _ _ => trivial
    rw [← hll]
    refine SW_of ?_
    simp only [evA, if_true, if_false, beq_false, simprocAttr]
    refine (c22 (wishQ q i v) hq2).call ?_
    have hig : i < (giveQ q).length := by omega
    have hih : i < (giveQ (wishQ q i v)).length := by omega
    have hbe : ((giveQ (wishQ q i v))[i]?.getD 0 == (giveQ q)[i]?.getD 0) = true := by rw [hfew, hg]; simp
    have hbl : (((giveQ (wishQ q i v)).length : Int) == ((giveQ q).length : Int)) = true := by rw [hg2, hgl]; simp
    simp only [giveV_ok hev, evA, if_true, if_false, beq_false, simprocAttr]
    refine DW_s [21] [] hmix (by kernel_rfl) rfl ?_
    simp only [hbl, hig, hih, hbe, evA, if_true, if_false, beq_false, simprocAttr]
    refine kK_keep (c21.call .nil ⟨rfl, rfl⟩) rfl ?_
    simp only [evA, if_true, if_false, beq_false, simprocAttr]
  have hig : i < (giveQ q).length := by omega
  have hws : IntKind.i64.wrap ((n : Int) + 1) = ((n + 1 : Nat) : Int) := wrap_succ (by omega)
  have hsh : binF .shr .int (.cv (.int .u8 (y : Int))) (.cv (.int .i64 (n : Int))) = some (.cv (.int .u8 ((y : Int).fdiv (2 ^ min n 8)))) := by
    simp only [binF, isShift, shiftI, if_true]
    rw [if_neg (by omega)]; rfl
  obtain ⟨V, hV⟩ : ∃ V, V = (y : Int).fdiv (2 ^ min n 8) := ⟨_, rfl⟩
  have hpn : p n = ((W[n]?.getD 0 == g) || ((V.tmod 2) == 0)) := by rw [hp, hV]
  rw [← hV] at hsh
  have h20 : ¬ ((2 : Int) = 0) := by decide
  have hfn : fewL W p (n + 1) = if p n = true then fewL W p n ++ [W[n]?.getD 0] else fewL W p n := rfl
  clear hp hV
  simp only [ic15l0, ← hW, Int.ofNat_lt, h, h0r, h1r, ia_rsl hi, lea_4 hi, hig, ← hg, evA, if_true, if_false, beq_false, simprocAttr]
  obtain ⟨v', σ', hap, hacc', hlow⟩ := accFrom_append (W[n]?.getD 0) hacc (by omega)
  have fin : p n = true → ((rowOf σ' 0 = some [cenL q.cs, leaL q.ls] ∧ rowOf σ' 1 = some [.cv (.int .u8 x), .cv (.int .u8 y)] ∧ rowOf σ' 3 = some ((leaCs q.ls).map .cv) ∧ rowOf σ' 4 = some [cenL q.cs, .sl 3 0 q.ls.length 5]) ∧ AccFrom 5 σ' v' (fewL W p (n + 1))) := fun e =>
    ⟨⟨by rw [hlow 0 (by omega)]; exact h0r, by rw [hlow 1 (by omega)]; exact h1r, by rw [hlow 3 (by omega)]; exact h3r, by rw [hlow 4 (by omega)]; exact h4r⟩, by rw [hfn, if_pos e]; exact hacc'⟩
  cases hwg : (W[n]?.getD 0 == g) with
  | true =>
    simp only [f_bslice, hap, hws, evA, if_true, if_false, beq_false, simprocAttr]
    exact kFor_go (by first | trivial | omega) ⟨_, _, _, _, σ', fin (by rw [hpn, hwg, Bool.true_or]), rfl⟩
  | false =>
    simp only [f_iaA, h1r, hsh, h20, evA, if_true, if_false, beq_false, simprocAttr]
    cases hv2 : (V.tmod 2 == 0) with
    | true =>
      simp only [f_bslice, hap, hws, evA, if_true, if_false, beq_false, simprocAttr]
      exact kFor_go (by first | trivial | omega) ⟨_, _, _, _, σ', fin (by rw [hpn, hwg, hv2]; rfl), rfl⟩
    | false =>
      simp only [hws, evA, if_true, if_false, beq_false, simprocAttr]
      exact kFor_go (by first | trivial | omega) ⟨_, _, _, _, τ, ⟨⟨h0r, h1r, h3r, h4r⟩, by rw [hfn, if_neg (by rw [hpn, hwg, hv2]; decide)]; exact hacc⟩, rfl⟩

theorem law_QueueFewer (avs : List AV) (h : Args Try.prog Try.f15.params.toList avs) : AC Try.prog 15 avs [] fun r _ => r = .b true := by
  have h : Args Try.prog [25, 57] avs := h
  obtain ⟨cs1, avs, rfl, h1, h⟩ := args_cons h
  obtain ⟨cs2, avs, rfl, h2, h⟩ := args_cons h
  cases args_nil h
  obtain ⟨q, e, hq⟩ := typed_q h1
  obtain ⟨x, y, hx, hy, e2⟩ := typed_two8 h2
  rw [e, e2]
  exact lc15 q hq x y hx hy

end Go.Proofs.Ytjgolcbpgmlilaa.AM

/- Contracts: the document's Cancel and Open. -/
import Derived.Test.YtjgolcbpgmlilaaKQuC37
namespace Go.Proofs.Ytjgolcbpgmlilaa.AM
open Go Go.Proofs.Ytjgolcbpgmlilaa.Qu Pl
set_option linter.unusedVariables false
set_option linter.unusedSimpArgs false

/-- the document's Cancel -/
theorem c29 (q : QL) (hq : QSz q) (x : Int) : PA Try.prog 29 [qV q, .i x] (cancV q x) := by
  refine ⟨AC_FE (fok29 true) (Nat.le_of_ble_eq_true rfl) ?_, by unfold cancV; split <;> (try split) <;> rfl, rfl⟩
  simp only [ic29, evA, if_true, if_false, beq_false, simprocAttr]
  refine (c23 q hq).call ?_
  by_cases he : eQ q = 0
  rotate_left
  · have hb := bne_t he
    have hb2 : (eQ q == 0) = false := beq_f he
    have hg : giveV q = .tup [ints [], .i (eQ q)] := by unfold giveV; rw [if_neg he]
    simp only [hg, hb, hb2, evA, if_true, if_false, beq_false, simprocAttr]
    unfold cancV
    rw [if_neg he]
    exact .tup (.cons (.c .nl) (.cons (.c (.c _ trivial)) .nil))
  have hg : giveV q = .tup [ints (giveQ q), .i 0] := by unfold giveV; rw [if_pos he]
  have hls := hq.ls
  obtain ⟨h5, h8, hL, hC⟩ := id (val_of he)
  have hwn : IntKind.i64.wrap ((q.ls.length : Int) - 1) = (q.ls.length : Int) - 1 := wrap_in (by omega)
  simp only [hg, hwn, evA, if_true, if_false, beq_false, simprocAttr]
  refine (c45 x 0 ((q.ls.length : Int) - 1)).call frz ?_
  unfold cancV
  rw [if_pos he]
  cases hin : inB x 0 ((q.ls.length : Int) - 1) with
  | false =>
    simp only [evA, if_true, if_false, beq_false, simprocAttr]
    exact .tup (.cons (.c .nl) (.cons (.c (.c _ trivial)) .nil))
  | true =>
  rw [inB_iff] at hin
  obtain ⟨i, rfl⟩ : ∃ i : Nat, x = i := ⟨x.toNat, by omega⟩
  have hi : i < q.ls.length := by omega
  have hlen := wo_len q hi
  have hq2 := qsz_wo hq hi
  obtain ⟨g5, g8, gL, gC⟩ := id (qok_wo (val_of he) hi)
  have hgl := giveQ_len q
  have hgl2 := giveQ_len (woQ q i)
  simp only [Int.toNat_natCast, evA, if_true, if_false, beq_false, simprocAttr]
  refine (c62 q hq i hi (by omega)).call ?_
  simp only [evA, if_true, if_false, beq_false, simprocAttr]
  refine (c51 (woQ q i) hq2 (by omega) gL gC).call frz ?_
  simp only [evA, if_true, if_false, beq_false, simprocAttr]
  generalize hM : movs (fun k => (giveQ q)[k]!) (leftA q i) = M
  have hcm : cancM q i = M (giveQ q).length := by rw [← hM, hgl]; rfl
  have hMl : ∀ k, (M k).length ≤ k := fun k => by rw [← hM]; exact movs_len k
  have hM1 : ∀ k, M (k + 1) = M k ++ if leftA q i k = (giveQ q)[k]?.getD 0 then [] else [(k, (giveQ q)[k]?.getD 0, leftA q i k)] := fun k => by rw [← hM, ← getB]; rfl
  clear hM
  refine IL_for (giveQ q).length (fun k s => ∃ v8 v10 v14 v15 v16 τ, AccS 3 τ v8 (M k).length ((M k).flatMap movC) ∧ s = ⟨[qV q, .i i, .ptr 0 0, .cv .nils, .i 0, ints (giveQ q), .i 0, ints (giveQ (woQ q i)), v8, .i k, v10, .b false, .b false, v14, v15, v16], τ⟩) ?_ 0 (Nat.zero_le _) ⟨_, _, _, _, _, _, by rw [show M 0 = [] from List.eq_nil_of_length_eq_zero (by have := hMl 0; omega)]; exact AccS.nil _ _, rfl⟩
  rintro k s hk ⟨v8, v10, v14, v15, v16, τ, hA, rfl⟩
  by_cases h : k < (giveQ q).length
  rotate_left
  · have : k = (giveQ q).length := by omega
    subst this
    rw [hcm]
    simp only [ic29l0, Int.ofNat_lt, h, evA, if_true, if_false, beq_false, simprocAttr]
    exact .tup (.cons (accS_frz hA (fun _ _ => trivial)) (.cons (.c (.c _ trivial)) .nil))
  have hws : IntKind.i64.wrap ((k : Int) + 1) = ((k + 1 : Nat) : Int) := wrap_succ (by omega)
  have hml := hMl k
  by_cases hki : k = i
  · subst hki
    have h1 : ¬ k < k := by omega
    have hm : M (k + 1) = M k := by
      have hl : leftA q k k = (giveQ q)[k]?.getD 0 := by unfold leftA; rw [if_pos rfl, getB]
      rw [hM1, hl]; simp
    simp only [ic29l0, Int.ofNat_lt, h, h1, evA, if_true, if_false, beq_false, simprocAttr]
    refine DW_s [] [] hmix (by kernel_rfl) rfl ?_
    simp only [hws, evA, if_true, if_false, beq_false, simprocAttr]
    exact kFor_go (by first | trivial | omega) ⟨_, _, _, _, _, τ, by rw [hm]; exact hA, rfl⟩
  have h2 : ((k : Int) != (i : Int)) = true := by simp; omega
  obtain ⟨n, hn, hn1⟩ : ∃ n, n < (giveQ (woQ q i)).length ∧ leftA q i k = (giveQ (woQ q i))[n]?.getD 0 ∧ ((k < i ∧ n = k) ∨ (i < k ∧ n = k - 1)) := by
    unfold leftA
    rw [if_neg hki]
    by_cases hlt : k < i
    · exact ⟨k, by omega, by rw [if_pos hlt, getB], .inl ⟨hlt, rfl⟩⟩
    · exact ⟨k - 1, by omega, by rw [if_neg hlt, getB], .inr ⟨by omega, rfl⟩⟩
  obtain ⟨hla, hcase⟩ := hn1
  have hm := hM1 k
  rw [hla] at hm
  obtain ⟨v', σ', happ, hA'⟩ := accS_append (by_ := 24) (x := movC (k, (giveQ q)[k]?.getD 0, (giveQ (woQ q i))[n]?.getD 0)) hA rfl (by omega) (by omega)
  have happ' : f_append 3 24 [v8, .sl τ.length 0 1 3] (τ ++ [AObj.cells [.i k, .i ((giveQ q)[k]?.getD 0), .i ((giveQ (woQ q i))[n]?.getD 0)]]) = some (v', σ') := happ
  have fin1 : (giveQ (woQ q i))[n]?.getD 0 = (giveQ q)[k]?.getD 0 → AccS 3 τ v8 (M (k + 1)).length ((M (k + 1)).flatMap movC) := fun e => by
    rw [hm, if_pos e, List.append_nil]; exact hA
  have fin2 : (giveQ (woQ q i))[n]?.getD 0 ≠ (giveQ q)[k]?.getD 0 → AccS 3 σ' v' (M (k + 1)).length ((M (k + 1)).flatMap movC) := fun e => by
    rw [hm, if_neg e, List.length_append, List.flatMap_append]; simpa using hA'
  rcases hcase with ⟨hlt, rfl⟩ | ⟨hlt, hnk⟩
  · have h1 : ¬ i < n := by omega
    simp only [ic29l0, Int.ofNat_lt, h, h1, evA, if_true, if_false, beq_false, simprocAttr]
    refine DW_s [] [] hmix (by kernel_rfl) rfl ?_
    by_cases he2 : (giveQ (woQ q i))[n]?.getD 0 = (giveQ q)[n]?.getD 0
    · have hb : ((giveQ (woQ q i))[n]?.getD 0 != (giveQ q)[n]?.getD 0) = false := by simp [he2]
      simp only [h, h2, hn, hb, hws, evA, if_true, if_false, beq_false, simprocAttr]
      exact kFor_go (by first | trivial | omega) ⟨_, _, _, _, _, τ, fin1 he2, rfl⟩
    · have hb := bne_t he2
      simp only [h, h2, hn, hb, hws, evA, if_true, if_false, beq_false, simprocAttr]
      refine DW_s [] [] hmix (by kernel_rfl) rfl ?_
      simp only [h, hn, happ', hws, evA, if_true, if_false, beq_false, simprocAttr]
      exact kFor_go (by first | trivial | omega) ⟨_, _, _, _, _, σ', fin2 he2, rfl⟩
  · have h1 : i < k := hlt
    have hwk : IntKind.i64.wrap ((k : Int) - 1) = (n : Int) := by rw [wrap_in (by omega)]; omega
    simp only [ic29l0, Int.ofNat_lt, h, h1, hwk, evA, if_true, if_false, beq_false, simprocAttr]
    refine DW_s [] [] hmix (by kernel_rfl) rfl ?_
    by_cases he2 : (giveQ (woQ q i))[n]?.getD 0 = (giveQ q)[k]?.getD 0
    · have hb : ((giveQ (woQ q i))[n]?.getD 0 != (giveQ q)[k]?.getD 0) = false := by simp [he2]
      simp only [h, h2, hn, hb, hws, evA, if_true, if_false, beq_false, simprocAttr]
      exact kFor_go (by first | trivial | omega) ⟨_, _, _, _, _, τ, fin1 he2, rfl⟩
    · have hb := bne_t he2
      simp only [h, h2, hn, hb, hws, evA, if_true, if_false, beq_false, simprocAttr]
      refine DW_s [] [] hmix (by kernel_rfl) rfl ?_
      simp only [h, hn, happ', hws, evA, if_true, if_false, beq_false, simprocAttr]
      exact kFor_go (by first | trivial | omega) ⟨_, _, _, _, _, σ', fin2 he2, rfl⟩

/-- the document's Open -/
theorem c32 (q : QL) (hq : QSz q) (x : Int) : PA Try.prog 32 [qV q, .i x] (openQV q x) := by
  refine ⟨AC_FE (fok32 true) (Nat.le_of_ble_eq_true rfl) ?_, by unfold openQV; split <;> (try split) <;> (try split) <;> rfl, rfl⟩
  simp only [ic32, evA, if_true, if_false, beq_false, simprocAttr]
  refine (c23 q hq).call ?_
  by_cases he : eQ q = 0
  rotate_left
  · have hb := bne_t he
    have hb2 : (eQ q == 0) = false := beq_f he
    have hg : giveV q = .tup [ints [], .i (eQ q)] := by unfold giveV; rw [if_neg he]
    simp only [hg, hb, hb2, evA, if_true, if_false, beq_false, simprocAttr]
    unfold openQV
    rw [if_neg he]
    exact .tup (.cons (.c .nl) (.cons (.c (.c _ trivial)) .nil))
  have hg : giveV q = .tup [ints (giveQ q), .i 0] := by unfold giveV; rw [if_pos he]
  have hcs := hq.cs
  obtain ⟨h5, h8, hL, hC⟩ := id (val_of he)
  have hwn : IntKind.i64.wrap ((q.cs.length : Int) - 1) = (q.cs.length : Int) - 1 := wrap_in (by omega)
  simp only [hg, hwn, evA, if_true, if_false, beq_false, simprocAttr]
  refine (c45 x 0 ((q.cs.length : Int) - 1)).call frz ?_
  unfold openQV
  rw [if_pos he]
  cases hin : inB x 0 ((q.cs.length : Int) - 1) with
  | false =>
    simp only [evA, if_true, if_false, beq_false, simprocAttr]
    exact .tup (.cons (.c .nl) (.cons (.c (.c _ trivial)) .nil))
  | true =>
  rw [inB_iff] at hin
  obtain ⟨c, rfl⟩ : ∃ c : Nat, x = c := ⟨x.toNat, by omega⟩
  have hc : c < q.cs.length := by omega
  simp only [Int.toNat_natCast, ia_rsl hc, cen_1 hc, evA, if_true, if_false, beq_false, simprocAttr]
  by_cases h6 : (q.cs[c]!).pl = 6
  · have hb : ((q.cs[c]!).pl == 6) = true := by rw [h6]; rfl
    simp only [hb, h6, evA, if_true, if_false, beq_false, simprocAttr]
    exact .tup (.cons (.c .nl) (.cons (.c (.c _ trivial)) .nil))
  have hb : ((q.cs[c]!).pl == 6) = false := beq_f h6
  have hq2 := qsz_more hq hc
  obtain ⟨g5, g8, gL, gC⟩ := id (qok_more (val_of he) hc h6)
  have hgl := giveQ_len q
  have hgl2 : (giveQ (moreQ q c)).length = q.ls.length := giveQ_len (moreQ q c)
  simp only [hb, h6, evA, if_true, if_false, beq_false, simprocAttr]
  refine (c64 q hq c hc (hC c hc).pl (by omega)).call ?_
  simp only [evA, if_true, if_false, beq_false, simprocAttr]
  refine (c51 (moreQ q c) hq2 (by show q.ls.length < _; omega) gL gC).call frz ?_
  simp only [evA, if_true, if_false, beq_false, simprocAttr]
  generalize hM : movs (fun k => (giveQ q)[k]!) (fun k => (giveQ (moreQ q c))[k]!) = M
  have hcm : openM q c = M (giveQ q).length := by rw [← hM, hgl]; rfl
  have hMl : ∀ k, (M k).length ≤ k := fun k => by rw [← hM]; exact movs_len k
  have hM1 : ∀ k, M (k + 1) = M k ++ if (giveQ (moreQ q c))[k]?.getD 0 = (giveQ q)[k]?.getD 0 then [] else [(k, (giveQ q)[k]?.getD 0, (giveQ (moreQ q c))[k]?.getD 0)] := fun k => by rw [← hM, ← getB, ← getB]; rfl
  clear hM
  refine IL_for (giveQ q).length (fun k s => ∃ v8 v13 v14 τ, AccS 3 τ v8 (M k).length ((M k).flatMap movC) ∧ s = ⟨[qV q, .i c, .ptr 0 0, .cv .nils, .i 0, ints (giveQ q), .i 0, ints (giveQ (moreQ q c)), v8, .i k, .b false, .b false, .b false, v13, v14], τ⟩) ?_ 0 (Nat.zero_le _) ⟨_, _, _, _, by rw [show M 0 = [] from List.eq_nil_of_length_eq_zero (by have := hMl 0; omega)]; exact AccS.nil _ _, rfl⟩
  rintro k s hk ⟨v8, v13, v14, τ, hA, rfl⟩
  by_cases h : k < (giveQ q).length
  rotate_left
  · have : k = (giveQ q).length := by omega
    subst this
    rw [hcm]
    simp only [ic32l0, Int.ofNat_lt, h, evA, if_true, if_false, beq_false, simprocAttr]
    exact .tup (.cons (accS_frz hA (fun _ _ => trivial)) (.cons (.c (.c _ trivial)) .nil))
  have hws : IntKind.i64.wrap ((k : Int) + 1) = ((k + 1 : Nat) : Int) := wrap_succ (by omega)
  have hml := hMl k
  have hn : k < (giveQ (moreQ q c)).length := by omega
  have hm := hM1 k
  obtain ⟨v', σ', happ, hA'⟩ := accS_append (by_ := 24) (x := movC (k, (giveQ q)[k]?.getD 0, (giveQ (moreQ q c))[k]?.getD 0)) hA rfl (by omega) (by omega)
  have happ' : f_append 3 24 [v8, .sl τ.length 0 1 3] (τ ++ [AObj.cells [.i k, .i ((giveQ q)[k]?.getD 0), .i ((giveQ (moreQ q c))[k]?.getD 0)]]) = some (v', σ') := happ
  simp only [ic32l0, Int.ofNat_lt, h, evA, if_true, if_false, beq_false, simprocAttr]
  refine DW_s [] [] hmix (by kernel_rfl) rfl ?_
  by_cases he2 : (giveQ (moreQ q c))[k]?.getD 0 = (giveQ q)[k]?.getD 0
  · have hb : ((giveQ (moreQ q c))[k]?.getD 0 != (giveQ q)[k]?.getD 0) = false := by simp [he2]
    simp only [h, hn, hb, hws, evA, if_true, if_false, beq_false, simprocAttr]
    exact kFor_go (by first | trivial | omega) ⟨_, _, _, τ, by rw [hm, if_pos he2, List.append_nil]; exact hA, rfl⟩
  · have hb := bne_t he2
    simp only [h, hn, hb, hws, evA, if_true, if_false, beq_false, simprocAttr]
    refine DW_s [] [] hmix (by kernel_rfl) rfl ?_
    simp only [h, hn, happ', hws, evA, if_true, if_false, beq_false, simprocAttr]
    exact kFor_go (by first | trivial | omega) ⟨_, _, _, σ', by rw [hm, if_neg he2, List.length_append, List.flatMap_append]; simpa using hA', rfl⟩

end Go.Proofs.Ytjgolcbpgmlilaa.AM

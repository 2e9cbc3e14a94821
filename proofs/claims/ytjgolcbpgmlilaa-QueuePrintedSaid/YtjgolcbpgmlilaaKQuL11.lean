/- The law QueuePrinted, by the contracts. -/
import Derived.Test.YtjgolcbpgmlilaaZ44
import Derived.Test.YtjgolcbpgmlilaaKQuI11
namespace Go.Proofs.Ytjgolcbpgmlilaa.AM
open Go Go.Proofs.Ytjgolcbpgmlilaa.Qu Pl
set_option linter.unusedVariables false
set_option linter.unusedSimpArgs false

/-- whether the rank of a learner at a centre is at most what is printed -/
noncomputable def prt (q : QL) (i : Nat) (c : Int) : Bool := decide ((rankQ q c.toNat i : Int) ≤ (cutQ q)[c.toNat]?.getD 0)
/-- the first such wish, from one on -/
noncomputable def wantQ (q : QL) (i n : Nat) : Int := (((q.ls[i]!).wi.drop n).find? (prt q i)).getD (-1)

theorem want_end (q : QL) (i : Nat) {n : Nat} (h : (q.ls[i]!).wi.length ≤ n) : wantQ q i n = -1 := by
  unfold wantQ; rw [List.drop_eq_nil_of_le h]; rfl
theorem want_at (q : QL) (i : Nat) {n : Nat} (h : n < (q.ls[i]!).wi.length) : wantQ q i n = if prt q i ((q.ls[i]!).wi[n]?.getD 0) = true then (q.ls[i]!).wi[n]?.getD 0 else wantQ q i (n + 1) := by
  unfold wantQ
  rw [List.drop_eq_getElem_cons h, List.getElem?_eq_getElem h, List.find?_cons]
  simp only [Option.getD_some]
  cases prt q i (q.ls[i]!).wi[n] <;> simp
theorem want_give {q : QL} (he : eQ q = 0) {i : Nat} (hi : i < q.ls.length) : wantQ q i 0 = (giveQ q)[i]?.getD 0 := by
  obtain ⟨h5, h8, hL, hC⟩ := val_of he
  rw [← getI]
  have hp := fun (j : Nat) (c : Int) hc => give_printed (j := j) (c := c) hL hC hi hc
  have hpl := place_le (q.ls[i]!).wi ((giveQ q)[i]!)
  unfold wantQ
  rw [List.drop_zero]
  by_cases hlt : place (q.ls[i]!).wi ((giveQ q)[i]!) < (q.ls[i]!).wi.length
  · have hg := place_get hlt
    have : (q.ls[i]!).wi.find? (prt q i) = some ((giveQ q)[i]!) := by
      rw [List.find?_eq_some_iff_getElem]
      have h2 := (hp _ _ hg).2 rfl
      rw [getI (cutQ q)] at h2
      refine ⟨decide_eq_true h2, _, hlt, (List.getElem?_eq_some_iff.1 hg).2, fun j hj => ?_⟩
      have h1 := (hp j _ (List.getElem?_eq_getElem (by omega))).1 hj
      rw [getI (cutQ q)] at h1
      unfold prt
      rw [decide_eq_false (by omega)]; rfl
    rw [this]; rfl
  · have : (q.ls[i]!).wi.find? (prt q i) = none := by
      rw [List.find?_eq_none]
      intro c hc
      obtain ⟨j, hj, rfl⟩ := List.getElem_of_mem hc
      have h1 := (hp j _ (List.getElem?_eq_getElem hj)).1 (by omega)
      rw [getI (cutQ q)] at h1
      unfold prt
      rw [decide_eq_false (by omega)]; simp
    rw [this]
    rcases (give_ok hL).2 i hi with e | e
    · rw [e]; rfl
    · exact absurd (place_mem e) hlt

theorem cutQ_len (q : QL) : (cutQ q).length = q.cs.length := by simp [cutQ]

theorem lc11 (q : QL) (hq : QSz q) : AC Try.prog 11 [qV q] [] fun r _ => r = .b true := by
  refine AC_FE (fok11 true) (Nat.le_of_ble_eq_true rfl) ?_
  simp only [ic11, evA, if_true, if_false, beq_false, simprocAttr]
  refine (c22 q hq).call ?_
  by_cases he : eQ q = 0
  rotate_left
  · have hb := bne_t he
    have hb2 : (eQ q == 0) = false := beq_f he
    simp only [giveV_no he, evA, if_true, if_false, beq_false, simprocAttr]
    refine (c24 q hq).call frz ?_
    simp only [cutV_no he, evA, if_true, if_false, beq_false, simprocAttr]
    refine (c34 q hq).call frz ?_
    simp only [hb, hb2, evA, if_true, if_false, beq_false, simprocAttr]
    refine c21.call .nil ?_
    simp only [evA, if_true, if_false, beq_false, simprocAttr]
  have hgl := giveQ_len q
  have hcl := cutQ_len q
  have hls := hq.ls
  have hcs := hq.cs
  obtain ⟨h5, h8, hL, hC⟩ := val_of he
  simp only [giveV_ok he, evA, if_true, if_false, beq_false, simprocAttr]
  refine (c24 q hq).call frz ?_
  simp only [cutV_ok he, evA, if_true, if_false, beq_false, simprocAttr]
  refine (c34 q hq).call frz ?_
  simp only [he, hgl, hcl, evA, if_true, if_false, beq_false, simprocAttr]
  refine IL_for q.ls.length (fun i s => ∃ v8 v9 v10 v11 v12 v13 v14 v15 v16, s = ⟨[qV q, .ptr 0 0, .b false, ints (giveQ q), .i 0, ints (cutQ q), .i 0, .i i, v8, v9, v10, v11, v12, v13, v14, v15, v16], [.cells [cenL q.cs, leaL q.ls]]⟩) ?_ 0 (Nat.zero_le _) ⟨_, _, _, _, _, _, _, _, _, rfl⟩
  rintro i s hi ⟨v8, v9, v10, v11, v12, v13, v14, v15, v16, rfl⟩
  by_cases h : i < q.ls.length
  rotate_left
  · simp only [ic11l1, hgl, Int.ofNat_lt, h, evA, if_true, if_false, beq_false, simprocAttr]
    refine c21.call .nil ?_
    simp only [evA, if_true, if_false, beq_false, simprocAttr]
  have hig : i < (giveQ q).length := by omega
  have hws : IntKind.i64.wrap ((i : Int) + 1) = ((i + 1 : Nat) : Int) := wrap_succ (by omega)
  have hwn := hq.wi i h
  have hnd := hL i h
  have hwd := want_give he h
  have hw0 : IntKind.i64.wrap (((q.ls[i]!).wi.length : Int) - 1) = ((q.ls[i]!).wi.length : Int) - 1 := wrap_in (by omega)
  simp only [ic11l1, hgl, Int.ofNat_lt, h, ia_rsl h, lea_4 h, hw0, evA, if_true, if_false, beq_false, simprocAttr]
  refine IL_for (q.ls[i]!).wi.length (fun k s => ∃ v11 v12 v13 v14 v15 v16, s = ⟨[qV q, .ptr 0 0, .b false, ints (giveQ q), .i 0, ints (cutQ q), .i 0, .i i, .i (wantQ q i ((q.ls[i]!).wi.length - k)), ints (q.ls[i]!).wi, .i (((q.ls[i]!).wi.length : Int) - 1 - k), v11, v12, v13, v14, v15, v16], [.cells [cenL q.cs, leaL q.ls]]⟩) ?_ 0 (Nat.zero_le _) ⟨_, _, _, _, _, _, by rw [Nat.sub_zero, want_end q i (Nat.le_refl _), show (((q.ls[i]!).wi.length : Int) - 1 - ((0 : Nat) : Int)) = ((q.ls[i]!).wi.length : Int) - 1 by simp]⟩
  clear v8 v9 v10 v11 v12 v13 v14 v15 v16
  rintro k s hk ⟨v11, v12, v13, v14, v15, v16, rfl⟩
  by_cases hkl : k < (q.ls[i]!).wi.length
  rotate_left
  · have hge : decide (((q.ls[i]!).wi.length : Int) - 1 - (k : Int) ≥ 0) = false := decide_eq_false (by omega)
    have hk0 : (q.ls[i]!).wi.length - k = 0 := by omega
    rw [hk0, hwd]
    simp only [ic11l0, hge, hig, hws, evA, if_true, if_false, beq_false, simprocAttr]
    exact kFor_go (by first | trivial | omega) ⟨_, _, _, _, _, _, _, _, _, rfl⟩
  obtain ⟨m, hm⟩ : ∃ m : Nat, m = (q.ls[i]!).wi.length - 1 - k := ⟨_, rfl⟩
  have hmi : ((q.ls[i]!).wi.length : Int) - 1 - (k : Int) = (m : Int) := by omega
  have hml : m < (q.ls[i]!).wi.length := by omega
  have e1 : (q.ls[i]!).wi.length - k = m + 1 := by omega
  have e2 : (q.ls[i]!).wi.length - (k + 1) = m := by omega
  have hmw : IntKind.i64.wrap ((m : Int) - 1) = ((q.ls[i]!).wi.length : Int) - 1 - ((k + 1 : Nat) : Int) := by rw [wrap_in (by omega)]; omega
  have hge : decide ((m : Int) ≥ 0) = true := decide_eq_true (by omega)
  have hcm := hnd.wi _ (List.getElem_mem hml)
  obtain ⟨c, hce⟩ : ∃ c : Nat, (q.ls[i]!).wi[m]?.getD 0 = (c : Int) := ⟨((q.ls[i]!).wi[m]?.getD 0).toNat, by rw [List.getElem?_eq_getElem hml]; simp only [Option.getD_some]; omega⟩
  have hcl2 : c < q.cs.length := by rw [List.getElem?_eq_getElem hml] at hce; simp only [Option.getD_some] at hce; omega
  have hcc : c < (cutQ q).length := by omega
  have hwa := want_at q i hml
  rw [hce] at hwa
  rw [hmi, e1]
  simp only [ic11l0, hge, hml, evA, if_true, if_false, beq_false, simprocAttr]
  refine DW_s [6] [] hmix (by kernel_rfl) rfl ?_
  simp only [hml, hce, evA, if_true, if_false, beq_false, simprocAttr]
  refine kK_keep ((c37 q hq (by omega) c i hcl2 h).call frz ⟨rfl, rfl⟩) rfl ?_
  cases hp : prt q i (c : Int) with
  | true =>
    rw [hp, if_pos rfl] at hwa
    unfold prt at hp
    rw [Int.toNat_natCast] at hp
    simp only [hml, hcc, hce, hp, hmw, evA, if_true, if_false, beq_false, simprocAttr]
    exact kFor_go (by first | trivial | omega) ⟨_, _, _, _, _, _, by rw [e2, hwa]⟩
  | false =>
    rw [hp, if_neg (by decide)] at hwa
    unfold prt at hp
    rw [Int.toNat_natCast] at hp
    simp only [hml, hcc, hce, hp, hmw, evA, if_true, if_false, beq_false, simprocAttr]
    exact kFor_go (by first | trivial | omega) ⟨_, _, _, _, _, _, by rw [e2, hwa]⟩

theorem law_QueuePrinted (avs : List AV) (h : Args Try.prog Try.f11.params.toList avs) : AC Try.prog 11 avs [] fun r _ => r = .b true := by
  have h : Args Try.prog [25] avs := h
  obtain ⟨cs1, avs, rfl, h1, h⟩ := args_cons h
  cases args_nil h
  obtain ⟨q, e, hq⟩ := typed_q h1
  rw [e]
  exact lc11 q hq

end Go.Proofs.Ytjgolcbpgmlilaa.AM

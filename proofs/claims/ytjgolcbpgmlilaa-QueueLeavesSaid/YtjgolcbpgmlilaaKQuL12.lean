/- The law QueueLeaves, by the contracts. -/
import Derived.Test.YtjgolcbpgmlilaaKQuC37
import Derived.Test.YtjgolcbpgmlilaaKQuD5
import Derived.Test.YtjgolcbpgmlilaaKQuI12
namespace Go.Proofs.Ytjgolcbpgmlilaa.AM
open Go Go.Proofs.Ytjgolcbpgmlilaa.Qu Pl
set_option linter.unusedVariables false
set_option linter.unusedSimpArgs false

theorem cv_locs (k : Nat) (cs : List CV) : locsInAll k (cs.map AV.cv) = true := by
  rw [locsInAll_iff]
  intro v hv
  obtain ⟨z, _, rfl⟩ := List.mem_map.1 hv
  rfl

/-- the heap of the law: the moves lie at 4 -/
abbrev lvH (q : QL) (x y : Int) (ls : List (Nat × Int × Int)) : List AObj := [.cells [cenL q.cs, leaL q.ls], .cells [.i x, .i y], .dead, .dead, .cells ((ls.flatMap movC).map .cv)]
theorem lvH_in (q : QL) (x y : Int) (ls : List (Nat × Int × Int)) : ∀ o ∈ lvH q x y ls, objIn (lvH q x y ls).length o = true := by
  intro o ho
  simp only [List.mem_cons, List.not_mem_nil, or_false] at ho
  rcases ho with rfl | rfl | rfl | rfl | rfl <;> first | rfl | exact cv_locs _ _

set_option maxRecDepth 4000 in
theorem lv_loop (q : QL) (hq : QSz q) (x y e f : Int) (ms ns : List (Nat × Int × Int)) (hgl : (giveQ q).length = q.ls.length) (h8 : q.ls.length ≤ 8) (hlen : (ms ++ ns).length ≤ 16)
    (hbt : ∀ n, n < (ms ++ ns).length → Btr q (ms ++ ns)[n]! ∧ (n < ms.length → (((ms ++ ns)[n]!).1 : Int) ≠ x)) {Q : Exit → St → Prop} {d1 : D1 ic12l0} {d2 : D1 Q} {w13 w14 w17 w18 w19 : AV}
    (hend : ∀ n v13 v14 v17 v18 v19, Q (.exit 0) ⟨[qV q, .agg [.i x, .i y], .ptr 0 0, .ptr 1 0, .b false, ints (giveQ q), .i 0, movL ms, .i e, movL ns, .i f, .sl 4 0 (ms ++ ns).length 3, .i n, v13, v14, .b false, .b false, v17, v18, v19], lvH q x y (ms ++ ns)⟩) :
    ILk Try.prog { vars := vs12, N := 152, r := none, n0 := 0 } ic12l0 ⟨[qV q, .agg [.i x, .i y], .ptr 0 0, .ptr 1 0, .b false, ints (giveQ q), .i 0, movL ms, .i e, movL ns, .i f, .sl 4 0 (ms ++ ns).length 3, .i 0, w13, w14, .b false, .b false, w17, w18, w19], lvH q x y (ms ++ ns)⟩ Q d1 d2 := by
  refine IL_for (ms ++ ns).length (fun n s => ∃ v13 v14 v17 v18 v19, s = ⟨[qV q, .agg [.i x, .i y], .ptr 0 0, .ptr 1 0, .b false, ints (giveQ q), .i 0, movL ms, .i e, movL ns, .i f, .sl 4 0 (ms ++ ns).length 3, .i n, v13, v14, .b false, .b false, v17, v18, v19], lvH q x y (ms ++ ns)⟩) ?_ 0 (Nat.zero_le _) ⟨_, _, _, _, _, rfl⟩
  rintro n s hni ⟨v13, v14, v17, v18, v19, rfl⟩
  by_cases h : n < (ms ++ ns).length
  rotate_left
  · simp only [ic12l0, Int.ofNat_lt, h, evA, if_true, if_false, beq_false, simprocAttr]
    exact hend _ _ _ _ _ _
  obtain ⟨⟨hj, hfr, hpl, hmv⟩, hne⟩ := hbt n h
  have hws : IntKind.i64.wrap ((n : Int) + 1) = ((n + 1 : Nat) : Int) := wrap_succ (by omega)
  have hia : ∀ σ, f_iaS 3 [.sl 4 0 (ms ++ ns).length 3, .cv (.int .i64 n)] σ = some (.ptr 4 (n * 3), σ) := fun σ => by simp only [f_iaS]; rw [if_pos (by omega)]; simp
  have hle : n * 3 + 3 ≤ ((ms ++ ns).flatMap movC).length := by rw [flat_len movC_len]; omega
  have hdt : ((((ms ++ ns).flatMap movC).map AV.cv).drop (n * 3)).take 3 = [.i ((ms ++ ns)[n]!).1, .i ((ms ++ ns)[n]!).2.1, .i ((ms ++ ns)[n]!).2.2] := by
    rw [← List.map_drop, ← List.map_take, flat_at movC_len h]; rfl
  generalize (ms ++ ns)[n]! = m at hj hfr hpl hmv hne hdt
  obtain ⟨j, b, t⟩ := m
  simp only at hj hfr hpl hne hdt
  rw [getI] at hfr
  have hjg : j < (giveQ q).length := by omega
  have hj0 : ¬ (j : Int) < 0 := by omega
  have hjl : ¬ ((j : Int) ≥ ((giveQ q).length : Int)) := by omega
  have hfb : (b != (giveQ q)[j]?.getD 0) = false := by simp [hfr]
  simp only [ic12l0, Int.ofNat_lt, h, hia, hle, hdt, List.length_map, evA, if_true, if_false, beq_false, simprocAttr]
  refine DW_s [] [] hmix (by kernel_rfl) rfl ?_
  have hpb : ¬ (place (q.ls[j]!).wi t ≥ place (q.ls[j]!).wi b) := by omega
  by_cases hnm : n < ms.length
  · have hjx : ((j : Int) == x) = false := beq_f (hne hnm)
    simp only [f_iaA, hj0, hjl, hjx, hjg, hfb, Int.ofNat_lt, hnm, ia_rsl hj, lea_ld hj, evA, if_true, if_false, beq_false, simprocAttr]
    refine DW_s [3, 7] [] hmix (by kernel_rfl) rfl ?_
    simp only [evA, if_true, if_false, beq_false, simprocAttr]
    refine kK_keep ((c35 (q.ls[j]!) t (hq.wi j hj)).call frz ⟨rfl, rfl⟩) rfl ?_
    simp only [evA, if_true, if_false, beq_false, simprocAttr]
    refine kK_keep ((c35 (q.ls[j]!) b (hq.wi j hj)).call frz ⟨rfl, rfl⟩) rfl ?_
    simp only [Int.ofNat_le, ge_iff_le, hpb, hws, evA, if_true, if_false, beq_false, simprocAttr]
    exact kFor_clip (lvH q x y (ms ++ ns)) _ rfl (by first | trivial | omega) (Nat.zero_le _) (lvH_in _ _ _ _) ⟨_, _, _, _, _, rfl⟩
  · simp only [hj0, hjl, hjg, hfb, Int.ofNat_lt, hnm, ia_rsl hj, lea_ld hj, evA, if_true, if_false, beq_false, simprocAttr]
    refine DW_s [3, 7] [] hmix (by kernel_rfl) rfl ?_
    simp only [evA, if_true, if_false, beq_false, simprocAttr]
    refine kK_keep ((c35 (q.ls[j]!) t (hq.wi j hj)).call frz ⟨rfl, rfl⟩) rfl ?_
    simp only [evA, if_true, if_false, beq_false, simprocAttr]
    refine kK_keep ((c35 (q.ls[j]!) b (hq.wi j hj)).call frz ⟨rfl, rfl⟩) rfl ?_
    simp only [Int.ofNat_le, ge_iff_le, hpb, hws, evA, if_true, if_false, beq_false, simprocAttr]
    exact kFor_clip (lvH q x y (ms ++ ns)) _ rfl (by first | trivial | omega) (Nat.zero_le _) (lvH_in _ _ _ _) ⟨_, _, _, _, _, rfl⟩

set_option maxRecDepth 4000 in
theorem lc12 (q : QL) (hq : QSz q) (x y : Int) : AC Try.prog 12 [qV q, .agg [.i x, .i y]] [] fun r _ => r = .b true := by
  refine AC_FE (fok12 true) (Nat.le_of_ble_eq_true rfl) ?_
  obtain ⟨ms, e, hv, hm0, hmE, hmn, hm⟩ := cancV_at q x
  obtain ⟨ns, f, hw, hn0, hnE, hnn, hn⟩ := openV_at q y
  have hp : (2 : Nat) ^ 62 = 4611686018427387904 := by decide
  have hp2 : (2 : Nat) ^ 44 = 17592186044416 := by decide
  simp only [ic12, evA, if_true, if_false, beq_false, simprocAttr]
  refine (c22 q hq).call ?_
  by_cases he : eQ q = 0
  rotate_left
  · have hb := bne_t he
    obtain ⟨rfl, rfl⟩ := hmE he
    obtain ⟨rfl, rfl⟩ := hnE he
    simp only [giveV_no he, evA, if_true, if_false, beq_false, simprocAttr]
    refine (c28 q hq x).call ?_
    simp only [hv, evA, if_true, if_false, beq_false, simprocAttr]
    refine (c31 q hq y).call ?_
    simp only [hw, hb, evA, if_true, if_false, beq_false, simprocAttr]
    refine c21.call .nil ?_
    simp only [evA, if_true, if_false, beq_false, simprocAttr]
  have hgl := giveQ_len q
  obtain ⟨h5, h8, hL, hC⟩ := id (val_of he)
  simp only [giveV_ok he, evA, if_true, if_false, beq_false, simprocAttr]
  refine (c28 q hq x).call ?_
  simp only [hv, evA, if_true, if_false, beq_false, simprocAttr]
  refine (c31 q hq y).call ?_
  simp only [hw, evA, if_true, if_false, beq_false, simprocAttr]
  refine (c34 q hq).call frz ?_
  have hz1 : (e != 0) = true → decide ((ms.length : Int) > 0) = false := fun h => by rw [hm0 (by simpa using h)]; rfl
  have hz2 : (f != 0) = true → decide ((ns.length : Int) > 0) = false := fun h => by rw [hn0 (by simpa using h)]; rfl
  have hmn2 : ms.length ≤ 8 := by
    by_cases h : e = 0
    · unfold cancV at hv
      rw [if_pos he] at hv
      split at hv
      · have := movs_len (b := fun k => (giveQ q)[k]!) (a := leftA q x.toNat) q.ls.length
        have hc : (cancM q x.toNat).length = ms.length := by injection hv with hv; injection hv with hv; injection hv with hv; injection hv with hv
        rw [← hc]; unfold cancM; omega
      · have hc : 0 = ms.length := by injection hv with hv; injection hv with hv; injection hv with hv; injection hv with hv
        omega
    · rw [hm0 h]; simp
  have hnn2 : ns.length ≤ 8 := by
    by_cases h : f = 0
    · unfold openQV at hw
      rw [if_pos he] at hw
      split at hw
      · split at hw
        · have hc : 0 = ns.length := by injection hw with hw; injection hw with hw; injection hw with hw; injection hw with hw
          omega
        · have := movs_len (b := fun k => (giveQ q)[k]!) (a := fun k => (giveQ (moreQ q y.toNat))[k]!) q.ls.length
          have hc : (openM q y.toNat).length = ns.length := by injection hw with hw; injection hw with hw; injection hw with hw; injection hw with hw
          rw [← hc]; unfold openM; omega
      · have hc : 0 = ns.length := by injection hw with hw; injection hw with hw; injection hw with hw; injection hw with hw
        omega
    · rw [hn0 h]; simp
  have hz : zcells 0 [] = [] := rfl
  have hcat : ms.flatMap movC ++ ns.flatMap movC = (ms ++ ns).flatMap movC := by simp
  have ha1 : f_append 3 24 [.sl 2 0 0 3, movL ms] [.cells [cenL q.cs, leaL q.ls], .cells [.i x, .i y], .cells []] = some (.sl 3 0 ms.length 3, [.cells [cenL q.cs, leaL q.ls], .cells [.i x, .i y], .dead, .cells ((ms.flatMap movC).map .cv)]) := by
    rw [app_rsl (xs := []) rfl rfl (flat_len movC_len _) (by omega) (by omega), Nat.zero_add]; rfl
  have ha2 : f_append 3 24 [.sl 3 0 ms.length 3, movL ns] [.cells [cenL q.cs, leaL q.ls], .cells [.i x, .i y], .dead, .cells ((ms.flatMap movC).map .cv)] = some (.sl 4 0 (ms ++ ns).length 3, lvH q x y (ms ++ ns)) := by
    rw [app_rsl rfl (flat_len movC_len _) (flat_len movC_len _) (by omega) (by omega), hcat, List.length_append]; rfl
  obtain ⟨B1, hB1⟩ : ∃ b, (e != 0) = b := ⟨_, rfl⟩
  obtain ⟨B2, hB2⟩ : ∃ b, (f != 0) = b := ⟨_, rfl⟩
  have hlen : (ms ++ ns).length ≤ 16 := by rw [List.length_append]; omega
  have hbt : ∀ n, n < (ms ++ ns).length → Btr q (ms ++ ns)[n]! ∧ (n < ms.length → (((ms ++ ns)[n]!).1 : Int) ≠ x) := fun n hn' => by
    rw [getElem!_pos (ms ++ ns) n hn']
    by_cases hlt : n < ms.length
    · rw [List.getElem_append_left hlt]
      have := hm _ (List.getElem_mem hlt)
      exact ⟨this.1, fun _ => this.2⟩
    · rw [List.getElem_append_right (by omega)]
      exact ⟨hn _ (List.getElem_mem _), fun h => absurd h hlt⟩
  cases B1 <;> cases B2 <;> (
    first | have z1 := hz1 hB1 | have z1 := trivial
    first | have z2 := hz2 hB2 | have z2 := trivial
    simp only [he, hgl, hB1, hB2, z1, z2, hz, ha1, ha2, evA, if_true, if_false, beq_false, simprocAttr]
    refine lv_loop q hq x y e f ms ns hgl h8 hlen hbt fun n v13 v14 v17 v18 v19 => ?_
    simp only [evA, if_true, if_false, beq_false, simprocAttr]
    refine c21.call .nil ?_
    simp only [evA, if_true, if_false, beq_false, simprocAttr])

theorem law_QueueLeaves (avs : List AV) (h : Args Try.prog Try.f12.params.toList avs) : AC Try.prog 12 avs [] fun r _ => r = .b true := by
  have h : Args Try.prog [25, 39] avs := h
  obtain ⟨cs1, avs, rfl, h1, h⟩ := args_cons h
  obtain ⟨cs2, avs, rfl, h2, h⟩ := args_cons h
  cases args_nil h
  obtain ⟨q, e, hq⟩ := typed_q h1
  obtain ⟨x, y, e2⟩ := typed_two h2
  rw [e, e2]
  exact lc12 q hq x y

end Go.Proofs.Ytjgolcbpgmlilaa.AM

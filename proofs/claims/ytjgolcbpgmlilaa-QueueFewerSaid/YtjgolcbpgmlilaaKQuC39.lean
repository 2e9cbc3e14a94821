/- Contract: the law's list in which a learner wishes for something else. -/
import Derived.Test.YtjgolcbpgmlilaaKQuC37
import Derived.Test.YtjgolcbpgmlilaaKQuD6
namespace Go.Proofs.Ytjgolcbpgmlilaa.AM
open Go Go.Proofs.Ytjgolcbpgmlilaa.Qu Pl
set_option linter.unusedVariables false
set_option linter.unusedSimpArgs false

theorem frzCs_set {p : CV → Prop} {σ : List AObj} {v : AV} {c : CV} (hv : FrzC p σ v c) : ∀ {cs : List CV} {k : Nat}, (∀ c ∈ cs, p c) → FrzCs p σ ((cs.map AV.cv).set k v) (cs.set k c)
  | [], _, _ => .nil
  | d :: cs, 0, h => .cons hv (frzCs_cv fun c hc => h c (by simp [hc]))
  | d :: cs, k + 1, h => .cons (.c _ (h d (by simp))) (frzCs_set hv fun c hc => h c (by simp [hc]))

theorem accC {σ : List AObj} {v : AV} {zs : List Int} (h : AccAt σ v zs) : FrzC anyC σ v (.rsl (zs.map (.int .i64)) zs.length) := by
  rcases h with ⟨rfl, rfl⟩ | ⟨l, rfl, hr⟩
  · exact .nl
  · refine .sl l 0 zs.length 1 _ _ hr (by simp) ?_
    rw [List.drop_zero, List.take_of_length_le (by simp)]
    exact frzCs_ints (fun _ => trivial) zs
theorem acc_sc {σ : List AObj} {v : AV} {zs : List Int} (h : AccAt σ v zs) : cellsOf v = [v] ∧ v.isSc = true := by
  rcases h with ⟨rfl, rfl⟩ | ⟨l, rfl, hr⟩ <;> exact ⟨rfl, rfl⟩
theorem acc_lenF {σ : List AObj} {v : AV} {zs : List Int} (h : AccAt σ v zs) : f_len false [v] σ = some (.i zs.length, σ) := by
  rcases h with ⟨rfl, rfl⟩ | ⟨l, rfl, hr⟩ <;> rfl

theorem any_takeP {zs : List Int} {p : Int → Bool} {n : Nat} (h : n < zs.length) : (zs.take (n + 1)).any p = ((zs.take n).any p || p (zs[n]?.getD 0)) := by
  rw [List.take_add_one, List.getElem?_eq_getElem h, List.any_append]; simp

/-- the law's wished -/
theorem c36 (q : QL) (he : eQ q = 0) (i : Nat) (hi : i < q.ls.length) (xs : List Int) (hx : xs.length < 2 ^ 63) (hb : ∀ x ∈ xs, 0 ≤ x ∧ x ≤ 255) :
    PA Try.prog 36 [qV q, .i i, .cv (.rsl (xs.map (.int .u8)) xs.length)] (qV (wishQ q i (wlQ q.cs.length xs xs.length))) := by
  refine ⟨AC_FE (fok36 true) (Nat.le_of_ble_eq_true rfl) ?_, rfl, rfl⟩
  obtain ⟨⟨hc1, hc5, h8⟩, _, _, _⟩ := valid_iff (q := q) he
  have hp2 : (2 : Nat) ^ 44 = 17592186044416 := by decide
  have hz : zcells 0 [] = [] := rfl
  simp only [ic36, evA, if_true, if_false, beq_false, simprocAttr]
  refine DW_s [] [(1, 2), (1, 5), (1, 7), (2, 7), (4, 2), (4, 7), (5, 7), (7, 2), (7, 5)] hmix (by kernel_rfl) rfl ?_
  have ha1 : f_append 5 64 [.sl 2 0 0 5, leaL q.ls] [.cells [cenL q.cs, leaL q.ls], .cells [.cv .nils, .cv .nils], .cells []] = some (.sl 3 0 q.ls.length 5, [.cells [cenL q.cs, leaL q.ls], .cells [.cv .nils, .cv .nils], .dead, .cells ((leaCs q.ls).map .cv)]) := by
    rw [app_rsl (xs := []) rfl rfl (leaCs_len _) (by omega) (by omega), Nat.zero_add]; rfl
  simp only [hz, ha1, evA, if_true, if_false, beq_false, simprocAttr]
  refine IL_for xs.length (fun k s => ∃ v6 v8 v9 v10 v11 v12 v13 τ, ((rowOf τ 0 = some [cenL q.cs, leaL q.ls] ∧ rowOf τ 1 = some [.cv .nils, .cv .nils] ∧ rowOf τ 3 = some ((leaCs q.ls).map .cv) ∧ rowOf τ 4 = some [cenL q.cs, .sl 3 0 q.ls.length 5]) ∧ AccFrom 5 τ v6 (wlQ q.cs.length xs k)) ∧ s = ⟨[qV q, .i i, .cv (.rsl (xs.map (.int .u8)) xs.length), .ptr 0 0, .ptr 1 0, .ptr 4 0, v6, .i k, v8, v9, v10, v11, v12, v13], τ⟩) ?_ 0 (Nat.zero_le _) ⟨_, _, _, _, _, _, _, _, ⟨⟨rfl, rfl, rfl, rfl⟩, AccFrom.nil (Nat.le_refl _)⟩, rfl⟩
  rintro k s hk ⟨v6, v8, v9, v10, v11, v12, v13, τ, ⟨⟨h0, h1, h3, h4⟩, hacc⟩, rfl⟩
  have hwl := wl_len hc1 xs k
  by_cases h : k < xs.length
  rotate_left
  · have : k = xs.length := by omega
    subst this
    have hia : ∀ σ, f_iaS 5 [.sl 3 0 q.ls.length 5, .cv (.int .i64 i)] σ = some (.ptr 3 (i * 5), σ) := fun σ => by simp [f_iaS, hi]
    obtain ⟨hc, hs⟩ := acc_sc hacc.acc
    obtain ⟨σ1, hσ1⟩ : ∃ σ1, σ1 = τ.set 3 (AObj.cells (((leaCs q.ls).map AV.cv).set (i * 5 + 4) v6)) := ⟨_, rfl⟩
    obtain ⟨σ2, hσ2⟩ : ∃ σ2, σ2 = σ1.set 1 (AObj.cells [cenL q.cs, .sl 3 0 q.ls.length 5]) := ⟨_, rfl⟩
    have hst : f_store 1 [.ptr 3 (i * 5 + 4), v6] τ = some (.undef, σ1) := by
      have hcond : (cellsOf v6).length = 1 ∧ i * 5 + 4 + 1 ≤ ((leaCs q.ls).map AV.cv).length ∧ (cellsOf v6).all AV.isSc = true := by
        rw [hc]; exact ⟨rfl, by rw [List.length_map, leaCs_len]; omega, by simp [hs]⟩
      simp only [f_store, h3, Option.bind_some]
      rw [if_pos hcond, hc, hσ1]; rfl
    have g1 : rowOf σ1 1 = some [.cv .nils, .cv .nils] := by rw [hσ1, rowOf_set_ne (by decide)]; exact h1
    have g4 : rowOf σ1 4 = some [cenL q.cs, .sl 3 0 q.ls.length 5] := by rw [hσ1, rowOf_set_ne (by decide)]; exact h4
    have hst2 : f_store 2 [.ptr 1 0, .agg [cenL q.cs, .sl 3 0 q.ls.length 5]] σ1 = some (.undef, σ2) := by
      simp only [f_store, g1, Option.bind_some]
      rw [if_pos (by exact ⟨rfl, by decide, rfl⟩), hσ2]; rfl
    have g2 : rowOf σ2 1 = some [cenL q.cs, .sl 3 0 q.ls.length 5] := by rw [hσ2]; exact rowOf_set_self g1
    have g3 : rowOf σ2 3 = some (((leaCs q.ls).map AV.cv).set (i * 5 + 4) v6) := by rw [hσ2, rowOf_set_ne (by decide), hσ1]; exact rowOf_set_self h3
    have hacc2 : AccAt σ2 v6 (wlQ q.cs.length xs xs.length) := by
      rw [hσ2, hσ1]
      exact ((hacc.store (by decide) _).store (by decide) _).acc
    have hlc : leaCs (wishQ q i (wlQ q.cs.length xs xs.length)).ls = (leaCs q.ls).set (i * 5 + 4) (.rsl ((wlQ q.cs.length xs xs.length).map (.int .i64)) (wlQ q.cs.length xs xs.length).length) :=
      (flat_set leaC_len (j := 4) (by omega) hi (y := { q.ls[i]! with wi := wlQ q.cs.length xs xs.length }) rfl).symm
    have hll : (wishQ q i (wlQ q.cs.length xs xs.length)).ls.length = q.ls.length := by simp [wishQ]
    simp only [ic36l1, Int.ofNat_lt, h, h4, hia, hst, g4, hst2, g2, evA, if_true, if_false, beq_false, simprocAttr]
    refine .agg (.cons (.c (.c _ trivial)) (.cons (.c ?_) .nil))
    rw [hlc, hll]
    refine .sl 3 0 _ 5 _ _ g3 (by simp [leaCs_len]) ?_
    rw [List.drop_zero, List.take_of_length_le (by simp [leaCs_len])]
    exact frzCs_set (accC hacc2) fun _ _ => trivial
  have hxb := hb _ (List.getElem_mem h)
  obtain ⟨b, hbx⟩ : ∃ b : Nat, xs[k]?.getD 0 = (b : Int) := ⟨(xs[k]?.getD 0).toNat, by rw [List.getElem?_eq_getElem h]; simp only [Option.getD_some]; omega⟩
  have hbl : b ≤ 255 := by rw [List.getElem?_eq_getElem h] at hbx; simp only [Option.getD_some] at hbx; omega
  have hwx : IntKind.i64.wrap (b : Int) = (b : Int) := wrap_nat (by omega)
  have hc0 : ¬ ((q.cs.length : Int) = 0) := by omega
  have htm : (b : Int).tmod (q.cs.length : Int) = ((b % q.cs.length : Nat) : Int) := rfl
  have hwk : wlQ q.cs.length xs (k + 1) = if (wlQ q.cs.length xs k).any (· == ((b % q.cs.length : Nat) : Int)) = true then wlQ q.cs.length xs k else wlQ q.cs.length xs k ++ [((b % q.cs.length : Nat) : Int)] := by
    rw [wlQ, hbx, Int.toNat_natCast]
  generalize b % q.cs.length = c at htm hwk
  generalize wlQ q.cs.length xs k = W at hacc hwk hwl
  have hws : IntKind.i64.wrap ((k : Int) + 1) = ((k + 1 : Nat) : Int) := wrap_succ (by omega)
  simp only [ic36l1, Int.ofNat_lt, h, evA, if_true, if_false, beq_false, simprocAttr]
  refine DW_s [] [] hmix (by kernel_rfl) rfl ?_
  simp only [h, hbx, hwx, h0, hc0, htm, evA, if_true, if_false, beq_false, simprocAttr]
  have hlen := acc_lenF hacc.acc
  refine IL_for W.length (fun n s => ∃ v11 v12 v13, s = ⟨[qV q, .i i, .cv (.rsl (xs.map (.int .u8)) xs.length), .ptr 0 0, .ptr 1 0, .ptr 4 0, v6, .i k, .i c, .b ((W.take n).any (· == (c : Int))), .i n, v11, v12, v13], τ⟩) ?_ 0 (Nat.zero_le _) ⟨_, _, _, rfl⟩
  clear v11 v12 v13
  rintro n s hn ⟨v11, v12, v13, rfl⟩
  by_cases hnl : n < W.length
  · have hwn : IntKind.i64.wrap ((n : Int) + 1) = ((n + 1 : Nat) : Int) := wrap_succ (by omega)
    obtain ⟨l, rfl, hr⟩ : ∃ l, v6 = .sl l 0 W.length 1 ∧ rowOf τ l = some (W.map AV.i) := by
      rcases hacc.acc with ⟨_, e⟩ | h
      · rw [e] at hnl; simp at hnl
      · exact h
    have hat := any_takeP (p := (· == (c : Int))) hnl
    simp only [ic36l0, hlen, Int.ofNat_lt, hnl, evA, if_true, if_false, beq_false, simprocAttr]
    cases ht : (W.take n).any (· == (c : Int)) with
    | true =>
      rw [ht, Bool.true_or] at hat
      simp only [hwn, evA, if_true, if_false, beq_false, simprocAttr]
      exact kFor_go (by first | trivial | omega) ⟨_, _, _, by rw [hat]⟩
    | false =>
      rw [ht, Bool.false_or] at hat
      simp only [hnl, hr, av_load hnl, hwn, evA, if_true, if_false, beq_false, simprocAttr]
      exact kFor_go (by first | trivial | omega) ⟨_, _, _, by rw [hat]⟩
  have : n = W.length := by omega
  subst this
  rw [List.take_length]
  simp only [ic36l0, hlen, Int.ofNat_lt, hnl, evA, if_true, if_false, beq_false, simprocAttr]
  cases ht : W.any (· == (c : Int)) with
  | true =>
    rw [ht, if_pos rfl] at hwk
    simp only [hws, evA, if_true, if_false, beq_false, simprocAttr]
    exact kFor_go (by first | trivial | omega) ⟨_, _, _, _, _, _, _, τ, ⟨⟨h0, h1, h3, h4⟩, by rw [hwk]; exact hacc⟩, rfl⟩
  | false =>
    rw [ht, if_neg (by decide)] at hwk
    obtain ⟨v', σ', hap, hacc', hlow⟩ := accFrom_append (c : Int) hacc (by omega)
    simp only [f_bslice, hap, hws, evA, if_true, if_false, beq_false, simprocAttr]
    exact kFor_go (by first | trivial | omega) ⟨_, _, _, _, _, _, _, σ', ⟨⟨by rw [hlow 0 (by omega)]; exact h0, by rw [hlow 1 (by omega)]; exact h1, by rw [hlow 3 (by omega)]; exact h3, by rw [hlow 4 (by omega)]; exact h4⟩, by rw [hwk]; exact hacc'⟩, rfl⟩

end Go.Proofs.Ytjgolcbpgmlilaa.AM

/- The law QueueTurned, by the contracts. -/
import Derived.Test.YtjgolcbpgmlilaaKAmYg
import Derived.Test.YtjgolcbpgmlilaaKQuC37
import Derived.Test.YtjgolcbpgmlilaaKQuD7
import Derived.Test.YtjgolcbpgmlilaaKQuI14
namespace Go.Proofs.Ytjgolcbpgmlilaa.AM
open Go Go.Proofs.Ytjgolcbpgmlilaa.Qu Pl
set_option linter.unusedVariables false
set_option linter.unusedSimpArgs false

/-- a slice of closed cells is appended to a row -/
theorem app_src {e by_ l n m : Nat} {σ : List AObj} {xs cs : List CV} {w : AV} (hr : rowOf σ l = some (xs.map .cv)) (hs : srcCells σ e w = some (cs.map .cv)) (hw : lenF w = some m) (hx : xs.length = n * e) (hc : cs.length = m * e) (hb : (n + m) * by_ ≤ 2 ^ 44) (hn : n + m ≤ 2 ^ 44) :
    f_append e by_ [.sl l 0 n e, w] σ = some (.sl σ.length 0 (n + m) e, σ.set l .dead ++ [.cells ((xs ++ cs).map .cv)]) := by
  simp only [f_append, hr, hs, hw, Option.bind_some]
  have h1 : True ∧ n * e ≤ (xs.map AV.cv).length ∧ m * e = (cs.map AV.cv).length ∧ (n + m) * by_ ≤ 2 ^ 44 ∧ n + m ≤ 2 ^ 44 ∧ (cs.map AV.cv).all AV.isSc = true := ⟨trivial, by simp [hx], by simp [hc], hb, hn, sc_cv cs⟩
  rw [if_pos h1, List.take_of_length_le (by simp [hx]), List.map_append]

abbrev lsT (q : QL) (xs : List Int) (i : Nat) : List Lea := (insS xs i).map fun k => q.ls[k]!
noncomputable abbrev gT (q : QL) (xs : List Int) (i : Nat) : List Int := (insS xs i).map fun k => (giveQ q)[k]!

theorem take_drop_map {α β : Type} (f : α → β) (s : List α) (a : Nat) (x : α) : (s.take a ++ [x] ++ s.drop a).map f = (s.map f).take a ++ [f x] ++ (s.map f).drop a := by simp

set_option maxRecDepth 4000 in
theorem lc14 (q : QL) (hq : QSz q) (xs : List Int) (hx : xs.length < 2 ^ 63) (hb : ∀ x ∈ xs, 0 ≤ x ∧ x ≤ 255) : AC Try.prog 14 [qV q, .cv (.rsl (xs.map (.int .u8)) xs.length)] [] fun r _ => r = .b true := by
  refine AC_SW (fok14 true) (Nat.le_of_ble_eq_true rfl) ?_
  simp only [ic14]
  refine SW_seq ?_
  simp only [kSW_n, evA, if_true, if_false, beq_false, simprocAttr]
  refine SW_seq ?_
  simp only [kSW_n, evA, if_true, if_false, beq_false, simprocAttr]
  refine (c22 q hq).call ?_
  by_cases he : eQ q = 0
  rotate_left
  · have hb := bne_t he
    simp only [giveV_no he, kSW_n, evA, if_true, if_false, beq_false, simprocAttr]
    refine SW_seq ?_
    simp only [hb, kSW_n, kSW_r, evA, if_true, if_false, beq_false, simprocAttr]
    refine c21.call .nil ?_
    simp only [kSW_r, evA, if_true, if_false, beq_false, simprocAttr]
  have hgl := giveQ_len q
  obtain ⟨⟨hc1, hc5, h8⟩, _, _, _⟩ := valid_iff (q := q) he
  simp only [giveV_ok he, kSW_n, evA, if_true, if_false, beq_false, simprocAttr]
  refine SW_seq ?_
  simp only [kSW_n, evA, if_true, if_false, beq_false, simprocAttr]
  refine (c34 q hq).call frz ?_
  simp only [he, hgl, kSW_n, evA, if_true, if_false, beq_false, simprocAttr]
  refine SW_seq ?_
  simp only [kSW_n, evA, if_true, if_false, beq_false, simprocAttr]
  refine SW_seq ?_
  simp only [kSW_n, evA, if_true, if_false, beq_false, simprocAttr]
  refine SW.weak (Weak.turn (J := []) (τ := [.cells [cenL q.cs, leaL q.ls], .cells [cenL q.cs, .cv .nils]]) (τ2 := [.cells [cenL q.cs, leaL q.ls], .cells [cenL q.cs, leaL []]]) rfl rfl
    (vals2 := [qV q, .cv (.rsl (xs.map (.int .u8)) xs.length), .ptr 0 0, .b false, ints (giveQ q), .i 0, .ptr 1 0, ints [], .undef, .undef, .undef, .undef, .b false, .undef, .undef])
    (.cons (.inl ⟨rfl, rfl⟩) (.cons (.inl ⟨rfl, rfl⟩) (.cons (.inl ⟨rfl, rfl⟩) (.cons (.inl ⟨rfl, rfl⟩) (.cons (.inl ⟨rfl, rfl⟩) (.cons (.inl ⟨rfl, rfl⟩) (.cons (.inl ⟨rfl, rfl⟩) (.cons (.inr (.c .nl)) (.cons (.inl ⟨rfl, rfl⟩) (.cons (.inl ⟨rfl, rfl⟩) (.cons (.inl ⟨rfl, rfl⟩) (.cons (.inl ⟨rfl, rfl⟩) (.cons (.inl ⟨rfl, rfl⟩) (.cons (.inl ⟨rfl, rfl⟩) (.cons (.inl ⟨rfl, rfl⟩) .nil))))))))))))))) ?_) ?_
  · intro l o2 ho
    match l, ho with
    | 0, ho => cases ho; exact ⟨_, rfl, trivial, .inl ⟨rfl, rfl⟩⟩
    | 1, ho => cases ho; exact ⟨_, rfl, trivial, .inr ⟨_, _, rfl, rfl, .cons (.inl ⟨rfl, rfl⟩) (.cons (.inr (.c .nl)) .nil)⟩⟩
  refine SW_seq ?_
  simp only [kSW_n, evA, if_true, if_false, beq_false, simprocAttr]
  refine IL_for q.ls.length (fun i s => s = ⟨[qV q, .cv (.rsl (xs.map (.int .u8)) xs.length), .ptr 0 0, .b false, ints (giveQ q), .i 0, .ptr 1 0, ints (gT q xs i), .i i, .undef, .undef, .undef, .b false, .undef, .undef], [.cells [cenL q.cs, leaL q.ls], .cells [cenL q.cs, leaL (lsT q xs i)]]⟩) ?_ 0 (Nat.zero_le _) rfl
  rintro i s hi rfl
  by_cases h : i < q.ls.length
  rotate_left
  · have : i = q.ls.length := by omega
    subst this
    have hs := insS_perm xs q.ls.length
    have hev := valid_turn (q := q) (q' := ⟨q.cs, lsT q xs q.ls.length⟩) hs rfl rfl he
    have hq2 := qsz_turn (q := q) (q' := ⟨q.cs, lsT q xs q.ls.length⟩) hs rfl rfl hq
    have hgt := give_turned (q := q) (q' := ⟨q.cs, lsT q xs q.ls.length⟩) (val_of he).2.2.1 hs rfl rfl
    have hgl2 : (gT q xs q.ls.length).length < 2 ^ 63 := by rw [List.length_map, insS_len]; omega
    have hd : decide (gT q xs q.ls.length = gT q xs q.ls.length) = true := decide_eq_true rfl
    have hgv : giveV ⟨q.cs, lsT q xs q.ls.length⟩ = .tup [ints (gT q xs q.ls.length), .i 0] := by rw [giveV_ok hev, hgt]
    simp only [ic14l0, hgl, Int.ofNat_lt, h, kSW_n, evA, if_true, if_false, beq_false, simprocAttr]
    refine SW_of ?_
    simp only [evA, if_true, if_false, beq_false, simprocAttr]
    refine (c22 ⟨q.cs, lsT q xs q.ls.length⟩ hq2).call ?_
    simp only [hgv, evA, if_true, if_false, beq_false, simprocAttr]
    refine (c20 (gT q xs q.ls.length) (gT q xs q.ls.length) hgl2).call frz ?_
    simp only [hd, evA, if_true, if_false, beq_false, simprocAttr]
    refine c21.call .nil ?_
    simp only [evA, if_true, if_false, beq_false, simprocAttr]
  have hws : IntKind.i64.wrap ((i : Int) + 1) = ((i + 1 : Nat) : Int) := wrap_succ (by omega)
  have hp2 : (2 : Nat) ^ 44 = 17592186044416 := by decide
  have hz : zcells 0 [] = [] := rfl
  have hal := at_le xs i
  obtain ⟨L, hL⟩ : ∃ L, L = lsT q xs i := ⟨_, rfl⟩
  obtain ⟨G, hG⟩ : ∃ G, G = gT q xs i := ⟨_, rfl⟩
  have hL1 : lsT q xs (i + 1) = L.take (atQ xs i) ++ [q.ls[i]!] ++ L.drop (atQ xs i) := by rw [hL]; exact take_drop_map _ _ _ _
  have hG1 : gT q xs (i + 1) = G.take (atQ xs i) ++ [(giveQ q)[i]?.getD 0] ++ G.drop (atQ xs i) := by rw [hG, ← getI]; exact take_drop_map _ _ _ _
  have hLl : L.length = i := by rw [hL, List.length_map, insS_len]
  have hGl : G.length = i := by rw [hG, List.length_map, insS_len]
  have hig : i < (giveQ q).length := by omega
  rw [← hL, ← hG]
  obtain ⟨a, ha⟩ : ∃ a, a = atQ xs i := ⟨_, rfl⟩
  have haI : (if 0 < xs.length then (xs[i % xs.length]?.getD 0).toNat % (i + 1) else 0) = a := by rw [ha]; rfl
  rw [← ha] at hal hL1 hG1
  clear hL hG ha
  obtain ⟨x, hxe⟩ : ∃ x, x = q.ls[i]! := ⟨_, rfl⟩
  have hld := lea_ld h
  rw [← hxe] at hL1 hld
  have e1 := lea_sl (ls := L) (k := a) (by omega)
  have e2 := lea_sr (ls := L) (k := a) (by omega)
  have t1 : (L.take a).length = a := by simp; omega
  have t2 : (L.drop a).length = i - a := by simp [hLl]
  have u1 : (G.take a).length = a := by simp; omega
  have u2 : (G.drop a).length = i - a := by simp [hGl]
  have hlcs : leaCs (L.take a) ++ leaC x ++ leaCs (L.drop a) = leaCs (lsT q xs (i + 1)) := by rw [hL1]; simp [leaCs]
  have ha1 : f_append 5 64 [.sl 2 0 0 5, leaL (L.take a)] [.cells [cenL q.cs, leaL q.ls], .cells [cenL q.cs, leaL L], .cells []] = some (.sl 3 0 (L.take a).length 5, [.cells [cenL q.cs, leaL q.ls], .cells [cenL q.cs, leaL L], .dead, .cells ((leaCs (L.take a)).map .cv)]) := by
    rw [app_rsl (xs := []) rfl rfl (leaCs_len _) (by omega) (by omega), Nat.zero_add]; rfl
  have ha2 : f_append 5 64 [.sl 3 0 (L.take a).length 5, .sl 4 0 1 5] [.cells [cenL q.cs, leaL q.ls], .cells [cenL q.cs, leaL L], .dead, .cells ((leaCs (L.take a)).map .cv), .cells [.cv (.str x.nm), .i x.si, .i x.ho, .i x.fa, ints x.wi]] = some (.sl 5 0 ((L.take a).length + 1) 5, [.cells [cenL q.cs, leaL q.ls], .cells [cenL q.cs, leaL L], .dead, .dead, .cells [.cv (.str x.nm), .i x.si, .i x.ho, .i x.fa, ints x.wi], .cells ((leaCs (L.take a) ++ leaC x).map .cv)]) := by
    rw [app_src (cs := leaC x) (m := 1) rfl rfl rfl (leaCs_len _) (leaC_len _) (by omega) (by omega)]; rfl
  have ha3 : f_append 5 64 [.sl 5 0 ((L.take a).length + 1) 5, leaL (L.drop a)] [.cells [cenL q.cs, leaL q.ls], .cells [cenL q.cs, leaL L], .dead, .dead, .cells [.cv (.str x.nm), .i x.si, .i x.ho, .i x.fa, ints x.wi], .cells ((leaCs (L.take a) ++ leaC x).map .cv)] = some (.sl 6 0 ((L.take a).length + 1 + (L.drop a).length) 5, [.cells [cenL q.cs, leaL q.ls], .cells [cenL q.cs, leaL L], .dead, .dead, .cells [.cv (.str x.nm), .i x.si, .i x.ho, .i x.fa, ints x.wi], .dead, .cells ((leaCs (lsT q xs (i + 1))).map .cv)]) := by
    rw [app_rsl rfl (by rw [List.length_append, leaCs_len, leaC_len]; omega) (leaCs_len _) (by omega) (by omega), hlcs]; rfl
  have f1 : ∀ σ, f_slS 1 false true [ints G, .cv (.int .i64 a)] σ = some (.cv (.rsl ((G.take a).map (.int .i64)) a), σ) := fun σ => sl_ints (by omega) σ
  have f2 : ∀ σ, f_slS 1 true false [ints G, .cv (.int .i64 a)] σ = some (.cv (.rsl ((G.drop a).map (.int .i64)) (i - a)), σ) := fun σ => by
    rw [sr_rsl (by omega) (by simp), hGl]; simp
  obtain ⟨g, hg⟩ : ∃ g, g = (giveQ q)[i]?.getD 0 := ⟨_, rfl⟩
  rw [← hg] at hG1
  have hgo : i < q.ls.length → (lsT q xs (i + 1)).length = (L.take a).length + 1 + (L.drop a).length := fun _ => by rw [List.length_map, insS_len]; omega
  have hgcs : (G.take a).map (CV.int .i64) ++ [CV.int .i64 g] ++ (G.drop a).map (CV.int .i64) = (gT q xs (i + 1)).map (CV.int .i64) := by rw [hG1]; simp
  have hb1 : f_append 1 8 [.sl 7 0 0 1, .cv (.rsl ((G.take a).map (.int .i64)) a)] [.cells [cenL q.cs, leaL q.ls], .cells [cenL q.cs, .sl 6 0 ((L.take a).length + 1 + (L.drop a).length) 5], .dead, .dead, .cells [.cv (.str x.nm), .i x.si, .i x.ho, .i x.fa, ints x.wi], .dead, .cells ((leaCs (lsT q xs (i + 1))).map .cv), .cells []] = some (.sl 8 0 a 1, [.cells [cenL q.cs, leaL q.ls], .cells [cenL q.cs, .sl 6 0 ((L.take a).length + 1 + (L.drop a).length) 5], .dead, .dead, .cells [.cv (.str x.nm), .i x.si, .i x.ho, .i x.fa, ints x.wi], .dead, .cells ((leaCs (lsT q xs (i + 1))).map .cv), .dead, .cells (((G.take a).map (CV.int .i64)).map .cv)]) := by
    rw [app_rsl (xs := []) rfl rfl (by rw [List.length_map, u1, Nat.mul_one]) (by omega) (by omega), Nat.zero_add]; rfl
  have hb2 : f_append 1 8 [.sl 8 0 a 1, .sl 9 0 1 1] [.cells [cenL q.cs, leaL q.ls], .cells [cenL q.cs, .sl 6 0 ((L.take a).length + 1 + (L.drop a).length) 5], .dead, .dead, .cells [.cv (.str x.nm), .i x.si, .i x.ho, .i x.fa, ints x.wi], .dead, .cells ((leaCs (lsT q xs (i + 1))).map .cv), .dead, .cells (((G.take a).map (CV.int .i64)).map .cv), .cells [.i g]] = some (.sl 10 0 (a + 1) 1, [.cells [cenL q.cs, leaL q.ls], .cells [cenL q.cs, .sl 6 0 ((L.take a).length + 1 + (L.drop a).length) 5], .dead, .dead, .cells [.cv (.str x.nm), .i x.si, .i x.ho, .i x.fa, ints x.wi], .dead, .cells ((leaCs (lsT q xs (i + 1))).map .cv), .dead, .dead, .cells [.i g], .cells (((G.take a).map (CV.int .i64) ++ [CV.int .i64 g]).map .cv)]) := by
    rw [app_src (cs := [CV.int .i64 g]) (m := 1) rfl rfl rfl (by rw [List.length_map, u1, Nat.mul_one]) rfl (by omega) (by omega)]; rfl
  have hb3 : f_append 1 8 [.sl 10 0 (a + 1) 1, .cv (.rsl ((G.drop a).map (.int .i64)) (i - a))] [.cells [cenL q.cs, leaL q.ls], .cells [cenL q.cs, .sl 6 0 ((L.take a).length + 1 + (L.drop a).length) 5], .dead, .dead, .cells [.cv (.str x.nm), .i x.si, .i x.ho, .i x.fa, ints x.wi], .dead, .cells ((leaCs (lsT q xs (i + 1))).map .cv), .dead, .dead, .cells [.i g], .cells (((G.take a).map (CV.int .i64) ++ [CV.int .i64 g]).map .cv)] = some (.sl 11 0 (a + 1 + (i - a)) 1, [.cells [cenL q.cs, leaL q.ls], .cells [cenL q.cs, .sl 6 0 ((L.take a).length + 1 + (L.drop a).length) 5], .dead, .dead, .cells [.cv (.str x.nm), .i x.si, .i x.ho, .i x.fa, ints x.wi], .dead, .cells ((leaCs (lsT q xs (i + 1))).map .cv), .dead, .dead, .cells [.i g], .dead, .cells (((gT q xs (i + 1)).map (CV.int .i64)).map .cv)]) := by
    rw [app_rsl rfl (by rw [List.length_append, List.length_map, u1]; simp) (by rw [List.length_map, u2, Nat.mul_one]) (by omega) (by omega), hgcs]; rfl
  have hgl3 : (gT q xs (i + 1)).length = a + 1 + (i - a) := by rw [List.length_map, insS_len]; omega
  by_cases hx0 : 0 < xs.length
  rotate_left
  · rw [if_neg hx0] at haI
    have hx1 : xs = [] := List.eq_nil_of_length_eq_zero (by omega)
    have hx2 : decide ((xs.length : Int) > 0) = false := by rw [hx1]; rfl
    have h0a : (0 : Int) = (a : Int) := by omega
    have e1 : ∀ σ, f_slS 5 false true [leaL L, .cv (.int .i64 0)] σ = some (leaL (L.take a), σ) := fun σ => by rw [h0a]; exact e1 σ
    have e2 : ∀ σ, f_slS 5 true false [leaL L, .cv (.int .i64 0)] σ = some (leaL (L.drop a), σ) := fun σ => by rw [h0a]; exact e2 σ
    have f1 : ∀ σ, f_slS 1 false true [ints G, .cv (.int .i64 0)] σ = some (.cv (.rsl ((G.take a).map (.int .i64)) a), σ) := fun σ => by rw [h0a]; exact f1 σ
    have f2 : ∀ σ, f_slS 1 true false [ints G, .cv (.int .i64 0)] σ = some (.cv (.rsl ((G.drop a).map (.int .i64)) (i - a)), σ) := fun σ => by rw [h0a]; exact f2 σ
    simp only [ic14l0, hgl, Int.ofNat_lt, h, hx2, evA, if_true, if_false, beq_false, simprocAttr]
    refine DW_s [] [(0, 11), (2, 0), (2, 11), (5, 11), (7, 0), (7, 5), (10, 0), (10, 5), (11, 0), (11, 5), (14, 0), (14, 5), (14, 11), (14, 12)] hmix (by kernel_rfl) rfl ?_
    simp only [hz, e1, e2, ia_rsl h, hld, ha1, ha2, ha3, evA, if_true, if_false, beq_false, simprocAttr]
    refine DW_s [] [(0, 9), (4, 9), (8, 0), (8, 4), (9, 0), (9, 4)] hmix (by kernel_rfl) rfl ?_
    simp only [hz, f1, f2, hig, ← hg, hb1, hb2, hb3, hws, evA, if_true, if_false, beq_false, simprocAttr]
    refine kFor_turn [.cells [cenL q.cs, leaL q.ls], .cells [cenL q.cs, .sl 6 0 ((L.take a).length + 1 + (L.drop a).length) 5]] [.cells [cenL q.cs, leaL q.ls], .cells [cenL q.cs, leaL (lsT q xs (i + 1))]] _ rfl (by first | trivial | omega) rfl rfl (.cons (.inl ⟨rfl, rfl⟩) (.cons (.inl ⟨rfl, rfl⟩) (.cons (.inl ⟨rfl, rfl⟩) (.cons (.inl ⟨rfl, rfl⟩) (.cons (.inl ⟨rfl, rfl⟩) (.cons (.inl ⟨rfl, rfl⟩) (.cons (.inl ⟨rfl, rfl⟩) (.cons (.inr ?_) (.cons (.inl ⟨rfl, rfl⟩) (.cons (.inr (.un _)) (.cons (.inr (.un _)) (.cons (.inr (.un _)) (.cons (.inl ⟨rfl, rfl⟩) (.cons (.inr (.un _)) (.cons (.inr (.un _)) .nil))))))))))))))) ?_ rfl
    · show FrzV _ _ _ (ints (gT q xs (i + 1)))
      rw [← hgl3]
      exact sl_frz (rest := []) (by simp [rowOf]) (by rw [List.length_map, Nat.mul_one]) fun _ _ => trivial
    · intro l o2 ho
      match l, ho with
      | 0, ho => cases ho; exact ⟨_, rfl, trivial, .inl ⟨rfl, rfl⟩⟩
      | 1, ho =>
        cases ho
        refine ⟨_, rfl, trivial, .inr ⟨_, _, rfl, rfl, .cons (.inl ⟨rfl, rfl⟩) (.cons (.inr ?_) .nil)⟩⟩
        rw [← hgo h]
        exact sl_frz (rest := []) (by simp [rowOf]) (leaCs_len _) fun _ _ => trivial
  rw [if_pos hx0] at haI
  have hx2 : decide ((xs.length : Int) > 0) = true := decide_eq_true (by omega)
  have hm := Nat.mod_lt i hx0
  have hxb := hb _ (List.getElem_mem hm)
  obtain ⟨b, hbx⟩ : ∃ b : Nat, xs[i % xs.length]?.getD 0 = (b : Int) := ⟨(xs[i % xs.length]?.getD 0).toNat, by rw [List.getElem?_eq_getElem hm]; simp only [Option.getD_some]; omega⟩
  have hbl : b ≤ 255 := by rw [List.getElem?_eq_getElem hm] at hbx; simp only [Option.getD_some] at hbx; omega
  rw [hbx, Int.toNat_natCast] at haI
  have hwx : IntKind.i64.wrap (b : Int) = (b : Int) := wrap_nat (by omega)
  have hn0 : ¬ ((xs.length : Int) = 0) := by omega
  have hn1 : ¬ (((i + 1 : Nat) : Int) = 0) := by omega
  have htm1 : (i : Int).tmod (xs.length : Int) = ((i % xs.length : Nat) : Int) := rfl
  have htm2 : (b : Int).tmod ((i + 1 : Nat) : Int) = (a : Int) := by rw [← haI]; rfl
  generalize i % xs.length = j at htm1 hm hbx
  simp only [ic14l0, hgl, Int.ofNat_lt, h, hx2, hws, hwx, hn0, hn1, htm1, htm2, hm, hbx, evA, if_true, if_false, beq_false, simprocAttr]
  refine DW_s [] [(0, 11), (2, 0), (2, 11), (5, 11), (7, 0), (7, 5), (10, 0), (10, 5), (11, 0), (11, 5), (14, 0), (14, 5), (14, 11), (14, 12)] hmix (by kernel_rfl) rfl ?_
  simp only [hz, e1, e2, ia_rsl h, hld, ha1, ha2, ha3, evA, if_true, if_false, beq_false, simprocAttr]
  refine DW_s [] [(0, 9), (4, 9), (8, 0), (8, 4), (9, 0), (9, 4)] hmix (by kernel_rfl) rfl ?_
  simp only [hz, f1, f2, hig, ← hg, hb1, hb2, hb3, hws, evA, if_true, if_false, beq_false, simprocAttr]
  refine kFor_turn [.cells [cenL q.cs, leaL q.ls], .cells [cenL q.cs, .sl 6 0 ((L.take a).length + 1 + (L.drop a).length) 5]] [.cells [cenL q.cs, leaL q.ls], .cells [cenL q.cs, leaL (lsT q xs (i + 1))]] _ rfl (by first | trivial | omega) rfl rfl (.cons (.inl ⟨rfl, rfl⟩) (.cons (.inl ⟨rfl, rfl⟩) (.cons (.inl ⟨rfl, rfl⟩) (.cons (.inl ⟨rfl, rfl⟩) (.cons (.inl ⟨rfl, rfl⟩) (.cons (.inl ⟨rfl, rfl⟩) (.cons (.inl ⟨rfl, rfl⟩) (.cons (.inr ?_) (.cons (.inl ⟨rfl, rfl⟩) (.cons (.inr (.un _)) (.cons (.inr (.un _)) (.cons (.inr (.un _)) (.cons (.inl ⟨rfl, rfl⟩) (.cons (.inr (.un _)) (.cons (.inr (.un _)) .nil))))))))))))))) ?_ rfl
  · show FrzV _ _ _ (ints (gT q xs (i + 1)))
    rw [← hgl3]
    exact sl_frz (rest := []) (by simp [rowOf]) (by rw [List.length_map, Nat.mul_one]) fun _ _ => trivial
  · intro l o2 ho
    match l, ho with
    | 0, ho => cases ho; exact ⟨_, rfl, trivial, .inl ⟨rfl, rfl⟩⟩
    | 1, ho =>
      cases ho
      refine ⟨_, rfl, trivial, .inr ⟨_, _, rfl, rfl, .cons (.inl ⟨rfl, rfl⟩) (.cons (.inr ?_) .nil)⟩⟩
      rw [← hgo h]
      exact sl_frz (rest := []) (by simp [rowOf]) (leaCs_len _) fun _ _ => trivial

theorem law_QueueTurned (avs : List AV) (h : Args Try.prog Try.f14.params.toList avs) : AC Try.prog 14 avs [] fun r _ => r = .b true := by
  have h : Args Try.prog [25, 51] avs := h
  obtain ⟨cs1, avs, rfl, h1, h⟩ := args_cons h
  obtain ⟨cs2, avs, rfl, h2, h⟩ := args_cons h
  cases args_nil h
  obtain ⟨q, e, hq⟩ := typed_q h1
  obtain ⟨xs, e2, hx, hb⟩ := typed_bs h2
  rw [e, e2]
  exact lc14 q hq xs hx hb

end Go.Proofs.Ytjgolcbpgmlilaa.AM

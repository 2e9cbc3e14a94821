/- Parts of the proof, joined: QuC14 to QuA2. -/
import Derived.Sort.LotA
import Derived.Test.YtjgolcbpgmlilaaZ43

namespace Go.Proofs.Ytjgolcbpgmlilaa.AM
open Go Go.Proofs.Ytjgolcbpgmlilaa.Qu Pl
set_option linter.unusedVariables false
set_option linter.unusedSimpArgs false

theorem ordF_get {q : QL} {c : Nat} (hL : ∀ i, i < q.ls.length → LeaOk q i) : ∀ i, i ≤ q.ls.length → ∀ k, k < i → (ordF q c i)[Mk.rankOf q.ls.length (bef q c) k]? = some (k : Int)
  | 0, _, k, h => by omega
  | i + 1, hi, k, h => by
    have hlen := ordF_len q c i
    have hri := rank_lt_n (q := q) (c := c) (show i < q.ls.length by omega)
    simp only [ordF]
    by_cases e : k = i
    · subst e; rw [List.getElem?_set_self (by omega)]
    · rw [List.getElem?_set_ne (fun h2 => e (Mk.rank_inj (bef_strict hL c) (by omega) (by omega) h2.symm))]
      exact ordF_get hL i (by omega) k (by omega)

theorem countP_split {α : Type} (P : α → Bool) (L : List α) (p : Nat) (hp : p ≤ L.length) (h1 : ∀ j (h : j < L.length), j < p → P L[j] = true) (h2 : ∀ j (h : j < L.length), p ≤ j → P L[j] = false) : L.countP P = p := by
  rw [← List.take_append_drop p L, List.countP_append]
  have e1 : (L.take p).countP P = p := by
    rw [List.countP_eq_length.2, List.length_take]
    · omega
    · intro x hx
      obtain ⟨j, hj, rfl⟩ := List.mem_iff_getElem.1 hx
      simp only [List.length_take] at hj
      rw [List.getElem_take]; exact h1 j (by omega) (by omega)
  have e2 : (L.drop p).countP P = 0 := by
    rw [List.countP_eq_zero]
    intro x hx
    obtain ⟨j, hj, rfl⟩ := List.mem_iff_getElem.1 hx
    simp only [List.length_drop] at hj
    rw [List.getElem_drop, h2 (p + j) (by omega) (by omega)]; simp
  rw [e1, e2]; rfl

/-- in a sorted list of all learners each stands at their rank -/
theorem rank_sorted {q : QL} {c : Nat} (hL : ∀ i, i < q.ls.length → LeaOk q i) {L : List Nat} (hp : L.Perm (List.range q.ls.length)) (hs : ∀ i j, i < j → ∀ (hj : j < L.length) (hi : i < L.length), bef q c L[j] L[i] = false) :
    (∀ j (h : j < L.length), L[j] < q.ls.length) ∧ ∀ p (h : p < L.length), Mk.rankOf q.ls.length (bef q c) L[p] = p := by
  have hlen : L.length = q.ls.length := by simpa using hp.length_eq
  have hnd : L.Nodup := hp.nodup_iff.2 List.nodup_range
  have hst := bef_strict hL c
  have hlt : ∀ j (h : j < L.length), L[j] < q.ls.length := fun j h => by simpa using (hp.mem_iff (a := L[j])).1 (List.getElem_mem h)
  have hrank : ∀ p (h : p < L.length), Mk.rankOf q.ls.length (bef q c) L[p] = p := by
    intro p h
    unfold Mk.rankOf
    rw [cnt_range, ← hp.countP_eq]
    refine countP_split _ L p (by omega) (fun j hj hjp => ?_) (fun j hj hpj => ?_)
    · have hne : L[j] ≠ L[p] := List.pairwise_iff_getElem.1 hnd j p hj h hjp
      rcases hst.tot _ _ (hlt j hj) (hlt p h) hne with g | g
      · exact g
      · rw [hs j p hjp h hj] at g; cases g
    · by_cases e : p = j
      · subst e; exact hst.irr _ (hlt p h)
      · exact hs p j (by omega) hj h
  exact ⟨hlt, hrank⟩

/-- a sorted list of all learners is the document's order -/
theorem ord_of_sorted {q : QL} {c : Nat} (hL : ∀ i, i < q.ls.length → LeaOk q i) {L : List Nat} (hp : L.Perm (List.range q.ls.length)) (hs : ∀ i j, i < j → ∀ (hj : j < L.length) (hi : i < L.length), bef q c L[j] L[i] = false) :
    L.map (fun (i : Nat) => (i : Int)) = ordQ q c := by
  obtain ⟨hlt, hrank⟩ := rank_sorted hL hp hs
  have hlen : L.length = q.ls.length := by simpa using hp.length_eq
  unfold ordQ
  apply List.ext_getElem
  · rw [List.length_map, ordF_len, hlen]
  · intro p h1 h2
    have hpl : p < L.length := by simpa using h1
    have := ordF_get hL (c := c) q.ls.length (Nat.le_refl _) L[p] (hlt p hpl)
    rw [hrank p hpl, List.getElem?_eq_getElem h2] at this
    rw [List.getElem_map]
    exact (Option.some.inj this).symm

theorem swo_bef (q : QL) (c : Nat) : Sort.SWO (ltC (cmpQ q c)) := by
  have e : ∀ a b, ltC (cmpQ q c) a b = bef q c a b := fun a b => cmpR_lt c _ _ _
  have nt : ∀ (x y z : Lea) rs, byRules c x y rs = false → byRules c y z rs = false → byRules c x z rs = false := by
    intro x y z rs
    induction rs with
    | nil =>
      intro h g
      show Op.bytesLess _ _ = false
      have h : Op.bytesLess x.nm.toList y.nm.toList = false := h
      have g : Op.bytesLess y.nm.toList z.nm.toList = false := g
      by_cases e1 : x.nm.toList = y.nm.toList
      · rw [e1]; exact g
      · rcases bl_tot _ _ e1 with k | k
        · rw [h] at k; cases k
        · by_cases e2 : y.nm.toList = z.nm.toList
          · rw [← e2]; exact h
          · rcases bl_tot _ _ e2 with k2 | k2
            · rw [g] at k2; cases k2
            · have k3 := bl_tr _ _ _ k2 k
              cases hx : Op.bytesLess x.nm.toList z.nm.toList with
              | false => rfl
              | true =>
                have := bl_tr _ _ _ hx k3
                rw [bl_irr] at this; cases this
    | cons r rs ih =>
      intro h g
      unfold byRules at h g ⊢
      by_cases e1 : key c x r = key c y r
      · rw [if_pos e1] at h
        by_cases e2 : key c y r = key c z r
        · rw [if_pos e2] at g; rw [if_pos (e1.trans e2)]; exact ih h g
        · rw [if_neg e2] at g; rw [if_neg (by rw [e1]; exact e2)]
          simp only [decide_eq_false_iff_not] at g ⊢; omega
      · rw [if_neg e1] at h
        simp only [decide_eq_false_iff_not] at h
        by_cases e2 : key c y r = key c z r
        · rw [if_neg (by rw [← e2]; exact e1)]; simp only [decide_eq_false_iff_not]; omega
        · rw [if_neg e2] at g
          simp only [decide_eq_false_iff_not] at g
          rw [if_neg (by omega)]; simp only [decide_eq_false_iff_not]; omega
  refine ⟨fun x => by rw [e]; exact byRules_irr _ _ _, fun x y z h g => ?_, fun x y z h g => ?_⟩
  · rw [e] at h g ⊢; exact byRules_tr _ _ _ _ _ h g
  · rw [e] at h g ⊢; exact nt _ _ _ _ h g

theorem ins_sorted (q : QL) (c : Nat) : (Sort.insertionSort (ltC (cmpQ q c)) (List.range q.ls.length).toArray 0 q.ls.length).toList.Perm (List.range q.ls.length) ∧ ∀ i j, i < j → ∀ (hj : j < (Sort.insertionSort (ltC (cmpQ q c)) (List.range q.ls.length).toArray 0 q.ls.length).toList.length) (hi : i < (Sort.insertionSort (ltC (cmpQ q c)) (List.range q.ls.length).toArray 0 q.ls.length).toList.length), bef q c (Sort.insertionSort (ltC (cmpQ q c)) (List.range q.ls.length).toArray 0 q.ls.length).toList[j] (Sort.insertionSort (ltC (cmpQ q c)) (List.range q.ls.length).toArray 0 q.ls.length).toList[i] = false := by
  have hsz : (List.range q.ls.length).toArray.size = q.ls.length := by simp
  obtain ⟨h1, h2⟩ := Sort.insertionSort_holds (swo_bef q c) (List.range q.ls.length).toArray 0 q.ls.length (Nat.zero_le _) (by omega)
  generalize Sort.insertionSort (ltC (cmpQ q c)) (List.range q.ls.length).toArray 0 q.ls.length = d at h1 h2
  obtain ⟨g1, g2, g3⟩ := h1
  have hds : d.size = q.ls.length := by omega
  refine ⟨?_, ?_⟩
  · have e1 : d.extract 0 q.ls.length = d := by rw [← hds]; exact Array.extract_size
    have e2 : (List.range q.ls.length).toArray.extract 0 q.ls.length = (List.range q.ls.length).toArray := by
      conv => lhs; arg 3; rw [← hsz]
      exact Array.extract_size
    rw [e1, e2] at g3
    exact g3
  · intro i j hij hj hi
    have := h2 i j (Nat.zero_le _) hij (by simpa [hds] using hj)
    have e : ∀ a b, ltC (cmpQ q c) a b = bef q c a b := fun a b => cmpR_lt c _ _ _
    rw [e, getElem!_pos d j (by simpa using hj), getElem!_pos d i (by simpa using hi)] at this
    simpa using this

theorem ins_ord {q : QL} {c : Nat} (hL : ∀ i, i < q.ls.length → LeaOk q i) : (Sort.insertionSort (ltC (cmpQ q c)) (List.range q.ls.length).toArray 0 q.ls.length).toList.map (fun (i : Nat) => (i : Int)) = ordQ q c :=
  ord_of_sorted hL (ins_sorted q c).1 (ins_sorted q c).2

end Go.Proofs.Ytjgolcbpgmlilaa.AM

namespace Go.Proofs.Ytjgolcbpgmlilaa.AM
open Go Go.Proofs.Ytjgolcbpgmlilaa.Qu Pl
set_option linter.unusedVariables false
set_option linter.unusedSimpArgs false

theorem row_range (n : Nat) : rowA (fun i : Nat => AV.i i) (List.range n).toArray = (listN n fun i => (i : Int)).map AV.i := by
  simp [rowA, listN]

/-- (*list).order -/
theorem c49 (q : QL) (hq : QSz q) (he : QOk q) (c : Nat) (hc : c < q.cs.length) {L : Nat} {x : AV} {σ : List AObj} (hL : rowOf σ L = some [cenL q.cs, leaL q.ls, x]) (hlv : ∀ o ∈ σ, o.live) :
    AC Try.prog 49 [.ptr L 0, .i c] σ fun r τ => r = ints (ordQ q c) ∧ τ = σ := by
  obtain ⟨hc5, hl8, hLe, hCe⟩ := id he
  have hLlt := (List.getElem?_eq_some_iff.1 (rowOf_some hL)).1
  refine AC.made0 (Q := fun r τ => r = .sl (σ.length + 2) 0 q.ls.length 1 ∧ ∃ o, τ = σ ++ [.cells [.ptr L 0], .cells [.i c], .cells ((ordQ q c).map AV.i), o]) (AC_FE (fok49 true) (Nat.le_of_ble_eq_true rfl) ?_) ?_ hlv
  rotate_left
  · rintro r τ ⟨rfl, o, rfl⟩
    have hol : (ordQ q c).length = q.ls.length := ordF_len q c _
    refine ⟨_, rfl, ?_⟩
    refine frz_ints' (fun _ => trivial) hol.symm ?_
    have := rowOf_as (List.replicate σ.length .dead) [.cells [.ptr L 0], .cells [.i c], .cells ((ordQ q c).map AV.i), o] 2
    rw [List.length_replicate] at this
    exact this
  have gL := fun J => rowOf_low hL J
  have hmk := fun σ => mk_ints (n := q.ls.length) (by omega) σ
  rw [show List.replicate q.ls.length (0 : Int) = listN q.ls.length fun k => if k < 0 then (k : Int) else 0 by rw [listN_zero]; exact listN_congr fun i _ => by simp] at hmk
  simp only [ic49, gL, hmk, List.append_assoc, List.length_append, rowOf_az, rowOf_as, set_az, set_as, get_az, get_as, get_nz, get_ns, evA, if_true, if_false, beq_false, simprocAttr]
  refine IL_for q.ls.length (fun i s => ∃ v6 v7 v10, s = ⟨[.ptr L 0, .i c, .ptr σ.length 0, .ptr (σ.length + 1) 0, .cv .nils, .sl (σ.length + 2) 0 q.ls.length 1, v6, v7, .i q.ls.length, .i i, v10], σ ++ [.cells [.ptr L 0], .cells [.i c], .cells ((listN q.ls.length fun k => if k < i then (k : Int) else 0).map AV.i)]⟩) ?_ 0 (Nat.zero_le _) ⟨_, _, _, rfl⟩
  rintro i s hi ⟨v6, v7, v10, rfl⟩
  by_cases h : i < q.ls.length
  · have hset : ((listN q.ls.length fun k => if k < i then (k : Int) else 0).map AV.i).set i (.i i) = (listN q.ls.length fun k => if k < i + 1 then (k : Int) else 0).map AV.i := by
      have : (listN q.ls.length fun k => if k < i then (k : Int) else 0).set i (i : Int) = listN q.ls.length fun k => if k < i + 1 then (k : Int) else 0 := by
        rw [listN_set h]
        refine listN_congr fun k hk => ?_
        by_cases e : k = i
        · subst e; simp
        · by_cases h1 : k < i
          · rw [if_neg e, if_pos h1, if_pos (by omega)]
          · rw [if_neg e, if_neg h1, if_neg (by omega)]
      rw [← this, List.map_set]
    have hle : i + 1 ≤ (listN q.ls.length fun k => if k < i then (k : Int) else 0).length := by rw [listN_len]; exact h
    simp only [ic49l0, Int.ofNat_lt, h, hset, hle, Nat.zero_add, List.append_assoc, List.length_append, rowOf_az, rowOf_as, set_az, set_as, get_az, get_as, get_nz, get_ns, evA, if_true, if_false, beq_false, simprocAttr]
    exact kFor_go (by first | trivial | omega) ⟨_, _, _, by rw [wrap_succ (by omega)]⟩
  have : i = q.ls.length := by omega
  subst this
  have hrow : (listN q.ls.length fun k => if k < q.ls.length then (k : Int) else 0) = listN q.ls.length fun k => (k : Int) := listN_congr fun k hk => by rw [if_pos hk]
  rw [hrow]
  simp only [ic49l0, Int.ofNat_lt, h, List.append_assoc, List.length_append, rowOf_az, rowOf_as, set_az, set_as, get_az, get_as, get_nz, get_ns, evA, if_true, if_false, beq_false, simprocAttr]
  have hsz : (List.range q.ls.length).toArray.size = q.ls.length := by simp
  have hC : CmpOk (.fn (.func 79) [.ptr σ.length 0, .ptr (σ.length + 1) 0, .ptr (σ.length + 3) 0]) (fun i : Nat => AV.i i) (cmpQ q c) (σ.length + 2) (fun i => i < q.ls.length) (OrdAt q c σ.length (σ.length + 1) (σ.length + 3) L x) :=
    ⟨fun a b τ ha hb hI => c79 q hq c a b hc (hCe c hc) ha hb hI, fun _ => rfl, fun _ => rfl, fun τ d hI => by
      obtain ⟨h2, h3, h7, h8⟩ := hI
      exact ⟨by rw [rowOf_set_ne (by omega)]; exact h2, by rw [rowOf_set_ne (by omega)]; exact h3, by rw [rowOf_set_ne (by omega)]; exact h7, by rw [rowOf_set_ne (by omega)]; exact h8⟩⟩
  have hI : OrdAt q c σ.length (σ.length + 1) (σ.length + 3) L x (σ ++ [.cells [.ptr L 0], .cells [.i c], .cells ((listN q.ls.length fun k => (k : Int)).map AV.i), .cells [.bm 75 [.ptr L 0], .bm 76 [.ptr L 0], .bm 77 [.ptr L 0]]]) :=
    ⟨by rw [rowOf_az]; rfl, by rw [rowOf_as]; rfl, by rw [rowOf_as]; rfl, gL _⟩
  have hs := c78 hC hI (List.range q.ls.length).toArray (fun k hk => by simp at hk; simp [hk]) (by rw [rowOf_as, row_range]; rfl) (by omega)
  rw [hsz] at hs
  refine hs.run ?_
  have hrow2 : rowA (fun i : Nat => AV.i i) (Sort.insertionSort (ltC (cmpQ q c)) (List.range q.ls.length).toArray 0 q.ls.length) = (ordQ q c).map AV.i := by
    rw [← ins_ord hLe, List.map_map]; rfl
  have hput : putA (fun i : Nat => AV.i i) (σ ++ [.cells [.ptr L 0], .cells [.i c], .cells ((listN q.ls.length fun k => (k : Int)).map AV.i), .cells [.bm 75 [.ptr L 0], .bm 76 [.ptr L 0], .bm 77 [.ptr L 0]]]) (σ.length + 2) (Sort.insertionSort (ltC (cmpQ q c)) (List.range q.ls.length).toArray 0 q.ls.length) = σ ++ [.cells [.ptr L 0], .cells [.i c], .cells ((ordQ q c).map AV.i), .cells [.bm 75 [.ptr L 0], .bm 76 [.ptr L 0], .bm 77 [.ptr L 0]]] := by
    unfold putA
    rw [hrow2, set_as]; rfl
  rw [hput]
  simp only [evA, if_true, if_false, beq_false, simprocAttr]
  exact ⟨_, rfl⟩

end Go.Proofs.Ytjgolcbpgmlilaa.AM

namespace Go.Proofs.Ytjgolcbpgmlilaa.AM
open Go Go.Proofs.Ytjgolcbpgmlilaa.Qu Pl
set_option linter.unusedVariables false
set_option linter.unusedSimpArgs false

/-- the key of a learner at a centre -/
def kAV (c i : Nat) : AV := .agg [.i c, .i i]
abbrev KS : Bool × List KK := (true, [.int .i64, .int .i64])
def esT (tr : List (Nat × Nat × Nat)) : List (AV × AV) := tr.map fun t => (kAV t.1 t.2.1, .i (t.2.2 : Int))

theorem wf_nat {n : Nat} (h : n < 2 ^ 63) : (Lit.int .i64 (n : Int)).wf = true := by
  simp only [Lit.wf, Bool.and_eq_true, decide_eq_true_eq, IntKind.min, IntKind.max, IntKind.bits, IntKind.signed]
  simp; omega
theorem key_is {c i : Nat} (hc : c < 2 ^ 63) (hi : i < 2 ^ 63) : keyIs KS (kAV c i) = true := by
  simp [keyIs, keyCells, kAV, kksOk, kkOk, wf_nat hc, wf_nat hi]
theorem key_eq {c i c' i' : Nat} (hc : c < 2 ^ 63) (hi : i < 2 ^ 63) (hc' : c' < 2 ^ 63) (hi' : i' < 2 ^ 63) : keyEqK KS (kAV c i) (kAV c' i') = some (decide (c = c' ∧ i = i')) := by
  simp [keyEqK, keyCells, kAV, kksOk, kkOk, wf_nat hc, wf_nat hi, wf_nat hc', wf_nat hi', cellsEq, cellEq]
  rw [Bool.eq_iff_iff]; simp only [Bool.and_eq_true, decide_eq_true_eq]; omega

/-- what is found in a map of ranks -/
theorem find_cases {c i : Nat} (hc : c < 2 ^ 63) (hi : i < 2 ^ 63) : ∀ (tr : List (Nat × Nat × Nat)) (s : Nat), (∀ t ∈ tr, t.1 < 2 ^ 63 ∧ t.2.1 < 2 ^ 63) →
    (findKey KS (kAV c i) (esT tr) s = some none ∧ ∀ t ∈ tr, ¬ (t.1 = c ∧ t.2.1 = i)) ∨ ∃ (j n : Nat), tr[j]? = some (c, i, n) ∧ findKey KS (kAV c i) (esT tr) s = some (some (s + j, .i n))
  | [], s, _ => .inl ⟨rfl, by simp⟩
  | t :: tr, s, h => by
    obtain ⟨h1, h2⟩ := h t (by simp)
    have hk := key_eq hc hi h1 h2
    by_cases e : c = t.1 ∧ i = t.2.1
    · refine .inr ⟨0, t.2.2, ?_, ?_⟩
      · obtain ⟨a, b, n⟩ := t
        obtain ⟨rfl, rfl⟩ := e
        rfl
      · rw [decide_eq_true e] at hk
        simp only [esT, List.map_cons, findKey, hk]; rfl
    · rw [decide_eq_false e] at hk
      rcases find_cases hc hi tr (s + 1) (fun t ht => h t (by simp [ht])) with ⟨g1, g2⟩ | ⟨j, n, g1, g2⟩
      · refine .inl ⟨?_, ?_⟩
        · simp only [esT, List.map_cons, findKey, hk]; exact g1
        · intro u hu
          rcases List.mem_cons.1 hu with rfl | hu
          · intro h; exact e ⟨h.1.symm, h.2.symm⟩
          · exact g2 u hu
      · refine .inr ⟨j + 1, n, by simpa using g1, ?_⟩
        simp only [esT, List.map_cons, findKey, hk]
        rw [show s + (j + 1) = s + 1 + j by omega]; exact g2

/-- a map that knows the ranks at the centres before c, and at c those of the first p learners of the order -/
structure RanksAt (q : QL) (c p : Nat) (tr : List (Nat × Nat × Nat)) : Prop where
  sound : ∀ t ∈ tr, t.1 < q.cs.length ∧ t.2.1 < q.ls.length ∧ t.2.2 = rankQ q t.1 t.2.1
  full : ∀ d i, d < q.cs.length → i < q.ls.length → d < c ∨ d = c ∧ Mk.rankOf q.ls.length (bef q d) i < p → ∃ t ∈ tr, t.1 = d ∧ t.2.1 = i

theorem map_look {q : QL} {tr : List (Nat × Nat × Nat)} (hq : QSz q) (h : RanksAt q q.cs.length 0 tr) {c i : Nat} (hc : c < q.cs.length) (hi : i < q.ls.length) {σ : List AObj} {l : Nat} (hm : mapOf σ l = some (esT tr)) :
    f_lookup KS (.i 0) false [.map l, .agg [.i c, .i i]] σ = some (.i (rankQ q c i), σ) := by
  have hcs := hq.cs
  have hls := hq.ls
  have hk := key_is (c := c) (i := i) (by omega) (by omega)
  rcases find_cases (c := c) (i := i) (by omega) (by omega) tr 0 (fun t ht => by have := h.sound t ht; omega) with ⟨_, g2⟩ | ⟨j, n, g1, g2⟩
  · obtain ⟨t, ht, he⟩ := h.full c i hc hi (.inl hc)
    exact absurd he (g2 t ht)
  · have hn := (h.sound _ (List.mem_of_getElem? g1)).2.2
    simp only at hn
    subst hn
    show f_lookup KS (.i 0) false [.map l, kAV c i] σ = _
    simp only [f_lookup, hm, Option.bind_some, hk, g2]
    rfl

def putTr (tr : List (Nat × Nat × Nat)) (c i r : Nat) : List (Nat × Nat × Nat) := if (tr.any fun t => t.1 == c && t.2.1 == i) = true then tr else tr ++ [(c, i, r)]

/-- one learner more -/
theorem map_put {q : QL} {c p : Nat} {tr : List (Nat × Nat × Nat)} (hq : QSz q) (h : RanksAt q c p tr) {i : Nat} (hL : ∀ i, i < q.ls.length → LeaOk q i) (hc : c < q.cs.length) (hi : i < q.ls.length) (hr : Mk.rankOf q.ls.length (bef q c) i = p) {σ : List AObj} {l : Nat} (hm : mapOf σ l = some (esT tr)) :
    RanksAt q c (p + 1) (putTr tr c i (p + 1)) ∧ f_mapset KS [.map l, .agg [.i c, .i i], .i ((p + 1 : Nat) : Int)] σ = some (.undef, σ.set l (.map (esT (putTr tr c i (p + 1))))) := by
  have hcs := hq.cs
  have hls := hq.ls
  have hk := key_is (c := c) (i := i) (by omega) (by omega)
  have hrq : rankQ q c i = p + 1 := by unfold rankQ; rw [hr]
  have inj : ∀ k, k < q.ls.length → Mk.rankOf q.ls.length (bef q c) k = p → k = i := fun k hk e => Mk.rank_inj (bef_strict hL c) hk hi (by rw [e, hr])
  rcases find_cases (c := c) (i := i) (by omega) (by omega) tr 0 (fun t ht => by have := h.sound t ht; omega) with ⟨g1, g2⟩ | ⟨j, n, g1, g2⟩
  · have hp : putTr tr c i (p + 1) = tr ++ [(c, i, p + 1)] := by
      unfold putTr
      rw [if_neg]
      simp only [List.any_eq_true, Bool.and_eq_true, beq_iff_eq, not_exists, not_and]
      exact fun t ht h1 h2 => g2 t ht ⟨h1, h2⟩
    rw [hp]
    refine ⟨⟨fun t ht => ?_, fun d k hd hk' hor => ?_⟩, ?_⟩
    · rcases List.mem_append.1 ht with ht | ht
      · exact h.sound t ht
      · rw [List.mem_singleton] at ht; subst ht; exact ⟨hc, hi, hrq.symm⟩
    · by_cases h1 : d < c ∨ d = c ∧ Mk.rankOf q.ls.length (bef q d) k < p
      · obtain ⟨t, ht, he⟩ := h.full d k hd hk' h1
        exact ⟨t, List.mem_append_left _ ht, he⟩
      · have hd' : d = c := by omega
        subst hd'
        have : k = i := inj k hk' (by omega)
        subst this
        exact ⟨(d, k, p + 1), by simp, rfl, rfl⟩
    · show f_mapset KS [.map l, kAV c i, .i ((p + 1 : Nat) : Int)] σ = _
      simp only [f_mapset, hm, Option.bind_some, hk, g1]
      simp [mapPut, esT]
  · have hn := (h.sound _ (List.mem_of_getElem? g1)).2.2
    simp only at hn
    rw [hrq] at hn
    subst hn
    have hp : putTr tr c i (p + 1) = tr := by
      unfold putTr
      rw [if_pos]
      rw [List.any_eq_true]
      exact ⟨_, List.mem_of_getElem? g1, by simp⟩
    rw [hp]
    refine ⟨⟨h.sound, fun d k hd hk' hor => ?_⟩, ?_⟩
    · by_cases h1 : d < c ∨ d = c ∧ Mk.rankOf q.ls.length (bef q d) k < p
      · exact h.full d k hd hk' h1
      · have hd' : d = c := by omega
        subst hd'
        have : k = i := inj k hk' (by omega)
        subst this
        exact ⟨_, List.mem_of_getElem? g1, rfl, rfl⟩
    · show f_mapset KS [.map l, kAV c i, .i ((p + 1 : Nat) : Int)] σ = _
      simp only [f_mapset, hm, Option.bind_some, hk, g2]
      have hset : (esT tr).set (0 + j) (kAV c i, .i ((p + 1 : Nat) : Int)) = esT tr := by
        rw [Nat.zero_add]
        apply List.ext_getElem?
        intro k
        by_cases e : j = k
        · subst e
          have hjl : j < (esT tr).length := by simp [esT]; exact (List.getElem?_eq_some_iff.1 g1).1
          rw [List.getElem?_set_self hjl]
          simp [esT, g1]
        · rw [List.getElem?_set_ne e]
      simp only [Option.map_some, mapPut, hset]; rfl

theorem ranks_next {q : QL} {c : Nat} {tr : List (Nat × Nat × Nat)} (h : RanksAt q c q.ls.length tr) : RanksAt q (c + 1) 0 tr :=
  ⟨h.sound, fun d i hd hi hor => h.full d i hd hi (by
    have := rank_lt_n (q := q) (c := d) hi
    omega)⟩

/-- who stands where in the order -/
theorem ord_at {q : QL} {c p : Nat} (hL : ∀ i, i < q.ls.length → LeaOk q i) (hp : p < q.ls.length) : ∃ i : Nat, i < q.ls.length ∧ (ordQ q c)[p]?.getD 0 = (i : Int) ∧ Mk.rankOf q.ls.length (bef q c) i = p := by
  obtain ⟨h1, h2⟩ := ins_sorted q c
  obtain ⟨hlt, hrank⟩ := rank_sorted hL h1 h2
  have hlen := h1.length_eq
  rw [List.length_range] at hlen
  generalize (Sort.insertionSort (ltC (cmpQ q c)) (List.range q.ls.length).toArray 0 q.ls.length).toList = M at hlt hrank hlen
  obtain ⟨i, hi⟩ : ∃ i, i = M[p]'(by omega) := ⟨_, rfl⟩
  have he := hrank p (by omega)
  have hl := hlt p (by omega)
  rw [← hi] at he hl
  have hi := hl
  have := ordF_get hL (c := c) q.ls.length (Nat.le_refl _) i hi
  rw [he] at this
  refine ⟨i, hi, ?_, he⟩
  unfold ordQ
  rw [this]; rfl

end Go.Proofs.Ytjgolcbpgmlilaa.AM

namespace Go.Proofs.Ytjgolcbpgmlilaa.AM
open Go Go.Proofs.Ytjgolcbpgmlilaa.Qu Pl
set_option linter.unusedVariables false
set_option linter.unusedSimpArgs false

theorem mapOf_1 {a : AObj} {es : List (AV × AV)} {σ : List AObj} : mapOf (a :: .map es :: σ) 1 = some es := rfl
theorem mapOf_2 {a b : AObj} {es : List (AV × AV)} {σ : List AObj} : mapOf (a :: b :: .map es :: σ) 2 = some es := rfl

/-- the map of ranks, as the program makes it -/
def trP (q : QL) (c : Nat) (tr : List (Nat × Nat × Nat)) : Nat → List (Nat × Nat × Nat)
  | 0 => tr
  | p + 1 => putTr (trP q c tr p) c ((ordQ q c)[p]?.getD 0).toNat (p + 1)
def trC (q : QL) : Nat → List (Nat × Nat × Nat)
  | 0 => []
  | c + 1 => trP q c (trC q c) q.ls.length
abbrev rankH (q : QL) : List AObj := [.cells [cenL q.cs, leaL q.ls], .map (esT (trC q q.cs.length)), .cells [cenL q.cs, leaL q.ls, .map 1]]

theorem trP_ranks {q : QL} (hL : ∀ i, i < q.ls.length → LeaOk q i) (hq : QSz q) {c : Nat} (hc : c < q.cs.length) {tr : List (Nat × Nat × Nat)} (h : RanksAt q c 0 tr) : ∀ p, p ≤ q.ls.length → RanksAt q c p (trP q c tr p)
  | 0, _ => h
  | p + 1, hp => by
    obtain ⟨i, hi, hio, hir⟩ := ord_at (c := c) hL (show p < q.ls.length by omega)
    have := (map_put hq (trP_ranks hL hq hc h p (by omega)) hL hc hi hir (σ := [.map (esT (trP q c tr p))]) (l := 0) rfl).1
    unfold trP
    rw [hio, Int.toNat_natCast]
    exact this
theorem trC_ranks {q : QL} (hL : ∀ i, i < q.ls.length → LeaOk q i) (hq : QSz q) : ∀ c, c ≤ q.cs.length → RanksAt q c 0 (trC q c)
  | 0, _ => ⟨by simp [trC], fun d i hd hi hor => by omega⟩
  | c + 1, hc => ranks_next (trP_ranks hL hq (by omega) (trC_ranks hL hq c (by omega)) _ (Nat.le_refl _))

/-- queue.rank -/
theorem c60 (q : QL) (hq : QSz q) (he : QOk q) :
    AC Try.prog 60 [qV q] [] fun r τ => r = .ptr 2 0 ∧ τ = rankH q := by
  obtain ⟨hc5, hl8, hLe, hCe⟩ := id he
  refine AC_FE (fok60 true) (Nat.le_of_ble_eq_true rfl) ?_
  simp only [ic60, evA, if_true, if_false, beq_false, simprocAttr]
  refine IL_for q.cs.length (fun c s => ∃ v4 v5 v6 v9 v10 v11 v12 v13, s = ⟨[qV q, .ptr 0 0, .cv .nilp, .ptr 2 0, v4, v5, v6, .i q.cs.length, .i c, v9, v10, v11, v12, v13], [.cells [cenL q.cs, leaL q.ls], .map (esT (trC q c)), .cells [cenL q.cs, leaL q.ls, .map 1]]⟩) ?_ 0 (Nat.zero_le _) ⟨_, _, _, _, _, _, _, _, rfl⟩
  rintro c s hc ⟨v4, v5, v6, v9, v10, v11, v12, v13, rfl⟩
  by_cases h : c < q.cs.length
  rotate_left
  · have : c = q.cs.length := by omega
    subst this
    simp only [ic60l1, Int.ofNat_lt, h, evA, if_true, if_false, beq_false, simprocAttr]
  have hR := trC_ranks hLe hq c hc
  simp only [ic60l1, Int.ofNat_lt, h, evA, if_true, if_false, beq_false, simprocAttr]
  refine (c49 q hq he c h (L := 2) (x := .map 1) rfl (by simp [AObj.live])).run ?_
  have hol : (ordQ q c).length = q.ls.length := ordF_len q c _
  simp only [hol, evA, if_true, if_false, beq_false, simprocAttr]
  refine IL_for q.ls.length (fun p s => ∃ v5 v6 v13, s = ⟨[qV q, .ptr 0 0, .cv .nilp, .ptr 2 0, .i c, v5, v6, .i q.cs.length, .i c, .b true, ints (ordQ q c), .i q.ls.length, .i p, v13], [.cells [cenL q.cs, leaL q.ls], .map (esT (trP q c (trC q c) p)), .cells [cenL q.cs, leaL q.ls, .map 1]]⟩) ?_ 0 (Nat.zero_le _) ⟨_, _, _, rfl⟩
  rintro p s hp ⟨v5, v6, v13, rfl⟩
  by_cases h2 : p < q.ls.length
  rotate_left
  · have : p = q.ls.length := by omega
    subst this
    simp only [ic60l0, Int.ofNat_lt, h2, evA, if_true, if_false, beq_false, simprocAttr]
    exact kFor_go (by first | trivial | omega) ⟨_, _, _, _, _, _, _, _, by rw [wrap_succ (by omega)]; rfl⟩
  obtain ⟨i, hi, hio, hir⟩ := ord_at (c := c) hLe h2
  have hpl : p < (ordQ q c).length := by omega
  have hput := (map_put hq (trP_ranks hLe hq h hR p (by omega)) hLe h hi hir (σ := [.cells [cenL q.cs, leaL q.ls], .map (esT (trP q c (trC q c) p)), .cells [cenL q.cs, leaL q.ls, .map 1]]) (l := 1) rfl).2
  have htp : trP q c (trC q c) (p + 1) = putTr (trP q c (trC q c) p) c i (p + 1) := by
    show putTr _ c _ (p + 1) = _
    rw [hio, Int.toNat_natCast]
  have hws : IntKind.i64.wrap ((p : Int) + 1) = ((p + 1 : Nat) : Int) := wrap_succ (by omega)
  simp only [ic60l0, Int.ofNat_lt, h2, hpl, hio, hws, hput, evA, if_true, if_false, beq_false, simprocAttr]
  exact kFor_go (by first | trivial | omega) ⟨_, _, _, by rw [htp]⟩

def openV (q : QL) (tr : List (Nat × Nat × Nat)) : List AObj := [.cells [cenL q.cs, leaL q.ls], .cells [cenL q.cs, leaL q.ls], .map (esT tr), .cells [cenL q.cs, leaL q.ls, .map 2]]

/-- queue.open -/
theorem c48 (q : QL) (hq : QSz q) :
    AC Try.prog 48 [qV q] [] fun r τ => (eQ q = 0 ∧ ∃ tr, RanksAt q q.cs.length 0 tr ∧ r = .tup [.ptr 3 0, .i 0] ∧ τ = openV q tr) ∨ (eQ q ≠ 0 ∧ r = .tup [.cv .nilp, .i (eQ q)] ∧ τ = [.cells [cenL q.cs, leaL q.ls]]) := by
  refine AC_FE (fok48 true) (Nat.le_of_ble_eq_true rfl) ?_
  simp only [ic48, evA, if_true, if_false, beq_false, simprocAttr]
  refine (c16 q hq).call frz ?_
  rw [chkV_e]
  by_cases h0 : eQ q = 0
  · simp only [h0, evA, if_true, if_false, beq_false, simprocAttr]
    refine (AC.frame (by simp [locsInAll, locsIn]) (c60 q hq (val_of h0)) _).mono ?_
    rintro r τ ⟨r0, τ0, ⟨rfl, rfl⟩, rfl, rfl⟩
    have hR := trC_ranks (val_of h0).2.2.1 hq _ (Nat.le_refl _)
    have hes : (esT (trC q q.cs.length)).map (fun e => (ren (sh 1) e.1, ren (sh 1) e.2)) = esT (trC q q.cs.length) := by
      simp [esT, kAV, ren, rens]
    simp only [List.map_cons, List.map_nil, renO, ren, rens, evA, if_true, if_false, beq_false, simprocAttr]
    refine .inl ⟨_, hR, ?_⟩
    rw [hes]; rfl
  · have hb := bne_t h0
    simp only [hb, evA, if_true, if_false, beq_false, simprocAttr]
    exact .inr h0

end Go.Proofs.Ytjgolcbpgmlilaa.AM

namespace Go.Proofs.Ytjgolcbpgmlilaa.AM
open Go Go.Proofs.Ytjgolcbpgmlilaa.Qu Pl
set_option linter.unusedVariables false
set_option linter.unusedSimpArgs false

abbrev nats (zs : List Nat) : List AV := zs.map fun k => AV.i (k : Nat)

theorem nats_at {zs : List Nat} {rest : List AV} {i : Nat} (h : i < zs.length) : (nats zs ++ rest)[i]? = some (.i (zs[i]! : Nat)) := by
  rw [List.getElem?_append_left (by simpa using h)]
  simp [h]

/-- where the comparison of ranks finds what it captured -/
structure RkAt (q : QL) (tr : List (Nat × Nat × Nat)) (B lc L lm c : Nat) (σ : List AObj) : Prop where
  hB : rowOf σ B = some [.ptr L 0]
  hL : rowOf σ L = some [cenL q.cs, leaL q.ls, .map lm]
  hm : mapOf σ lm = some (esT tr)
  hc : rowOf σ lc = some [.i c]

theorem c83 (q : QL) (hq : QSz q) {tr : List (Nat × Nat × Nat)} (hR : RanksAt q q.cs.length 0 tr) {a b c : Nat} (hc : c < q.cs.length) (ha : a < q.ls.length) (hb : b < q.ls.length) {B lc L lm : Nat} {σ : List AObj} (h : RkAt q tr B lc L lm c σ) :
    AC Try.prog 83 [.i a, .i b, .ptr B 0, .ptr lc 0] σ fun r τ => r = .i (cmpI (rankQ q c a) (rankQ q c b)) ∧ τ = σ := by
  obtain ⟨hB, hL, hm, hcc⟩ := h
  have g1 := map_look hq hR hc ha hm
  have g2 := map_look hq hR hc hb hm
  refine AC_FE (fok83 true) (Nat.le_of_ble_eq_true rfl) ?_
  simp only [ic83, evA, if_true, if_false, beq_false, simprocAttr]
  refine DW_s [16] [] hmix (by kernel_rfl) rfl ?_
  simp only [hB, hL, hcc, g1, g2, evA, if_true, if_false, beq_false, simprocAttr]
  refine kK_keep ((c84 _ _).call frz ⟨rfl, rfl⟩) rfl ?_
  simp only [evA, if_true, if_false, beq_false, simprocAttr]

theorem c86 (k last : Nat) {lv : Nat} {σ : List AObj} (h : rowOf σ lv = some [.i last]) : AC Try.prog 86 [.i k, .ptr lv 0] σ fun r τ => r = .b (k == last) ∧ τ = σ := by
  refine AC_FE (fok86 true) (Nat.le_of_ble_eq_true rfl) ?_
  have e : ((k : Int) == (last : Int)) = (k == last) := by rw [Bool.eq_iff_iff]; simp; omega
  simp only [ic86, h, e, evA, if_true, if_false, beq_false, simprocAttr]

/-- slices.MaxFunc: one of the greatest -/
theorem c82 (zs : List Nat) (rest : List AV) (R : Nat → Int) (hz : 0 < zs.length) (hn : zs.length < 2 ^ 40) {l : Nat} {σ : List AObj} (hr : rowOf σ l = some (nats zs ++ rest)) {fv : AV}
    (hf : ∀ a b, a ∈ zs → b ∈ zs → CallV Try.prog fv [.i (a : Nat), .i (b : Nat)] σ fun r τ => r = .i (cmpI (R a) (R b)) ∧ τ = σ) :
    AC Try.prog 82 [.sl l 0 zs.length 1, fv] σ fun r τ => ∃ m, (m ∈ zs ∧ ∀ k ∈ zs, R k ≤ R m) ∧ r = .i (m : Nat) ∧ τ = σ := by
  refine AC_FE (fok82 true) (Nat.le_of_ble_eq_true rfl) ?_
  have h1 : ¬ ((zs.length : Int) < 1) := by omega
  have h0 := nats_at (rest := rest) hz
  have h00 : f_iaS 1 [.sl l 0 zs.length 1, .cv (.int .i64 0)] σ = some (.ptr l 0, σ) := sl_addr (off := 0) hz σ
  have hmem : ∀ i, i < zs.length → zs[i]! ∈ zs := fun i h => by simp [h]
  simp only [ic82, h1, h00, hr, h0, evA, if_true, if_false, beq_false, simprocAttr]
  refine IL_for zs.length (fun i s => ∃ v6 v7 v2 m, (m ∈ zs ∧ ∀ j, j < i → R (zs[j]!) ≤ R m) ∧ s = ⟨[.sl l 0 zs.length 1, fv, v2, .i (m : Nat), .i i, .b false, v6, v7], σ⟩) ?_ 1 (by omega) ⟨_, _, _, zs[0]!, ⟨hmem 0 hz, fun j hj => by
    have : j = 0 := by omega
    subst this; exact Int.le_refl _⟩, rfl⟩
  rintro i s hi ⟨v6, v7, v2, m, ⟨hm, hall⟩, rfl⟩
  by_cases h : i < zs.length
  · have hget := nats_at (rest := rest) h
    simp only [ic82l0, Int.ofNat_lt, h, hr, hget, Nat.zero_add, evA, if_true, if_false, beq_false, simprocAttr]
    refine (hf _ _ (hmem i h) hm).run ?_
    by_cases hgt : R (zs[i]!) > R m
    · have hc : cmpI (R (zs[i]!)) (R m) > 0 := by unfold cmpI; rw [if_neg (by omega), if_pos hgt]; decide
      simp only [hc, h, hr, hget, Nat.zero_add, evA, if_true, if_false, beq_false, simprocAttr]
      refine kFor_go (by first | trivial | omega) ⟨_, _, _, zs[i]!, ⟨hmem i h, fun j hj => ?_⟩, by rw [wrap_succ (by omega)]⟩
      rcases Nat.lt_succ_iff_lt_or_eq.1 hj with hj | rfl
      · have := hall j hj; omega
      · exact Int.le_refl _
    · have hc : ¬ cmpI (R (zs[i]!)) (R m) > 0 := by unfold cmpI; split <;> (try split) <;> omega
      simp only [hc, evA, if_true, if_false, beq_false, simprocAttr]
      refine kFor_go (by first | trivial | omega) ⟨_, _, _, m, ⟨hm, fun j hj => ?_⟩, by rw [wrap_succ (by omega)]⟩
      rcases Nat.lt_succ_iff_lt_or_eq.1 hj with hj | rfl
      · exact hall j hj
      · omega
  · have : i = zs.length := by omega
    subst this
    simp only [ic82l0, Int.ofNat_lt, h, evA, if_true, if_false, beq_false, simprocAttr]
    refine ⟨m, ⟨hm, fun k hk => ?_⟩, rfl⟩
    obtain ⟨j, hj, rfl⟩ := List.mem_iff_getElem.1 hk
    have := hall j hj
    simpa [hj] using this

/-- slices.IndexFunc of a list that somebody writes -/
theorem idxf_open (zs : List Nat) (rest : List AV) (p : Nat → Bool) (hn : zs.length < 2 ^ 40) {l : Nat} {σ : List AObj} (hr : rowOf σ l = some (nats zs ++ rest)) {fv : AV} (hf : ∀ a, a ∈ zs → CallV Try.prog fv [.i (a : Nat)] σ fun r τ => r = .b (p a) ∧ τ = σ) :
    AC Try.prog 93 [.sl l 0 zs.length 1, fv] σ fun r τ => r = .i (idxN (fun i => p zs[i]!) zs.length) ∧ τ = σ := by
  refine AC_FE (fok93 true) (Nat.le_of_ble_eq_true rfl) ?_
  have hmem : ∀ i, i < zs.length → zs[i]! ∈ zs := fun i h => by simp [h]
  simp only [ic93, evA, if_true, if_false, beq_false, simprocAttr]
  refine IL_for zs.length (fun i s => (∀ j, j < i → p zs[j]! = false) ∧ ∃ v3 v6 v7, s = ⟨[.sl l 0 zs.length 1, fv, .i 0, v3, .i zs.length, .i i, v6, v7], σ⟩) ?_ 0 (Nat.zero_le _) ⟨by omega, _, _, _, rfl⟩
  rintro i s hi ⟨hall, v3, v6, v7, rfl⟩
  by_cases h : i < zs.length
  · have hget := nats_at (rest := rest) h
    simp only [ic93l0, Int.ofNat_lt, h, hr, hget, Nat.zero_add, evA, if_true, if_false, beq_false, simprocAttr]
    refine (hf _ (hmem i h)).run ?_
    cases hp : p zs[i]!
    · simp only [evA, if_true, if_false, beq_false, simprocAttr]
      refine kFor_go (by first | trivial | omega) ⟨fun j hj => ?_, _, _, _, by rw [wrap_in (by omega)]; rfl⟩
      rcases Nat.lt_succ_iff_lt_or_eq.1 hj with hj | rfl
      · exact hall j hj
      · exact hp
    · simp only [evA, if_true, if_false, beq_false, simprocAttr]
      exact (idxN_some (p := fun i => p zs[i]!) h hall hp).symm
  · simp only [ic93l0, Int.ofNat_lt, h, evA, if_true, if_false, beq_false, simprocAttr]
    have : i = zs.length := by omega
    subst this
    exact (idxN_none (p := fun i => p zs[i]!) hall).symm

end Go.Proofs.Ytjgolcbpgmlilaa.AM

namespace Go.Proofs.Ytjgolcbpgmlilaa.AM
open Go Go.Proofs.Ytjgolcbpgmlilaa.Qu Pl
set_option linter.unusedVariables false
set_option linter.unusedSimpArgs false

theorem filter_take {zs : List Nat} {p : Nat → Bool} {j : Nat} (h : j < zs.length) : (zs.take (j + 1)).filter p = (zs.take j).filter p ++ if p zs[j]! = true then [zs[j]!] else [] := by
  rw [List.take_add_one, List.getElem?_eq_getElem h, List.filter_append]
  have : zs[j]! = zs[j] := by simp [h]
  rw [this]
  cases hp : p zs[j] <;> simp [hp]

theorem zcells_one (n : Nat) (z : AV) : zcells n [z] = List.replicate n z := rfl

/-- slices.DeleteFunc -/
theorem c85 (zs : List Nat) (rest : List AV) (p : Nat → Bool) (I : List AObj → Prop) (hn : zs.length < 2 ^ 40) {l : Nat} {σ : List AObj} (hr : rowOf σ l = some (nats zs ++ rest)) (hI : I σ) (hIs : ∀ x, I (σ.set l x)) {fv : AV}
    (hf : ∀ a τ, a ∈ zs → I τ → CallV Try.prog fv [.i (a : Nat)] τ fun r τ' => r = .b (p a) ∧ τ' = τ) :
    AC Try.prog 85 [.sl l 0 zs.length 1, fv] σ fun r τ => r = .sl l 0 (zs.filter fun k => !p k).length 1 ∧ τ = σ.set l (.cells (nats (zs.filter fun k => !p k) ++ (List.replicate (zs.length - (zs.filter fun k => !p k).length) (.i 0) ++ rest))) := by
  refine AC_FE (fok85 true) (Nat.le_of_ble_eq_true rfl) ?_
  have hmem : ∀ i, i < zs.length → zs[i]! ∈ zs := fun i h => by simp [h]
  simp only [ic85, evA, if_true, if_false, beq_false, simprocAttr]
  refine (idxf_open zs rest p hn hr (fun a ha => hf a σ ha hI)).run ?_
  by_cases hnone : ∀ j, j < zs.length → p zs[j]! = false
  · have hidx : idxN (fun i => p zs[i]!) zs.length = -1 := idxN_none hnone
    have hfil : (zs.filter fun k => !p k) = zs := by
      rw [List.filter_eq_self]
      intro k hk
      obtain ⟨j, hj, rfl⟩ := List.mem_iff_getElem.1 hk
      have := hnone j hj
      rw [getElem!_pos zs j hj] at this
      rw [this]; rfl
    have hset : σ.set l (.cells (nats zs ++ rest)) = σ := set_rowOf (rowOf_some hr)
    simp only [hidx, hfil, Nat.sub_self, List.replicate_zero, List.nil_append, hset, evA, if_true, if_false, beq_false, simprocAttr]
  · obtain ⟨i0, hi0, hp0, hall0⟩ : ∃ i0, i0 < zs.length ∧ p zs[i0]! = true ∧ ∀ j, j < i0 → p zs[j]! = false := by
      cases hfd : (List.range zs.length).find? (fun i => p zs[i]!) with
      | none =>
        refine absurd (fun j hj => ?_) hnone
        rw [List.find?_eq_none] at hfd
        have := hfd j (List.mem_range.2 hj)
        simpa using this
      | some i0 =>
        rw [List.find?_range_eq_some] at hfd
        obtain ⟨h1, h2, h3⟩ := hfd
        exact ⟨i0, by simpa using h2, by simpa using h1, fun j hj => by simpa using h3 j hj⟩
    have hidx : idxN (fun i => p zs[i]!) zs.length = i0 := idxN_some (p := fun i => p zs[i]!) hi0 hall0 hp0
    have hb : ((i0 : Int) == -1) = false := beq_f (by omega)
    have hw0 : IntKind.i64.wrap ((i0 : Int) + 1) = ((i0 + 1 : Nat) : Int) := wrap_succ (by omega)
    obtain ⟨F, hF⟩ : ∃ F, F = fun j => (zs.take j).filter fun k => !p k := ⟨_, rfl⟩
    have hstep : ∀ j, j < zs.length → F (j + 1) = F j ++ if p zs[j]! = false then [zs[j]!] else [] := fun j hj => by
      rw [hF]
      simp only
      rw [filter_take hj]
      cases p zs[j]! <;> simp
    have hfull : F zs.length = zs.filter fun k => !p k := by rw [hF]; simp only; rw [List.take_length]
    have hlow : ∀ j, j ≤ i0 → F j = zs.take j := by
      intro j
      induction j with
      | zero => intro _; rw [hF]; simp
      | succ j ih =>
        intro hj
        rw [hstep j (by omega), ih (by omega), hall0 j (by omega), if_pos rfl, List.take_add_one, List.getElem?_eq_getElem (by omega)]
        simp [show j < zs.length by omega]
    have hlen0 : (F (i0 + 1)).length = i0 := by
      rw [hstep i0 hi0, hp0, hlow i0 (Nat.le_refl _)]
      simp; omega
    have hFd : ∀ d, i0 + 1 + d ≤ zs.length → (F (i0 + 1 + d)).length ≤ i0 + d := by
      intro d
      induction d with
      | zero => intro _; rw [Nat.add_zero, hlen0]; exact Nat.le_refl _
      | succ d ih =>
        intro hj
        have := ih (by omega)
        rw [show i0 + 1 + (d + 1) = i0 + 1 + d + 1 by omega, hstep _ (by omega), List.length_append]
        split
        · simp only [List.length_singleton]; omega
        · simp only [List.length_nil]; omega
    have hFle : ∀ j, i0 + 1 ≤ j → j ≤ zs.length → (F j).length + 1 ≤ j := fun j h1 h2 => by
      have := hFd (j - (i0 + 1)) (by omega)
      rw [show i0 + 1 + (j - (i0 + 1)) = j by omega] at this
      omega
    have hsame : σ.set l (.cells (nats zs ++ rest)) = σ := set_rowOf (rowOf_some hr)
    simp only [hidx, hb, hw0, evA, if_true, if_false, beq_false, simprocAttr]
    refine IL_for zs.length (fun j s => ∃ (row : List AV) (v5 v7 v8 : AV), (i0 + 1 ≤ j ∧ row.length = zs.length + rest.length ∧ row.take (F j).length = nats (F j) ∧ row.drop j = nats (zs.drop j) ++ rest) ∧ s = ⟨[.sl l 0 zs.length 1, fv, .cv .nils, .i ((F j).length : Nat), .i j, v5, .b false, v7, v8], σ.set l (.cells row)⟩) ?_ (i0 + 1) (by omega) ⟨nats zs ++ rest, _, _, _, ⟨Nat.le_refl _, by simp, ?_, ?_⟩, by rw [hlen0, hsame]⟩
    · rintro j s hj ⟨row, v5, v7, v8, ⟨hj0, hrl, htk, hdr⟩, rfl⟩
      have hrow : rowOf (σ.set l (.cells row)) l = some row := rowOf_set_self hr
      have hle := hFle j hj0 hj
      by_cases h : j < zs.length
      · have hget : row[j]? = some (.i (zs[j]! : Nat)) := by
          have : (row.drop j)[0]? = some (.i (zs[j]! : Nat)) := by
            rw [hdr, List.drop_eq_getElem_cons h, getElem!_pos zs j h]; rfl
          rw [List.getElem?_drop, Nat.add_zero] at this
          exact this
        have hdr' : row.drop (j + 1) = nats (zs.drop (j + 1)) ++ rest := by
          have e : row.drop (j + 1) = (row.drop j).drop 1 := by rw [List.drop_drop]
          rw [e, hdr, List.drop_eq_getElem_cons h]; rfl
        have hst := hstep j h
        simp only [ic85l0, Int.ofNat_lt, h, hrow, hget, Nat.zero_add, evA, if_true, if_false, beq_false, simprocAttr]
        refine (hf _ _ (hmem j h) (hIs _)).run ?_
        cases hp : p zs[j]!
        · rw [hp, if_pos rfl] at hst
          have hwl : (F j).length < zs.length := by omega
          have hbd : (F j).length + 1 ≤ row.length := by omega
          have hws : IntKind.i64.wrap (((F j).length : Int) + 1) = (((F (j + 1)).length : Nat) : Int) := by rw [hst, List.length_append]; exact wrap_succ (by omega)
          simp only [hwl, hrow, hbd, hws, Nat.zero_add, List.set_set, evA, if_true, if_false, beq_false, simprocAttr]
          refine kFor_go (by first | trivial | omega) ⟨row.set (F j).length (.i (zs[j]! : Nat)), _, _, _, ⟨by omega, by rw [List.length_set]; exact hrl, ?_, ?_⟩, by rw [wrap_succ (by omega)]⟩
          · rw [hst, List.length_append, List.length_singleton, List.take_add_one, List.take_set, List.getElem?_set_self (by omega), htk, List.set_eq_of_length_le (by simp)]
            simp [nats]
          · rw [List.drop_set, if_pos (by omega)]; exact hdr'
        · rw [hp, if_neg (by decide), List.append_nil] at hst
          simp only [evA, if_true, if_false, beq_false, simprocAttr]
          exact kFor_go (by first | trivial | omega) ⟨row, _, _, _, ⟨by omega, hrl, by rw [hst]; exact htk, hdr'⟩, by rw [wrap_succ (by omega), hst]⟩
      · have : j = zs.length := by omega
        subst this
        rw [hfull] at htk hle ⊢
        obtain ⟨w, hw⟩ : ∃ w, w = (zs.filter fun k => !p k).length := ⟨_, rfl⟩
        rw [← hw] at htk hle ⊢
        have hdr0 : row.drop zs.length = rest := by rw [hdr]; simp
        have hbd : w + (zs.length - w) ≤ row.length := by omega
        have hsr : setRange row w (List.replicate (zs.length - w) (AV.i 0)) = nats (zs.filter fun k => !p k) ++ (List.replicate (zs.length - w) (AV.i 0) ++ rest) := by
          rw [setRange_eq _ _ _ (by rw [List.length_replicate]; omega), List.length_replicate, show w + (zs.length - w) = zs.length by omega, hdr0, htk, List.append_assoc]
        simp only [ic85l0, Int.ofNat_lt, h, slo_open (show w < zs.length by omega), shi_open (show w ≤ zs.length by omega), f_clear, hrow, hbd, zcells_one, hsr, List.set_set, evA, if_true, if_false, beq_false, simprocAttr]
    · rw [hlen0]
      rw [List.take_append_of_le_length (by simp; omega)]
      have := hlow i0 (Nat.le_refl _)
      rw [hstep i0 hi0, hp0, this]
      simp
    · rw [List.drop_append_of_le_length (by simp; omega)]
      simp

end Go.Proofs.Ytjgolcbpgmlilaa.AM

namespace Go.Proofs.Ytjgolcbpgmlilaa.AM
open Go Go.Proofs.Ytjgolcbpgmlilaa.Qu Pl
set_option linter.unusedVariables false
set_option linter.unusedSimpArgs false

/-- a list of learners that lies at a place from b on, or is nil -/
def KAt (τ : List AObj) (b : Nat) (v : AV) (zs : List Nat) : Prop := (v = .cv .nils ∧ zs = []) ∨ ∃ l rest, b ≤ l ∧ v = .sl l 0 zs.length 1 ∧ rowOf τ l = some (nats zs ++ rest)

def capsA (B : Nat) : List AV := [.ptr (B + 4) 0, .ptr (B + 5) 0, .ptr B 0, .ptr (B + 6) 0, .ptr (B + 7) 0]

structure Rep (q : QL) (σ0 : List AObj) (L : Nat) (s : Qu.St) (τ : List AObj) : Prop where
  old : ∀ l, l < σ0.length → τ[l]? = σ0[l]?
  sz : σ0.length + 8 ≤ τ.length
  r0 : rowOf τ σ0.length = some [.ptr L 0]
  r1 : rowOf τ (σ0.length + 1) = some ((listN q.ls.length s.g).map AV.i)
  r2 : rowOf τ (σ0.length + 2) = some ((listN q.ls.length fun k => (s.a k : Int)).map AV.i)
  r3 : ∃ kc : List AV, rowOf τ (σ0.length + 3) = some kc ∧ kc.length = q.cs.length ∧ (∀ c, c < q.cs.length → KAt τ (σ0.length + 8) (kc.getD c .undef) (s.ks c)) ∧
    ∀ c d, c < q.cs.length → d < q.cs.length → c ≠ d → ∀ l n l' n', kc.getD c .undef = .sl l 0 n 1 → kc.getD d .undef = .sl l' 0 n' 1 → l ≠ l'
  r4 : rowOf τ (σ0.length + 4) = some [.slc (σ0.length + 1) 0 q.ls.length q.ls.length 1]
  r5 : rowOf τ (σ0.length + 5) = some [.slc (σ0.length + 2) 0 q.ls.length q.ls.length 1]
  r6 : rowOf τ (σ0.length + 6) = some [.slc (σ0.length + 3) 0 q.cs.length q.cs.length 1]
  r7 : rowOf τ (σ0.length + 7) = some [.fn (.func 81) (capsA σ0.length)]

section
variable {q : QL} {σ0 : List AObj} {L : Nat} {s : Qu.St} {τ : List AObj}

theorem rowOf_eq {σ τ : List AObj} {l : Nat} (h : τ[l]? = σ[l]?) : rowOf τ l = rowOf σ l := by unfold rowOf; rw [h]
theorem mapOf_eq {σ τ : List AObj} {l : Nat} (h : τ[l]? = σ[l]?) : mapOf τ l = mapOf σ l := by unfold mapOf; rw [h]

theorem KAt.keep {τ τ' : List AObj} {b : Nat} {v : AV} {zs : List Nat} (h : KAt τ b v zs) (hk : ∀ l n, v = .sl l 0 n 1 → τ'[l]? = τ[l]?) : KAt τ' b v zs := by
  rcases h with h | ⟨l, rest, h1, h2, h3⟩
  · exact .inl h
  · exact .inr ⟨l, rest, h1, h2, by rw [rowOf_eq (hk l _ h2)]; exact h3⟩

theorem KAt.ge {τ : List AObj} {b : Nat} {v : AV} {zs : List Nat} (h : KAt τ b v zs) {l n : Nat} (hv : v = .sl l 0 n 1) : b ≤ l ∧ l < τ.length := by
  rcases h with ⟨h, _⟩ | ⟨l', rest, h1, h2, h3⟩
  · rw [h] at hv; cases hv
  · rw [h2] at hv; cases hv; exact ⟨h1, (List.getElem?_eq_some_iff.1 (rowOf_some h3)).1⟩

/-- who is given what, in the row -/
theorem Rep.setG (h : Rep q σ0 L s τ) (g : Nat → Int) : Rep q σ0 L { s with g := g } (τ.set (σ0.length + 1) (.cells ((listN q.ls.length g).map AV.i))) := by
  obtain ⟨kc, k1, k2, k3, k4⟩ := h.r3
  refine ⟨fun l hl => by rw [List.getElem?_set_ne (by omega)]; exact h.old l hl, by rw [List.length_set]; exact h.sz, ?_, rowOf_set_self h.r1, ?_, ⟨kc, ?_, k2, fun c hc => (k3 c hc).keep fun l n hv => ?_, k4⟩, ?_, ?_, ?_, ?_⟩
  · rw [rowOf_set_ne (by omega)]; exact h.r0
  · rw [rowOf_set_ne (by omega)]; exact h.r2
  · rw [rowOf_set_ne (by omega)]; exact k1
  · rw [List.getElem?_set_ne (by have := (k3 c hc).ge hv; omega)]
  · rw [rowOf_set_ne (by omega)]; exact h.r4
  · rw [rowOf_set_ne (by omega)]; exact h.r5
  · rw [rowOf_set_ne (by omega)]; exact h.r6
  · rw [rowOf_set_ne (by omega)]; exact h.r7
theorem Rep.setA (h : Rep q σ0 L s τ) (a : Nat → Nat) : Rep q σ0 L { s with a := a } (τ.set (σ0.length + 2) (.cells ((listN q.ls.length fun k => (a k : Int)).map AV.i))) := by
  obtain ⟨kc, k1, k2, k3, k4⟩ := h.r3
  refine ⟨fun l hl => by rw [List.getElem?_set_ne (by omega)]; exact h.old l hl, by rw [List.length_set]; exact h.sz, ?_, ?_, rowOf_set_self h.r2, ⟨kc, ?_, k2, fun c hc => (k3 c hc).keep fun l n hv => ?_, k4⟩, ?_, ?_, ?_, ?_⟩
  · rw [rowOf_set_ne (by omega)]; exact h.r0
  · rw [rowOf_set_ne (by omega)]; exact h.r1
  · rw [rowOf_set_ne (by omega)]; exact k1
  · rw [List.getElem?_set_ne (by have := (k3 c hc).ge hv; omega)]
  · rw [rowOf_set_ne (by omega)]; exact h.r4
  · rw [rowOf_set_ne (by omega)]; exact h.r5
  · rw [rowOf_set_ne (by omega)]; exact h.r6
  · rw [rowOf_set_ne (by omega)]; exact h.r7
theorem Rep.push (h : Rep q σ0 L s τ) (J : List AObj) : Rep q σ0 L s (τ ++ J) := by
  obtain ⟨kc, k1, k2, k3, k4⟩ := h.r3
  have hsz := h.sz
  refine ⟨fun l hl => by rw [List.getElem?_append_left (by omega)]; exact h.old l hl, by rw [List.length_append]; omega, rowOf_low h.r0 J, rowOf_low h.r1 J, rowOf_low h.r2 J, ⟨kc, rowOf_low k1 J, k2, fun c hc => (k3 c hc).keep fun l n hv => ?_, k4⟩, rowOf_low h.r4 J, rowOf_low h.r5 J, rowOf_low h.r6 J, rowOf_low h.r7 J⟩
  rw [List.getElem?_append_left ((k3 c hc).ge hv).2]

/-- another list is kept at a centre -/
theorem Rep.setK (h : Rep q σ0 L s τ) {kc : List AV} (hkc : rowOf τ (σ0.length + 3) = some kc) {c : Nat} (hc : c < q.cs.length) {τ' : List AObj} {v' : AV} {zs' : List Nat} (hsz : τ.length ≤ τ'.length)
    (hsame : ∀ l, l < τ.length → l ≠ σ0.length + 3 → (∀ n, kc.getD c .undef ≠ .sl l 0 n 1) → τ'[l]? = τ[l]?) (hrow : rowOf τ' (σ0.length + 3) = some (kc.set c v')) (hv : KAt τ' (σ0.length + 8) v' zs')
    (hnew : ∀ l n, v' = .sl l 0 n 1 → τ.length ≤ l ∨ ∃ n', kc.getD c .undef = .sl l 0 n' 1) : Rep q σ0 L { s with ks := upd s.ks c zs' } τ' := by
  obtain ⟨kc', k1, k2, k3, k4⟩ := h.r3
  rw [hkc] at k1; cases k1
  have hs0 := h.sz
  have hold : ∀ l, l < σ0.length + 8 → l ≠ σ0.length + 3 → τ'[l]? = τ[l]? := fun l hl hne => hsame l (by omega) hne fun n hn => by have := (k3 c hc).ge hn; omega
  have get_ne : ∀ d, d ≠ c → (kc.set c v').getD d .undef = kc.getD d .undef := fun d hd => by
    rw [List.getD_eq_getElem?_getD, List.getD_eq_getElem?_getD, List.getElem?_set_ne (Ne.symm hd)]
  have get_self : (kc.set c v').getD c .undef = v' := by
    rw [List.getD_eq_getElem?_getD, List.getElem?_set_self (by omega)]; rfl
  refine ⟨fun l hl => by rw [hold l (by omega) (by omega)]; exact h.old l hl, by omega, ?_, ?_, ?_, ⟨kc.set c v', hrow, by rw [List.length_set]; exact k2, fun d hd => ?_, fun d e hd he hne l n l' n' h1 h2 => ?_⟩, ?_, ?_, ?_, ?_⟩
  · rw [rowOf_eq (hold _ (by omega) (by omega))]; exact h.r0
  · rw [rowOf_eq (hold _ (by omega) (by omega))]; exact h.r1
  · rw [rowOf_eq (hold _ (by omega) (by omega))]; exact h.r2
  · by_cases e : d = c
    · subst e; rw [get_self]
      show KAt τ' _ v' (upd s.ks d zs' d)
      rw [upd_same]; exact hv
    · rw [get_ne d e]
      show KAt τ' _ _ (upd s.ks c zs' d)
      rw [upd_ne _ _ e]
      refine (k3 d hd).keep fun l n hl => hsame l ((k3 d hd).ge hl).2 (by have := (k3 d hd).ge hl; omega) fun n' hn' => k4 c d hc hd (Ne.symm e) l n' l n hn' hl rfl
  · by_cases e1 : d = c
    · subst e1
      rw [get_self] at h1
      rw [get_ne e (Ne.symm hne)] at h2
      rcases hnew l n h1 with h3 | ⟨n3, h3⟩
      · have := (k3 e he).ge h2; omega
      · exact k4 d e hd he hne l n3 l' n' h3 h2
    · by_cases e2 : e = c
      · subst e2
        rw [get_self] at h2
        rw [get_ne d e1] at h1
        rcases hnew l' n' h2 with h3 | ⟨n3, h3⟩
        · have := (k3 d hd).ge h1; omega
        · exact k4 d e hd he hne l n l' n3 h1 h3
      · rw [get_ne d e1] at h1
        rw [get_ne e e2] at h2
        exact k4 d e hd he hne l n l' n' h1 h2
  · rw [rowOf_eq (hold _ (by omega) (by omega))]; exact h.r4
  · rw [rowOf_eq (hold _ (by omega) (by omega))]; exact h.r5
  · rw [rowOf_eq (hold _ (by omega) (by omega))]; exact h.r6
  · rw [rowOf_eq (hold _ (by omega) (by omega))]; exact h.r7
end

/-- one learner more in a list that is kept -/
theorem kat_append {τ : List AObj} {b : Nat} {v : AV} {zs : List Nat} (h : KAt τ b v zs) (hb : b ≤ τ.length) (x : Nat) (hn : zs.length < 2 ^ 40) :
    ∃ σ', f_append 1 8 [v, .sl τ.length 0 1 1] (τ ++ [AObj.cells [.i x]]) = some (.sl (τ.length + 1) 0 (zs.length + 1) 1, σ') ∧ rowOf σ' (τ.length + 1) = some (nats (zs ++ [x])) ∧
      (∀ l, l < τ.length + 1 → (∀ n, v ≠ .sl l 0 n 1) → σ'[l]? = (τ ++ [AObj.cells [.i x]])[l]?) ∧ σ'.length = τ.length + 2 := by
  have hsrc : srcCells (τ ++ [AObj.cells [.i x]]) 1 (.sl τ.length 0 1 1) = some [.i x] := by simp [srcCells, rowOf]
  have hp : (2 : Nat) ^ 40 = 1099511627776 := by decide
  have hp2 : (2 : Nat) ^ 44 = 17592186044416 := by decide
  rcases h with ⟨rfl, rfl⟩ | ⟨l, rest, hbl, rfl, hr⟩
  · refine ⟨τ ++ [AObj.cells [.i x]] ++ [AObj.cells [.i x]], ?_, ?_, fun l hl _ => ?_, by simp⟩
    · simp only [f_append, hsrc, lenF, Option.bind_some]
      simp [AV.isSc]
    · have := rowOf_last (τ ++ [AObj.cells [.i x]]) [.i x]
      simpa using this
    · rw [List.getElem?_append_left (by simp; omega)]
  · have hlt := (List.getElem?_eq_some_iff.1 (rowOf_some hr)).1
    have hr' := rowOf_push hr (AObj.cells [.i x])
    refine ⟨(τ ++ [AObj.cells [.i x]]).set l AObj.dead ++ [AObj.cells (nats zs ++ [.i x])], ?_, ?_, fun k hk hne => ?_, by simp⟩
    · simp only [f_append, hr', hsrc, lenF, Option.bind_some]
      have hc : (True ∧ zs.length * 1 ≤ (nats zs ++ rest).length ∧ 1 * 1 = [AV.i x].length ∧ (zs.length + 1) * 8 ≤ 2 ^ 44 ∧ zs.length + 1 ≤ 2 ^ 44 ∧ [AV.i x].all AV.isSc = true) := by
        refine ⟨trivial, by simp, rfl, by omega, by omega, rfl⟩
      rw [if_pos hc, Nat.mul_one, List.take_append_of_le_length (by simp), List.take_of_length_le (by simp)]
      simp
    · have h1 : τ.length + 1 = ((τ ++ [AObj.cells [.i x]]).set l AObj.dead).length := by simp
      rw [h1, rowOf_last]; simp [nats]
    · have hkl : k ≠ l := fun e => hne zs.length (by rw [e])
      rw [List.getElem?_append_left (by simp; omega), List.getElem?_set_ne (Ne.symm hkl)]

end Go.Proofs.Ytjgolcbpgmlilaa.AM

namespace Go.Proofs.Ytjgolcbpgmlilaa.AM
open Go Go.Proofs.Ytjgolcbpgmlilaa.Qu Pl
set_option linter.unusedVariables false
set_option linter.unusedSimpArgs false

def muS (q : QL) (s : Qu.St) : Nat := sumTo q.ls.length fun k => (q.ls[k]!).wi.length - s.a k

theorem listN_upd {n : Nat} {f : Nat → Int} {i : Nat} (h : i < n) (z : Int) : ((listN n f).map AV.i).set i (.i z) = (listN n (upd f i z)).map AV.i := by
  rw [← List.map_set, listN_set h]; rfl
theorem listN_updN {n : Nat} {f : Nat → Nat} {i : Nat} (h : i < n) (z : Nat) : ((listN n fun k => (f k : Int)).map AV.i).set i (.i (z : Int)) = (listN n fun k => ((upd f i z k : Nat) : Int)).map AV.i := by
  rw [← List.map_set, listN_set h]
  congr 1
  refine listN_congr fun k hk => ?_
  unfold upd
  split <;> rfl

theorem muS_lt {q : QL} {s : Qu.St} {x : Nat} (hx : x < q.ls.length) (h : s.a x < (q.ls[x]!).wi.length) (g : Nat → Int) (ks : Nat → List Nat) : muS q ⟨g, upd s.a x (s.a x + 1), ks⟩ < muS q s := by
  unfold muS
  refine Nat.lt_of_not_le fun hle => ?_
  have := sumTo_same (m := q.ls.length) (f := fun k => (q.ls[k]!).wi.length - upd s.a x (s.a x + 1) k) (g := fun k => (q.ls[k]!).wi.length - s.a k) (fun k _ => by
    simp only [upd]; split
    · rename_i e; subst e; omega
    · exact Nat.le_refl _) hle x hx
  simp only [upd, if_true] at this
  omega

theorem ask {q : QL} (hq : QSz q) (he : QOk q) {tr : List (Nat × Nat × Nat)} (hR : RanksAt q q.cs.length 0 tr) {σ0 : List AObj} {L lm : Nat} (hL0 : rowOf σ0 L = some [cenL q.cs, leaL q.ls, .map lm]) (hm0 : mapOf σ0 lm = some (esT tr)) (t : Nat) : ∀ (N : Nat) (s : Qu.St) (x : Nat) (τ : List AObj), muS q s < N → (mk q).Inv t (some x) s → Rep q σ0 L s τ →
    AC Try.prog 81 (.i x :: capsA σ0.length) τ fun r τ' => r = .tup [] ∧ ∃ s', (mk q).Inv t none s' ∧ Rep q σ0 L s' τ' := by
  obtain ⟨hc5, hl8, hLe, hCe⟩ := id he
  have hLlt := (List.getElem?_eq_some_iff.1 (rowOf_some hL0)).1
  intro N
  induction N with
  | zero => intro s x τ hmu; omega
  | succ N ih =>
    intro s x τ hmu hI hRep
    have hxt := hI.xt x rfl
    have htn : t ≤ q.ls.length := hI.tn
    have hx : x < q.ls.length := by omega
    have hxg : x < (listN q.ls.length s.g).length := by rw [listN_len]; exact hx
    have hset1 := listN_upd (f := s.g) hx (-1)
    refine AC_FE (fok81 true) (Nat.le_of_ble_eq_true rfl) ?_
    simp only [ic81, capsA, hRep.r4, hRep.r1, hset1, hx, show x + 1 ≤ (listN q.ls.length s.g).length from hxg, Nat.zero_add, evA, if_true, if_false, beq_false, simprocAttr]
    have hRep1 := hRep.setG (upd s.g x (-1))
    generalize τ.set (σ0.length + 1) (.cells ((listN q.ls.length (upd s.g x (-1))).map AV.i)) = τ1 at hRep1 ⊢
    have hLr : rowOf τ1 L = some [cenL q.cs, leaL q.ls, .map lm] := by rw [rowOf_eq (hRep1.old L hLlt)]; exact hL0
    refine DW_s [] [] hmix (by kernel_rfl) rfl ?_
    have hxa : x < (listN q.ls.length fun k => (s.a k : Int)).length := by rw [listN_len]; exact hx
    have hga : (listN q.ls.length fun k => (s.a k : Int))[x]?.getD 0 = (s.a x : Int) := listN_get hx
    simp only [hRep1.r5, hRep1.r2, hRep1.r0, hLr, hx, hxa, hga, ia_rsl hx, lea_4 hx, Nat.zero_add, evA, if_true, if_false, beq_false, simprocAttr]
    have hwx : (mk q).w x = (q.ls[x]!).wi.map Int.toNat := rfl
    by_cases hlast : s.a x = (q.ls[x]!).wi.length
    · have hb : ((s.a x : Int) == ((q.ls[x]!).wi.length : Int)) = true := by simp [hlast]
      simp only [hb, evA, if_true, if_false, beq_false, simprocAttr]
      exact ⟨_, hI.noneLeft (by rw [hwx, List.length_map]; exact hlast), hRep1⟩
    have hb : ((s.a x : Int) == ((q.ls[x]!).wi.length : Int)) = false := beq_f (by omega)
    have hal := hI.al x hxt
    rw [hwx, List.length_map] at hal
    have hlt : s.a x < (q.ls[x]!).wi.length := by omega
    have hcm := (hLe x hx).wi _ (List.getElem_mem hlt)
    obtain ⟨c, hce⟩ : ∃ c : Nat, (q.ls[x]!).wi[s.a x]?.getD 0 = (c : Int) := ⟨((q.ls[x]!).wi[s.a x]?.getD 0).toNat, by rw [List.getElem?_eq_getElem hlt]; simp only [Option.getD_some]; omega⟩
    have hcl : c < q.cs.length := by rw [List.getElem?_eq_getElem hlt] at hce; simp only [Option.getD_some] at hce; omega
    have hwc : ((mk q).w x)[s.a x]? = some c := by
      rw [hwx, List.getElem?_map, List.getElem?_eq_getElem hlt]
      rw [List.getElem?_eq_getElem hlt] at hce
      simp only [Option.getD_some] at hce
      rw [hce]; simp
    simp only [hb, evA, if_true, if_false, beq_false, simprocAttr]
    refine DW_s [] [(0, 15), (4, 15), (8, 15), (9, 15), (12, 15), (14, 15)] hmix (by kernel_rfl) rfl ?_
    have k0 := fun J => get_low hRep1.r0 J
    have kL := fun J => get_low hLr J
    have k5 := fun J => get_low hRep1.r5 J
    have k2 := fun J => get_low hRep1.r2 J
    simp only [hRep1.r5, hRep1.r2, hRep1.r0, hLr, hx, hxa, hga, hlt, hce, ia_rsl hx, lea_4 hx, Nat.zero_add, List.append_assoc, List.length_append, rowOf_az, rowOf_as, set_az, set_as, get_az, get_as, get_nz, get_ns, k0, kL, k5, k2, rowOf_some hRep1.r0, rowOf_some hLr, rowOf_some hRep1.r5, rowOf_some hRep1.r2, evA, if_true, if_false, beq_false, simprocAttr]
    have hRep2 := hRep1.push [.cells [.i c]]
    have hc6 : rowOf (τ1 ++ [.cells [.i c]]) τ1.length = some [.i c] := rowOf_last _ _
    have hlc : σ0.length + 8 ≤ τ1.length := hRep1.sz
    obtain ⟨kc, kk0, kk2, kk3, _⟩ := hRep1.r3
    have hlcne : ∀ n, kc.getD c .undef ≠ .sl τ1.length 0 n 1 := fun n hv => by have := (kk3 c hcl).ge hv; omega
    have kk1 := rowOf_low kk0 [.cells [.i c]]
    clear kk3
    generalize hlcv : τ1.length = lc at hc6 hlc hlcne ⊢
    generalize τ1 ++ [.cells [.i c]] = τ2 at hRep2 hc6 kk1 ⊢
    have hL2 : rowOf τ2 L = some [cenL q.cs, leaL q.ls, .map lm] := by rw [rowOf_eq (hRep2.old L hLlt)]; exact hL0
    have hset2 := listN_updN (f := s.a) hx (s.a x + 1)
    have hwi := hq.wi x hx
    have hws : IntKind.i64.wrap ((s.a x : Int) + 1) = ((s.a x + 1 : Nat) : Int) := wrap_succ (by omega)
    simp only [hRep2.r5, hRep2.r2, hx, hxa, hga, hws, hset2, show x + 1 ≤ (listN q.ls.length fun k => (s.a k : Int)).length from hxa, Nat.zero_add, evA, if_true, if_false, beq_false, simprocAttr]
    have hRep3 := hRep2.setA (upd s.a x (s.a x + 1))
    have hc6' : rowOf (τ2.set (σ0.length + 2) (.cells ((listN q.ls.length fun k => ((upd s.a x (s.a x + 1) k : Nat) : Int)).map AV.i))) lc = some [.i c] := by rw [rowOf_set_ne (by omega)]; exact hc6
    clear hc6
    have kk1' : rowOf (τ2.set (σ0.length + 2) (.cells ((listN q.ls.length fun k => ((upd s.a x (s.a x + 1) k : Nat) : Int)).map AV.i))) (σ0.length + 3) = some kc := by rw [rowOf_set_ne (by omega)]; exact kk1
    clear kk1
    generalize τ2.set (σ0.length + 2) (.cells ((listN q.ls.length fun k => ((upd s.a x (s.a x + 1) k : Nat) : Int)).map AV.i)) = τ3 at hRep3 hc6' kk1' ⊢
    have hxg3 : x < (listN q.ls.length (upd s.g x (-1))).length := by rw [listN_len]; exact hx
    have hset3 := listN_upd (f := upd s.g x (-1)) hx (c : Int)
    simp only [hRep3.r4, hRep3.r1, hc6', hx, hset3, show x + 1 ≤ (listN q.ls.length (upd s.g x (-1))).length from hxg3, Nat.zero_add, evA, if_true, if_false, beq_false, simprocAttr]
    have hRep4 := hRep3.setG (upd (upd s.g x (-1)) x (c : Int))
    have hc4 : rowOf (τ3.set (σ0.length + 1) (.cells ((listN q.ls.length (upd (upd s.g x (-1)) x (c : Int))).map AV.i))) lc = some [.i c] := by rw [rowOf_set_ne (by omega)]; exact hc6'
    clear hc6'
    have kk1 : rowOf (τ3.set (σ0.length + 1) (.cells ((listN q.ls.length (upd (upd s.g x (-1)) x (c : Int))).map AV.i))) (σ0.length + 3) = some kc := by rw [rowOf_set_ne (by omega)]; exact kk1'
    clear kk1'
    generalize τ3.set (σ0.length + 1) (.cells ((listN q.ls.length (upd (upd s.g x (-1)) x (c : Int))).map AV.i)) = τ4 at hRep4 hc4 kk1 ⊢
    have hupd : upd (upd s.g x (-1)) x (c : Int) = upd s.g x (c : Int) := by funext k; unfold upd; split <;> rfl
    rw [hupd] at hRep4
    have hkat : KAt τ4 (σ0.length + 8) (kc.getD c .undef) (s.ks c) := by
      obtain ⟨kc', g1, _, g3, _⟩ := hRep4.r3
      rw [kk1] at g1; cases g1
      exact g3 c hcl
    have hckc : c < kc.length := by omega
    have hkv : kc[c]? = some (kc.getD c .undef) := by rw [List.getD_eq_getElem?_getD, List.getElem?_eq_getElem hckc]; rfl
    obtain ⟨v, hv⟩ : ∃ v, kc.getD c .undef = v := ⟨_, rfl⟩
    rw [hv] at hkat hkv hlcne
    have hsz4 := hRep4.sz
    have hkslen : (s.ks c).length ≤ 8 := by
      have h1 := hI.cap c
      have h2 := (hCe c hcl).pl
      have h3 : (mk q).q c = ((q.cs[c]!).pl).toNat := rfl
      omega
    obtain ⟨σ', happ, hnr, hsm, hsl⟩ := kat_append hkat hsz4 x (by show (s.ks c).length < _; omega)
    have hne : ∀ l, l < σ0.length + 8 → ∀ n, v ≠ .sl l 0 n 1 := fun l hl n hv => by have := hkat.ge hv; omega
    have e3 : σ'[σ0.length + 3]? = (τ4 ++ [AObj.cells [.i x]])[σ0.length + 3]? := hsm _ (by omega) (hne _ (by omega))
    have e6 : σ'[σ0.length + 6]? = (τ4 ++ [AObj.cells [.i x]])[σ0.length + 6]? := hsm _ (by omega) (hne _ (by omega))
    have hlc4 : lc < τ4.length := (List.getElem?_eq_some_iff.1 (rowOf_some hc4)).1
    have ec : σ'[lc]? = (τ4 ++ [AObj.cells [.i x]])[lc]? := hsm _ (by omega) hlcne
    have k3 := fun J => get_low kk1 J
    have k6 := fun J => get_low hRep4.r6 J
    have kc4 := fun J => get_low hc4 J
    have hrow3 : rowOf σ' (σ0.length + 3) = some kc := by rw [rowOf_eq e3]; exact rowOf_low kk1 _
    refine DW_s [] [(0, 7), (0, 8), (1, 7), (1, 8), (2, 7), (3, 7), (5, 7)] hmix (by kernel_rfl) rfl ?_
    simp only [f_bslice, hRep4.r6, hc4, kk1, hcl, hkv, happ, hrow3, e3, e6, ec, k3, k6, kc4, kk2, show c + 1 ≤ q.cs.length from hcl, rowOf_some hRep4.r6, rowOf_some hc4, rowOf_some kk1, Nat.zero_add, evA, if_true, if_false, beq_false, simprocAttr]
    obtain ⟨Z, hZ⟩ : ∃ Z, Z = s.ks c ++ [x] := ⟨_, rfl⟩
    have hZl : Z.length = (s.ks c).length + 1 := by rw [hZ]; simp
    rw [← hZl]
    rw [← hZ] at hnr
    obtain ⟨v5, hv5⟩ : ∃ v5, v5 = AV.sl (τ4.length + 1) 0 Z.length 1 := ⟨_, rfl⟩
    have hRep5 : Rep q σ0 L ⟨upd s.g x (c : Int), upd s.a x (s.a x + 1), upd s.ks c Z⟩ (σ'.set (σ0.length + 3) (.cells (kc.set c v5))) := by
      refine hRep4.setK kk1 hcl (v' := v5) (by rw [List.length_set, hsl]; omega) (fun l hl hl3 hnv => ?_) (rowOf_set_self hrow3) ?_ (fun l n hl => ?_)
      · rw [hv] at hnv
        rw [List.getElem?_set_ne (Ne.symm hl3), hsm l (by omega) hnv, List.getElem?_append_left hl]
      · exact .inr ⟨τ4.length + 1, [], by omega, hv5, by rw [rowOf_set_ne (by omega), List.append_nil]; exact hnr⟩
      · rw [hv5] at hl; cases hl; exact .inl (by omega)
    have hlc3 : lc ≠ σ0.length + 3 := by omega
    have hc5 : rowOf (σ'.set (σ0.length + 3) (.cells (kc.set c v5))) lc = some [.i c] := by rw [rowOf_set_ne (Ne.symm hlc3), rowOf_eq ec]; exact rowOf_low hc4 _
    have hk5 : rowOf (σ'.set (σ0.length + 3) (.cells (kc.set c v5))) (σ0.length + 3) = some (kc.set c v5) := rowOf_set_self hrow3
    have hz5 : rowOf (σ'.set (σ0.length + 3) (.cells (kc.set c v5))) (τ4.length + 1) = some (nats Z) := by rw [rowOf_set_ne (by omega)]; exact hnr
    have hs5 : (σ'.set (σ0.length + 3) (.cells (kc.set c v5))).length = τ4.length + 2 := by rw [List.length_set]; exact hsl
    rw [← hv5]
    generalize σ'.set (σ0.length + 3) (.cells (kc.set c v5)) = τ5 at hRep5 hc5 hk5 hz5 hs5 ⊢
    have hkc5 : (kc.set c v5)[c]? = some (.sl (τ4.length + 1) 0 Z.length 1) := by rw [List.getElem?_set_self hckc, hv5]
    have hL5 : rowOf τ5 L = some [cenL q.cs, leaL q.ls, .map lm] := by rw [rowOf_eq (hRep5.old L hLlt)]; exact hL0
    refine DW_s [] [] hmix (by kernel_rfl) rfl ?_
    simp only [hRep5.r6, hRep5.r0, hL5, hc5, hk5, hkc5, hcl, ia_rsl hcl, cen_1 hcl, Nat.zero_add, evA, if_true, if_false, beq_false, simprocAttr]
    by_cases hfit : (Z.length : Int) ≤ (q.cs[c]!).pl
    · simp only [hfit, evA, if_true, if_false, beq_false, simprocAttr]
      refine ⟨_, hI.keep hwc ?_, by rw [hZ] at hRep5; exact hRep5⟩
      show _ ≤ (q.cs[c]!).pl.toNat
      omega
    simp only [hfit, hRep5.r6, hc5, hk5, hkc5, hcl, Nat.zero_add, evA, if_true, if_false, beq_false, simprocAttr]
    have hZm : ∀ k ∈ Z, k < q.ls.length := by
      intro k hk
      rw [hZ] at hk
      rcases List.mem_append.1 hk with hk | hk
      · have := (hI.mem c k hk).1; omega
      · rw [List.mem_singleton] at hk; omega
    have hlm : lm < σ0.length := by
      unfold mapOf at hm0
      split at hm0
      · rename_i hh; exact (List.getElem?_eq_some_iff.1 hh).1
      · cases hm0
    have hrk : RkAt q tr σ0.length lc L lm c τ5 := ⟨hRep5.r0, hL5, by rw [mapOf_eq (hRep5.old lm hlm)]; exact hm0, hc5⟩
    refine (c82 Z [] (fun k => (rankQ q c k : Int)) (by omega) (by omega) (l := τ4.length + 1) (σ := τ5) (by rw [List.append_nil]; exact hz5) (fv := .fn (.func 83) [.ptr σ0.length 0, .ptr lc 0]) (fun a b ha hb => c83 q hq hR hcl (hZm a ha) (hZm b hb) hrk)).mono ?_
    rintro r τ' ⟨last, ⟨hm1, hm2⟩, rfl, rfl⟩
    simp only [List.append_assoc, List.length_append, rowOf_az, rowOf_as, set_az, set_as, get_az, get_as, get_nz, get_ns, evA, if_true, if_false, beq_false, simprocAttr]
    have hRep6 := hRep5.push [.cells [.i (last : Nat)]]
    have hl6 : rowOf (τ' ++ [AObj.cells [.i (last : Nat)]]) τ'.length = some [.i (last : Nat)] := rowOf_last _ _
    have hc6 := rowOf_low hc5 [AObj.cells [.i (last : Nat)]]
    have hk6 := rowOf_low hk5 [AObj.cells [.i (last : Nat)]]
    have hz6 := rowOf_low hz5 [AObj.cells [.i (last : Nat)]]
    have hs6 : (τ' ++ [AObj.cells [.i (last : Nat)]]).length = τ4.length + 3 := by simp [hs5]
    rw [hs5] at hl6 ⊢
    generalize τ' ++ [AObj.cells [.i (last : Nat)]] = τ6 at hRep6 hl6 hc6 hk6 hz6 hs6 ⊢
    refine DW_s [] [(0, 7), (1, 7)] hmix (by kernel_rfl) rfl ?_
    have hlc6 : lc < τ4.length := hlc4
    obtain ⟨W, hW⟩ : ∃ W, W = Z.filter fun k => !(k == last) := ⟨_, rfl⟩
    have hdel := c85 Z [] (fun k => k == last) (fun τ => rowOf τ (τ4.length + 2) = some [.i (last : Nat)]) (by omega) (l := τ4.length + 1) (σ := τ6) (by rw [List.append_nil]; exact hz6) hl6 (fun x => by rw [rowOf_set_ne (by omega)]; exact hl6) (fv := .fn (.func 86) [.ptr (τ4.length + 2) 0]) (fun a τ _ hI => c86 a last hI)
    rw [← hW, List.append_nil] at hdel
    simp only [hRep6.r6, hc6, hk6, hkc5, hcl, Nat.zero_add, evA, if_true, if_false, beq_false, simprocAttr]
    refine kK_turn hdel (callOk_set ?_ ?_) ?_
    · simp only [locsIn, decide_eq_true_eq]; omega
    · simp only [objIn]
      rw [locsInAll_append (by simp [locsInAll_iff, nats, locsIn]) (by simp [locsInAll_iff, locsIn])]
    have hRep8 : Rep q σ0 L ⟨upd s.g x (c : Int), upd s.a x (s.a x + 1), upd (upd s.ks c Z) c W⟩ ((τ6.set (τ4.length + 1) (.cells (nats W ++ List.replicate (Z.length - W.length) (.i 0)))).set (σ0.length + 3) (.cells ((kc.set c v5).set c (.sl (τ4.length + 1) 0 W.length 1)))) := by
      have hg5 : (kc.set c v5).getD c .undef = .sl (τ4.length + 1) 0 Z.length 1 := by rw [List.getD_eq_getElem?_getD, hkc5]; rfl
      refine hRep6.setK hk6 hcl (v' := .sl (τ4.length + 1) 0 W.length 1) (by simp) (fun l hl hl3 hnv => ?_) (rowOf_set_self (by rw [rowOf_set_ne (by omega)]; exact hk6)) ?_ (fun l n hl => ?_)
      · rw [hg5] at hnv
        have : l ≠ τ4.length + 1 := fun e => hnv Z.length (by rw [e])
        rw [List.getElem?_set_ne (Ne.symm hl3), List.getElem?_set_ne (Ne.symm this)]
      · exact .inr ⟨τ4.length + 1, List.replicate (Z.length - W.length) (.i 0), by omega, rfl, by rw [rowOf_set_ne (by omega)]; exact rowOf_set_self hz6⟩
      · cases hl; exact .inr ⟨_, hg5⟩
    have hkupd : upd (upd s.ks c Z) c W = upd s.ks c W := by funext k; unfold upd; split <;> rfl
    rw [hkupd] at hRep8
    have hk7 : rowOf (τ6.set (τ4.length + 1) (.cells (nats W ++ List.replicate (Z.length - W.length) (.i 0)))) (σ0.length + 3) = some (kc.set c v5) := by rw [rowOf_set_ne (by omega)]; exact hk6
    have hl8 : rowOf ((τ6.set (τ4.length + 1) (.cells (nats W ++ List.replicate (Z.length - W.length) (.i 0)))).set (σ0.length + 3) (.cells ((kc.set c v5).set c (.sl (τ4.length + 1) 0 W.length 1)))) (τ4.length + 2) = some [.i (last : Nat)] := by
      rw [rowOf_set_ne (by omega), rowOf_set_ne (by omega)]; exact hl6
    have x1 : (τ6.set (τ4.length + 1) (.cells (nats W ++ List.replicate (Z.length - W.length) (.i 0))))[σ0.length + 6]? = τ6[σ0.length + 6]? := List.getElem?_set_ne (by omega)
    have x2 : (τ6.set (τ4.length + 1) (.cells (nats W ++ List.replicate (Z.length - W.length) (.i 0))))[lc]? = τ6[lc]? := List.getElem?_set_ne (by omega)
    have hkl5 : (kc.set c v5).length = q.cs.length := by rw [List.length_set]; exact kk2
    generalize τ6.set (τ4.length + 1) (.cells (nats W ++ List.replicate (Z.length - W.length) (.i 0))) = τ7 at hRep8 hk7 hl8 x1 x2 ⊢
    simp only [hcl, hk7, hkl5, x1, x2, show c + 1 ≤ q.cs.length from hcl, Nat.zero_add, evA, if_true, if_false, beq_false, simprocAttr]
    generalize τ7.set (σ0.length + 3) (AObj.cells ((kc.set c v5).set c (AV.sl (τ4.length + 1) 0 W.length 1))) = τ8 at hRep8 hl8 ⊢
    have hzq : (mk q).q c < (s.ks c).length + 1 := by
      show (q.cs[c]!).pl.toNat < _
      omega
    have hlZ : last ∈ s.ks c ++ [x] := by rw [← hZ]; exact hm1
    have hlast' : last < q.ls.length := hZm last hm1
    have hInv := hI.turn hwc hzq hlZ (fun k hk hne => by
      rw [← hZ] at hk
      have h1 := hm2 k hk
      have h2 : Mk.rankOf q.ls.length (bef q c) k ≠ Mk.rankOf q.ls.length (bef q c) last := fun e => hne (Mk.rank_inj (bef_strict hLe c) (hZm k hk) hlast' e)
      show Mk.rankOf q.ls.length (bef q c) k < Mk.rankOf q.ls.length (bef q c) last
      unfold rankQ at h1
      omega)
    rw [← hZ, ← hW] at hInv
    have hmu2 : muS q ⟨upd s.g x (c : Int), upd s.a x (s.a x + 1), upd s.ks c W⟩ < N := by
      have := muS_lt hx hlt (upd s.g x (c : Int)) (upd s.ks c W)
      omega
    have hcall := ih _ last τ8 hmu2 hInv hRep8
    simp only [hRep8.r7, hl8, evA, if_true, if_false, beq_false, simprocAttr]
    refine AC.mono hcall ?_
    rintro r τ9 ⟨rfl, s', h1, h2⟩
    simp only [evA, if_true, if_false, beq_false, simprocAttr]
    exact ⟨s', h1, h2⟩

end Go.Proofs.Ytjgolcbpgmlilaa.AM

namespace Go.Proofs.Ytjgolcbpgmlilaa.AM
open Go Go.Proofs.Ytjgolcbpgmlilaa.Qu Pl
set_option linter.unusedVariables false
set_option linter.unusedSimpArgs false

set_option maxRecDepth 20000 in
/-- (*list).give: the list lies where it was made -/
theorem c50o {q : QL} (hq : QSz q) (he : QOk q) {tr : List (Nat × Nat × Nat)} (hR : RanksAt q q.cs.length 0 tr) {σ : List AObj} {L lm : Nat} (hL0 : rowOf σ L = some [cenL q.cs, leaL q.ls, .map lm]) (hm0 : mapOf σ lm = some (esT tr)) (hlv : ∀ o ∈ σ, o.live) :
    AC Try.prog 50 [.ptr L 0] σ fun r τ => r = .slc (σ.length + 1) 0 q.ls.length q.ls.length 1 ∧ (∀ l, l < σ.length → τ[l]? = σ[l]?) ∧ rowOf τ (σ.length + 1) = some ((giveQ q).map AV.i) ∧ σ.length ≤ τ.length := by
  obtain ⟨hc5, hl8, hLe, hCe⟩ := id he
  have he : QOk q := ⟨hc5, hl8, hLe, hCe⟩
  have hLlt := (List.getElem?_eq_some_iff.1 (rowOf_some hL0)).1
  refine AC.mono (Q := fun r τ => r = .slc (σ.length + 1) 0 q.ls.length q.ls.length 1 ∧ ∃ s, (mk q).Inv q.ls.length none s ∧ Rep q σ L s τ) (AC_FE (fok50 true) (Nat.le_of_ble_eq_true rfl) ?_) ?_
  rotate_left
  · rintro r τ ⟨rfl, s, hI, hRep⟩
    have hsz := hRep.sz
    obtain ⟨hbest, hg⟩ := hI.best
    have hgq : listN q.ls.length s.g = giveQ q := by
      rw [← giveQ_of hLe hbest]
      refine listN_congr fun k hk => ?_
      rw [hg k hk]
      cases (mk q).has (Mk.rej none s) k <;> rfl
    exact ⟨rfl, hRep.old, by rw [← hgq]; exact hRep.r1, by omega⟩
  have gL := fun J => rowOf_low hL0 J
  have kL := fun J => get_low hL0 J
  have hmk := fun σ => mkC_ints (n := q.ls.length) (by omega) σ
  rw [listN_zero] at hmk
  have hmkn := fun σ => mkC_nils (n := q.cs.length) (by omega) σ
  simp only [ic50, evA, if_true, if_false, beq_false, simprocAttr]
  refine DW_s [] [(0, 13), (0, 20), (0, 21), (0, 22), (0, 23), (4, 13), (4, 20), (4, 21), (4, 22), (4, 23), (6, 13), (6, 20), (6, 21), (6, 22), (6, 23), (7, 6), (7, 20), (7, 21), (7, 22), (7, 23), (7, 24), (11, 6), (11, 20), (11, 21), (11, 22), (11, 23), (11, 24), (13, 6), (13, 20), (13, 21), (13, 22), (13, 23), (13, 24), (14, 6), (14, 13), (14, 21), (14, 22), (14, 23), (14, 24), (14, 25), (18, 6), (18, 13), (18, 21), (18, 22), (18, 23), (18, 24), (18, 25), (20, 6), (20, 13), (20, 21), (20, 22), (20, 23), (20, 24), (20, 25), (21, 6), (21, 13), (21, 20), (21, 22), (21, 23), (22, 6), (22, 13), (22, 20), (22, 21), (22, 23), (23, 6), (23, 13), (23, 20), (23, 21), (23, 22), (24, 13), (24, 20), (25, 20)] hmix (by kernel_rfl) rfl ?_
  simp only [gL, kL, hmk, hmkn, List.append_assoc, List.length_append, rowOf_az, rowOf_as, set_az, set_as, get_az, get_as, get_nz, get_ns, evA, if_true, if_false, beq_false, simprocAttr]
  have hRep0 : Rep q σ L ⟨fun _ => 0, fun _ => 0, fun _ => []⟩ (σ ++ [.cells [.ptr L 0], .cells ((listN q.ls.length fun x => 0).map AV.i), .cells ((listN q.ls.length fun x => 0).map AV.i), .cells (List.replicate q.cs.length (.cv .nils)), .cells [.slc (σ.length + 1) 0 q.ls.length q.ls.length 1], .cells [.slc (σ.length + 2) 0 q.ls.length q.ls.length 1], .cells [.slc (σ.length + 3) 0 q.cs.length q.cs.length 1], .cells [.fn (.func 81) [.ptr (σ.length + 4) 0, .ptr (σ.length + 5) 0, .ptr σ.length 0, .ptr (σ.length + 6) 0, .ptr (σ.length + 7) 0]]]) := by
    have hrep : ∀ c, c < q.cs.length → (List.replicate q.cs.length (AV.cv .nils)).getD c .undef = .cv .nils := fun c hc => by simp [List.getD, hc]
    refine ⟨fun l hl => by rw [List.getElem?_append_left hl], by simp, by rw [rowOf_az]; rfl, by rw [rowOf_as]; rfl, by rw [rowOf_as]; rfl, ⟨_, by rw [rowOf_as]; rfl, by simp, fun c hc => .inl ⟨hrep c hc, rfl⟩, fun c d hc hd _ l n l' n' h1 => by rw [hrep c hc] at h1; cases h1⟩, by rw [rowOf_as]; rfl, by rw [rowOf_as]; rfl, by rw [rowOf_as]; rfl, by rw [rowOf_as]; rfl⟩
  generalize σ ++ [.cells [.ptr L 0], .cells ((listN q.ls.length fun x => 0).map AV.i), .cells ((listN q.ls.length fun x => 0).map AV.i), .cells (List.replicate q.cs.length (.cv .nils)), .cells [.slc (σ.length + 1) 0 q.ls.length q.ls.length 1], .cells [.slc (σ.length + 2) 0 q.ls.length q.ls.length 1], .cells [.slc (σ.length + 3) 0 q.cs.length q.cs.length 1], .cells [.fn (.func 81) [.ptr (σ.length + 4) 0, .ptr (σ.length + 5) 0, .ptr σ.length 0, .ptr (σ.length + 6) 0, .ptr (σ.length + 7) 0]]] = τ0 at hRep0 ⊢
  refine IL_for q.ls.length (fun i s => ∃ st τ v7 v10, ((mk q).Inv i none st ∧ Rep q σ L st τ) ∧ s = ⟨[.ptr L 0, .ptr σ.length 0, .cv .nils, .ptr (σ.length + 4) 0, .ptr (σ.length + 5) 0, .ptr (σ.length + 6) 0, .ptr (σ.length + 7) 0, v7, .i q.ls.length, v10, .i i], τ⟩) ?_ 0 (Nat.zero_le _) ⟨_, τ0, _, _, ⟨Mk.Inv.start _ _, hRep0⟩, rfl⟩
  rintro i s hi ⟨st, τ, v7, v10, ⟨hI, hRep⟩, rfl⟩
  by_cases h : i < q.ls.length
  · have hI2 := hI.next h
    have hcall := ask hq he hR hL0 hm0 (i + 1) (muS q st + 1) st i τ (Nat.lt_succ_self _) hI2 hRep
    simp only [ic50l0, Int.ofNat_lt, h, hRep.r7, evA, if_true, if_false, beq_false, simprocAttr]
    refine AC.mono hcall ?_
    rintro r τ' ⟨rfl, st', h1, h2⟩
    simp only [evA, if_true, if_false, beq_false, simprocAttr]
    exact kFor_go (by first | trivial | omega) ⟨st', τ', _, _, ⟨h1, h2⟩, by rw [wrap_succ (by omega)]⟩
  · have : i = q.ls.length := by omega
    subst this
    simp only [ic50l0, Int.ofNat_lt, h, hRep.r4, evA, if_true, if_false, beq_false, simprocAttr]
    exact ⟨st, hI, hRep⟩

/-- (*list).give -/
theorem c50 {q : QL} (hq : QSz q) (he : QOk q) {tr : List (Nat × Nat × Nat)} (hR : RanksAt q q.cs.length 0 tr) {σ : List AObj} {L lm : Nat} (hL0 : rowOf σ L = some [cenL q.cs, leaL q.ls, .map lm]) (hm0 : mapOf σ lm = some (esT tr)) (hlv : ∀ o ∈ σ, o.live) :
    AC Try.prog 50 [.ptr L 0] σ fun r τ => r = ints (giveQ q) ∧ τ = σ := by
  refine AC.made0 (c50o hq he hR hL0 hm0 hlv) ?_ hlv
  rintro r τ ⟨rfl, hold, h1, hsz⟩
  refine ⟨τ.drop σ.length, ?_, ?_⟩
  · apply List.ext_getElem?
    intro l
    by_cases hl : l < σ.length
    · rw [hold l hl, List.getElem?_append_left hl]
    · rw [List.getElem?_append_right (by omega), List.getElem?_drop, show σ.length + (l - σ.length) = l by omega]
  · refine frz_slc (fun _ => trivial) (by simp [giveQ]) ?_
    have h1 := rowOf_some h1
    unfold rowOf
    rw [List.getElem?_append_right (by simp), List.length_replicate, List.getElem?_drop, show σ.length + (σ.length + 1 - σ.length) = σ.length + 1 by omega, h1]

/-- (*list).give: nothing lies there but the list -/
theorem c50t {q : QL} (hq : QSz q) (he : QOk q) {tr : List (Nat × Nat × Nat)} (hR : RanksAt q q.cs.length 0 tr) {σ : List AObj} {L lm : Nat} (hL0 : rowOf σ L = some [cenL q.cs, leaL q.ls, .map lm]) (hm0 : mapOf σ lm = some (esT tr)) (hlv : ∀ o ∈ σ, o.live) :
    AC Try.prog 50 [.ptr L 0] σ fun r τ => r = .slc σ.length 0 q.ls.length q.ls.length 1 ∧ τ = σ ++ [.cells ((giveQ q).map AV.i)] := by
  refine (c50o hq he hR hL0 hm0 hlv).tidy ?_
  rintro r τ ⟨rfl, hold, h1, hsz⟩
  have hcl : locsInAll 0 ((giveQ q).map AV.i) = true := by
    rw [locsInAll_iff]
    intro v hv
    obtain ⟨z, _, rfl⟩ := List.mem_map.1 hv
    rfl
  obtain ⟨g, hg⟩ : ∃ g : Nat → Nat, g = fun l => if l = σ.length then σ.length + 1 else l := ⟨_, rfl⟩
  have g1 : g σ.length = σ.length + 1 := by rw [hg]; simp
  have g2 : ∀ l, l < σ.length → g l = l := fun l hl => by rw [hg]; simp only; rw [if_neg (by omega)]
  refine ⟨g, .slc σ.length 0 q.ls.length q.ls.length 1, σ ++ [.cells ((giveQ q).map AV.i)], ⟨g2, fun a b ha hb => ?_, by simp, by simp only [ren, g1], by simp [locsIn], fun l o hlo => ?_⟩, rfl, rfl⟩
  · rw [List.length_append, List.length_singleton] at hb
    rw [g2 a (by omega)]
    by_cases h : b = σ.length
    · rw [h, g1]; omega
    · rw [g2 b (by omega)]; exact ha
  · by_cases h : l < σ.length
    · rw [List.getElem?_append_left h] at hlo
      exact .inl ⟨h, hlo, by rw [hold l h]; exact hlo⟩
    · rw [List.getElem?_append_right (by omega)] at hlo
      have hl : l - σ.length = 0 := by
        have := (List.getElem?_eq_some_iff.1 hlo).1
        simp at this; omega
      rw [hl] at hlo
      simp only [List.getElem?_cons_zero, Option.some.injEq] at hlo
      subst hlo
      have hl' : l = σ.length := by omega
      subst hl'
      refine .inr ⟨locsInAll_mono (Nat.zero_le _) _ hcl, ?_⟩
      rw [g1, renO_id (k := 0) (fun l h => absurd h (Nat.not_lt_zero _)) (show objIn 0 (.cells _) = true from hcl)]
      exact rowOf_some h1

end Go.Proofs.Ytjgolcbpgmlilaa.AM

namespace Go.Proofs.Ytjgolcbpgmlilaa.AM
open Go Go.Proofs.Ytjgolcbpgmlilaa.Qu Pl
set_option linter.unusedVariables false
set_option linter.unusedSimpArgs false

/-- slices.Clone of learners -/
theorem c58 (ls : List Lea) (h0 : 0 < ls.length) (hn : ls.length < 2 ^ 38) (σ : List AObj) :
    AC Try.prog 58 [leaL ls] σ fun r τ => ∃ l, r = .sl l 0 ls.length 5 ∧ rowOf τ l = some ((leaCs ls).map .cv) ∧ σ.length ≤ l ∧ ∀ k, k < σ.length → τ[k]? = σ[k]? := by
  refine AC_FE (fok58 true) (Nat.le_of_ble_eq_true rfl) ?_
  have hsc := sc_cv (leaCs ls)
  have hl : (leaCs ls).length = ls.length * 5 := leaCs_len ls
  have hp : (2 : Nat) ^ 38 = 274877906944 := by decide
  have hp2 : (2 : Nat) ^ 44 = 17592186044416 := by decide
  have hb : binF .eql .slc (leaL ls) (.cv .nils) = some (.b false) := by
    obtain ⟨k, hk⟩ : ∃ k, ls.length = k + 1 := ⟨ls.length - 1, by omega⟩
    simp only [leaL, hk, binF, eqNil]
  have hz : zcells 0 [] = [] := rfl
  have happ : f_append 5 64 [.sl σ.length 0 0 5, leaL ls] (σ ++ [AObj.cells []]) = some (.sl (σ.length + 1) 0 ls.length 5, (σ ++ [AObj.cells []]).set σ.length .dead ++ [.cells ((leaCs ls).map .cv)]) := by
    have hr : rowOf (σ ++ [AObj.cells []]) σ.length = some [] := by rw [rowOf_az]; rfl
    simp only [f_append, hr, srcCells, hl, if_true, lenF, Option.bind_some]
    have hc : True ∧ 0 * 5 ≤ ([] : List AV).length ∧ ls.length * 5 = ((leaCs ls).map AV.cv).length ∧ (0 + ls.length) * 64 ≤ 2 ^ 44 ∧ 0 + ls.length ≤ 2 ^ 44 ∧ ((leaCs ls).map AV.cv).all AV.isSc = true := by
      refine ⟨trivial, by simp, by simp [hl], by omega, by omega, hsc⟩
    rw [if_pos hc]
    simp
  simp only [ic58, hb, happ, evA, if_true, if_false, beq_false, simprocAttr]
  refine ⟨σ.length + 1, rfl, ?_, by omega, fun k hk => ?_⟩
  · have : σ.length + 1 = ((σ ++ [AObj.cells []]).set σ.length AObj.dead).length := by simp
    rw [this, rowOf_last]
  · rw [List.getElem?_append_left (by simp; omega), List.getElem?_set_ne (by omega), List.getElem?_append_left hk]

/-- slices.Clone of centres -/
theorem c63 (ls : List Cen) (h0 : 0 < ls.length) (hn : ls.length < 2 ^ 38) (σ : List AObj) :
    AC Try.prog 63 [cenL ls] σ fun r τ => ∃ l, r = .sl l 0 ls.length 3 ∧ rowOf τ l = some ((cenCs ls).map .cv) ∧ σ.length ≤ l ∧ ∀ k, k < σ.length → τ[k]? = σ[k]? := by
  refine AC_FE (fok63 true) (Nat.le_of_ble_eq_true rfl) ?_
  have hsc := sc_cv (cenCs ls)
  have hl : (cenCs ls).length = ls.length * 3 := cenCs_len ls
  have hp : (2 : Nat) ^ 38 = 274877906944 := by decide
  have hp2 : (2 : Nat) ^ 44 = 17592186044416 := by decide
  have hb : binF .eql .slc (cenL ls) (.cv .nils) = some (.b false) := by
    obtain ⟨k, hk⟩ : ∃ k, ls.length = k + 1 := ⟨ls.length - 1, by omega⟩
    simp only [cenL, hk, binF, eqNil]
  have hz : zcells 0 [] = [] := rfl
  have happ : f_append 3 48 [.sl σ.length 0 0 3, cenL ls] (σ ++ [AObj.cells []]) = some (.sl (σ.length + 1) 0 ls.length 3, (σ ++ [AObj.cells []]).set σ.length .dead ++ [.cells ((cenCs ls).map .cv)]) := by
    have hr : rowOf (σ ++ [AObj.cells []]) σ.length = some [] := by rw [rowOf_az]; rfl
    simp only [f_append, hr, srcCells, hl, if_true, lenF, Option.bind_some]
    have hc : True ∧ 0 * 3 ≤ ([] : List AV).length ∧ ls.length * 3 = ((cenCs ls).map AV.cv).length ∧ (0 + ls.length) * 48 ≤ 2 ^ 44 ∧ 0 + ls.length ≤ 2 ^ 44 ∧ ((cenCs ls).map AV.cv).all AV.isSc = true := by
      refine ⟨trivial, by simp, by simp [hl], by omega, by omega, hsc⟩
    rw [if_pos hc]
    simp
  simp only [ic63, hb, happ, evA, if_true, if_false, beq_false, simprocAttr]
  refine ⟨σ.length + 1, rfl, ?_, by omega, fun k hk => ?_⟩
  · have : σ.length + 1 = ((σ ++ [AObj.cells []]).set σ.length AObj.dead).length := by simp
    rw [this, rowOf_last]
  · rw [List.getElem?_append_left (by simp; omega), List.getElem?_set_ne (by omega), List.getElem?_append_left hk]

end Go.Proofs.Ytjgolcbpgmlilaa.AM

namespace Go.Proofs.Ytjgolcbpgmlilaa.AM
open Go Go.Proofs.Ytjgolcbpgmlilaa.Qu Pl
set_option linter.unusedVariables false
set_option linter.unusedSimpArgs false

theorem clear_end {σ : List AObj} {l off n cap : Nat} {as_ bs zs : List AV} (hr : rowOf σ l = some (as_ ++ bs)) (ha : as_.length = off) (hb : bs.length = n * zs.length) (hz : zs.all AV.isSc = true) :
    f_clear zs [.slc l off n cap zs.length] σ = some (.tup [], σ.set l (.cells (as_ ++ zcells n zs))) := by
  have hc : True ∧ off + n * zs.length ≤ (as_ ++ bs).length ∧ zs.all AV.isSc = true := ⟨trivial, by rw [List.length_append, ha, hb]; exact Nat.le_refl _, hz⟩
  simp only [f_clear, hr, Option.bind_some]
  rw [if_pos hc]
  congr 4
  have := setRange_front (xs := as_) (ys := bs) (zs := []) (vs := zcells n zs) (by rw [zcells_len, hb]; exact Nat.le_refl _)
  rw [List.append_nil, List.append_nil, ha] at this
  rw [this, List.drop_of_length_le (by rw [zcells_len, hb]; exact Nat.le_refl _), List.append_nil]

def leaZ : List AV := [.cv (.str (bts [])), .cv (.int .i64 0), .cv (.int .i64 0), .cv (.int .i64 0), .cv .nils]

theorem row_split {ls : List Lea} {i : Nat} (hi : i < ls.length) : (leaCs ls).map AV.cv = (leaCs (ls.take i)).map AV.cv ++ (leaC ls[i]!).map AV.cv ++ (leaCs (ls.drop (i + 1))).map AV.cv := by
  have e : ls = ls.take i ++ ls[i]! :: ls.drop (i + 1) := by
    have h1 : ls.drop i = ls[i]! :: ls.drop (i + 1) := by rw [List.drop_eq_getElem_cons hi]; simp [hi]
    rw [← h1, List.take_append_drop]
  conv => lhs; rw [e]
  simp [leaCs]

/-- slices.Delete of one learner -/
theorem c57 (ls : List Lea) (i : Nat) (hi : i < ls.length) (hn : ls.length < 2 ^ 38) {l : Nat} {σ : List AObj} (hr : rowOf σ l = some ((leaCs ls).map .cv)) :
    AC Try.prog 57 [.sl l 0 ls.length 5, .i i, .i ((i + 1 : Nat) : Int)] σ fun r τ => ∃ cap rest, r = .slc l 0 (ls.length - 1) cap 5 ∧ rowOf τ l = some ((leaCs (ls.eraseIdx i)).map .cv ++ rest) ∧ ∀ k, k ≠ l → τ[k]? = σ[k]? := by
  refine AC.caps [] fun cap hcap => AC_FE (fok57 true) (Nat.le_of_ble_eq_true rfl) ?_
  have hlt := (List.getElem?_eq_some_iff.1 (rowOf_some hr)).1
  rw [row_split hi] at hr
  have ha : ((leaCs (ls.take i)).map AV.cv).length = i * 5 := by rw [List.length_map, leaCs_len, List.length_take, Nat.min_eq_left (by omega)]
  have hb : ((leaC ls[i]!).map AV.cv).length = 5 := rfl
  have hc : ((leaCs (ls.drop (i + 1))).map AV.cv).length = (ls.length - (i + 1)) * 5 := by rw [List.length_map, leaCs_len, List.length_drop]
  have hsc := sc_cv (leaCs (ls.drop (i + 1)))
  have her : (leaCs (ls.eraseIdx i)).map AV.cv = (leaCs (ls.take i)).map AV.cv ++ (leaCs (ls.drop (i + 1))).map AV.cv := by
    rw [List.eraseIdx_eq_take_drop_succ]; simp [leaCs]
  rw [her]
  generalize hA : (leaCs (ls.take i)).map AV.cv = as_ at hr ha ⊢
  generalize hB : (leaC ls[i]!).map AV.cv = bs at hr hb
  generalize hC : (leaCs (ls.drop (i + 1))).map AV.cv = cs at hr hc hsc ⊢
  have h3 := fun σ => slc_3 (l := l) (n := ls.length) (cap := cap) (e := 5) (a := i) (b := i + 1) (c := ls.length) (by omega) (by omega) (Nat.le_refl _) σ
  have hhi := fun σ => slc_hi (l := l) (n := ls.length) (cap := cap) (e := 5) (k := i) (by omega) σ
  have hbq : ((i : Int) == ((i + 1 : Nat) : Int)) = false := beq_f (by omega)
  obtain ⟨src, hlo, hs, hl⟩ : ∃ src, (∀ τ, f_slS 5 true false [.slc l 0 ls.length cap 5, .cv (.int .i64 ((i + 1 : Nat) : Int))] τ = some (src, τ)) ∧ srcCells σ 5 src = some cs ∧ lenF src = some (ls.length - (i + 1)) := by
    by_cases h : i + 1 < cap
    · refine ⟨_, fun τ => slc_lo (by omega) hcap h τ, ?_, rfl⟩
      have h1 : (i + 1) * 5 + (ls.length - (i + 1)) * 5 ≤ (as_ ++ bs ++ cs).length := by simp only [List.length_append, ha, hb, hc]; omega
      simp only [srcCells, hr, if_true, Option.bind_some]
      rw [if_pos h1, List.drop_left' (by rw [List.length_append, ha, hb]; omega), List.take_of_length_le (by omega)]
    · refine ⟨_, fun τ => slc_lo0 (by omega) (by omega) (by omega) τ, ?_, ?_⟩
      · have : cs = [] := List.eq_nil_of_length_eq_zero (by rw [hc, show ls.length - (i + 1) = 0 by omega, Nat.zero_mul])
        rw [this]; rfl
      · rw [show ls.length - (i + 1) = 0 by omega]; rfl
  have happ := append_out (by_ := 64) (cap := cap) hr ha hb hc hi hcap hsc hs hl
  have hdr : ((bs ++ cs).drop cs.length).length = 1 * 5 := by rw [List.length_drop, List.length_append, hb]; omega
  have hr2 : rowOf (σ.set l (.cells (as_ ++ cs ++ (bs ++ cs).drop cs.length))) l = some (as_ ++ cs ++ (bs ++ cs).drop cs.length) := rowOf_set_self hr
  have hac : (as_ ++ cs).length = (ls.length - 1) * 5 := by rw [List.length_append, ha, hc]; omega
  generalize hD : (bs ++ cs).drop cs.length = ds at happ hdr hr2
  have hmid := fun σ => slc_mid (l := l) (n := ls.length - 1) (cap := cap) (e := 5) (a := ls.length - 1) (b := ls.length) (by omega) hcap (by omega) σ
  rw [show ls.length - (ls.length - 1) = 1 by omega] at hmid
  have hclr := clear_end (cap := cap - (ls.length - 1)) (zs := leaZ) hr2 hac hdr rfl
  have hwr : IntKind.i64.wrap ((i : Int) + 1) = ((i + 1 : Nat) : Int) := wrap_succ (by omega)
  simp only [ic57, h3, hbq, evA, if_true, if_false, beq_false, simprocAttr]
  refine DW_s [] [] hmix (by kernel_rfl) rfl ?_
  simp only [hhi, hlo, happ, hmid, evA, if_true, if_false, beq_false, simprocAttr]
  have hclr2 : f_clear [AV.cv (CV.str (bts [])), AV.cv (CV.int IntKind.i64 0), AV.cv (CV.int IntKind.i64 0), AV.cv (CV.int IntKind.i64 0), AV.cv CV.nils] [AV.slc l ((ls.length - 1) * 5) 1 (cap - (ls.length - 1)) 5] (σ.set l (AObj.cells (as_ ++ cs ++ ds))) = _ := hclr
  simp only [hclr2, evA, if_true, if_false, beq_false, simprocAttr]
  exact ⟨cap, _, rfl, rowOf_set_self hr2, fun k hk => by rw [List.getElem?_set_ne (Ne.symm hk), List.getElem?_set_ne (Ne.symm hk)]⟩

end Go.Proofs.Ytjgolcbpgmlilaa.AM

namespace Go.Proofs.Ytjgolcbpgmlilaa.AM
open Go Go.Proofs.Ytjgolcbpgmlilaa.Qu Pl
set_option linter.unusedVariables false
set_option linter.unusedSimpArgs false

/-- slices.Insert of one number -/
theorem c59 (zs : List Int) (i : Nat) (z : Int) (hi : i ≤ zs.length) (hn : zs.length < 2 ^ 38) {l l1 : Nat} {σ : List AObj} (hr : rowOf σ l = some (zs.map AV.i)) (h1 : rowOf σ l1 = some [.i z]) :
    AC Try.prog 59 [.slc l 0 zs.length zs.length 1, .i i, .sl l1 0 1 1] σ fun r τ => r = .sl σ.length 0 (zs.length + 1) 1 ∧ τ = σ ++ [.cells ((zs.take i ++ z :: zs.drop i).map AV.i)] := by
  refine AC_FE (fok59 true) (Nat.le_of_ble_eq_true rfl) ?_
  have hp : (2 : Nat) ^ 38 = 274877906944 := by decide
  have hp2 : (2 : Nat) ^ 44 = 17592186044416 := by decide
  have hlt := (List.getElem?_eq_some_iff.1 (rowOf_some hr)).1
  have hlt1 := (List.getElem?_eq_some_iff.1 (rowOf_some h1)).1
  obtain ⟨v0, hv0⟩ : ∃ v, ∀ τ, f_slS 1 true false [.slc l 0 zs.length zs.length 1, .cv (.int .i64 i)] τ = some (v, τ) := by
    by_cases h : i < zs.length
    · exact ⟨_, fun τ => slc_lo (by omega) (Nat.le_refl _) h τ⟩
    · by_cases h0 : 0 < i
      · exact ⟨_, fun τ => slc_lo0 (by omega) (by omega) h0 τ⟩
      · have e1 : i = 0 := by omega
        have e2 : zs.length = 0 := by omega
        rw [e1, e2]
        exact ⟨_, fun τ => by simp [f_slS, bnds, bnd]; rfl⟩
  have hb1 : ((1 : Int) == 0) = false := rfl
  have h1c : ((1 : Nat) : Int) = 1 := rfl
  by_cases h : i = zs.length
  · have hb : ((i : Int) == (zs.length : Int)) = true := by simp [h]
    have happ : f_append 1 8 [.slc l 0 zs.length zs.length 1, .sl l1 0 1 1] σ = some (.sl σ.length 0 (zs.length + 1) 1, σ ++ [.cells (zs.map AV.i ++ [.i z])]) := by
      have hs : srcCells σ 1 (.sl l1 0 1 1) = some [.i z] := by simp [srcCells, h1]
      have hc : True ∧ 0 + zs.length * 1 ≤ (zs.map AV.i).length ∧ 1 * 1 = [AV.i z].length ∧ (zs.length + 1) * 8 ≤ 2 ^ 44 ∧ zs.length + 1 ≤ 2 ^ 44 ∧ [AV.i z].all AV.isSc = true := ⟨trivial, by simp, rfl, by omega, by omega, rfl⟩
      simp only [f_append, hr, hs, lenF, Option.bind_some]
      rw [if_neg (by omega), if_pos hc, List.drop_zero, Nat.mul_one, List.take_of_length_le (by simp)]
    simp only [ic59, h1c, hb1, hv0, hb, happ, evA, if_true, if_false, reduceIte, Nat.reduceAdd, Nat.reduceMul, Nat.reduceSub, Nat.reduceLeDiff, Nat.reduceEqDiff, Nat.reduceBEq, Nat.reduceBNe, Int.reduceAdd, Int.reduceMul, Int.reduceSub, Int.reduceLT, Int.reduceGT, Int.reduceGE, Int.reduceLE, Int.reduceEq, Int.reduceNeg, Int.reduceToNat, reduceCtorEq, beq_false, Int.reduceBEq, Int.reduceBNe]
    rw [h]
    simp
  have hin : i < zs.length := by omega
  have hb : ((i : Int) == (zs.length : Int)) = false := beq_f (by omega)
  have hw1 : IntKind.i64.wrap ((zs.length : Int) + 1) = ((zs.length + 1 : Nat) : Int) := wrap_succ (by omega)
  have hw2 : IntKind.i64.wrap (((zs.length + 1 : Nat) : Int) - (i : Int)) = ((zs.length + 1 - i : Nat) : Int) := by rw [wrap_in (by omega)]; omega
  have hw3 : IntKind.i64.wrap ((i : Int) + 1) = ((i + 1 : Nat) : Int) := wrap_succ (by omega)
  have hgt : decide (((zs.length + 1 : Nat) : Int) > (zs.length : Int)) = true := by simp; omega
  have hhi := fun σ => slc_hi (l := l) (n := zs.length) (cap := zs.length) (e := 1) (k := i) (by omega) σ
  have htk : ((zs.map AV.i).take i).length = i := by simp; omega
  have hz : f_appendz 1 8 [.i 0] [.slc l 0 i zs.length 1, .cv (.int .i64 ((zs.length + 1 - i : Nat) : Int))] σ = some (.sl σ.length 0 (zs.length + 1) 1, σ ++ [.cells ((zs.map AV.i).take i ++ List.replicate (zs.length + 1 - i) (.i 0))]) := by
    have e : ((zs.length + 1 - i : Nat) : Int).toNat = zs.length + 1 - i := Int.toNat_natCast _
    have e2 : i + (zs.length + 1 - i) = zs.length + 1 := by omega
    have hc : 0 < ((zs.length + 1 - i : Nat) : Int) ∧ zs.length < zs.length + 1 ∧ True ∧ 0 + i * 1 ≤ (zs.map AV.i).length ∧ (zs.length + 1) * 8 ≤ 2 ^ 44 ∧ zs.length + 1 ≤ 2 ^ 44 := ⟨by omega, by omega, trivial, by simp; omega, by omega, by omega⟩
    simp only [f_appendz, hr, Option.bind_some, e, e2]
    rw [if_pos hc, zcells_one]
    simp
  have hs1 := fun σ' => slo_open (l := σ.length) (n := zs.length + 1) (w := i) (by omega) σ'
  have hs2 := fun σ' => slo_open (l := σ.length) (n := zs.length + 1) (w := i + 1) (by omega) σ'
  have hs3 := fun σ' => slc_lo (l := l) (n := zs.length) (cap := zs.length) (e := 1) (k := i) (by omega) (Nat.le_refl _) hin σ'
  have hc1 : f_copy 1 [.sl σ.length i (zs.length + 1 - i) 1, .sl l1 0 1 1] (σ ++ [.cells ((zs.map AV.i).take i ++ List.replicate (zs.length + 1 - i) (.i 0))]) = some (.i 1, σ ++ [.cells ((zs.map AV.i).take i ++ (.i z :: List.replicate (zs.length - i) (.i 0)))]) := by
    have hs : srcCells (σ ++ [.cells ((zs.map AV.i).take i ++ List.replicate (zs.length + 1 - i) (.i 0))]) 1 (.sl l1 0 1 1) = some [.i z] := by simp [srcCells, rowOf_low h1]
    have hr2 : rowOf (σ ++ [.cells ((zs.map AV.i).take i ++ List.replicate (zs.length + 1 - i) (.i 0))]) σ.length = some ((zs.map AV.i).take i ++ List.replicate (zs.length + 1 - i) (.i 0)) := rowOf_last _ _
    have hm : Nat.min 1 (zs.length + 1 - i) = 1 := Nat.min_eq_left (by omega)
    have hc : True ∧ i + (zs.length + 1 - i) * 1 ≤ ((zs.map AV.i).take i ++ List.replicate (zs.length + 1 - i) (AV.i 0)).length ∧ 1 * 1 = [AV.i z].length ∧ [AV.i z].all AV.isSc = true := ⟨trivial, by simp; omega, rfl, rfl⟩
    simp only [f_copy, hr2, hs, lenF, Option.bind_some, hm]
    rw [if_pos hc, set_az]
    have := setRange_front (xs := (zs.map AV.i).take i) (ys := List.replicate (zs.length + 1 - i) (AV.i 0)) (zs := []) (vs := [AV.i z]) (by simp; omega)
    rw [List.append_nil, List.append_nil, htk] at this
    simp only [Nat.mul_one, List.take_succ_cons, List.take_zero, this]
    simp [show zs.length + 1 - i - 1 = zs.length - i by omega]
  have hc2 : f_copy 1 [.sl σ.length (i + 1) (zs.length + 1 - (i + 1)) 1, .slc l (i * 1) (zs.length - i) (zs.length - i) 1] (σ ++ [.cells ((zs.map AV.i).take i ++ (.i z :: List.replicate (zs.length - i) (.i 0)))]) = some (.i ((zs.length - i : Nat) : Int), σ ++ [.cells ((zs.map AV.i).take i ++ (.i z :: (zs.map AV.i).drop i))]) := by
    have hdl : ((zs.map AV.i).drop i).length = zs.length - i := by simp
    have ht : ((zs.map AV.i).drop i).take (zs.length - i) = (zs.map AV.i).drop i := List.take_of_length_le (by rw [hdl]; exact Nat.le_refl _)
    have hd0 : (List.replicate (zs.length - i) (AV.i 0)).drop (zs.length - i) = [] := by simp
    have hs : srcCells (σ ++ [.cells ((zs.map AV.i).take i ++ (.i z :: List.replicate (zs.length - i) (.i 0)))]) 1 (.slc l (i * 1) (zs.length - i) (zs.length - i) 1) = some ((zs.map AV.i).drop i) := by
      have h2 : i * 1 + (zs.length - i) * 1 ≤ (zs.map AV.i).length := by simp; omega
      simp only [srcCells, rowOf_low hr, if_true, Option.bind_some]
      rw [if_pos h2]
      simp only [Nat.mul_one, ht]
    have hr2 : rowOf (σ ++ [.cells ((zs.map AV.i).take i ++ (.i z :: List.replicate (zs.length - i) (.i 0)))]) σ.length = some ((zs.map AV.i).take i ++ (.i z :: List.replicate (zs.length - i) (.i 0))) := rowOf_last _ _
    have hm : Nat.min (zs.length - i) (zs.length + 1 - (i + 1)) = zs.length - i := Nat.min_eq_left (by omega)
    have hc : True ∧ i + 1 + (zs.length + 1 - (i + 1)) * 1 ≤ ((zs.map AV.i).take i ++ (.i z :: List.replicate (zs.length - i) (AV.i 0))).length ∧ (zs.length - i) * 1 = ((zs.map AV.i).drop i).length ∧ ((zs.map AV.i).drop i).all AV.isSc = true := ⟨trivial, by simp; omega, by simp, by rw [← List.map_drop]; exact sc_ints _⟩
    simp only [f_copy, hr2, hs, lenF, Option.bind_some, hm]
    rw [if_pos hc, set_az]
    simp only [Nat.mul_one, ht]
    have := setRange_front (xs := (zs.map AV.i).take i ++ [.i z]) (ys := List.replicate (zs.length - i) (AV.i 0)) (zs := []) (vs := (zs.map AV.i).drop i) (by simp)
    rw [List.append_nil, List.append_nil, List.length_append, htk, hdl, hd0, List.append_nil] at this
    simp only [List.append_assoc, List.cons_append, List.nil_append, List.length_cons, List.length_nil, Nat.zero_add] at this
    rw [this]; rfl
  simp only [Nat.mul_one] at hs3 hc2
  simp only [ic59, h1c, hb1, hv0, hb, hw1, hw2, hgt, hhi, hz, hs1, hc1, evA, if_true, if_false, reduceIte, Nat.reduceAdd, Nat.reduceMul, Nat.reduceSub, Nat.reduceLeDiff, Nat.reduceEqDiff, Nat.reduceBEq, Nat.reduceBNe, Int.reduceAdd, Int.reduceMul, Int.reduceSub, Int.reduceLT, Int.reduceGT, Int.reduceGE, Int.reduceLE, Int.reduceEq, Int.reduceNeg, Int.reduceToNat, reduceCtorEq, beq_false, Int.reduceBEq, Int.reduceBNe]
  refine DW_s [] [] hmix (by kernel_rfl) rfl ?_
  simp only [h1c, hw3, hs2, hs3, hc2, evA, if_true, if_false, reduceIte, Nat.reduceAdd, Nat.reduceMul, Nat.reduceSub, Nat.reduceLeDiff, Nat.reduceEqDiff, Nat.reduceBEq, Nat.reduceBNe, Int.reduceAdd, Int.reduceMul, Int.reduceSub, Int.reduceLT, Int.reduceGT, Int.reduceGE, Int.reduceLE, Int.reduceEq, Int.reduceNeg, Int.reduceToNat, reduceCtorEq, beq_false, Int.reduceBEq, Int.reduceBNe]
  simp

end Go.Proofs.Ytjgolcbpgmlilaa.AM

namespace Go.Proofs.Ytjgolcbpgmlilaa.AM
open Go Go.Proofs.Ytjgolcbpgmlilaa.Qu Pl
set_option linter.unusedVariables false
set_option linter.unusedSimpArgs false

def movC (m : Nat × Int × Int) : List CV := [.int .i64 m.1, .int .i64 m.2.1, .int .i64 m.2.2]
abbrev movL (ms : List (Nat × Int × Int)) : AV := .cv (.rsl (ms.flatMap movC) ms.length)
theorem movC_len (m : Nat × Int × Int) : (movC m).length = 3 := rfl
theorem movL_scl (ms : List (Nat × Int × Int)) : ∀ c ∈ ms.flatMap movC, scl c := by
  intro c hc
  rw [List.mem_flatMap] at hc
  obtain ⟨m, _, hm⟩ := hc
  simp only [movC, List.mem_cons, List.not_mem_nil, or_false] at hm
  rcases hm with rfl | rfl | rfl <;> trivial

theorem getB (zs : List Int) (k : Nat) : zs[k]! = zs[k]?.getD 0 := List.getElem!_eq_getElem?_getD ..

/-- queue.moves -/
theorem c61 (b a : List Int) (hn : b.length < 2 ^ 38) (hl : b.length ≤ a.length) : PC Try.prog 61 [ints b, ints a] (movL (movs (fun k => b[k]!) (fun k => a[k]!) b.length)) := by
  have hp : (2 : Nat) ^ 38 = 274877906944 := by decide
  have hp2 : (2 : Nat) ^ 44 = 17592186044416 := by decide
  rw [movs_congr (b := fun k => b[k]!) (a := fun k => a[k]!) (b' := fun k => b[k]?.getD 0) (a' := fun k => a[k]?.getD 0) fun k _ => ⟨getB b k, getB a k⟩]
  generalize hM : movs (fun k => b[k]?.getD 0) (fun k => a[k]?.getD 0) = M
  have hMl : ∀ k, (M k).length ≤ k := fun k => by rw [← hM]; exact movs_len k
  refine ⟨AC_FE (fok61 true) (Nat.le_of_ble_eq_true rfl) ?_, rfl⟩
  simp only [ic61, evA, if_true, if_false, beq_false, simprocAttr]
  refine IL_for b.length (fun k s => ∃ v2 v3 v4 v8 v9 τ, AccS 3 τ v2 (M k).length ((M k).flatMap movC) ∧ s = ⟨[ints b, ints a, v2, v3, v4, ints b, .i b.length, .i k, v8, v9], τ⟩) ?_ 0 (Nat.zero_le _) ⟨_, _, _, _, _, _, by rw [← hM]; exact AccS.nil _ _, rfl⟩
  rintro k s hk ⟨v2, v3, v4, v8, v9, τ, hA, rfl⟩
  by_cases h : k < b.length
  rotate_left
  · have : k = b.length := by omega
    subst this
    simp only [ic61l0, Int.ofNat_lt, h, evA, if_true, if_false, beq_false, simprocAttr]
    exact accS_frz hA (movL_scl _)
  have hka : k < a.length := by omega
  have hws : IntKind.i64.wrap ((k : Int) + 1) = ((k + 1 : Nat) : Int) := wrap_succ (by omega)
  by_cases he : a[k]?.getD 0 = b[k]?.getD 0
  · have hM1 : M (k + 1) = M k := by rw [← hM]; simp [movs, he]
    have hb : (a[k]?.getD 0 != b[k]?.getD 0) = false := by simp [he]
    simp only [ic61l0, Int.ofNat_lt, h, hka, hb, evA, if_true, if_false, beq_false, simprocAttr]
    exact kFor_go (by first | trivial | omega) ⟨_, _, _, _, _, τ, by rw [hM1]; exact hA, by rw [hws]⟩
  · have hM1 : M (k + 1) = M k ++ [(k, b[k]?.getD 0, a[k]?.getD 0)] := by rw [← hM]; simp [movs, he]
    have hb : (a[k]?.getD 0 != b[k]?.getD 0) = true := by simp [he]
    have hml := hMl k
    obtain ⟨v', σ', happ, hA'⟩ := accS_append (by_ := 24) (x := movC (k, b[k]?.getD 0, a[k]?.getD 0)) hA rfl (by omega) (by omega)
    have happ' : f_append 3 24 [v2, .sl τ.length 0 1 3] (τ ++ [AObj.cells [.i k, .i (b[k]?.getD 0), .i (a[k]?.getD 0)]]) = some (v', σ') := happ
    simp only [ic61l0, Int.ofNat_lt, h, hka, hb, happ', evA, if_true, if_false, beq_false, simprocAttr]
    refine kFor_go (by first | trivial | omega) ⟨_, _, _, _, _, σ', ?_, by rw [hws]⟩
    rw [hM1, List.length_append, List.flatMap_append]
    simpa using hA'

end Go.Proofs.Ytjgolcbpgmlilaa.AM

namespace Go.Proofs.Ytjgolcbpgmlilaa.AM
open Go Go.Proofs.Ytjgolcbpgmlilaa.Qu Pl
set_option linter.unusedVariables false
set_option linter.unusedSimpArgs false

theorem callOk_push {σ J : List AObj} {v : AV} (hv : locsIn (σ ++ J).length v = true) (ho : ∀ o ∈ J, objIn (σ ++ J).length o = true ∧ o.live) : CallOk σ v (σ ++ J) := by
  refine ⟨hv, by simp, fun l o h1 h2 => ?_⟩
  rcases Nat.lt_or_ge l σ.length with h | h
  · rw [List.getElem?_append_left h] at h1; exact absurd h1 h2
  · rw [List.getElem?_append_right h] at h1
    have := ho o (List.mem_of_getElem? h1)
    exact ⟨this.1, fun _ => this.2⟩

theorem slc_frzC {p : CV → Prop} {l n c e : Nat} {σ : List AObj} {cs : List CV} {rest : List AV} (hr : rowOf σ l = some (cs.map .cv ++ rest)) (hl : cs.length = n * e) (hp : ∀ c ∈ cs, p c) : FrzC p σ (.slc l 0 n c e) (.rsl cs n) := by
  refine .slc l 0 n c e _ _ hr (by simp [hl]) ?_
  rw [List.drop_zero, List.take_left' (by simp [hl])]
  exact frzCs_cv hp
theorem sl_frzC {p : CV → Prop} {l n e : Nat} {σ : List AObj} {cs : List CV} (hr : rowOf σ l = some (cs.map .cv)) (hl : cs.length = n * e) (hp : ∀ c ∈ cs, p c) : FrzC p σ (.sl l 0 n e) (.rsl cs n) := by
  refine .sl l 0 n e _ _ hr (by simp [hl]) ?_
  rw [List.drop_zero, List.take_of_length_le (by simp [hl])]
  exact frzCs_cv hp

theorem ints_locs (k : Nat) (zs : List Int) : locsInAll k (zs.map AV.i) = true := by
  rw [locsInAll_iff]
  intro v hv
  obtain ⟨z, _, rfl⟩ := List.mem_map.1 hv
  rfl

theorem qsz_wo {q : QL} (hq : QSz q) {i : Nat} (hi : i < q.ls.length) : QSz (woQ q i) := by
  have hl := wo_len q hi
  have hls := hq.ls
  have hu : ∀ k, k < (woQ q i).ls.length → upI i k < q.ls.length := fun k hk => by unfold upI; split <;> omega
  exact ⟨hq.cs, by omega, hq.nm, hq.ru, fun k hk => by rw [wo_get q hk]; exact hq.lm _ (hu k hk), fun k hk => by rw [wo_get q hk]; exact hq.wi _ (hu k hk)⟩
theorem qok_wo {q : QL} (h : QOk q) {i : Nat} (hi : i < q.ls.length) : QOk (woQ q i) :=
  ⟨h.1, by rw [wo_len q hi]; have := h.2.1; omega, leaOk_wo h.2.2.1 hi, fun c hc => ⟨(h.2.2.2 c hc).pl, (h.2.2.2 c hc).ru⟩⟩

theorem esT_locs (k : Nat) (tr : List (Nat × Nat × Nat)) : objIn k (.map (esT tr)) = true := by
  simp [objIn, esT, kAV, locsIn, locsInAll]
theorem rankH_ok (q : QL) : CallOk [] (.ptr 2 0) (rankH q) := by
  refine callOk_push (σ := []) (by simp [locsIn]) fun o ho => ?_
  simp only [List.mem_cons, List.not_mem_nil, or_false] at ho
  rcases ho with rfl | rfl | rfl
  · exact ⟨rfl, trivial⟩
  · exact ⟨esT_locs _ _, trivial⟩
  · exact ⟨rfl, trivial⟩

noncomputable def cancV (q : QL) (x : Int) : AV := if eQ q = 0 then (if inB x 0 ((q.ls.length : Int) - 1) = true then .tup [movL (cancM q x.toNat), .i 0] else .tup [movL [], .i 4]) else .tup [movL [], .i (eQ q)]

/-- the program's Cancel -/
theorem c28 (q : QL) (hq : QSz q) (x : Int) : PA Try.prog 28 [qV q, .i x] (cancV q x) := by
  refine ⟨AC_SW (fok28 true) (Nat.le_of_ble_eq_true rfl) ?_, by unfold cancV; split <;> (try split) <;> rfl, rfl⟩
  simp only [ic28]
  refine SW_seq ?_
  simp only [kSW_n, evA, if_true, if_false, beq_false, simprocAttr]
  refine SW_seq ?_
  simp only [kSW_n, evA, if_true, if_false, beq_false, simprocAttr]
  refine (AC.frame (by simp [locsInAll, locsIn]) (c48 q hq) _).mono ?_
  rintro r τ ⟨r0, τ0, ⟨he, tr, hR, rfl, rfl⟩ | ⟨he, rfl, rfl⟩, rfl, rfl⟩
  rotate_left
  · have hb := bne_t he
    simp only [List.map_cons, List.map_nil, renO, ren, rens, kSW_n, evA, if_true, if_false, beq_false, simprocAttr]
    refine SW_seq ?_
    simp only [hb, kSW_n, kSW_r, evA, if_true, if_false, beq_false, simprocAttr]
    unfold cancV
    rw [if_neg he]
    exact .tup (.cons (.c .nl) (.cons (.c (.c _ trivial)) .nil))
  have hes : (esT tr).map (fun e => (ren (sh 1) e.1, ren (sh 1) e.2)) = esT tr := by
    simp [esT, kAV, ren, rens]
  have hls := hq.ls
  have hqo := val_of he
  have hwn : IntKind.i64.wrap ((q.ls.length : Int) - 1) = (q.ls.length : Int) - 1 := wrap_in (by omega)
  simp only [openV, List.map_cons, List.map_nil, List.length_cons, List.length_nil, renO, ren, rens, hes, sh, kSW_n, evA, if_true, if_false, beq_false, simprocAttr]
  refine SW_seq ?_
  simp only [kSW_n, hwn, evA, if_true, if_false, beq_false, simprocAttr]
  refine (c39 0 ((q.ls.length : Int) - 1) [x] (by simp)).call frz ?_
  rw [outF_one]
  unfold cancV
  rw [if_pos he]
  cases hin : inB x 0 ((q.ls.length : Int) - 1) with
  | false =>
    simp only [kSW_n, kSW_r, evA, if_true, if_false, beq_false, simprocAttr]
    exact .tup (.cons (.c .nl) (.cons (.c (.c _ trivial)) .nil))
  | true =>
  rw [inB_iff] at hin
  obtain ⟨i, rfl⟩ : ∃ i : Nat, x = i := ⟨x.toNat, by omega⟩
  have hi : i < q.ls.length := by omega
  simp only [kSW_n, kSW_r, Int.toNat_natCast, evA, if_true, if_false, beq_false, simprocAttr]
  refine SW_seq ?_
  simp only [kSW_n, evA, if_true, if_false, beq_false, simprocAttr]
  refine (c50 hq hqo hR (L := 4) (lm := 3) rfl rfl (by simp [AObj.live])).run ?_
  simp only [kSW_n, evA, if_true, if_false, beq_false, simprocAttr]
  refine SW_seq ?_
  simp only [kSW_n, evA, if_true, if_false, beq_false, simprocAttr]
  refine (c58 q.ls (by omega) (by have := hqo.2.1; omega) _).mono ?_
  rintro r τ ⟨l, rfl, hl, hlg, hkp⟩
  have hws : IntKind.i64.wrap ((i : Int) + 1) = ((i + 1 : Nat) : Int) := wrap_succ (by omega)
  simp only [hws, kSW_n, evA, if_true, if_false, beq_false, simprocAttr]
  refine (c57 q.ls i hi (by have := hqo.2.1; omega) hl).mono ?_
  rintro r τ2 ⟨cap, rest, rfl, hl2, hkp2⟩
  have hl0 : l ≠ 0 := by simp at hlg; omega
  have h0 : rowOf τ2 0 = some [cenL q.cs, leaL q.ls] := by
    rw [rowOf_eq (hkp2 0 (Ne.symm hl0)), rowOf_eq (hkp 0 (by simp))]
    rfl
  simp only [h0, kSW_n, evA, if_true, if_false, beq_false, simprocAttr]
  have hlen := wo_len q hi
  have hq2 := qsz_wo hq hi
  have hqo2 := qok_wo hqo hi
  refine SW.freeze rfl (vals' := [qV q, .i i, .cv (.rp [.rsl (cenCs q.cs) q.cs.length, .rsl (leaCs (q.ls.eraseIdx i)) (q.ls.length - 1)] 0), .cv .nils, .i 0, .undef, .i 0, ints (giveQ q), .undef, .b false, .b false]) ?_ ?_
  · refine .cons (.agg (.cons (.c (.c _ trivial)) (.cons (.c (.c _ trivial)) .nil))) (.cons (.c (.c _ trivial)) (.cons (.c (.ptr 0 0 _ _ (rowOf_set_self h0) (.cons (.c _ trivial) (.cons (slc_frzC (rest := rest) ?_ ?_ (fun _ _ => trivial)) .nil)))) (.cons (.c (.c _ trivial)) (.cons (.c (.c _ trivial)) (.cons (.un _) (.cons (.c (.c _ trivial)) (.cons (.c (.c _ trivial)) (.cons (.un _) (.cons (.c (.c _ trivial)) (.cons (.c (.c _ trivial)) .nil))))))))))
    · rw [rowOf_set_ne (Ne.symm hl0)]; exact hl2
    · have := leaCs_len (q.ls.eraseIdx i)
      rw [this]; congr 1
  rw [← hlen]
  refine SW_of ?_
  simp only [evA, if_true, if_false, beq_false, simprocAttr]
  refine DW_s [] [(0, 8), (1, 8), (2, 8), (7, 1), (7, 2), (8, 1), (8, 2)] hmix (by kernel_rfl) rfl ?_
  simp only [evA, if_true, if_false, beq_false, simprocAttr]
  have hL2 := hqo2.2.1
  have hR2 := trC_ranks hqo2.2.2.1 hq2 _ (Nat.le_refl _)
  have hco1 : CallOk [] (.ptr 2 0) (rankH (woQ q i)) := rankH_ok _
  refine kK_turn (c60 (woQ q i) hq2 hqo2) hco1 ?_
  simp only [evA, if_true, if_false, beq_false, simprocAttr]
  have hco2 : CallOk (rankH (woQ q i)) (.slc 3 0 (woQ q i).ls.length (woQ q i).ls.length 1) (rankH (woQ q i) ++ [.cells ((giveQ (woQ q i)).map AV.i)]) :=
    callOk_push (by simp [locsIn]) fun o ho => by rw [List.mem_singleton] at ho; subst ho; exact ⟨ints_locs _ _, trivial⟩
  refine kK_turn (c50t hq2 hqo2 hR2 (L := 2) (lm := 1) rfl rfl (by simp [AObj.live])) hco2 ?_
  have hgl := giveQ_len q
  have hgl2 := giveQ_len (woQ q i)
  have hig : i < (giveQ q).length := by omega
  simp only [hig, List.cons_append, List.nil_append, evA, if_true, if_false, beq_false, simprocAttr]
  have hins := c59 (giveQ (woQ q i)) i ((giveQ q)[i]?.getD 0) (by omega) (by omega) (l := 3) (l1 := 4) (σ := rankH (woQ q i) ++ [.cells ((giveQ (woQ q i)).map AV.i), .cells [.i ((giveQ q)[i]?.getD 0)]]) rfl rfl
  rw [giveQ_len] at hins
  obtain ⟨A, hA⟩ : ∃ A, A = (giveQ (woQ q i)).take i ++ (giveQ q)[i]?.getD 0 :: (giveQ (woQ q i)).drop i := ⟨_, rfl⟩
  have hAl : A.length = (woQ q i).ls.length + 1 := by rw [hA]; simp; omega
  rw [← hA] at hins
  have hco3 : CallOk (rankH (woQ q i) ++ [.cells ((giveQ (woQ q i)).map AV.i), .cells [.i ((giveQ q)[i]?.getD 0)]]) (.sl 5 0 ((woQ q i).ls.length + 1) 1) (rankH (woQ q i) ++ [.cells ((giveQ (woQ q i)).map AV.i), .cells [.i ((giveQ q)[i]?.getD 0)]] ++ [.cells (A.map AV.i)]) :=
    callOk_push (by simp [locsIn]) fun o ho => by rw [List.mem_singleton] at ho; subst ho; exact ⟨ints_locs _ _, trivial⟩
  refine kK_turn hins hco3 ?_
  simp only [List.cons_append, List.nil_append, evA, if_true, if_false, beq_false, simprocAttr]
  refine (c61 (giveQ q) A (by omega) (by omega)).call (σ := rankH (woQ q i) ++ [.cells ((giveQ (woQ q i)).map AV.i), .cells [.i ((giveQ q)[i]?.getD 0)]] ++ [.cells (A.map AV.i)]) (args' := [ints (giveQ q), .sl 5 0 ((woQ q i).ls.length + 1) 1]) (.cons (.c (.c _ trivial)) (.cons (frz_ints' (l := 5) (fun _ => trivial) hAl.symm rfl) .nil)) ?_
  have hmv : movs (fun k => (giveQ q)[k]!) (fun k => A[k]!) (giveQ q).length = cancM q i := by
    unfold cancM
    rw [giveQ_len]
    refine movs_congr fun k hk => ⟨rfl, ?_⟩
    rw [hA, ← getB]
    exact left_at hi hk
  rw [hmv]
  simp only [evA, if_true, if_false, beq_false, simprocAttr]
  exact .tup (.cons (.c (.c _ trivial)) (.cons (.c (.c _ trivial)) .nil))

end Go.Proofs.Ytjgolcbpgmlilaa.AM

namespace Go.Proofs.Ytjgolcbpgmlilaa.AM
open Go Go.Proofs.Ytjgolcbpgmlilaa.Qu Pl
set_option linter.unusedVariables false
set_option linter.unusedSimpArgs false

theorem flat_set {α : Type} [Inhabited α] {f : α → List CV} {e : Nat} (hf : ∀ x, (f x).length = e) {j : Nat} (hj : j < e) {v : CV} {y : α} : ∀ {xs : List α} {k : Nat}, k < xs.length → f y = (f xs[k]!).set j v → (xs.flatMap f).set (k * e + j) v = (xs.set k y).flatMap f
  | [], k, hk, _ => by simp at hk
  | x :: xs, 0, _, hy => by
    rw [Nat.zero_mul, Nat.zero_add, List.flatMap_cons, List.set_cons_zero, List.flatMap_cons, List.set_append_left _ _ (by rw [hf]; exact hj), hy]
    rfl
  | x :: xs, k + 1, hk, hy => by
    have h1 : (k + 1) * e + j = (f x).length + (k * e + j) := by rw [hf, Nat.succ_mul]; omega
    rw [List.flatMap_cons, List.set_cons_succ, List.flatMap_cons, List.set_append_right _ _ (by omega), h1, Nat.add_sub_cancel_left]
    rw [flat_set hf hj (by simpa using hk) (by simpa using hy)]

theorem qsz_more {q : QL} (hq : QSz q) {c : Nat} (hc : c < q.cs.length) : QSz (moreQ q c) := by
  refine ⟨by rw [more_len]; exact hq.cs, hq.ls, fun k hk => ?_, fun k hk => ?_, hq.lm, hq.wi⟩
  · rw [more_len] at hk
    rw [more_get q hc]
    split
    · exact hq.nm _ hc
    · exact hq.nm _ hk
  · rw [more_len] at hk
    rw [more_get q hc]
    split
    · exact hq.ru _ hc
    · exact hq.ru _ hk
theorem qok_more {q : QL} (h : QOk q) {c : Nat} (hc : c < q.cs.length) (hp : (q.cs[c]!).pl ≠ 6) : QOk (moreQ q c) :=
  ⟨by rw [more_len]; exact h.1, h.2.1, leaOk_more h.2.2.1 c, cenOk_more h.2.2.2 hc hp⟩

noncomputable def openQV (q : QL) (c : Int) : AV :=
  if eQ q = 0 then (if inB c 0 ((q.cs.length : Int) - 1) = true then (if (q.cs[c.toNat]!).pl = 6 then .tup [movL [], .i 7] else .tup [movL (openM q c.toNat), .i 0]) else .tup [movL [], .i 4]) else .tup [movL [], .i (eQ q)]

/-- the program's Open -/
theorem c31 (q : QL) (hq : QSz q) (x : Int) : PA Try.prog 31 [qV q, .i x] (openQV q x) := by
  refine ⟨AC_SW (fok31 true) (Nat.le_of_ble_eq_true rfl) ?_, by unfold openQV; split <;> (try split) <;> (try split) <;> rfl, rfl⟩
  simp only [ic31]
  refine SW_seq ?_
  simp only [kSW_n, evA, if_true, if_false, beq_false, simprocAttr]
  refine SW_seq ?_
  simp only [kSW_n, evA, if_true, if_false, beq_false, simprocAttr]
  refine (AC.frame (by simp [locsInAll, locsIn]) (c48 q hq) _).mono ?_
  rintro r τ ⟨r0, τ0, ⟨he, tr, hR, rfl, rfl⟩ | ⟨he, rfl, rfl⟩, rfl, rfl⟩
  rotate_left
  · have hb := bne_t he
    simp only [List.map_cons, List.map_nil, renO, ren, rens, kSW_n, evA, if_true, if_false, beq_false, simprocAttr]
    refine SW_seq ?_
    simp only [hb, kSW_n, kSW_r, evA, if_true, if_false, beq_false, simprocAttr]
    unfold openQV
    rw [if_neg he]
    exact .tup (.cons (.c .nl) (.cons (.c (.c _ trivial)) .nil))
  have hes : (esT tr).map (fun e => (ren (sh 1) e.1, ren (sh 1) e.2)) = esT tr := by
    simp [esT, kAV, ren, rens]
  have hcs := hq.cs
  have hqo := val_of he
  have hwn : IntKind.i64.wrap ((q.cs.length : Int) - 1) = (q.cs.length : Int) - 1 := wrap_in (by omega)
  simp only [openV, List.map_cons, List.map_nil, List.length_cons, List.length_nil, renO, ren, rens, hes, sh, kSW_n, evA, if_true, if_false, beq_false, simprocAttr]
  refine SW_seq ?_
  simp only [kSW_n, hwn, evA, if_true, if_false, beq_false, simprocAttr]
  refine (c39 0 ((q.cs.length : Int) - 1) [x] (by simp)).call frz ?_
  rw [outF_one]
  unfold openQV
  rw [if_pos he]
  cases hin : inB x 0 ((q.cs.length : Int) - 1) with
  | false =>
    simp only [kSW_n, kSW_r, evA, if_true, if_false, beq_false, simprocAttr]
    exact .tup (.cons (.c .nl) (.cons (.c (.c _ trivial)) .nil))
  | true =>
  rw [inB_iff] at hin
  obtain ⟨c, rfl⟩ : ∃ c : Nat, x = c := ⟨x.toNat, by omega⟩
  have hc : c < q.cs.length := by omega
  simp only [kSW_n, kSW_r, Int.toNat_natCast, ia_rsl hc, cen_1 hc, evA, if_true, if_false, beq_false, simprocAttr]
  by_cases h6 : (q.cs[c]!).pl = 6
  · have hb : ((q.cs[c]!).pl == 6) = true := by rw [h6]; rfl
    simp only [hb, h6, kSW_n, kSW_r, evA, if_true, if_false, beq_false, simprocAttr]
    exact .tup (.cons (.c .nl) (.cons (.c (.c _ trivial)) .nil))
  have hb : ((q.cs[c]!).pl == 6) = false := beq_f h6
  simp only [hb, h6, kSW_n, kSW_r, evA, if_true, if_false, beq_false, simprocAttr]
  refine SW_seq ?_
  simp only [kSW_n, evA, if_true, if_false, beq_false, simprocAttr]
  refine (c50 hq hqo hR (L := 4) (lm := 3) rfl rfl (by simp [AObj.live])).run ?_
  simp only [kSW_n, evA, if_true, if_false, beq_false, simprocAttr]
  refine SW_seq ?_
  simp only [kSW_n, evA, if_true, if_false, beq_false, simprocAttr]
  refine (c63 q.cs (by omega) (by have := hqo.1; omega) _).mono ?_
  rintro r τ ⟨l, rfl, hl, hlg, hkp⟩
  have hl0 : l ≠ 0 := by simp at hlg; omega
  have h0 : rowOf τ 0 = some [cenL q.cs, leaL q.ls] := by
    rw [rowOf_eq (hkp 0 (by simp))]
    rfl
  simp only [h0, kSW_n, evA, if_true, if_false, beq_false, simprocAttr]
  refine SW_seq ?_
  obtain ⟨σ1, hσ1⟩ : ∃ σ1, σ1 = τ.set 0 (AObj.cells [.sl l 0 q.cs.length 3, leaL q.ls]) := ⟨_, rfl⟩
  have h00 : rowOf σ1 0 = some [.sl l 0 q.cs.length 3, leaL q.ls] := by rw [hσ1]; exact rowOf_set_self h0
  have h0l : rowOf σ1 l = some ((cenCs q.cs).map .cv) := by rw [hσ1, rowOf_set_ne (Ne.symm hl0)]; exact hl
  have hia : ∀ σ, f_iaS 3 [.sl l 0 q.cs.length 3, .cv (.int .i64 c)] σ = some (.ptr l (c * 3), σ) := fun σ => by simp [f_iaS, hc]
  have hget : ((cenCs q.cs).map AV.cv)[c * 3 + 1]? = some (.i (q.cs[c]!).pl) := by rw [List.getElem?_map, cen_1 hc]; rfl
  have hpl := (hqo.2.2.2 c hc).pl
  have hwp : IntKind.i64.wrap ((q.cs[c]!).pl + 1) = (q.cs[c]!).pl + 1 := wrap_in (by omega)
  have hset : ((cenCs q.cs).map AV.cv).set (c * 3 + 1) (.i ((q.cs[c]!).pl + 1)) = (cenCs (moreQ q c).cs).map .cv := by
    rw [← List.map_set (f := AV.cv) (a := .int .i64 ((q.cs[c]!).pl + 1))]
    congr 1
    exact flat_set cenC_len (j := 1) (by omega) hc rfl
  have hst : f_store 1 [.ptr l (c * 3 + 1), .i ((q.cs[c]!).pl + 1)] σ1 = some (.undef, σ1.set l (.cells ((cenCs (moreQ q c).cs).map .cv))) := by
    have h1 : (cellsOf (.i ((q.cs[c]!).pl + 1))).length = 1 ∧ c * 3 + 1 + 1 ≤ ((cenCs q.cs).map AV.cv).length ∧ (cellsOf (.i ((q.cs[c]!).pl + 1))).all AV.isSc = true := ⟨rfl, by rw [List.length_map, cenCs_len]; omega, rfl⟩
    simp only [f_store, h0l, Option.bind_some]
    rw [if_pos h1]
    simp only [cellsOf, setRange, hset]
  rw [← hσ1]
  simp only [h00, h0l, hia, hget, hwp, hst, kSW_n, evA, if_true, if_false, beq_false, simprocAttr]
  have hlen := more_len q c
  have hq2 := qsz_more hq hc
  have hqo2 := qok_more hqo hc h6
  refine SW.freeze rfl (vals' := [qV q, .i c, .cv (.rp [.rsl (cenCs (moreQ q c).cs) q.cs.length, .rsl (leaCs q.ls) q.ls.length] 0), .cv .nils, .i 0, .undef, .i 0, ints (giveQ q), .b false, .b false, .b false]) ?_ ?_
  · have hr0 : rowOf (σ1.set l (.cells ((cenCs (moreQ q c).cs).map .cv))) 0 = some [.sl l 0 q.cs.length 3, leaL q.ls] := by rw [rowOf_set_ne hl0]; exact h00
    refine .cons (.agg (.cons (.c (.c _ trivial)) (.cons (.c (.c _ trivial)) .nil))) (.cons (.c (.c _ trivial)) (.cons (.c (.ptr 0 0 _ _ hr0 (.cons (sl_frzC (rowOf_set_self h0l) ?_ (fun _ _ => trivial)) (.cons (.c _ trivial) .nil)))) (.cons (.c (.c _ trivial)) (.cons (.c (.c _ trivial)) (.cons (.un _) (.cons (.c (.c _ trivial)) (.cons (.c (.c _ trivial)) (.cons (.c (.c _ trivial)) (.cons (.c (.c _ trivial)) (.cons (.c (.c _ trivial)) .nil))))))))))
    rw [cenCs_len, hlen]
  rw [← hlen]
  refine SW_of ?_
  simp only [evA, if_true, if_false, beq_false, simprocAttr]
  refine AC.run (c60 (moreQ q c) hq2 hqo2) ?_
  simp only [evA, if_true, if_false, beq_false, simprocAttr]
  have hR2 := trC_ranks hqo2.2.2.1 hq2 _ (Nat.le_refl _)
  refine (c50 hq2 hqo2 hR2 (L := 2) (lm := 1) rfl rfl (by simp [AObj.live])).run ?_
  simp only [evA, if_true, if_false, beq_false, simprocAttr]
  have hgl := giveQ_len q
  have hgl2 : (giveQ (moreQ q c)).length = q.ls.length := giveQ_len (moreQ q c)
  refine (c61 (giveQ q) (giveQ (moreQ q c)) (by have := hqo.2.1; omega) (by omega)).call (.cons (.c (.c _ trivial)) (.cons (.c (.c _ trivial)) .nil)) ?_
  rw [giveQ_len]
  simp only [evA, if_true, if_false, beq_false, simprocAttr]
  exact .tup (.cons (.c (.c _ trivial)) (.cons (.c (.c _ trivial)) .nil))

end Go.Proofs.Ytjgolcbpgmlilaa.AM

namespace Go.Proofs.Ytjgolcbpgmlilaa.AM
open Go Go.Proofs.Ytjgolcbpgmlilaa.Qu Pl
set_option linter.unusedVariables false
set_option linter.unusedSimpArgs false

/-- the program's Order -/
theorem c18 (q : QL) (hq : QSz q) (x : Int) : PA Try.prog 18 [qV q, .i x] (ordV q x) := by
  refine ⟨AC_FE (fok18 true) (Nat.le_of_ble_eq_true rfl) ?_, by unfold ordV; split <;> (try split) <;> rfl, rfl⟩
  simp only [ic18, evA, if_true, if_false, beq_false, simprocAttr]
  refine (AC.frame (by simp [locsInAll, locsIn]) (c48 q hq) _).mono ?_
  rintro r τ ⟨r0, τ0, ⟨he, tr, hR, rfl, rfl⟩ | ⟨he, rfl, rfl⟩, rfl, rfl⟩
  rotate_left
  · have hb := bne_t he
    simp only [List.map_cons, List.map_nil, renO, ren, rens, hb, evA, if_true, if_false, beq_false, simprocAttr]
    unfold ordV
    rw [if_neg he]
    exact .tup (.cons (.c .nl) (.cons (.c (.c _ trivial)) .nil))
  have hes : (esT tr).map (fun e => (ren (sh 1) e.1, ren (sh 1) e.2)) = esT tr := by
    simp [esT, kAV, ren, rens]
  have hcs := hq.cs
  have hqo := val_of he
  have hwn : IntKind.i64.wrap ((q.cs.length : Int) - 1) = (q.cs.length : Int) - 1 := wrap_in (by omega)
  simp only [openV, List.map_cons, List.map_nil, List.length_cons, List.length_nil, renO, ren, rens, hes, sh, hwn, evA, if_true, if_false, beq_false, simprocAttr]
  refine (c39 0 ((q.cs.length : Int) - 1) [x] (by simp)).call frz ?_
  rw [outF_one]
  unfold ordV
  rw [if_pos he]
  cases hin : inB x 0 ((q.cs.length : Int) - 1) with
  | false =>
    simp only [evA, if_true, if_false, beq_false, simprocAttr]
    exact .tup (.cons (.c .nl) (.cons (.c (.c _ trivial)) .nil))
  | true =>
  rw [inB_iff] at hin
  obtain ⟨c, rfl⟩ : ∃ c : Nat, x = c := ⟨x.toNat, by omega⟩
  have hc : c < q.cs.length := by omega
  simp only [Int.toNat_natCast, evA, if_true, if_false, beq_false, simprocAttr]
  refine (c49 q hq hqo c hc (L := 4) (x := .map 3) rfl (by simp [AObj.live])).run ?_
  simp only [evA, if_true, if_false, beq_false, simprocAttr]
  exact .tup (.cons (.c (.c _ trivial)) (.cons (.c (.c _ trivial)) .nil))

/-- the program's Give -/
theorem c22 (q : QL) (hq : QSz q) : PA Try.prog 22 [qV q] (giveV q) := by
  refine ⟨AC_FE (fok22 true) (Nat.le_of_ble_eq_true rfl) ?_, by unfold giveV; split <;> rfl, rfl⟩
  simp only [ic22, evA, if_true, if_false, beq_false, simprocAttr]
  refine (AC.frame (by simp [locsInAll, locsIn]) (c48 q hq) _).mono ?_
  rintro r τ ⟨r0, τ0, ⟨he, tr, hR, rfl, rfl⟩ | ⟨he, rfl, rfl⟩, rfl, rfl⟩
  rotate_left
  · have hb := bne_t he
    simp only [List.map_cons, List.map_nil, renO, ren, rens, hb, evA, if_true, if_false, beq_false, simprocAttr]
    unfold giveV
    rw [if_neg he]
    exact .tup (.cons (.c .nl) (.cons (.c (.c _ trivial)) .nil))
  have hes : (esT tr).map (fun e => (ren (sh 1) e.1, ren (sh 1) e.2)) = esT tr := by
    simp [esT, kAV, ren, rens]
  have hqo := val_of he
  simp only [openV, List.map_cons, List.map_nil, List.length_cons, List.length_nil, renO, ren, rens, hes, sh, evA, if_true, if_false, beq_false, simprocAttr]
  refine (c50 hq hqo hR (L := 4) (lm := 3) rfl rfl (by simp [AObj.live])).run ?_
  simp only [evA, if_true, if_false, beq_false, simprocAttr]
  unfold giveV
  rw [if_pos he]
  exact .tup (.cons (.c (.c _ trivial)) (.cons (.c (.c _ trivial)) .nil))

theorem count_take {zs : List Int} {z : Int} {k : Nat} (h : k < zs.length) : (zs.take (k + 1)).count z = (zs.take k).count z + if zs[k]?.getD 0 = z then 1 else 0 := by
  rw [List.take_add_one, List.getElem?_eq_getElem h, List.count_append]
  simp [List.count_singleton]

/-- queue.many -/
theorem c52 (g : List Int) (c : Int) (hg : g.length < 2 ^ 63) : PC Try.prog 52 [ints g, .i c] (.i (g.count c)) := by
  refine ⟨AC_FE (fok52 true) (Nat.le_of_ble_eq_true rfl) ?_, rfl⟩
  simp only [ic52, evA, if_true, if_false, beq_false, simprocAttr]
  refine IL_for g.length (fun k s => ∃ v3 v7 v8, s = ⟨[ints g, .i c, .i (((g.take k).count c : Nat) : Int), v3, ints g, .i g.length, .i k, v7, v8], []⟩) ?_ 0 (Nat.zero_le _) ⟨_, _, _, rfl⟩
  rintro k s hk ⟨v3, v7, v8, rfl⟩
  by_cases h : k < g.length
  rotate_left
  · have : k = g.length := by omega
    subst this
    simp only [ic52l0, Int.ofNat_lt, h, List.take_length, evA, if_true, if_false, beq_false, simprocAttr]
    exact .c (.c _ trivial)
  have hws : IntKind.i64.wrap ((k : Int) + 1) = ((k + 1 : Nat) : Int) := wrap_succ (by omega)
  have hct := count_take (z := c) h
  have hcl : (g.take k).count c ≤ k := Nat.le_trans List.count_le_length (by simp; omega)
  by_cases he : g[k]?.getD 0 = c
  · have hb : (g[k]?.getD 0 == c) = true := by simp [he]
    have hw2 : IntKind.i64.wrap ((((g.take k).count c : Nat) : Int) + 1) = (((g.take k).count c + 1 : Nat) : Int) := wrap_succ (by omega)
    rw [if_pos he] at hct
    simp only [ic52l0, Int.ofNat_lt, h, hb, hws, hw2, evA, if_true, if_false, beq_false, simprocAttr]
    exact kFor_go (by first | trivial | omega) ⟨_, _, _, by rw [hct]⟩
  · have hb : (g[k]?.getD 0 == c) = false := by simp [he]
    rw [if_neg he] at hct
    simp only [ic52l0, Int.ofNat_lt, h, hb, hws, evA, if_true, if_false, beq_false, simprocAttr]
    exact kFor_go (by first | trivial | omega) ⟨_, _, _, by rw [hct]; rfl⟩

end Go.Proofs.Ytjgolcbpgmlilaa.AM

namespace Go.Proofs.Ytjgolcbpgmlilaa.AM
open Go Go.Proofs.Ytjgolcbpgmlilaa.Qu Pl
set_option linter.unusedVariables false
set_option linter.unusedSimpArgs false

/-- what is given is a centre, or none -/
theorem give_range {q : QL} (hL : ∀ i, i < q.ls.length → LeaOk q i) {i : Nat} (hi : i < q.ls.length) : (giveQ q)[i]?.getD 0 = -1 ∨ ∃ c : Nat, c < q.cs.length ∧ (giveQ q)[i]?.getD 0 = (c : Int) := by
  rw [← getB, give_get hi]
  cases h : (mk q).has (bestP q) i with
  | none => exact .inl rfl
  | some c => exact .inr ⟨c, wish_lt hL i hi c (List.mem_of_getElem? h), rfl⟩

abbrev openH (q : QL) (tr : List (Nat × Nat × Nat)) : List AObj := [.cells [cenL q.cs, leaL q.ls], .cells [cenL q.cs, leaL q.ls], .cells [cenL q.cs, leaL q.ls], .map (esT tr), .cells [cenL q.cs, leaL q.ls, .map 3]]

set_option maxRecDepth 4000 in
/-- the program's Cut -/
theorem c24 (q : QL) (hq : QSz q) : PC Try.prog 24 [qV q] (cutV q) := by
  refine ⟨AC_FE (fok24 true) (Nat.le_of_ble_eq_true rfl) ?_, cutV_cl q⟩
  simp only [ic24, evA, if_true, if_false, beq_false, simprocAttr]
  refine (AC.frame (by simp [locsInAll, locsIn]) (c48 q hq) _).mono ?_
  rintro r τ ⟨r0, τ0, ⟨he, tr, hR, rfl, rfl⟩ | ⟨he, rfl, rfl⟩, rfl, rfl⟩
  rotate_left
  · have hb := bne_t he
    simp only [List.map_cons, List.map_nil, renO, ren, rens, hb, evA, if_true, if_false, beq_false, simprocAttr]
    unfold cutV
    rw [if_neg he]
    exact .tup (.cons (.c .nl) (.cons (.c (.c _ trivial)) .nil))
  have hes : (esT tr).map (fun e => (ren (sh 1) e.1, ren (sh 1) e.2)) = esT tr := by
    simp [esT, kAV, ren, rens]
  have hqo := val_of he
  obtain ⟨hc5, hl8, hL, hC⟩ := id hqo
  have hgl := giveQ_len q
  have hmk := fun σ => mk_ints (n := q.cs.length) (by omega) σ
  rw [listN_zero] at hmk
  simp only [openV, List.map_cons, List.map_nil, List.length_cons, List.length_nil, renO, ren, rens, hes, sh, evA, if_true, if_false, beq_false, simprocAttr]
  refine (c50 hq hqo hR (L := 4) (lm := 3) rfl rfl (by simp [AObj.live])).run ?_
  simp only [hmk, evA, if_true, if_false, beq_false, simprocAttr]
  obtain ⟨g, hg⟩ : ∃ g, g = giveQ q := ⟨_, rfl⟩
  have hrg := fun i (hi : i < q.ls.length) => give_range hL hi
  rw [← hg] at hgl hrg ⊢
  obtain ⟨M, hM⟩ : ∃ M : Nat → Nat → Int, M = fun i c => (maxTo q g c i : Int) := ⟨_, rfl⟩
  have hM0 : (fun _ => (0 : Int)) = M 0 := by rw [hM]; rfl
  rw [hM0]
  refine IL_for g.length (fun i s => ∃ v6 v7 v14 v15, s = ⟨[qV q, .ptr 0 0, .sl 5 0 q.cs.length 1, .i 0, .ptr 4 0, ints g, v6, v7, .undef, .undef, .b false, ints g, .i g.length, .i i, v14, v15, .undef, .undef, .undef, .undef, .undef], openH q tr ++ [.cells ((listN q.cs.length (M i)).map AV.i)]⟩) ?_ 0 (Nat.zero_le _) ⟨_, _, _, _, rfl⟩
  rintro i s hi ⟨v6, v7, v14, v15, rfl⟩
  by_cases h : i < g.length
  · have hil : i < q.ls.length := by omega
    have hws : IntKind.i64.wrap ((i : Int) + 1) = ((i + 1 : Nat) : Int) := wrap_succ (by omega)
    rcases hrg i hil with hm1 | ⟨c, hc, hgc⟩
    · have hd : decide ((-1 : Int) ≥ 0) = false := rfl
      have hMi : listN q.cs.length (M (i + 1)) = listN q.cs.length (M i) := listN_congr fun c hc => by
        rw [hM]
        simp only [maxTo, getB, hm1]
        rw [if_neg (by omega)]
      simp only [ic24l1, Int.ofNat_lt, h, hm1, hd, hws, evA, if_true, if_false, beq_false, simprocAttr]
      exact kFor_go (by first | trivial | omega) ⟨_, _, _, _, by rw [hMi]⟩
    · have hd : decide ((c : Int) ≥ 0) = true := by simp
      have hMi : listN q.cs.length (M (i + 1)) = listN q.cs.length (upd (M i) c (if (rankQ q c i : Int) > M i c then (rankQ q c i : Int) else M i c)) := listN_congr fun d hdl => by
        rw [hM]
        simp only [maxTo, getB, hgc, upd]
        by_cases e : d = c
        · subst e
          rw [if_pos rfl, if_pos rfl]
          split <;> omega
        · rw [if_neg e, if_neg (by omega)]
      have hlk := map_look hq hR hc hil (σ := openH q tr ++ [.cells ((listN q.cs.length (M i)).map AV.i)]) (l := 3) rfl
      have hcl : c < (listN q.cs.length (M i)).length := by rw [listN_len]; exact hc
      have hgt := listN_get (f := M i) hc
      simp only [List.cons_append, List.nil_append] at hlk
      simp only [ic24l1, Int.ofNat_lt, h, hgc, hd, hws, List.cons_append, List.nil_append, evA, if_true, if_false, beq_false, simprocAttr]
      refine DW_s [] [] hmix (by kernel_rfl) rfl ?_
      simp only [sl_addr hc, Nat.zero_add, hcl, hgt, hlk, show c + 1 ≤ (listN q.cs.length (M i)).length from hcl, listN_upd hc, evA, if_true, if_false, beq_false, simprocAttr]
      exact kFor_go (by first | trivial | omega) ⟨_, _, _, _, by rw [hMi, hws]⟩
  · have : i = g.length := by omega
    subst this
    simp only [ic24l1, Int.ofNat_lt, h, List.cons_append, List.nil_append, evA, if_true, if_false, beq_false, simprocAttr]
    obtain ⟨F, hF⟩ : ∃ F : Nat → Nat → Int, F = fun k c => if c < k then cutN q c else M g.length c := ⟨_, rfl⟩
    have hF0 : M g.length = F 0 := by rw [hF]; funext c; simp
    rw [hF0]
    refine IL_for q.cs.length (fun k s => ∃ v6 v7 v15 v8 v9 v19 v20, s = ⟨[qV q, .ptr 0 0, .sl 5 0 q.cs.length 1, .i 0, .ptr 4 0, ints g, v6, v7, v8, v9, .b false, ints g, .i g.length, .i g.length, .b false, v15, cenL q.cs, .i q.cs.length, .i k, v19, v20], openH q tr ++ [.cells ((listN q.cs.length (F k)).map AV.i)]⟩) ?_ 0 (Nat.zero_le _) ⟨_, _, _, _, _, _, _, rfl⟩
    clear v6 v7 v14 v15
    rintro k s hk ⟨v6, v7, v15, v8, v9, v19, v20, rfl⟩
    by_cases h1 : k < q.cs.length
    rotate_left
    · have : k = q.cs.length := by omega
      subst this
      have hfin : listN q.cs.length (F q.cs.length) = cutQ q := by
        rw [cutQ_list]
        refine listN_congr fun c hc => ?_
        rw [hF]
        simp only
        rw [if_pos hc]
      simp only [ic24l0, Int.ofNat_lt, h1, List.cons_append, List.nil_append, evA, if_true, if_false, beq_false, simprocAttr]
      rw [hfin]
      unfold cutV
      rw [if_pos he]
      exact .tup (.cons (frz_ints' (l := 5) (fun _ => trivial) (by rw [← hfin, listN_len]) rfl) (.cons (.c (.c _ trivial)) .nil))
    have hws : IntKind.i64.wrap ((k : Int) + 1) = ((k + 1 : Nat) : Int) := wrap_succ (by omega)
    have hFk : listN q.cs.length (F (k + 1)) = listN q.cs.length (upd (F k) k (cutN q k)) := listN_congr fun d hd => by
      rw [hF]
      simp only [upd]
      by_cases e : d = k
      · subst e; rw [if_pos rfl, if_pos (by omega)]
      · rw [if_neg e]
        by_cases e2 : d < k
        · rw [if_pos (by omega), if_pos e2]
        · rw [if_neg (by omega), if_neg e2]
    have hob : ∀ (zs : List Int), ∀ o ∈ openH q tr ++ [AObj.cells (zs.map AV.i)], objIn (openH q tr ++ [AObj.cells (zs.map AV.i)]).length o = true := by
      intro zs o ho
      simp only [List.cons_append, List.nil_append, List.mem_cons, List.not_mem_nil, or_false] at ho
      rcases ho with rfl | rfl | rfl | rfl | rfl | rfl
      · rfl
      · rfl
      · rfl
      · exact esT_locs _ _
      · rfl
      · exact ints_locs _ _
    simp only [ic24l0, Int.ofNat_lt, h1, hws, ia_rsl h1, cen_ld h1, List.cons_append, List.nil_append, evA, if_true, if_false, beq_false, simprocAttr]
    refine DW_s [2] [] hmix (by kernel_rfl) rfl ?_
    simp only [evA, if_true, if_false, beq_false, simprocAttr]
    refine kK_keep ((c52 g (k : Int) (by omega)).call frz ⟨rfl, rfl⟩) rfl ?_
    by_cases h2 : ((giveQ q).count (k : Int) : Int) < (q.cs[k]!).pl
    · have hcn : cutN q k = (q.ls.length : Int) := by unfold cutN; rw [if_pos h2]
      have hd : decide (((g.count (k : Int) : Nat) : Int) < (q.cs[k]!).pl) = true := by rw [hg]; exact decide_eq_true h2
      have hkl : k + 1 ≤ (listN q.cs.length (F k)).length := by rw [listN_len]; exact h1
      simp only [hd, hws, sl_addr h1, Nat.zero_add, hkl, listN_upd h1, evA, if_true, if_false, beq_false, simprocAttr]
      exact kFor_clip (openH q tr ++ [.cells ((listN q.cs.length (F (k + 1))).map AV.i)]) [.cells [.cv (.str (q.cs[k]!).nm), .i (q.cs[k]!).pl, ints (q.cs[k]!).ru]] (by rw [hFk, hcn]; rfl) (by first | trivial | omega) (Nat.zero_le _) (hob _) ⟨_, _, _, _, _, _, _, rfl⟩
    · have hsame : listN q.cs.length (F (k + 1)) = listN q.cs.length (F k) := by
        rw [hFk]
        refine listN_congr fun d hd => ?_
        simp only [upd]
        split
        · rename_i e
          subst e
          have hcn : cutN q d = M g.length d := by unfold cutN; rw [if_neg h2, hM, hg, giveQ_len]
          rw [hcn, hF]
          simp only
          rw [if_neg (by omega)]
        · rfl
      have hd : decide (((g.count (k : Int) : Nat) : Int) < (q.cs[k]!).pl) = false := by rw [hg]; exact decide_eq_false h2
      simp only [hd, hws, evA, if_true, if_false, beq_false, simprocAttr]
      exact kFor_clip (openH q tr ++ [.cells ((listN q.cs.length (F (k + 1))).map AV.i)]) [.cells [.cv (.str (q.cs[k]!).nm), .i (q.cs[k]!).pl, ints (q.cs[k]!).ru]] (by rw [hsame]; rfl) (by first | trivial | omega) (Nat.zero_le _) (hob _) ⟨_, _, _, _, _, _, _, rfl⟩

end Go.Proofs.Ytjgolcbpgmlilaa.AM

namespace Go.Proofs.Ytjgolcbpgmlilaa.AM
open Go Go.Proofs.Ytjgolcbpgmlilaa.Qu Pl
set_option linter.unusedVariables false
set_option linter.unusedSimpArgs false

def pasQ (q : QL) (g : List Int) (i c k : Nat) : Bool := g[k]?.getD 0 == (c : Int) && decide ((rankQ q c k : Int) > (rankQ q c i : Int))
def passQ (q : QL) (g : List Int) (i c : Nat) : Bool := decide (((g.count (c : Int) : Nat) : Int) < (q.cs[c]!).pl) || anyN (pasQ q g i c) g.length

/-- (*list).passed -/
theorem c55 {q : QL} (hq : QSz q) (he : QOk q) {tr : List (Nat × Nat × Nat)} (hR : RanksAt q q.cs.length 0 tr) {g : List Int} (hgl : g.length = q.ls.length) {i c : Nat} (hi : i < q.ls.length) (hc : c < q.cs.length) {σ : List AObj} {L lm : Nat}
    (hL0 : rowOf σ L = some [cenL q.cs, leaL q.ls, .map lm]) (hm0 : mapOf σ lm = some (esT tr)) :
    AC Try.prog 55 [.ptr L 0, ints g, .i i, .i c] σ fun r τ => r = .b (passQ q g i c) ∧ τ = σ := by
  refine AC_FE (fok55 true) (Nat.le_of_ble_eq_true rfl) ?_
  have hl8 := he.2.1
  simp only [ic55, evA, if_true, if_false, beq_false, simprocAttr]
  refine DW_s [2] [] hmix (by kernel_rfl) rfl ?_
  simp only [evA, if_true, if_false, beq_false, simprocAttr]
  refine kK_keep ((c52 g (c : Int) (by omega)).call frz ⟨rfl, rfl⟩) rfl ?_
  simp only [hL0, ia_rsl hc, cen_1 hc, evA, if_true, if_false, beq_false, simprocAttr]
  unfold passQ
  cases hd : decide (((g.count (c : Int) : Nat) : Int) < (q.cs[c]!).pl) with
  | true => simp only [evA, if_true, if_false, beq_false, simprocAttr]
  | false =>
  simp only [evA, if_true, if_false, beq_false, simprocAttr]
  refine IL_for g.length (fun k s => (∀ j, j < k → pasQ q g i c j = false) ∧ ∃ v5 v6 v11 v12, s = ⟨[.ptr L 0, ints g, .i i, .i c, .b false, v5, v6, .b false, ints g, .i g.length, .i k, v11, v12], σ⟩) ?_ 0 (Nat.zero_le _) ⟨by omega, _, _, _, _, rfl⟩
  rintro k s hk ⟨hall, v5, v6, v11, v12, rfl⟩
  have hgo : pasQ q g i c k = false → ∀ j, j < k + 1 → pasQ q g i c j = false := fun hb j hj => by
    rcases Nat.lt_succ_iff_lt_or_eq.1 hj with hj | rfl
    · exact hall j hj
    · exact hb
  by_cases h : k < g.length
  rotate_left
  · have : k = g.length := by omega
    subst this
    have hany : anyN (pasQ q g i c) g.length = false := by
      unfold anyN
      rw [List.any_eq_false]
      intro j hj
      rw [hall j (by simpa using hj)]; simp
    simp only [ic55l0, Int.ofNat_lt, h, hany, evA, if_true, if_false, beq_false, simprocAttr]
  have hkl : k < q.ls.length := by omega
  have hws : IntKind.i64.wrap ((k : Int) + 1) = ((k + 1 : Nat) : Int) := wrap_succ (by omega)
  have hl1 := map_look hq hR hc hkl hm0
  have hl2 := map_look hq hR hc hi hm0
  simp only [ic55l0, Int.ofNat_lt, h, hws, evA, if_true, if_false, beq_false, simprocAttr]
  refine DW_s [] [] hmix (by kernel_rfl) rfl ?_
  cases h1 : (g[k]?.getD 0 == (c : Int)) with
  | false =>
    simp only [h1, hws, evA, if_true, if_false, beq_false, simprocAttr]
    exact kFor_go (by first | trivial | omega) ⟨hgo (by unfold pasQ; rw [h1]; rfl), _, _, _, _, rfl⟩
  | true =>
    cases h2 : decide ((rankQ q c k : Int) > (rankQ q c i : Int)) with
    | false =>
      simp only [h1, h2, hws, hL0, hl1, hl2, evA, if_true, if_false, beq_false, simprocAttr]
      exact kFor_go (by first | trivial | omega) ⟨hgo (by unfold pasQ; rw [h1, h2]; rfl), _, _, _, _, rfl⟩
    | true =>
      have hany : anyN (pasQ q g i c) g.length = true := by
        unfold anyN
        rw [List.any_eq_true]
        exact ⟨k, by simpa using h, by unfold pasQ; rw [h1, h2]; rfl⟩
      simp only [h1, h2, hL0, hl1, hl2, hany, evA, if_true, if_false, beq_false, simprocAttr]

/-- the document's word for it -/
theorem pass_bad {q : QL} (hL : ∀ i, i < q.ls.length → LeaOk q i) {g : List Int} (hgl : g.length = q.ls.length) {i n c : Nat} (hi : i < q.ls.length) (hn : (q.ls[i]!).wi[n]?.getD 0 = (c : Int)) : badQ q g i n = passQ q g i c := by
  unfold badQ passQ
  rw [hn, Int.toNat_natCast]
  congr 1
  unfold anyN
  rw [Bool.eq_iff_iff, List.any_eq_true, List.any_eq_true]
  refine exists_congr fun k => and_congr_right fun hk => ?_
  have hk' : k < q.ls.length := by rw [← hgl]; simpa using hk
  rw [mk_lt hL hk' hi]
  unfold pasQ rankQ
  simp only [mk, Bool.and_eq_true, decide_eq_true_eq]
  refine and_congr_right fun _ => ?_
  refine Iff.trans (decide_eq_true_iff (p := Mk.rankOf q.ls.length (bef q c) i < Mk.rankOf q.ls.length (bef q c) k)) ?_
  omega

end Go.Proofs.Ytjgolcbpgmlilaa.AM

namespace Go.Proofs.Ytjgolcbpgmlilaa.AM
open Go Go.Proofs.Ytjgolcbpgmlilaa.Qu Pl
set_option linter.unusedVariables false
set_option linter.unusedSimpArgs false

theorem place_first {w : List Int} {c : Int} {n : Nat} (h : w[n]? = some c) : place w c ≤ n := by
  refine Nat.le_of_not_lt fun hlt => ?_
  have := List.not_of_lt_findIdx (xs := w) (p := (· == c)) hlt
  obtain ⟨h1, h2⟩ := List.getElem?_eq_some_iff.1 h
  simp [h2] at this

/-- (*list).better -/
theorem c54 (i now : Int) (L : Nat) (σ : List AObj) : AC Try.prog 54 [.ptr L 0, .i i, .i now] σ fun r τ => r = .fn (.func 89) [.ptr σ.length 0, .ptr (σ.length + 1) 0, .ptr (σ.length + 2) 0] ∧ τ = σ ++ [.cells [.ptr L 0], .cells [.i i], .cells [.i now]] := by
  refine AC_FE (fok54 true) (Nat.le_of_ble_eq_true rfl) ?_
  simp only [ic54, List.append_assoc, List.length_append, rowOf_az, rowOf_as, set_az, set_as, get_az, get_as, get_nz, get_ns, evA, if_true, if_false, beq_false, simprocAttr]

/-- the loop over what is better -/
theorem c89 {q : QL} {H : List AObj} {a b d l L i : Nat} {x : AV} {now : Int} (hi : i < q.ls.length) (hw : (q.ls[i]!).wi.length < 2 ^ 63) (ha : rowOf H a = some [.ptr L 0]) (hb : rowOf H b = some [.i i]) (hd : rowOf H d = some [.i now]) (hL : rowOf H L = some [cenL q.cs, leaL q.ls, x])
    (go : Nat → Bool) (F : Nat → List AObj)
    (hy : ∀ n, n < place (q.ls[i]!).wi now → (∀ j, j < n → go j = true) → YC Try.prog l [.i ((q.ls[i]!).wi[n]?.getD 0)] H fun v τ => v = .b (go n) ∧ τ = if go n then H else F n) :
    AC Try.prog 89 [.yld l, .ptr a 0, .ptr b 0, .ptr d 0] H fun v τ =>
      (τ = H ∧ ∀ j, j < place (q.ls[i]!).wi now → go j = true) ∨ ∃ j, τ = F j ∧ j < place (q.ls[i]!).wi now ∧ go j = false ∧ ∀ k, k < j → go k = true := by
  refine AC_FE (fok89 true) (Nat.le_of_ble_eq_true rfl) ?_
  simp only [ic89, evA, if_true, if_false, beq_false, simprocAttr]
  refine DW_s [] [] hmix (by kernel_rfl) rfl ?_
  simp only [ha, hb, hL, ia_rsl hi, lea_4 hi, evA, if_true, if_false, beq_false, simprocAttr]
  generalize hW : (q.ls[i]!).wi = W at *
  have hP := place_le W now
  refine IL_for W.length (fun n s => (n ≤ place W now ∧ ∀ j, j < n → go j = true) ∧ ∃ v4 v8 v9, s = ⟨[.yld l, .ptr a 0, .ptr b 0, .ptr d 0, v4, ints W, .i W.length, .i n, v8, v9], H⟩) ?_ 0 (Nat.zero_le _) ⟨⟨Nat.zero_le _, by omega⟩, _, _, _, rfl⟩
  rintro n s hn ⟨⟨hnP, hall⟩, v4, v8, v9, rfl⟩
  by_cases h : n < W.length
  rotate_left
  · have : n = W.length := by omega
    subst this
    simp only [ic89l0, Int.ofNat_lt, h, evA, if_true, if_false, beq_false, simprocAttr]
    exact .inl fun j hj => hall j (by omega)
  have hws : IntKind.i64.wrap ((n : Int) + 1) = ((n + 1 : Nat) : Int) := wrap_succ (by omega)
  by_cases he : W[n]?.getD 0 = now
  · have hbq : (W[n]?.getD 0 == now) = true := by simp [he]
    have hpn : place W now ≤ n := place_first (by rw [List.getElem?_eq_getElem h] at he ⊢; simpa using he)
    simp only [ic89l0, Int.ofNat_lt, h, hd, hbq, evA, if_true, if_false, beq_false, simprocAttr]
    exact .inl fun j hj => hall j (by omega)
  · have hbq : (W[n]?.getD 0 == now) = false := by simp [he]
    have hlt : n < place W now := by
      refine Nat.lt_of_le_of_ne hnP fun e => he ?_
      have := place_get (w := W) (c := now) (by omega)
      rw [← e] at this
      rw [this]; rfl
    simp only [ic89l0, Int.ofNat_lt, h, hd, hbq, evA, if_true, if_false, beq_false, simprocAttr]
    refine YC.mono (hy n hlt hall) ?_
    rintro v τ ⟨rfl, rfl⟩
    cases hg : go n with
    | true =>
      simp only [hg, hws, evA, if_true, if_false, beq_false, simprocAttr]
      exact kFor_go (by first | trivial | omega) ⟨⟨hlt, fun j hj => by
        rcases Nat.lt_succ_iff_lt_or_eq.1 hj with hj | rfl
        · exact hall j hj
        · exact hg⟩, _, _, _, rfl⟩
    | false =>
      simp only [hg, evA, if_true, if_false, beq_false, simprocAttr]
      exact .inr ⟨n, rfl, hlt, hg, hall⟩

end Go.Proofs.Ytjgolcbpgmlilaa.AM

namespace Go.Proofs.Ytjgolcbpgmlilaa.AM
open Go Go.Proofs.Ytjgolcbpgmlilaa.Qu Pl
set_option linter.unusedVariables false
set_option linter.unusedSimpArgs false

def ia26 : IC := (.region [jw 14 .mv [.v 32]])
def ib26 : IC := (.block 8 (.seq (.region [jL 7, jL 3, jL 12, jv 14, jd 33 55 [.t 0, .t 1, .t 2, .t 3]])
 (.cond 33 (.seq (.region [jL 12, jv 14, jq (.store 1) [.v 4, .t 0], jq (.store 1) [.v 5, .t 1], jq (.store 1) [.v 6, jn 9]])
 .ret)
 .skip)))
theorem ca26 : compC Try.prog vs26 98 (nav [1, 1, 1, 1, 1, 0, 1, 0, 0, 1, 1, 0, 0, 1, 1, 0, 2] (Try.f26.body.getD .skip)) = some ia26 := by kernel_rfl
theorem cb26 : compC Try.prog vs26 98 (nav [1, 1, 1, 1, 1, 0, 1, 0, 0, 1, 1, 0, 0, 1, 1, 0, 3] (Try.f26.body.getD .skip)) = some ib26 := by kernel_rfl

theorem any_place (w : List Int) (c : Int) : (!(w.any (· == c))) = ((place w c : Int) == (w.length : Int)) := by
  rw [Bool.eq_iff_iff]
  simp only [Bool.not_eq_true', List.any_eq_false, beq_iff_eq, Int.natCast_inj]
  unfold place
  rw [List.findIdx_eq_length]
  simp

/-- the heap of Accept: what it answers stands in 2 to 4 -/
abbrev acH (q : QL) (g : List Int) (tr : List (Nat × Nat × Nat)) (a b c : Int) : List AObj :=
  [.cells [cenL q.cs, leaL q.ls], .cells [ints g], .cells [.i a], .cells [.i b], .cells [.i c], .cells [cenL q.cs, leaL q.ls], .cells [cenL q.cs, leaL q.ls], .map (esT tr), .cells [cenL q.cs, leaL q.ls, .map 7], .cells [.ptr 8 0]]
theorem acH_in (q : QL) (g : List Int) (tr : List (Nat × Nat × Nat)) (a b c : Int) : ∀ o ∈ acH q g tr a b c, objIn (acH q g tr a b c).length o = true := by
  intro o ho
  simp only [List.mem_cons, List.not_mem_nil, or_false] at ho
  rcases ho with rfl | rfl | rfl | rfl | rfl | rfl | rfl | rfl | rfl | rfl <;> first | rfl | exact esT_locs _ _

set_option maxRecDepth 4000 in
/-- the program's Accept -/
theorem c26 (q : QL) (hq : QSz q) (g : List Int) (hg62 : g.length < 2 ^ 63) : PC Try.prog 26 [qV q, ints g] (accV q g) := by
  refine ⟨AC_FE (fok26 true) (Nat.le_of_ble_eq_true rfl) ?_, rfl⟩
  have hcs := hq.cs
  have hls := hq.ls
  simp only [ic26, evA, if_true, if_false, beq_false, simprocAttr]
  refine (AC.frame (by simp [locsInAll, locsIn]) (c48 q hq) _).mono ?_
  rintro r τ ⟨r0, τ0, ⟨he, tr, hR, rfl, rfl⟩ | ⟨he, rfl, rfl⟩, rfl, rfl⟩
  rotate_left
  · have hb := bne_t he
    have hv := accV_of (accQ_e (g := g) he)
    simp only [List.map_cons, List.map_nil, renO, ren, rens, hb, evA, if_true, if_false, beq_false, simprocAttr]
    refine DW_s [] [(0, 1), (0, 2)] hmix (by kernel_rfl) rfl ?_
    simp only [hv, evA, if_true, if_false, beq_false, simprocAttr]
    exact frz
  have hes : (esT tr).map (fun e => (ren (sh 5) e.1, ren (sh 5) e.2)) = esT tr := by
    simp [esT, kAV, ren, rens]
  have hqo := val_of he
  obtain ⟨hc5, hl8, hL, hC⟩ := id hqo
  simp only [openV, List.map_cons, List.map_nil, List.length_cons, List.length_nil, renO, ren, rens, hes, sh, evA, if_true, if_false, beq_false, simprocAttr]
  refine DW_s [] [] hmix (by kernel_rfl) rfl ?_
  by_cases hl : g.length = q.ls.length
  rotate_left
  · have hb : ((g.length : Int) != (q.ls.length : Int)) = true := by simp; omega
    have hv := accV_of (accQ_l he hl)
    simp only [hb, hv, evA, if_true, if_false, beq_false, simprocAttr]
    exact frz
  have hb : ((g.length : Int) != (q.ls.length : Int)) = false := by simp; omega
  simp only [hb, evA, if_true, if_false, beq_false, simprocAttr]
  refine IL_for g.length (fun i s => (∀ j, j < i → acc1 q g j = false) ∧ ∃ v8 v9 v20 v21, s = ⟨[qV q, ints g, .ptr 0 0, .ptr 1 0, .ptr 2 0, .ptr 3 0, .ptr 4 0, .ptr 9 0, v8, v9, .undef, .undef, .undef, .undef, .undef, .b false, .b false, ints g, .i g.length, .i i, v20, v21, .undef, .undef, .undef, .undef, .undef, .undef, .undef, .undef, .undef, .undef, .undef, .undef], acH q g tr 0 0 0⟩) ?_ 0 (Nat.zero_le _) ⟨by omega, _, _, _, _, rfl⟩
  rintro i s hi ⟨hall, v8, v9, v20, v21, rfl⟩
  by_cases h : i < g.length
  · have hil : i < q.ls.length := by omega
    have hws : IntKind.i64.wrap ((i : Int) + 1) = ((i + 1 : Nat) : Int) := wrap_succ (by omega)
    have hgo : acc1 q g i = false → ∀ j, j < i + 1 → acc1 q g j = false := fun hb j hj => by
      rcases Nat.lt_succ_iff_lt_or_eq.1 hj with hj | rfl
      · exact hall j hj
      · exact hb
    simp only [ic26l2, Int.ofNat_lt, h, evA, if_true, if_false, beq_false, simprocAttr]
    cases h1 : (g[i]?.getD 0 != -1) with
    | false =>
      simp only [h1, hws, evA, if_true, if_false, beq_false, simprocAttr]
      exact kFor_go (by first | trivial | omega) ⟨hgo (by unfold acc1; rw [h1]; rfl), _, _, _, _, rfl⟩
    | true =>
    simp only [h1, ia_rsl hil, lea_4 hil, evA, if_true, if_false, beq_false, simprocAttr]
    refine (c53 (q.ls[i]!).wi (g[i]?.getD 0) (by have := hq.wi i hil; omega)).call frz ?_
    have hap := any_place (q.ls[i]!).wi (g[i]?.getD 0)
    cases h2 : ((place (q.ls[i]!).wi (g[i]?.getD 0) : Int) == ((q.ls[i]!).wi.length : Int)) with
    | false =>
      rw [h2] at hap
      simp only [hap, hws, evA, if_true, if_false, beq_false, simprocAttr]
      exact kFor_go (by first | trivial | omega) ⟨hgo (by unfold acc1; rw [h1, h2]; rfl), _, _, _, _, rfl⟩
    | true =>
      rw [h2] at hap
      have hv := accV_of (accQ_1 he hl h hall (by unfold acc1; rw [h1, h2]; rfl))
      simp only [hap, hv, evA, if_true, if_false, beq_false, simprocAttr]
      exact frz
  have : i = g.length := by omega
  subst this
  simp only [ic26l2, Int.ofNat_lt, h, evA, if_true, if_false, beq_false, simprocAttr]
  refine IL_for q.cs.length (fun c s => (∀ j, j < c → acc2 q g j = false) ∧ ∃ v8 v9 v21 v10 v11 v25 v26, s = ⟨[qV q, ints g, .ptr 0 0, .ptr 1 0, .ptr 2 0, .ptr 3 0, .ptr 4 0, .ptr 9 0, v8, v9, v10, v11, .undef, .undef, .undef, .b false, .b false, ints g, .i g.length, .i g.length, .b false, v21, cenL q.cs, .i q.cs.length, .i c, v25, v26, .undef, .undef, .undef, .undef, .undef, .undef, .undef], acH q g tr 0 0 0⟩) ?_ 0 (Nat.zero_le _) ⟨by omega, _, _, _, _, _, _, _, rfl⟩
  clear v8 v9 v20 v21 h hi
  rintro c s hi ⟨hall2, v8, v9, v21, v10, v11, v25, v26, rfl⟩
  by_cases h : c < q.cs.length
  · have hws : IntKind.i64.wrap ((c : Int) + 1) = ((c + 1 : Nat) : Int) := wrap_succ (by omega)
    have hgo : acc2 q g c = false → ∀ j, j < c + 1 → acc2 q g j = false := fun hb j hj => by
      rcases Nat.lt_succ_iff_lt_or_eq.1 hj with hj | rfl
      · exact hall2 j hj
      · exact hb
    simp only [ic26l1, Int.ofNat_lt, h, ia_rsl h, cen_ld h, evA, if_true, if_false, beq_false, simprocAttr]
    refine DW_s [2] [] hmix (by kernel_rfl) rfl ?_
    simp only [evA, if_true, if_false, beq_false, simprocAttr]
    refine kK_keep ((c52 g (c : Int) (by omega)).call frz ⟨rfl, rfl⟩) rfl ?_
    cases h2 : decide (((g.count (c : Int) : Nat) : Int) > (q.cs[c]!).pl) with
    | false =>
      simp only [h2, hws, evA, if_true, if_false, beq_false, simprocAttr]
      exact kFor_clip (acH q g tr 0 0 0) [.cells [.cv (.str (q.cs[c]!).nm), .i (q.cs[c]!).pl, ints (q.cs[c]!).ru]] rfl (by first | trivial | omega) (Nat.zero_le _) (acH_in _ _ _ _ _ _) ⟨hgo (by unfold acc2; rw [h2]), _, _, _, _, _, _, _, rfl⟩
    | true =>
      have hv := accV_of (accQ_2 he hl hall h hall2 (by unfold acc2; rw [h2]))
      simp only [h2, hv, evA, if_true, if_false, beq_false, simprocAttr]
      exact frz
  have : c = q.cs.length := by omega
  subst this
  simp only [ic26l1, Int.ofNat_lt, h, evA, if_true, if_false, beq_false, simprocAttr]
  refine IL_for g.length (fun i s => (∀ j, j < i → acc3 q g j = false) ∧ ∃ v8 v9 v10 v11 v12 v13 v14 v21 v26 v30 v31 v32 v33, s = ⟨[qV q, ints g, .ptr 0 0, .ptr 1 0, .ptr 2 0, .ptr 3 0, .ptr 4 0, .ptr 9 0, v8, v9, v10, v11, v12, v13, v14, .b false, .b false, ints g, .i g.length, .i g.length, .b false, v21, cenL q.cs, .i q.cs.length, .i q.cs.length, .b false, v26, ints g, .i g.length, .i i, v30, v31, v32, v33], acH q g tr 0 0 0⟩) ?_ 0 (Nat.zero_le _) ⟨by omega, _, _, _, _, _, _, _, _, _, _, _, _, _, rfl⟩
  clear v8 v9 v21 v10 v11 v25 v26 h hi
  rintro i s hi ⟨hall3, v8, v9, v10, v11, v12, v13, v14, v21, v26, v30, v31, v32, v33, rfl⟩
  by_cases h : i < g.length
  rotate_left
  · have : i = g.length := by omega
    subst this
    have hv := accV_of (accQ_0 he hl hall hall2 hall3)
    simp only [ic26l0, Int.ofNat_lt, h, hv, evA, if_true, if_false, beq_false, simprocAttr]
    exact frz
  have hil : i < q.ls.length := by omega
  have hws : IntKind.i64.wrap ((i : Int) + 1) = ((i + 1 : Nat) : Int) := wrap_succ (by omega)
  have hgo : acc3 q g i = false → ∀ j, j < i + 1 → acc3 q g j = false := fun hb j hj => by
    rcases Nat.lt_succ_iff_lt_or_eq.1 hj with hj | rfl
    · exact hall3 j hj
    · exact hb
  simp only [ic26l0, Int.ofNat_lt, h, evA, if_true, if_false, beq_false, simprocAttr]
  refine (c54 (i : Int) (g[i]?.getD 0) 8 _).run ?_
  simp only [List.cons_append, List.nil_append, evA, if_true, if_false, beq_false, simprocAttr]
  refine RW_s (gf := 89) (cap := [.ptr 11 0, .ptr 12 0, .ptr 13 0]) rfl (Nat.le_of_ble_eq_true rfl) (fun l h => by cases h) ?_
  generalize hRR : newLoop _ _ _ _ _ = R
  simp only [List.cons_append, List.nil_append, evA, if_true, if_false, beq_false, simprocAttr]
  have e1 : R.vars = vs26 := by rw [← hRR]; rfl
  have e2 : R.ntmps = 98 := by rw [← hRR]; rfl
  have e3 : R.params = [89] := by rw [← hRR]; rfl
  have e4 : R.vals = [qV q, ints g, .ptr 0 0, .ptr 1 0, .ptr 2 0, .ptr 3 0, .ptr 4 0, .ptr 9 0, v8, v9, v10, v11, .ptr 10 0, .i (g[i]?.getD 0), v14, .b false, .b false, ints g, .i g.length, .i g.length, .b false, v21, cenL q.cs, .i q.cs.length, .i q.cs.length, .b false, v26, ints g, .i g.length, .i i, .b true, .fn (.func 89) [.ptr 11 0, .ptr 12 0, .ptr 13 0], v32, v33] := by rw [← hRR]; rfl
  have e5 : R.state = .ready := by rw [← hRR]; rfl
  have e6 : R.pending = none := by rw [← hRR]; rfl
  have e7 : compC Try.prog vs26 98 R.assign = some ia26 := by rw [← hRR]; exact ca26
  have e8 : compC Try.prog vs26 98 R.body = some ib26 := by rw [← hRR]; exact cb26
  have e9 : ({ { R with state := .busy, pending := none } with state := .ready, pending := none } : ALoop) = R := by
    clear hRR; cases R; simp_all
  clear hRR
  obtain ⟨W, hW⟩ : ∃ W, W = (q.ls[i]!).wi := ⟨_, rfl⟩
  have hwi : ∀ n, n < W.length → ∃ c : Nat, c < q.cs.length ∧ W[n]?.getD 0 = (c : Int) := fun n hn => by
    have hm : W[n]?.getD 0 ∈ (q.ls[i]!).wi := by rw [List.getElem?_eq_getElem hn, ← hW]; exact List.getElem_mem hn
    have := (hL i hil).wi _ hm
    exact ⟨(W[n]?.getD 0).toNat, by omega, by omega⟩
  have hPl : place W (g[i]?.getD 0) ≤ W.length := place_le _ _
  refine (c89 (q := q) (a := 11) (b := 12) (d := 13) (l := 14) (L := 8) (i := i) (x := .map 7) (now := g[i]?.getD 0) hil (hq.wi i hil) rfl rfl rfl rfl (fun n => !badQ q g i n)
    (fun n => [.cells [cenL q.cs, leaL q.ls], .cells [ints g], .cells [.i i], .cells [.i (W[n]?.getD 0)], .cells [.i 9], .cells [cenL q.cs, leaL q.ls], .cells [cenL q.cs, leaL q.ls], .map (esT tr), .cells [cenL q.cs, leaL q.ls, .map 7], .cells [.ptr 8 0], .cells [.i i], .cells [.ptr 8 0], .cells [.i i], .cells [.i (g[i]?.getD 0)], .loop { R with state := .done, pending := some .ret }]) (fun n hn hgo1 => ?_)).mono ?_
  · rw [← hW] at hn ⊢
    obtain ⟨c, hc, hwc⟩ := hwi n (by omega)
    have hpb := pass_bad hL hl hil (n := n) (c := c) (by rw [← hW]; exact hwc)
    refine YC_IS (r := R) ia26 ib26 rfl e5 (by rw [e3]; rfl) (by rw [e1, e2, e3]; rfl) (by rw [e1, e2]; exact e7) (by rw [e1, e2]; exact e8) ?_
    rw [e1, e2, e3, e4, hwc]
    have x89 : vs26.idxOf? 89 = some 32 := by decide
    simp only [ia26, putPars, x89, kAsg_n, evA, if_true, if_false, beq_false, simprocAttr]
    refine ⟨R, rfl, e5, ?_⟩
    rw [e6]
    simp only [ib26, setLoop, evA, if_true, if_false, beq_false, simprocAttr]
    refine (c55 hq hqo hR hl hil hc (L := 8) (lm := 7) rfl rfl).run ?_
    rw [← hpb]
    cases hbd : badQ q g i n with
    | false =>
      simp only [kRnd_n, evA, if_true, if_false, beq_false, simprocAttr]
      refine ⟨_, rfl, ?_⟩
      simp only [setLoop, Bool.not_false, evA, if_true, if_false, beq_false, simprocAttr]
      rw [e9]
    | true =>
      simp only [kRnd_r, evA, if_true, if_false, beq_false, simprocAttr]
      refine ⟨_, rfl, ?_⟩
      simp only [setLoop, Bool.not_true, evA, if_true, if_false, beq_false, simprocAttr]
      rw [e1, e2, e3, e4]
  · rw [← hW]
    rintro v τ (⟨rfl, hgall⟩ | ⟨n, rfl, hn, hgn, hgall⟩)
    · refine ⟨R, rfl, (by rw [e5]; intro h; cases h), ?_⟩
      rw [e6]
      have hcq : complQ q g i = -1 := complQ_none fun j hj => by
        have := hgall j (by rw [hW]; exact hj)
        simpa using this
      simp only [setLoop, hws, evA, if_true, if_false, beq_false, simprocAttr]
      exact kFor_clip (acH q g tr 0 0 0) _ rfl (by first | trivial | omega) (Nat.zero_le _) (acH_in _ _ _ _ _ _) ⟨hgo (by unfold acc3; rw [hcq]; rfl), _, _, _, _, _, _, _, _, _, _, _, _, _, rfl⟩
    · refine ⟨{ R with state := .done, pending := some .ret }, rfl, (by intro h; cases h), ?_⟩
      obtain ⟨c, hc, hwc⟩ := hwi n (by omega)
      have hcq : complQ q g i = (c : Int) := by
        rw [complQ_at (n := n) (by rw [← hW]; exact hn) (fun j hj => by simpa using hgall j hj) (by simpa using hgn), ← hW, hwc]
      have hv := accV_of (accQ_3 he hl hall hall2 h hall3 (by unfold acc3; rw [hcq]; simp))
      rw [hcq] at hv
      refine W_ret ?_
      simp only [setLoop, hv, hwc, evA, if_true, if_false, beq_false, simprocAttr]
      exact frz

end Go.Proofs.Ytjgolcbpgmlilaa.AM

namespace Go.Proofs.Ytjgolcbpgmlilaa.AM
open Go Go.Proofs.Ytjgolcbpgmlilaa.Qu Pl
set_option linter.unusedVariables false
set_option linter.unusedSimpArgs false

def q0 : QL := ⟨[⟨bts [110, 111, 114, 116, 104], 1, [1, 0]⟩, ⟨bts [115, 111, 117, 116, 104], 1, [0]⟩],
  [⟨bts [97, 110, 110], 10, -1, 0, [0, 1]⟩, ⟨bts [98, 101, 110], 20, 0, 0, [0, 1]⟩, ⟨bts [99, 121], 15, -1, 0, [1, 0]⟩]⟩

theorem give_at {q : QL} (hL : ∀ i, i < q.ls.length → LeaOk q i) (k : Nat) (h : ∀ i, i < q.ls.length → (mk q).away ((mk q).iter k) i = false) : giveQ q = (List.range q.ls.length).map fun i => numOf ((mk q).has ((mk q).iter k) i) :=
  (giveQ_of hL (Mk.iter_best (mk_inj hL) h)).symm

theorem q0_e : eQ q0 = 0 := by kernel_rfl
theorem q0_ok : QOk q0 := val_of q0_e
theorem q0_sz : QSz q0 := by
  refine ⟨by decide, by decide, ?_, ?_, ?_, ?_⟩
  · intro i hi; match i, hi with | 0, _ => exact by decide | 1, _ => exact by decide
  · intro i hi; match i, hi with | 0, _ => exact by decide | 1, _ => exact by decide
  · intro i hi; match i, hi with | 0, _ => exact by decide | 1, _ => exact by decide | 2, _ => exact by decide
  · intro i hi; match i, hi with | 0, _ => exact by decide | 1, _ => exact by decide | 2, _ => exact by decide

theorem q0_give : giveQ q0 = [1, 0, -1] := by
  rw [give_at q0_ok.2.2.1 4 (by decide +kernel)]
  decide +kernel
theorem q0_give1 : giveQ (woQ q0 1) = [0, 1] := by
  rw [give_at (leaOk_wo q0_ok.2.2.1 (by decide)) 4 (by decide +kernel)]
  decide +kernel
theorem q0_give2 : giveQ (woQ q0 2) = [1, 0] := by
  rw [give_at (leaOk_wo q0_ok.2.2.1 (by decide)) 4 (by decide +kernel)]
  decide +kernel
theorem q0_more1 : giveQ (moreQ q0 1) = [1, 0, 1] := by
  rw [give_at (leaOk_more q0_ok.2.2.1 1) 4 (by decide +kernel)]
  decide +kernel
theorem q0_more0 : giveQ (moreQ q0 0) = [0, 0, 1] := by
  rw [give_at (leaOk_more q0_ok.2.2.1 0) 4 (by decide +kernel)]
  decide +kernel

theorem q0_ord0 : ordQ q0 0 = [1, 0, 2] := by decide +kernel
theorem q0_ord1 : ordQ q0 1 = [0, 2, 1] := by decide +kernel

theorem q0_cut : cutQ q0 = [1, 1] := by
  unfold cutQ
  rw [q0_give]
  decide +kernel
theorem q0_acc : accQ q0 [0, 1, -1] = (1, 0, 9) := by decide +kernel
theorem q0_acc2 : accQ q0 [1, 0, -1] = (0, 0, 0) := by decide +kernel
theorem q0_canc1 : cancM q0 1 = [(0, 1, 0), (2, -1, 1)] := by
  unfold cancM
  have h : ∀ k, leftA q0 1 k = if k = 1 then ([1, 0, -1] : List Int)[k]! else ([0, 1] : List Int)[if k < 1 then k else k - 1]! := fun k => by
    unfold leftA; rw [q0_give, q0_give1]
  rw [movs_congr (b' := fun k => ([1, 0, -1] : List Int)[k]!) (a' := fun k => if k = 1 then ([1, 0, -1] : List Int)[k]! else ([0, 1] : List Int)[if k < 1 then k else k - 1]!) fun k _ => ⟨by rw [q0_give], h k⟩]
  decide +kernel
theorem q0_canc2 : cancM q0 2 = [] := by
  unfold cancM
  have h : ∀ k, leftA q0 2 k = if k = 2 then ([1, 0, -1] : List Int)[k]! else ([1, 0] : List Int)[if k < 2 then k else k - 1]! := fun k => by
    unfold leftA; rw [q0_give, q0_give2]
  rw [movs_congr (b' := fun k => ([1, 0, -1] : List Int)[k]!) (a' := fun k => if k = 2 then ([1, 0, -1] : List Int)[k]! else ([1, 0] : List Int)[if k < 2 then k else k - 1]!) fun k _ => ⟨by rw [q0_give], h k⟩]
  decide +kernel
theorem q0_open1 : openM q0 1 = [(2, -1, 1)] := by
  unfold openM
  rw [q0_give, q0_more1]
  decide +kernel
theorem q0_open0 : openM q0 0 = [(0, 1, 0), (2, -1, 1)] := by
  unfold openM
  rw [q0_give, q0_more0]
  decide +kernel

end Go.Proofs.Ytjgolcbpgmlilaa.AM

namespace Go.Proofs.Ytjgolcbpgmlilaa.AM
open Go Go.Proofs.Ytjgolcbpgmlilaa.Qu Pl
set_option linter.unusedVariables false
set_option linter.unusedSimpArgs false

abbrev movA (m : Nat × Int × Int) : AV := .agg [.i m.1, .i m.2.1, .i m.2.2]
abbrev KS3 : Bool × List KK := (true, [.int .i64, .int .i64, .int .i64])
/-- moves between numbers that fit -/
structure MvOk (m : Nat × Int × Int) : Prop where
  a : m.1 < 2 ^ 63
  b : -(2 ^ 62) ≤ m.2.1 ∧ m.2.1 < 2 ^ 62
  c : -(2 ^ 62) ≤ m.2.2 ∧ m.2.2 < 2 ^ 62

theorem wf_int {n : Int} (h : -(2 ^ 62) ≤ n ∧ n < 2 ^ 62) : (Lit.int .i64 n).wf = true := by
  simp only [Lit.wf, Bool.and_eq_true, decide_eq_true_eq, IntKind.min, IntKind.max, IntKind.bits, IntKind.signed]
  simp; omega

theorem mov_eq {x y : Nat × Int × Int} (hx : MvOk x) (hy : MvOk y) : keyEqK KS3 (movA x) (movA y) = some (decide (x = y)) := by
  obtain ⟨a, b, c⟩ := x
  obtain ⟨a', b', c'⟩ := y
  simp only [keyEqK, keyCells, movA, kksOk, kkOk, wf_nat hx.a, wf_nat hy.a, wf_int hx.b, wf_int hy.b, wf_int hx.c, wf_int hy.c, decide_true, Bool.and_self, if_true, cellsEq, cellEq, Bool.and_true, Option.some.injEq]
  rw [Bool.eq_iff_iff]
  simp only [Bool.and_eq_true, decide_eq_true_eq, Prod.mk.injEq, Int.natCast_inj]

theorem mov_ld {xs : List (Nat × Int × Int)} {k : Nat} (h : k < xs.length) (σ : List AObj) : f_loadN 3 [.cv (.rp (xs.flatMap movC) (k * 3))] σ = some (movA xs[k]!, σ) := by
  have h1 : k * 3 + 3 ≤ (xs.flatMap movC).length := by rw [flat_len movC_len]; omega
  have h2 := flat_at movC_len h
  simp only [f_loadN, h1, if_true]
  rw [h2]; rfl

/-- the document's Moves -/
theorem c30 (xs ys : List (Nat × Int × Int)) (hx : xs.length < 2 ^ 62) (h1 : ∀ k, k < xs.length → MvOk xs[k]!) (h2 : ∀ k, k < ys.length → MvOk ys[k]!) : PC Try.prog 30 [movL xs, movL ys] (.b (decide (xs = ys))) := by
  refine ⟨AC_FE (fok30 true) (Nat.le_of_ble_eq_true rfl) ?_, rfl⟩
  simp only [ic30, evA, if_true, if_false, beq_false, simprocAttr]
  by_cases hl : xs.length = ys.length
  rotate_left
  · have hb : ((xs.length : Int) != ys.length) = true := by simp; omega
    have hne : decide (xs = ys) = false := by simp; intro h; exact hl (by rw [h])
    simp only [hb, hne, evA, if_true, if_false, beq_false, simprocAttr]
    exact frz
  have hb : ((xs.length : Int) != ys.length) = false := by simp; omega
  simp only [hb, evA, if_true, if_false, beq_false, simprocAttr]
  refine IL_for xs.length (fun i s => (∀ j, j < i → xs[j]! = ys[j]!) ∧ ∃ v5 v6, s = ⟨[movL xs, movL ys, .b false, .i i, .b false, v5, v6], []⟩) ?_ 0 (Nat.zero_le _) ⟨by omega, _, _, rfl⟩
  rintro i s hi ⟨hall, v5, v6, rfl⟩
  by_cases h : i < xs.length
  rotate_left
  · have heq : decide (xs = ys) = true := by
      simp
      apply List.ext_getElem hl
      intro j g1 g2
      have := hall j (by omega)
      rwa [getElem!_pos xs j g1, getElem!_pos ys j g2] at this
    simp only [ic30l0, Int.ofNat_lt, h, heq, evA, if_true, if_false, beq_false, simprocAttr]
    exact frz
  have hy : i < ys.length := by omega
  have hws : IntKind.i64.wrap ((i : Int) + 1) = ((i + 1 : Nat) : Int) := wrap_succ (by omega)
  simp only [ic30l0, Int.ofNat_lt, h, evA, if_true, if_false, beq_false, simprocAttr]
  refine DW_s [] [] hmix (by kernel_rfl) rfl ?_
  have hk := mov_eq (h1 i h) (h2 i hy)
  by_cases he : xs[i]! = ys[i]!
  · rw [decide_eq_true he] at hk
    simp only [ia_rsl h, ia_rsl hy, mov_ld h, mov_ld hy, hk, hws, evA, if_true, if_false, beq_false, simprocAttr]
    refine kFor_go (by first | trivial | omega) ⟨fun j hj => ?_, _, _, rfl⟩
    rcases Nat.lt_succ_iff_lt_or_eq.1 hj with hj | rfl
    · exact hall j hj
    · exact he
  · rw [decide_eq_false he] at hk
    have hne : decide (xs = ys) = false := by simp; intro h; exact he (by rw [h])
    simp only [ia_rsl h, ia_rsl hy, mov_ld h, mov_ld hy, hk, hne, evA, if_true, if_false, beq_false, simprocAttr]
    exact frz

/-- List -/
theorem c33 : PC Try.prog 33 [] (qV q0) := by
  refine ⟨AC_FE (fok33 true) (Nat.le_of_ble_eq_true rfl) ?_, rfl⟩
  simp only [ic33, evA, if_true, if_false, beq_false, simprocAttr]
  have in2 : ∀ {τ : List AObj} (l : Nat) (a b : Int), rowOf τ l = some [.i a, .i b] → FrzC scl τ (.sl l 0 2 1) (.rsl [.int .i64 a, .int .i64 b] 2) := fun l a b h => .sl l 0 2 1 _ _ h (Nat.le_refl _) (.cons (.c _ trivial) (.cons (.c _ trivial) .nil))
  have in1 : ∀ {τ : List AObj} (l : Nat) (a : Int), rowOf τ l = some [.i a] → FrzC scl τ (.sl l 0 1 1) (.rsl [.int .i64 a] 1) := fun l a h => .sl l 0 1 1 _ _ h (Nat.le_refl _) (.cons (.c _ trivial) .nil)
  refine .agg (.cons (.c (.sl 3 0 2 3 _ _ rfl (Nat.le_refl _) ?_)) (.cons (.c (.sl 7 0 3 5 _ _ rfl (Nat.le_refl _) ?_)) .nil))
  · exact .cons (.c _ trivial) (.cons (.c _ trivial) (.cons (in2 1 1 0 rfl) (.cons (.c _ trivial) (.cons (.c _ trivial) (.cons (in1 2 0 rfl) .nil)))))
  · exact .cons (.c _ trivial) (.cons (.c _ trivial) (.cons (.c _ trivial) (.cons (.c _ trivial) (.cons (in2 4 0 1 rfl) (.cons (.c _ trivial) (.cons (.c _ trivial) (.cons (.c _ trivial) (.cons (.c _ trivial) (.cons (in2 5 0 1 rfl) (.cons (.c _ trivial) (.cons (.c _ trivial) (.cons (.c _ trivial) (.cons (.c _ trivial) (.cons (in2 6 1 0 rfl) .nil))))))))))))))

/-- valid -/
theorem c34 (q : QL) (hq : QSz q) : PC Try.prog 34 [qV q] (.b (eQ q == 0)) := by
  refine ⟨AC_FE (fok34 true) (Nat.le_of_ble_eq_true rfl) ?_, rfl⟩
  simp only [ic34, evA, if_true, if_false, beq_false, simprocAttr]
  refine (c17 q hq).call frz ?_
  rw [chkV_e]
  simp only [evA, if_true, if_false, beq_false, simprocAttr]
  exact frz

end Go.Proofs.Ytjgolcbpgmlilaa.AM

namespace Go.Proofs.Ytjgolcbpgmlilaa.AM
open Go
set_option linter.unusedVariables false

abbrev vs21 : List Nat := [0, 1, 2, 3, 4, 5, 6, 7, 8, 9, 10, 11, 12, 13, 15]
def ic21 : IC := (.seq (.region [jw 0 .mv [jB false]])
 (.seq (.region [jk 33 [], jk 18 [.t 0, jn 0], jt 1, jx 0 2, jx 1 2, jm 1 3, jm 2 4])
 (.seq (.region [jk 33 [], jk 22 [.t 0], jt 1, jx 0 2, jx 1 2, jm 3 3, jm 4 4])
 (.seq (.region [jk 33 [], jq (.bslice 1 3 [(.cv (.int .i64 0)), (.cv (.int .i64 0)), (.cv (.int .i64 0))] [(0, 1), (1, 1), (2, 1)]) [jn 0, jn 1, jn (-1)], jk 26 [.t 0, .t 1], jt 2, jx 0 3, jx 1 3, jx 2 3, jm 5 4, jm 6 5, jm 7 6])
 (.seq (.region [jk 33 [], jk 24 [.t 0], jt 1, jx 0 2, jx 1 2, jm 8 3, jm 9 4])
 (.seq (.region [jk 33 [], jk 28 [.t 0, jn 1], jt 1, jx 0 2, jx 1 2, jm 10 3, jm 11 4])
 (.seq (.region [jk 33 [], jk 31 [.t 0, jn 1], jt 1, jx 0 2, jx 1 2, jm 12 3, jm 13 4])
 (.seq (.region [jk 33 [], jk 18 [.t 0, jn 2], jt 1, jx 0 2, jx 1 2, jt 3, jm 14 4])
 (.seq (.region [jv 2, jq (.bin .eql .int) [.t 0, jn 0], jt 1, jh 2 true 4, jg 2 true (.bin .eql .int) [.t 3, jn 0], jq .pick [.t 2, .t 4, jB false], jt 5, jh 6 true 9, jg 6 true (.bin .eql .int) [.t 7, jn 0], jq .pick [.t 6, .t 8, jB false], jt 9, jh 10 true 11, jg 10 true (.bin .eql .int) [.t 11, jn 0], jq .pick [.t 10, .t 12, jB false], jt 13, jh 14 true 13, jg 14 true (.bin .eql .int) [.t 15, jn 0], jq .pick [.t 14, .t 16, jB false], jt 17, jh 18 true 14, jg 18 true (.bin .eql .int) [.t 19, jn 4], jq .pick [.t 18, .t 20, jB false], jt 21, jh 22 true 7, jg 22 true (.bin .eql .int) [.t 23, jn 9], jq .pick [.t 22, .t 24, jB false], jt 25, jh 26 true 1, jg 26 true (.bslice 1 3 [(.cv (.int .i64 0)), (.cv (.int .i64 0)), (.cv (.int .i64 0))] [(0, 1), (1, 1), (2, 1)]) [jn 1, jn 0, jn 2], jf 26 true 20 [.t 27, .t 28], jq .pick [.t 26, .t 29, jB false], jt 30, jh 31 true 3, jg 31 true (.bslice 1 3 [(.cv (.int .i64 0)), (.cv (.int .i64 0)), (.cv (.int .i64 0))] [(0, 1), (1, 1), (2, 1)]) [jn 1, jn 0, jn (-1)], jf 31 true 20 [.t 32, .t 33], jq .pick [.t 31, .t 34, jB false], jt 35, jh 36 true 5, jg 36 true (.bin .eql .int) [.t 37, jn 1], jq .pick [.t 36, .t 38, jB false], jt 39, jh 40 true 6, jg 40 true (.bin .eql .int) [.t 41, jn 0], jq .pick [.t 40, .t 42, jB false], jt 43, jh 44 true 8, jg 44 true (.bslice 1 2 [(.cv (.int .i64 0)), (.cv (.int .i64 0))] [(0, 1), (1, 1)]) [jn 1, jn 1], jf 44 true 20 [.t 45, .t 46], jq .pick [.t 44, .t 47, jB false], jt 48, jh 49 true 10, jg 49 true (.build [(.cv (.int .i64 0)), (.cv (.int .i64 0)), (.cv (.int .i64 0))] [(0, 1), (1, 1), (2, 1)]) [jn 0, jn 1, jn 0], jg 49 true (.build [(.cv (.int .i64 0)), (.cv (.int .i64 0)), (.cv (.int .i64 0))] [(0, 1), (1, 1), (2, 1)]) [jn 2, jn (-1), jn 1], jg 49 true (.bslice 3 2 [(.cv (.int .i64 0)), (.cv (.int .i64 0)), (.cv (.int .i64 0)), (.cv (.int .i64 0)), (.cv (.int .i64 0)), (.cv (.int .i64 0))] [(0, 3), (3, 3)]) [.t 51, .t 52], jf 49 true 30 [.t 50, .t 53], jq .pick [.t 49, .t 54, jB false], jt 55, jh 56 true 12, jg 56 true (.build [(.cv (.int .i64 0)), (.cv (.int .i64 0)), (.cv (.int .i64 0))] [(0, 1), (1, 1), (2, 1)]) [jn 2, jn (-1), jn 1], jg 56 true (.bslice 3 1 [(.cv (.int .i64 0)), (.cv (.int .i64 0)), (.cv (.int .i64 0))] [(0, 3)]) [.t 58], jf 56 true 30 [.t 57, .t 59], jq .pick [.t 56, .t 60, jB false], jm 0 61])
 .ret)))))))))
abbrev rs21 : List RC := [(.v 0)]
theorem fok21 (p : Bool) : FnOk Try.prog 21 ⟨ic21, vs21, 115, rs21, p⟩ := .mk2 Try.func21 (by kernel_rfl) (by kernel_rfl) (by kernel_rfl) (by kernel_rfl) (by kernel_rfl)

end Go.Proofs.Ytjgolcbpgmlilaa.AM

namespace Go.Proofs.Ytjgolcbpgmlilaa.AM
open Go Go.Proofs.Ytjgolcbpgmlilaa.Qu Pl
set_option linter.unusedVariables false
set_option linter.unusedSimpArgs false

theorem vord (x : Int) (c : Nat) (hx : x = c) (hc : inB x 0 1 = true) : ordV q0 x = .tup [ints (ordQ q0 c), .i 0] := by
  subst hx
  unfold ordV
  have e : ((q0.cs.length : Int) - 1) = 1 := rfl
  rw [if_pos q0_e, e, if_pos hc, Int.toNat_natCast]
theorem v_ord0 : ordV q0 0 = .tup [ints [1, 0, 2], .i 0] := by rw [vord 0 0 rfl rfl, q0_ord0]
theorem v_ord1 : ordV q0 1 = .tup [ints [0, 2, 1], .i 0] := by rw [vord 1 1 rfl rfl, q0_ord1]
theorem v_ord2 : ordV q0 2 = .tup [ints [], .i 4] := by unfold ordV; rw [if_pos q0_e, if_neg (by decide)]
theorem v_give : giveV q0 = .tup [ints [1, 0, -1], .i 0] := by unfold giveV; rw [if_pos q0_e, q0_give]
theorem v_cut : cutV q0 = .tup [ints [1, 1], .i 0] := by unfold cutV; rw [if_pos q0_e, q0_cut]
theorem v_acc : accV q0 [0, 1, -1] = .tup [.i 1, .i 0, .i 9] := accV_of q0_acc
theorem v_acc2 : accV q0 [1, 0, -1] = .tup [.i 0, .i 0, .i 0] := accV_of q0_acc2
theorem v_canc1 : cancV q0 1 = .tup [movL [(0, 1, 0), (2, -1, 1)], .i 0] := by unfold cancV; rw [if_pos q0_e, if_pos (by decide)]; exact congrArg (fun l => AV.tup [movL l, .i 0]) q0_canc1
theorem v_canc2 : cancV q0 2 = .tup [movL [], .i 0] := by unfold cancV; rw [if_pos q0_e, if_pos (by decide)]; exact congrArg (fun l => AV.tup [movL l, .i 0]) q0_canc2
theorem v_open1 : openQV q0 1 = .tup [movL [(2, -1, 1)], .i 0] := by unfold openQV; rw [if_pos q0_e, if_pos (by decide), if_neg (by decide)]; exact congrArg (fun l => AV.tup [movL l, .i 0]) q0_open1
theorem v_open0 : openQV q0 0 = .tup [movL [(0, 1, 0), (2, -1, 1)], .i 0] := by unfold openQV; rw [if_pos q0_e, if_pos (by decide), if_neg (by decide)]; exact congrArg (fun l => AV.tup [movL l, .i 0]) q0_open0

set_option maxRecDepth 4000 in
/-- Awake -/
theorem c21 : PC Try.prog 21 [] (.b true) := by
  refine ⟨AC_FE (fok21 true) (Nat.le_of_ble_eq_true rfl) ?_, rfl⟩
  simp only [ic21, evA, if_true, if_false, beq_false, simprocAttr]
  refine c33.call .nil ?_
  simp only [evA, if_true, if_false, beq_false, simprocAttr]
  refine (c18 q0 q0_sz 0).call ?_
  simp only [v_ord0, evA, if_true, if_false, beq_false, simprocAttr]
  refine c33.call .nil ?_
  simp only [evA, if_true, if_false, beq_false, simprocAttr]
  refine (c22 q0 q0_sz).call ?_
  simp only [v_give, evA, if_true, if_false, beq_false, simprocAttr]
  refine c33.call .nil ?_
  simp only [evA, if_true, if_false, beq_false, simprocAttr]
  refine (c26 q0 q0_sz [0, 1, -1] (by decide)).call frz ?_
  simp only [v_acc, evA, if_true, if_false, beq_false, simprocAttr]
  refine c33.call .nil ?_
  simp only [evA, if_true, if_false, beq_false, simprocAttr]
  refine (c24 q0 q0_sz).call frz ?_
  simp only [v_cut, evA, if_true, if_false, beq_false, simprocAttr]
  refine c33.call .nil ?_
  simp only [evA, if_true, if_false, beq_false, simprocAttr]
  refine (c28 q0 q0_sz 1).call ?_
  simp only [v_canc1, evA, if_true, if_false, beq_false, simprocAttr]
  refine c33.call .nil ?_
  simp only [evA, if_true, if_false, beq_false, simprocAttr]
  refine (c31 q0 q0_sz 1).call ?_
  simp only [v_open1, evA, if_true, if_false, beq_false, simprocAttr]
  refine c33.call .nil ?_
  simp only [evA, if_true, if_false, beq_false, simprocAttr]
  refine (c18 q0 q0_sz 2).call ?_
  simp only [v_ord2, evA, if_true, if_false, beq_false, simprocAttr]
  have mk6 : ∀ (τ : List AObj) (l : Nat) (a b c d e f : Int), rowOf τ l = some [.i a, .i b, .i c, .i d, .i e, .i f] → FrzV anyC τ (.sl l 0 2 3) (.cv (.rsl [.int .i64 a, .int .i64 b, .int .i64 c, .int .i64 d, .int .i64 e, .int .i64 f] 2)) := fun τ l a b c d e f h =>
    .c (.sl l 0 2 3 _ _ h (Nat.le_refl _) (.cons (.c _ trivial) (.cons (.c _ trivial) (.cons (.c _ trivial) (.cons (.c _ trivial) (.cons (.c _ trivial) (.cons (.c _ trivial) .nil)))))))
  have mk3 : ∀ (τ : List AObj) (l : Nat) (a b c : Int), rowOf τ l = some [.i a, .i b, .i c] → FrzV anyC τ (.sl l 0 1 3) (.cv (.rsl [.int .i64 a, .int .i64 b, .int .i64 c] 1)) := fun τ l a b c h =>
    .c (.sl l 0 1 3 _ _ h (Nat.le_refl _) (.cons (.c _ trivial) (.cons (.c _ trivial) (.cons (.c _ trivial) .nil))))
  have ok : ∀ m ∈ [((0 : Nat), (1 : Int), (0 : Int)), (2, -1, 1)], MvOk m := by
    intro m hm
    simp only [List.mem_cons, List.not_mem_nil, or_false] at hm
    rcases hm with rfl | rfl
    · exact ⟨by decide, by decide, by decide⟩
    · exact ⟨by decide, by decide, by decide⟩
  have d1 : decide (([1, 0, 2] : List Int) = [1, 0, 2]) = true := rfl
  have d2 : decide (([1, 0, -1] : List Int) = [1, 0, -1]) = true := rfl
  have d3 : decide (([1, 1] : List Int) = [1, 1]) = true := rfl
  have d4 : decide ([((0 : Nat), (1 : Int), (0 : Int)), (2, -1, 1)] = [((0 : Nat), (1 : Int), (0 : Int)), (2, -1, 1)]) = true := by decide
  have d5 : decide ([((2 : Nat), (-1 : Int), (1 : Int))] = [((2 : Nat), (-1 : Int), (1 : Int))]) = true := by decide
  refine (c20 [1, 0, 2] [1, 0, 2] (by decide)).call (.cons (.c (.c _ trivial)) (.cons (frz_ints' (l := 1) (zs := [1, 0, 2]) (fun _ => trivial) rfl rfl) .nil)) ?_
  simp only [d1, evA, if_true, if_false, beq_false, simprocAttr]
  refine (c20 [1, 0, -1] [1, 0, -1] (by decide)).call (.cons (.c (.c _ trivial)) (.cons (frz_ints' (l := 2) (zs := [1, 0, -1]) (fun _ => trivial) rfl rfl) .nil)) ?_
  simp only [d2, evA, if_true, if_false, beq_false, simprocAttr]
  refine (c20 [1, 1] [1, 1] (by decide)).call (.cons (.c (.c _ trivial)) (.cons (frz_ints' (l := 3) (zs := [1, 1]) (fun _ => trivial) rfl rfl) .nil)) ?_
  simp only [d3, evA, if_true, if_false, beq_false, simprocAttr]
  refine (c30 [(0, 1, 0), (2, -1, 1)] [(0, 1, 0), (2, -1, 1)] (by decide) (fun k hk => ok _ (by rw [getElem!_pos _ k hk]; exact List.getElem_mem hk)) (fun k hk => ok _ (by rw [getElem!_pos _ k hk]; exact List.getElem_mem hk))).call (.cons (.c (.c _ trivial)) (.cons (mk6 _ 4 0 1 0 2 (-1) 1 rfl) .nil)) ?_
  simp only [d4, evA, if_true, if_false, beq_false, simprocAttr]
  refine (c30 [(2, -1, 1)] [(2, -1, 1)] (by decide) (fun k hk => ok _ (by rw [getElem!_pos _ k hk]; exact List.mem_cons_of_mem _ (List.getElem_mem hk))) (fun k hk => ok _ (by rw [getElem!_pos _ k hk]; exact List.mem_cons_of_mem _ (List.getElem_mem hk)))).call (.cons (.c (.c _ trivial)) (.cons (mk3 _ 5 2 (-1) 1 rfl) .nil)) ?_
  simp only [d5, evA, if_true, if_false, beq_false, simprocAttr]
  exact frz

end Go.Proofs.Ytjgolcbpgmlilaa.AM

namespace Go.Proofs.Ytjgolcbpgmlilaa.AM
open Go Go.Proofs.Ytjgolcbpgmlilaa.Qu
set_option linter.unusedVariables false
set_option linter.unusedSimpArgs false

theorem typed_cen {cs : List CV} (h : Typed Try.prog 61 cs) : ∃ c : Cen, cs = cenC c ∧ c.nm.size ≤ maxLen ∧ c.ru.length ≤ maxLen := by
  obtain ⟨L, rfl, hn, hf⟩ := typed_struct Try.underlying61 h
  match L, hn with
  | [a, b, d], _ =>
    obtain ⟨s, rfl, h1⟩ := typed_str Try.underlying9 (hf 0 _ a rfl rfl)
    obtain ⟨n, rfl, h2⟩ := typed_int Try.underlying3 (hf 1 _ b rfl rfl)
    obtain ⟨L2, rfl, hn2, _, hl2⟩ := typed_slc Try.underlying29 (hf 2 _ d rfl rfl)
    obtain ⟨zs, g1, g2, g3⟩ := ints_of Try.underlying3 L2 hl2
    exact ⟨⟨s, n, zs⟩, by simp [cenC, g1, g2], h1, by show zs.length ≤ maxLen; omega⟩
theorem typed_lea {cs : List CV} (h : Typed Try.prog 50 cs) : ∃ c : Lea, cs = leaC c ∧ c.nm.size ≤ maxLen ∧ c.wi.length ≤ maxLen := by
  obtain ⟨L, rfl, hn, hf⟩ := typed_struct Try.underlying50 h
  match L, hn with
  | [a, b, c, d, e], _ =>
    obtain ⟨s, rfl, h1⟩ := typed_str Try.underlying9 (hf 0 _ a rfl rfl)
    obtain ⟨n1, rfl, _⟩ := typed_int Try.underlying3 (hf 1 _ b rfl rfl)
    obtain ⟨n2, rfl, _⟩ := typed_int Try.underlying3 (hf 2 _ c rfl rfl)
    obtain ⟨n3, rfl, _⟩ := typed_int Try.underlying3 (hf 3 _ d rfl rfl)
    obtain ⟨L2, rfl, hn2, _, hl2⟩ := typed_slc Try.underlying29 (hf 4 _ e rfl rfl)
    obtain ⟨zs, g1, g2, g3⟩ := ints_of Try.underlying3 L2 hl2
    exact ⟨⟨s, n1, n2, n3, zs⟩, by simp [leaC, g1, g2], h1, by show zs.length ≤ maxLen; omega⟩

theorem typed_list {α : Type} {f : α → List CV} {p : α → Prop} {t : TypeId} (h : ∀ cs, Typed Try.prog t cs → ∃ x, cs = f x ∧ p x) : ∀ L : List (List CV), (∀ l ∈ L, Typed Try.prog t l) → ∃ xs : List α, L.flatten = xs.flatMap f ∧ L.length = xs.length ∧ ∀ x ∈ xs, p x
  | [], _ => ⟨[], rfl, rfl, by simp⟩
  | l :: L, hl => by
    obtain ⟨x, h1, h2⟩ := h l (hl l (by simp))
    obtain ⟨xs, g1, g2, g3⟩ := typed_list h L fun l hh => hl l (by simp [hh])
    exact ⟨x :: xs, by simp [h1, g1], by simp [g2], by simpa using ⟨h2, g3⟩⟩

theorem typed_q {cs : List CV} (h : Typed Try.prog 25 cs) : ∃ q : QL, avOf Try.prog 25 cs = qV q ∧ QSz q := by
  obtain ⟨L, rfl, hn, hf⟩ := typed_struct Try.underlying25 h
  match L, hn with
  | [a, b], _ =>
    obtain ⟨L1, rfl, n1, _, h1⟩ := typed_slc Try.underlying22 (hf 0 _ a rfl rfl)
    obtain ⟨L2, rfl, n2, _, h2⟩ := typed_slc Try.underlying23 (hf 1 _ b rfl rfl)
    obtain ⟨cs, a1, a2, a3⟩ := typed_list (fun cs h => typed_cen h) L1 h1
    obtain ⟨ls, b1, b2, b3⟩ := typed_list (fun cs h => typed_lea h) L2 h2
    have hm : maxLen < 2 ^ 63 := by decide
    refine ⟨⟨cs, ls⟩, ?_, ⟨by show cs.length < _; omega, by show ls.length < _; omega, fun i hi => ?_, fun i hi => ?_, fun i hi => ?_, fun i hi => ?_⟩⟩
    · simp only [avOf, Try.underlying25, a1, b1, a2, b2]
      rfl
    · have hi : i < cs.length := hi
      show (cs[i]!).nm.size < _
      rw [getElem!_pos cs i hi]
      have := (a3 _ (List.getElem_mem hi)).1
      omega
    · have hi : i < cs.length := hi
      show (cs[i]!).ru.length < _
      rw [getElem!_pos cs i hi]
      have := (a3 _ (List.getElem_mem hi)).2
      omega
    · have hi : i < ls.length := hi
      show (ls[i]!).nm.size < _
      rw [getElem!_pos ls i hi]
      have := (b3 _ (List.getElem_mem hi)).1
      omega
    · have hi : i < ls.length := hi
      show (ls[i]!).wi.length < _
      rw [getElem!_pos ls i hi]
      have := (b3 _ (List.getElem_mem hi)).2
      omega

end Go.Proofs.Ytjgolcbpgmlilaa.AM

namespace Go.Proofs.Ytjgolcbpgmlilaa.AM
open Go Go.Proofs.Ytjgolcbpgmlilaa.Qu Pl
set_option linter.unusedVariables false
set_option linter.unusedSimpArgs false

theorem getI (g : List Int) (i : Nat) : g[i]! = g[i]?.getD 0 := by rw [List.getElem!_eq_getElem?_getD]; rfl

theorem idxN_neg {p : Nat → Bool} {n : Nat} (h : ¬ 0 ≤ idxN p n) : ∀ j, j < n → p j = false := by
  have := idxN_ge p n
  rw [decide_eq_false (by omega)] at this
  exact anyN_false.1 this.symm

theorem idxN_lt {p : Nat → Bool} {n : Nat} (h : 0 ≤ idxN p n) : (idxN p n).toNat < n := by
  have := idxN_ge p n
  rw [decide_eq_true (by omega)] at this
  obtain ⟨i, hi, hp⟩ := anyN_true.1 this.symm
  unfold idxN at h ⊢
  cases hf : (List.range n).find? p with
  | none => rw [hf] at h; exact absurd h (by decide)
  | some k => simpa using List.mem_of_find?_eq_some hf

section
variable {q : QL} {g : List Int}

theorem acc_of (he : eQ q = 0) (h : (accQ q g).2.2 = 0) : Accepts q g := by
  obtain ⟨h5, h8, hL, hC⟩ := val_of he
  unfold accQ at h
  rw [if_neg (by rw [he]; simp)] at h
  by_cases hl : g.length ≠ q.ls.length
  · rw [if_pos hl] at h; exact absurd h (by decide)
  rw [if_neg hl] at h
  have hl : g.length = q.ls.length := by omega
  by_cases h1 : 0 ≤ idxN (acc1 q g) g.length
  · rw [if_pos h1] at h; exact absurd (show (4 : Int) = 0 from h) (by decide)
  rw [if_neg h1] at h
  by_cases h2 : 0 ≤ idxN (acc2 q g) q.cs.length
  · rw [if_pos h2] at h; exact absurd (show (7 : Int) = 0 from h) (by decide)
  rw [if_neg h2] at h
  by_cases h3 : 0 ≤ idxN (acc3 q g) g.length
  · rw [if_pos h3] at h; exact absurd (show (9 : Int) = 0 from h) (by decide)
  have a1 := idxN_neg h1
  have a2 := idxN_neg h2
  have a3 := idxN_neg h3
  refine ⟨⟨hl, fun i hi => ?_⟩, fun c hc => ?_, fun i hi j c hj hw => ?_⟩
  · have := a1 i (by omega)
    rw [getI]
    unfold acc1 at this
    by_cases hm : g[i]?.getD 0 = -1
    · exact .inl hm
    · rw [bne_t hm, Bool.true_and] at this
      have hne : place (q.ls[i]!).wi (g[i]?.getD 0) ≠ (q.ls[i]!).wi.length := fun e => by rw [e] at this; simp at this
      have hlt := place_le (q.ls[i]!).wi (g[i]?.getD 0)
      exact .inr (List.mem_of_getElem? (place_get (by omega)))
  · have := a2 c hc
    unfold acc2 at this
    have := of_decide_eq_false this
    omega
  · have := a3 i (by omega)
    unfold acc3 at this
    have hneg := of_decide_eq_false this
    unfold complQ at hneg
    rw [getI] at hj
    have hb : ∀ j, j < place (q.ls[i]!).wi (g[i]?.getD 0) → badQ q g i j = false := by
      by_cases hn : idxN (badQ q g i) (place (q.ls[i]!).wi (g[i]?.getD 0)) < 0
      · exact idxN_neg (by omega)
      · rw [if_neg hn] at hneg
        exfalso
        apply hneg
        have hlt := idxN_lt (p := badQ q g i) (n := place (q.ls[i]!).wi (g[i]?.getD 0)) (by omega)
        have hpl := place_le (q.ls[i]!).wi (g[i]?.getD 0)
        have := (hL i hi).wi _ (List.getElem_mem (show (idxN (badQ q g i) (place (q.ls[i]!).wi (g[i]?.getD 0))).toNat < (q.ls[i]!).wi.length by omega))
        rw [List.getElem?_eq_getElem (by omega)]
        exact this.1
    have hbj := hb j hj
    unfold badQ at hbj
    rw [hw] at hbj
    simp only [Option.getD_some, Bool.or_eq_false_iff] at hbj
    refine ⟨of_decide_eq_false hbj.1, fun k hk hg => ?_⟩
    have := anyN_false.1 hbj.2 k (by omega)
    rw [getI] at hg
    rw [hg] at this
    simpa using this

theorem acc_to (he : eQ q = 0) (h : Accepts q g) : accQ q g = (0, 0, 0) := by
  obtain ⟨h5, h8, hL, hC⟩ := val_of he
  have hl := h.ok.1
  refine accQ_0 he hl (fun i hi => ?_) (fun c hc => ?_) (fun i hi => ?_)
  · unfold acc1
    rcases h.ok.2 i (by omega) with e | e
    · rw [getI] at e; rw [e]; rfl
    · rw [getI] at e
      have := place_mem e
      rw [beq_f (by omega), Bool.and_false]
  · unfold acc2
    have := h.cap c hc
    exact decide_eq_false (by omega)
  · unfold acc3
    rw [complQ_none]
    · rfl
    · intro j hj
      have hlt : j < (q.ls[i]!).wi.length := by have := place_le (q.ls[i]!).wi (g[i]?.getD 0); omega
      have hw : (q.ls[i]!).wi[j]? = some (q.ls[i]!).wi[j] := List.getElem?_eq_getElem hlt
      obtain ⟨b1, b2⟩ := h.calm i (by omega) j _ (by rw [getI]; exact hj) hw
      unfold badQ
      rw [hw]
      simp only [Option.getD_some, Bool.or_eq_false_iff]
      refine ⟨decide_eq_false b1, anyN_false.2 fun k hk => ?_⟩
      by_cases hgk : g[k]?.getD 0 = (q.ls[i]!).wi[j]
      · rw [b2 k (by omega) (by rw [getI]; exact hgk), Bool.and_false]
      · rw [beq_f hgk, Bool.false_and]
end

theorem give_acc {q : QL} (he : eQ q = 0) : accQ q (giveQ q) = (0, 0, 0) := by
  obtain ⟨h5, h8, hL, hC⟩ := val_of he
  exact acc_to he (give_accepts hL hC)

theorem giveV_ok {q : QL} (he : eQ q = 0) : giveV q = .tup [ints (giveQ q), .i 0] := by unfold giveV; rw [if_pos he]
theorem giveV_no {q : QL} (he : ¬ eQ q = 0) : giveV q = .tup [ints [], .i (eQ q)] := by unfold giveV; rw [if_neg he]
theorem cutV_ok {q : QL} (he : eQ q = 0) : cutV q = .tup [ints (cutQ q), .i 0] := by unfold cutV; rw [if_pos he]
theorem cutV_no {q : QL} (he : ¬ eQ q = 0) : cutV q = .tup [ints [], .i (eQ q)] := by unfold cutV; rw [if_neg he]

/-- an argument that is a list of numbers -/
theorem typed_d {cs : List CV} (h : Typed Try.prog 29 cs) : ∃ d : List Int, avOf Try.prog 29 cs = ints d ∧ d.length < 2 ^ 63 := by
  obtain ⟨zs, rfl, hz, _⟩ := typed_ints Try.underlying29 Try.underlying3 h
  exact ⟨zs, by simp [avOf, Try.underlying29], hz⟩

/-- an argument of two numbers -/
theorem typed_two {cs : List CV} (h : Typed Try.prog 39 cs) : ∃ x y : Int, avOf Try.prog 39 cs = .agg [.i x, .i y] := by
  obtain ⟨L, rfl, hl, hl2, hl3⟩ := typed_arr Try.underlying39 h
  obtain ⟨xs, hx1, hx2, hx3⟩ := ints_of Try.underlying3 L hl3
  rw [hx1]
  match xs, (hx2.symm.trans hl), hx3 with
  | [a, b], _, _ => exact ⟨a, b, by simp [avOf, Try.underlying39]⟩
/-- an argument of two bytes -/
theorem typed_two8 {cs : List CV} (h : Typed Try.prog 57 cs) : ∃ x y : Nat, x < 256 ∧ y < 256 ∧ avOf Try.prog 57 cs = .agg [.cv (.int .u8 x), .cv (.int .u8 y)] := by
  obtain ⟨L, rfl, hl, hl2, hl3⟩ := typed_arr Try.underlying57 h
  obtain ⟨xs, hx1, hx2, hx3⟩ := ints_of Try.underlying5 L hl3
  rw [hx1]
  match xs, (hx2.symm.trans hl), hx3 with
  | [a, b], _, hx3 =>
    have ha := wf_u8 (hx3 a (by simp))
    have hb := wf_u8 (hx3 b (by simp))
    exact ⟨a.toNat, b.toNat, by omega, by omega, by rw [Int.toNat_of_nonneg ha.1, Int.toNat_of_nonneg hb.1]; simp [avOf, Try.underlying57]⟩
/-- an argument that is a list of bytes -/
theorem typed_bs {cs : List CV} (h : Typed Try.prog 51 cs) : ∃ xs : List Int, avOf Try.prog 51 cs = .cv (.rsl (xs.map (.int .u8)) xs.length) ∧ xs.length < 2 ^ 63 ∧ ∀ x ∈ xs, 0 ≤ x ∧ x ≤ 255 := by
  obtain ⟨zs, rfl, hz, hw⟩ := typed_ints Try.underlying51 Try.underlying5 h
  exact ⟨zs, by simp [avOf, Try.underlying51], hz, fun x hx => wf_u8 (hw x hx)⟩

end Go.Proofs.Ytjgolcbpgmlilaa.AM


/- Parts of the proof, joined: LibS1 to QuC13. -/
import Derived.Sort.Defs
import Derived.Test.YtjgolcbpgmlilaaZ42

namespace Go.Proofs.Ytjgolcbpgmlilaa.AM
open Go
set_option linter.unusedVariables false
set_option linter.unusedSimpArgs false

section
set_option linter.unusedSectionVars false
variable {α : Type} [Inhabited α]

/-- the heap with another array in the row -/
abbrev rowA (f : α → AV) (d : Array α) : List AV := d.toList.map f
abbrev putA (f : α → AV) (σ : List AObj) (l : Nat) (d : Array α) : List AObj := σ.set l (.cells (rowA f d))

/-- what a comparison is asked: it answers c at elements of E, wherever I holds, and keeps the heap; elements are one cell each; I does not look at the row -/
structure CmpOk (fv : AV) (f : α → AV) (c : α → α → Int) (l : Nat) (E : α → Prop) (I : List AObj → Prop) : Prop where
  call : ∀ a b σ, E a → E b → I σ → CallV Try.prog fv [f a, f b] σ fun r τ => r = .i (c a b) ∧ τ = σ
  sc : ∀ a, (f a).isSc = true
  one : ∀ a, cellsOf (f a) = [f a]
  put : ∀ σ d, I σ → I (putA f σ l d)

abbrev ltC (c : α → α → Int) : α → α → Bool := fun a b => decide (c a b < 0)
theorem rowA_len (f : α → AV) (d : Array α) : (rowA f d).length = d.size := by simp
theorem rowA_get (f : α → AV) {d : Array α} {i : Nat} (h : i < d.size) : (rowA f d)[i]? = some (f d[i]!) := by
  simp [rowA, h]
theorem swp_size' (d : Array α) (i j : Nat) : (Sort.swp d i j).size = d.size := by simp [Sort.swp]
theorem rowA_swp (f : α → AV) {d : Array α} {i j : Nat} (hi : i < d.size) (hj : j < d.size) : ((rowA f d).set i (f d[j]!)).set j (f d[i]!) = rowA f (Sort.swp d i j) := by
  simp [rowA, Sort.swp, List.map_set]

theorem swp_all {E : α → Prop} {d : Array α} {i j : Nat} (hi : i < d.size) (hj : j < d.size) (h : ∀ k, k < d.size → E d[k]!) : ∀ k, k < (Sort.swp d i j).size → E (Sort.swp d i j)[k]! := by
  intro k hk
  rw [swp_size'] at hk
  have := h i hi
  have := h j hj
  have := h k hk
  unfold Sort.swp
  simp only [getElem!_def, Array.getElem?_setIfInBounds, Array.size_setIfInBounds] at *
  by_cases h1 : j = k
  · subst h1; simp [hk]; simpa [hi] using h i hi
  · by_cases h2 : i = k
    · subst h2; simp [h1, hk]; simpa [hj] using h j hj
    · simp [h1, h2]; simpa [hk] using h k hk

theorem putA_row {f : α → AV} {σ : List AObj} {l : Nat} {d d' : Array α} (h : rowOf σ l = some (rowA f d)) : rowOf (putA f σ l d') l = some (rowA f d') := rowOf_set_self h
theorem putA_set (f : α → AV) (σ : List AObj) (l : Nat) (d d' : Array α) : (putA f σ l d).set l (.cells (rowA f d')) = putA f σ l d' := List.set_set ..
theorem putA_same {f : α → AV} {σ : List AObj} {l : Nat} {d : Array α} (h : rowOf σ l = some (rowA f d)) : putA f σ l d = σ := by
  apply List.ext_getElem?
  intro k
  by_cases hk : l = k
  · subst hk
    rw [List.getElem?_set_self (List.getElem?_eq_some_iff.1 (rowOf_some h)).1, rowOf_some h]
  · rw [List.getElem?_set_ne hk]

/-- insertionSortCmpFunc -/
theorem c104 {fv : AV} {f : α → AV} {c : α → α → Int} {l : Nat} {E : α → Prop} {I : List AObj → Prop} (hC : CmpOk fv f c l E I) {σ : List AObj} (hI : I σ) (d0 : Array α) (a b : Nat) (hE : ∀ k, k < d0.size → E d0[k]!) (hr : rowOf σ l = some (rowA f d0)) (hn : d0.size < 2 ^ 60) (hab : a ≤ b) (hb : b ≤ d0.size) :
    AC Try.prog 104 [.sl l 0 d0.size 1, .i a, .i b, fv] σ fun r τ => r = .tup [] ∧ τ = putA f σ l (Sort.insertionSort (ltC c) d0 a b) := by
  refine AC_FE (fok104 true) (Nat.le_of_ble_eq_true rfl) ?_
  have hwa : IntKind.i64.wrap ((a : Int) + 1) = ((a + 1 : Nat) : Int) := by rw [wrap_in (by omega)]; rfl
  simp only [ic104, hwa, evA, if_true, if_false, beq_false, simprocAttr]
  refine IL_for (b - a) (fun t s => ∃ d v5 v6 v7, ((d.size = d0.size ∧ ∀ k, k < d.size → E d[k]!) ∧ Sort.insertionSort (ltC c) d0 a b = Sort.insOuter (ltC c) a b (a + 1 + t) d) ∧ s = ⟨[.sl l 0 d0.size 1, .i a, .i b, fv, .i ((a + 1 + t : Nat) : Int), v5, v6, v7], putA f σ l d⟩) ?_ 0 (Nat.zero_le _) ⟨d0, _, _, _, ⟨⟨rfl, hE⟩, rfl⟩, by rw [putA_same hr]⟩
  rintro t s ht ⟨d, v5, v6, v7, ⟨⟨hd, hEd⟩, heq⟩, rfl⟩
  rw [Sort.insOuter] at heq
  by_cases h : a + 1 + t < b
  rotate_left
  · rw [if_neg h] at heq
    simp only [ic104l1, Int.ofNat_lt, h, evA, if_true, if_false, beq_false, simprocAttr]
    rw [heq]
  rw [if_pos h] at heq
  obtain ⟨i, hi⟩ : ∃ i, i = a + 1 + t := ⟨_, rfl⟩
  rw [← hi] at h heq ⊢
  have hwi : IntKind.i64.wrap ((i : Int) + 1) = ((i + 1 : Nat) : Int) := by rw [wrap_in (by omega)]; rfl
  simp only [ic104l1, Int.ofNat_lt, h, evA, if_true, if_false, beq_false, simprocAttr]
  refine IL_for i (fun k s => ∃ e v6 v7, ((e.size = d0.size ∧ ∀ k, k < e.size → E e[k]!) ∧ Sort.insInner (ltC c) a i d = Sort.insInner (ltC c) a (i - k) e) ∧ s = ⟨[.sl l 0 d0.size 1, .i a, .i b, fv, .i i, .i ((i - k : Nat) : Int), v6, v7], putA f σ l e⟩) ?_ 0 (Nat.zero_le _) ⟨d, _, _, ⟨⟨hd, hEd⟩, rfl⟩, rfl⟩
  rintro k s hk ⟨e, w6, w7, ⟨⟨he, hEe⟩, heq2⟩, rfl⟩
  have hre := putA_row (d' := e) hr
  have fin : Sort.insInner (ltC c) a i d = e → Sort.insertionSort (ltC c) d0 a b = Sort.insOuter (ltC c) a b (a + 1 + (t + 1)) e := fun h1 => by
    rw [heq, h1, hi]; rfl
  simp only [ic104l0, evA, if_true, if_false, beq_false, simprocAttr]
  refine DW_s [14] [] hmix (by kernel_rfl) rfl ?_
  by_cases hja : i - k > a
  rotate_left
  · have hgi : (((i - k : Nat) : Int) > (a : Int)) = False := eq_false (by omega)
    have h1 : Sort.insInner (ltC c) a i d = e := by
      rw [heq2]
      cases hk' : i - k with
      | zero => rfl
      | succ j => rw [Sort.insInner, if_neg]; simp; omega
    simp only [hgi, hwi, evA, if_true, if_false, beq_false, simprocAttr]
    exact kFor_go (by first | trivial | omega) ⟨e, _, _, _, ⟨⟨he, hEe⟩, fin h1⟩, by rw [hi]; rfl⟩
  obtain ⟨j, hj⟩ : ∃ j, i - k = j + 1 := ⟨i - k - 1, by omega⟩
  have hgi : (((i - k : Nat) : Int) > (a : Int)) = True := eq_true (by omega)
  have hwj : IntKind.i64.wrap (((i - k : Nat) : Int) - 1) = (j : Int) := by rw [wrap_in (by omega)]; omega
  rw [hj] at hwj hgi heq2 ⊢
  have hj1 : j + 1 < d0.size := by omega
  have hj0 : j < d0.size := by omega
  have g1 := rowA_get f (d := e) (i := j + 1) (by omega)
  have g0 := rowA_get f (d := e) (i := j) (by omega)
  simp only [hgi, hwj, hj1, hj0, hre, g1, g0, evA, if_true, if_false, beq_false, simprocAttr]
  refine kK_keep (hC.call _ _ _ (hEe _ (by omega)) (hEe _ (by omega)) (hC.put _ _ hI)) rfl ?_
  rw [Sort.insInner] at heq2
  by_cases hlt : c e[j + 1]! e[j]! < 0
  rotate_left
  · have h1 : Sort.insInner (ltC c) a i d = e := by
      rw [heq2, if_neg]; simp [ltC, hlt]
    simp only [hlt, hwi, evA, if_true, if_false, beq_false, simprocAttr]
    exact kFor_go (by first | trivial | omega) ⟨e, _, _, _, ⟨⟨he, hEe⟩, fin h1⟩, by rw [hi]; rfl⟩
  have hcond : (decide (j + 1 > a) && ltC c e[j + 1]! e[j]!) = true := by simp [ltC, hlt]; omega
  rw [if_pos hcond] at heq2
  simp only [hlt, evA, if_true, if_false, beq_false, simprocAttr]
  refine DW_s [] [] hmix (by kernel_rfl) rfl ?_
  have hs := rowA_swp f (d := e) (i := j + 1) (j := j) (by omega) (by omega)
  have hrow2 : rowOf (putA f σ l e) l = some (rowA f e) := hre
  have hrs := fun cs => rowOf_set_self (cs' := cs) hre
  have hss : ∀ x y : AObj, ((putA f σ l e).set l x).set l y = σ.set l y := fun x y => by simp
  have hle1 : j + 1 + 1 ≤ e.size := by omega
  have hle0 : j + 1 ≤ e.size := by omega
  simp only [hwj, hj1, hj0, hre, hrs, g1, g0, hC.one, hC.sc, hs, hss, hle1, hle0, rowA_len, Array.length_toList, evA, if_true, if_false, beq_false, simprocAttr]
  refine kFor_go (by first | trivial | omega) ⟨Sort.swp e (j + 1) j, _, _, ⟨⟨by rw [swp_size', he], swp_all (by omega) (by omega) hEe⟩, by rw [heq2, show i - (k + 1) = j by omega]⟩, by rw [show i - (k + 1) = j by omega]⟩

def bl (n : Nat) : Nat := if n = 0 then 0 else Nat.log2 n + 1
noncomputable def blTab : List (Nat × FE) := [(99, ⟨ic99, vs99, Try.f99.ntmps, rs99, true⟩), (113, ⟨ic113, vs113, Try.f113.ntmps, rs113, true⟩)]
theorem blTab_ok : TOk Try.prog blTab := ⟨fok99 _, fok113 _, trivial⟩
noncomputable def TLb : Tb := ⟨tget blTab, []⟩
theorem TLb_ok : TbOk Try.prog TLb := ⟨fun _ _ h => TOk.get blTab_ok _ _ h, trivial⟩
theorem bitsLen (n : Nat) (hn : n ≤ 12) (σ : List AObj) : AC Try.prog 99 [.cv (.int .u64 n)] σ fun r τ => r = .i (bl n) ∧ τ = σ := by
  have h : n = 0 ∨ n = 1 ∨ n = 2 ∨ n = 3 ∨ n = 4 ∨ n = 5 ∨ n = 6 ∨ n = 7 ∨ n = 8 ∨ n = 9 ∨ n = 10 ∨ n = 11 ∨ n = 12 := by omega
  rcases h with rfl | rfl | rfl | rfl | rfl | rfl | rfl | rfl | rfl | rfl | rfl | rfl | rfl <;> exact AC_run (Checked.mixed Try.checked) TLb_ok 1000 40 (by kernel_rfl) rfl σ

/-- slices.SortFunc of at most twelve elements -/
theorem c78 {fv : AV} {f : α → AV} {c : α → α → Int} {l : Nat} {E : α → Prop} {I : List AObj → Prop} (hC : CmpOk fv f c l E I) {σ : List AObj} (hI : I σ) (d0 : Array α) (hE : ∀ k, k < d0.size → E d0[k]!) (hr : rowOf σ l = some (rowA f d0)) (hn : d0.size ≤ 12) :
    AC Try.prog 78 [.sl l 0 d0.size 1, fv] σ fun r τ => r = .tup [] ∧ τ = putA f σ l (Sort.insertionSort (ltC c) d0 0 d0.size) := by
  have hw : IntKind.u64.wrap (d0.size : Int) = (d0.size : Int) := by simp [IntKind.wrap, IntKind.bits, IntKind.signed]; omega
  have hw2 : IntKind.i64.wrap ((d0.size : Int) - 0) = (d0.size : Int) := by rw [wrap_in (by omega)]; omega
  have hle : ((d0.size : Int) ≤ 12) = True := eq_true (by omega)
  have hp : ∀ lim : Int, AC Try.prog 98 [.sl l 0 d0.size 1, .i 0, .i d0.size, .i lim, fv] σ fun r τ => r = .tup [] ∧ τ = putA f σ l (Sort.insertionSort (ltC c) d0 0 d0.size) := fun lim => by
    refine AC_FE (fok98 true) (Nat.le_of_ble_eq_true rfl) ?_
    simp only [ic98, evA, if_true, if_false, beq_false, simprocAttr]
    refine IL_unroll' ?_
    simp only [ic98l0, hw2, hle, evA, if_true, if_false, beq_false, simprocAttr]
    have := c104 hC hI d0 0 d0.size hE hr (by omega) (Nat.zero_le _) (Nat.le_refl _)
    refine this.run ?_
    simp only [evA, if_true, if_false, beq_false, simprocAttr]
  refine AC_FE (fok78 true) (Nat.le_of_ble_eq_true rfl) ?_
  simp only [ic78, hw, evA, if_true, if_false, beq_false, simprocAttr]
  refine (bitsLen d0.size hn _).run ?_
  simp only [evA, if_true, if_false, beq_false, simprocAttr]
  refine (hp _).run ?_
  simp only [evA, if_true, if_false, beq_false, simprocAttr]
end
end Go.Proofs.Ytjgolcbpgmlilaa.AM

namespace Go.Proofs.Ytjgolcbpgmlilaa.AM
open Go Go.Proofs.Ytjgolcbpgmlilaa.Qu Pl
set_option linter.unusedVariables false
set_option linter.unusedSimpArgs false

def cmpI (x y : Int) : Int := if x < y then -1 else if x > y then 1 else 0
def cmpS (x y : ByteArray) : Int := if Op.bytesLess x.toList y.toList = true then -1 else if x = y then 0 else 1

theorem c101 (x : Int) : PC Try.prog 101 [.i x] (.b false) := by
  refine ⟨AC_FE (fok101 true) (Nat.le_of_ble_eq_true rfl) ?_, rfl⟩
  simp only [ic101, evA, if_true, if_false, beq_false, simprocAttr]
  exact frz
theorem c100 (x : ByteArray) : PC Try.prog 100 [.cv (.str x)] (.b false) := by
  refine ⟨AC_FE (fok100 true) (Nat.le_of_ble_eq_true rfl) ?_, rfl⟩
  simp only [ic100, binS, str_eq, evA, if_true, if_false, beq_false, simprocAttr]
  exact frz
theorem c84 (x y : Int) : PC Try.prog 84 [.i x, .i y] (.i (cmpI x y)) := by
  refine ⟨AC_FE (fok84 true) (Nat.le_of_ble_eq_true rfl) ?_, rfl⟩
  simp only [ic84, evA, if_true, if_false, beq_false, simprocAttr]
  refine (c101 x).call frz ?_
  simp only [evA, if_true, if_false, beq_false, simprocAttr]
  refine (c101 y).call frz ?_
  unfold cmpI
  by_cases h1 : x < y
  · simp only [h1, evA, if_true, if_false, beq_false, simprocAttr]
    exact frz
  · by_cases h2 : x > y
    · simp only [h1, h2, evA, if_true, if_false, beq_false, simprocAttr]
      exact frz
    · simp only [h1, h2, evA, if_true, if_false, beq_false, simprocAttr]
      exact frz
theorem c80 (x y : ByteArray) : PC Try.prog 80 [.cv (.str x), .cv (.str y)] (.i (cmpS x y)) := by
  refine ⟨AC_FE (fok80 true) (Nat.le_of_ble_eq_true rfl) ?_, rfl⟩
  simp only [ic80, evA, if_true, if_false, beq_false, simprocAttr]
  refine (c100 x).call frz ?_
  simp only [evA, if_true, if_false, beq_false, simprocAttr]
  refine (c100 y).call frz ?_
  unfold cmpS
  cases h1 : Op.bytesLess x.toList y.toList
  · by_cases h2 : x = y
    · simp only [h1, h2, bl_irr, binS, str_eq, evA, if_true, if_false, beq_false, simprocAttr]
      exact frz
    · simp only [h1, h2, binS, str_eq, evA, if_true, if_false, beq_false, simprocAttr]
      exact frz
  · simp only [h1, binS, str_eq, evA, if_true, if_false, beq_false, simprocAttr]
    exact frz

theorem kept2 {P : Program} {f : FuncId} {args : List AV} {σ : List AObj} {v : AV} (hv : locsIn 0 v = true) (h : AC P f args σ fun r τ => r = v ∧ ∃ J, τ = σ ++ J) : AC P f args σ fun r τ => r = v ∧ τ = σ := h.cutF hv

theorem c75 (x : AV) (c : Nat) (a b : Lea) (σ : List AObj) : AC Try.prog 75 [x, .i c, leaA a, leaA b] σ fun r τ => r = .i (cmpI (key c a 0) (key c b 0)) ∧ τ = σ := by
  refine kept2 rfl (AC_FE (fok75 true) (Nat.le_of_ble_eq_true rfl) ?_)
  have g1 := rowOf_push (rowOf_last σ [.cv (.str a.nm), .i a.si, .i a.ho, .i a.fa, ints a.wi]) (.cells [.cv (.str b.nm), .i b.si, .i b.ho, .i b.fa, ints b.wi])
  have g2 := rowOf_last (σ ++ [.cells [.cv (.str a.nm), .i a.si, .i a.ho, .i a.fa, ints a.wi]]) [.cv (.str b.nm), .i b.si, .i b.ho, .i b.fa, ints b.wi]
  simp only [ic75, g1, g2, evA, if_true, if_false, beq_false, simprocAttr]
  refine (c84 _ _).call frz ?_
  simp only [evA, if_true, if_false, beq_false, simprocAttr]
  exact ⟨rfl, _, List.append_assoc ..⟩
theorem c77 (x : AV) (c : Nat) (a b : Lea) (σ : List AObj) : AC Try.prog 77 [x, .i c, leaA a, leaA b] σ fun r τ => r = .i (cmpI (key c a 2) (key c b 2)) ∧ τ = σ := by
  refine kept2 rfl (AC_FE (fok77 true) (Nat.le_of_ble_eq_true rfl) ?_)
  have g1 := rowOf_push (rowOf_last σ [.cv (.str a.nm), .i a.si, .i a.ho, .i a.fa, ints a.wi]) (.cells [.cv (.str b.nm), .i b.si, .i b.ho, .i b.fa, ints b.wi])
  have g2 := rowOf_last (σ ++ [.cells [.cv (.str a.nm), .i a.si, .i a.ho, .i a.fa, ints a.wi]]) [.cv (.str b.nm), .i b.si, .i b.ho, .i b.fa, ints b.wi]
  simp only [ic77, g1, g2, evA, if_true, if_false, beq_false, simprocAttr]
  refine (c84 _ _).call frz ?_
  simp only [evA, if_true, if_false, beq_false, simprocAttr]
  exact ⟨rfl, _, List.append_assoc ..⟩
theorem c76 (x : AV) (c : Nat) (a b : Lea) (σ : List AObj) : AC Try.prog 76 [x, .i c, leaA a, leaA b] σ fun r τ => r = .i (cmpI (key c a 1) (key c b 1)) ∧ τ = σ := by
  refine kept2 rfl (AC_FE (fok76 true) (Nat.le_of_ble_eq_true rfl) ?_)
  have g1 := rowOf_push (rowOf_last σ [.cv (.str a.nm), .i a.si, .i a.ho, .i a.fa, ints a.wi]) (.cells [.cv (.str b.nm), .i b.si, .i b.ho, .i b.fa, ints b.wi])
  have g2 := rowOf_last (σ ++ [.cells [.cv (.str a.nm), .i a.si, .i a.ho, .i a.fa, ints a.wi]]) [.cv (.str b.nm), .i b.si, .i b.ho, .i b.fa, ints b.wi]
  have hk : ∀ y : Lea, key c y 1 = if y.ho = c then 0 else 1 := fun y => by simp only [key, show ¬ ((1 : Int) = 0) by decide, if_false, if_true]
  rw [hk, hk]
  have fin : ∀ (z w : AObj), ∃ J, σ ++ [z] ++ [w] = σ ++ J := fun z w => ⟨_, List.append_assoc ..⟩
  by_cases ha : a.ho = c
  · by_cases hb : b.ho = c
    · have e1 : (a.ho == b.ho) = true := by simp [ha, hb]
      rw [if_pos ha, if_pos hb]
      simp only [ic76, g1, g2, e1, evA, if_true, if_false, beq_false, simprocAttr]
      exact ⟨rfl, fin _ _⟩
    · have e1 : (a.ho == b.ho) = false := beq_f (by rw [ha]; exact fun h => hb h.symm)
      have e2 : (a.ho != (c : Int)) = false := by simp [ha]
      have e3 : (a.ho == (c : Int)) = true := by simp [ha]
      rw [if_pos ha, if_neg hb]
      simp only [ic76, g1, g2, e1, e2, e3, evA, if_true, if_false, beq_false, simprocAttr]
      exact ⟨rfl, fin _ _⟩
  · have e2 : (a.ho != (c : Int)) = true := bne_t ha
    have e3 : (a.ho == (c : Int)) = false := beq_f ha
    by_cases hb : b.ho = c
    · have e1 : (a.ho == b.ho) = false := beq_f (by rw [hb]; exact ha)
      have e4 : (b.ho != (c : Int)) = false := by simp [hb]
      rw [if_neg ha, if_pos hb]
      simp only [ic76, g1, g2, e1, e2, e3, e4, evA, if_true, if_false, beq_false, simprocAttr]
      exact ⟨rfl, fin _ _⟩
    · have e4 : (b.ho != (c : Int)) = true := bne_t hb
      rw [if_neg ha, if_neg hb]
      by_cases hab : a.ho = b.ho
      · have e1 : (a.ho == b.ho) = true := by simp [hab]
        simp only [ic76, g1, g2, e1, evA, if_true, if_false, beq_false, simprocAttr]
        exact ⟨rfl, fin _ _⟩
      · have e1 : (a.ho == b.ho) = false := beq_f hab
        simp only [ic76, g1, g2, e1, e2, e3, e4, evA, if_true, if_false, beq_false, simprocAttr]
        exact ⟨rfl, fin _ _⟩

end Go.Proofs.Ytjgolcbpgmlilaa.AM

namespace Go.Proofs.Ytjgolcbpgmlilaa.AM
open Go Go.Proofs.Ytjgolcbpgmlilaa.Qu Pl
set_option linter.unusedVariables false
set_option linter.unusedSimpArgs false

def cmpR (c : Nat) (a b : Lea) : List Int → Int
  | [] => cmpS a.nm b.nm
  | r :: rs => if cmpI (key c a r) (key c b r) = 0 then cmpR c a b rs else cmpI (key c a r) (key c b r)

theorem cmpI_0 {x y : Int} : cmpI x y = 0 ↔ x = y := by unfold cmpI; split <;> (try split) <;> omega
theorem cmpI_lt {x y : Int} : cmpI x y < 0 ↔ x < y := by unfold cmpI; split <;> (try split) <;> omega

theorem cmpR_lt (c : Nat) (a b : Lea) : ∀ rs, decide (cmpR c a b rs < 0) = byRules c a b rs
  | [] => by
    show decide (cmpS a.nm b.nm < 0) = Op.bytesLess a.nm.toList b.nm.toList
    unfold cmpS
    cases h : Op.bytesLess a.nm.toList b.nm.toList
    · by_cases h2 : a.nm = b.nm <;> simp [h2]
    · simp
  | r :: rs => by
    have ih := cmpR_lt c a b rs
    unfold cmpR byRules
    by_cases h : key c a r = key c b r
    · rw [if_pos (cmpI_0.2 h), if_pos h]; exact ih
    · rw [if_neg (fun e => h (cmpI_0.1 e)), if_neg h]
      rw [Bool.eq_iff_iff, decide_eq_true_eq, decide_eq_true_eq]
      exact cmpI_lt
theorem cmpR_drop {c : Nat} {a b : Lea} {ru : List Int} {r : Nat} (h : r < ru.length) :
    cmpR c a b (ru.drop r) = if cmpI (key c a (ru[r]?.getD 0)) (key c b (ru[r]?.getD 0)) = 0 then cmpR c a b (ru.drop (r + 1)) else cmpI (key c a (ru[r]?.getD 0)) (key c b (ru[r]?.getD 0)) := by
  have e : ru[r]?.getD 0 = ru[r] := by simp [h]
  rw [List.drop_eq_getElem_cons h, e]
  conv => lhs; unfold cmpR

def cmpQ (q : QL) (c i k : Nat) : Int := cmpR c (q.ls[i]!) (q.ls[k]!) (q.cs[c]!).ru

/-- where the comparison's captured variables lie -/
structure OrdAt (q : QL) (c : Nat) (b2 b3 b7 L : Nat) (x : AV) (σ : List AObj) : Prop where
  h2 : rowOf σ b2 = some [.ptr L 0]
  h3 : rowOf σ b3 = some [.i c]
  h7 : rowOf σ b7 = some [.bm 75 [.ptr L 0], .bm 76 [.ptr L 0], .bm 77 [.ptr L 0]]
  hL : rowOf σ L = some [cenL q.cs, leaL q.ls, x]

/-- the closure that compares two learners -/
theorem c79 (q : QL) (hq : QSz q) (c i k : Nat) (hc : c < q.cs.length) (hC : CenOk q c) (hi : i < q.ls.length) (hk : k < q.ls.length) {b2 b3 b7 L : Nat} {x : AV} {σ : List AObj} (h : OrdAt q c b2 b3 b7 L x σ) :
    AC Try.prog 79 [.i i, .i k, .ptr b2 0, .ptr b3 0, .ptr b7 0] σ fun r τ => r = .i (cmpQ q c i k) ∧ τ = σ := by
  obtain ⟨h2, h3, h7, hL⟩ := h
  refine kept2 rfl (AC_FE (fok79 true) (Nat.le_of_ble_eq_true rfl) ?_)
  simp only [ic79, evA, if_true, if_false, beq_false, simprocAttr]
  refine DW_s [] [(0, 16), (0, 17), (4, 16), (4, 17), (7, 16), (7, 17), (8, 16), (8, 17), (8, 18), (12, 16), (12, 17), (12, 18), (15, 16), (15, 17), (15, 18), (16, 17), (17, 16)] hmix (by kernel_rfl) rfl ?_
  have g2 := fun J => rowOf_low h2 J
  have g3 := fun J => rowOf_low h3 J
  have g7 := fun J => rowOf_low h7 J
  have gL := fun J => rowOf_low hL J
  have k2 := fun J => get_low h2 J
  have kL := fun J => get_low hL J
  have w2 := rowOf_some h2
  have wL := rowOf_some hL
  simp only [h2, hL, ia_rsl hi, ia_rsl hk, lea_ld hi, lea_ld hk, List.append_assoc, List.length_append, rowOf_az, rowOf_as, set_az, set_as, get_az, get_as, get_nz, get_ns, k2, kL, w2, wL, evA, if_true, if_false, beq_false, simprocAttr]
  refine DW_s [] [] hmix (by kernel_rfl) rfl ?_
  simp only [g2, g3, gL, ia_rsl hc, cen_2 hc, evA, if_true, if_false, beq_false, simprocAttr]
  have hru := hq.ru c hc
  have hrr := hC.ru
  unfold cmpQ
  generalize q.ls[i]! = a
  generalize q.ls[k]! = b
  generalize (q.cs[c]!).ru = ru at hru hrr ⊢
  refine IL_for ru.length (fun r s => cmpR c a b ru = cmpR c a b (ru.drop r) ∧ ∃ v8 v9 v13 v14, s = ⟨[.i i, .i k, .ptr b2 0, .ptr b3 0, .ptr b7 0, .i 0, .ptr σ.length 0, .ptr (σ.length + 1) 0, v8, v9, ints ru, .i ru.length, .i r, v13, v14], σ ++ [.cells [.cv (.str a.nm), .i a.si, .i a.ho, .i a.fa, ints a.wi], .cells [.cv (.str b.nm), .i b.si, .i b.ho, .i b.fa, ints b.wi]]⟩) ?_ 0 (Nat.zero_le _) ⟨rfl, _, _, _, _, rfl⟩
  rintro r s hr ⟨heq, v8, v9, v13, v14, rfl⟩
  by_cases hlt : r < ru.length
  rotate_left
  · have hE : cmpR c a b ru = cmpS a.nm b.nm := by rw [heq, List.drop_of_length_le (by omega)]; rfl
    simp only [ic79l0, Int.ofNat_lt, hlt, List.append_assoc, List.length_append, rowOf_az, rowOf_as, set_az, set_as, get_az, get_as, get_nz, get_ns, evA, if_true, if_false, beq_false, simprocAttr]
    refine (c80 a.nm b.nm).call frz ?_
    simp only [hE, evA, if_true, if_false, beq_false, simprocAttr]
    exact ⟨_, rfl⟩
  rw [cmpR_drop hlt] at heq
  have hmem : ru[r]?.getD 0 ∈ ru := by rw [List.getElem?_eq_getElem hlt]; exact List.getElem_mem hlt
  have hx3 := hrr _ hmem
  obtain ⟨x0, hx0⟩ : ∃ x, ru[r]?.getD 0 = x := ⟨_, rfl⟩
  rw [hx0] at heq hx3
  have fin : ∀ n : Int, n = cmpI (key c a x0) (key c b x0) → (n = 0 → cmpR c a b ru = cmpR c a b (ru.drop (r + 1))) ∧ (n ≠ 0 → cmpR c a b ru = n) := fun n hn => by
    subst hn
    exact ⟨fun h0 => by rw [heq, if_pos h0], fun h0 => by rw [heq, if_neg h0]⟩
  simp only [ic79l0, Int.ofNat_lt, hlt, hx0, List.append_assoc, List.length_append, rowOf_az, rowOf_as, set_az, set_as, get_az, get_as, get_nz, get_ns, evA, if_true, if_false, beq_false, simprocAttr]
  refine DW_s [6] [] hmix (by kernel_rfl) rfl ?_
  have h012 : x0 = 0 ∨ x0 = 1 ∨ x0 = 2 := by omega
  rcases h012 with rfl | rfl | rfl
  all_goals have i0 : ∀ σ, f_iaA 3 1 [.ptr b7 0, .cv (.int .i64 0)] σ = some (.ptr b7 0, σ) := fun _ => rfl
  all_goals have i1 : ∀ σ, f_iaA 3 1 [.ptr b7 0, .cv (.int .i64 1)] σ = some (.ptr b7 1, σ) := fun _ => rfl
  all_goals have i2 : ∀ σ, f_iaA 3 1 [.ptr b7 0, .cv (.int .i64 2)] σ = some (.ptr b7 2, σ) := fun _ => rfl
  all_goals simp only [g3, g7, i0, i1, i2, List.append_assoc, List.length_append, rowOf_az, rowOf_as, set_az, set_as, get_az, get_as, get_nz, get_ns, evA, if_true, if_false, beq_false, simprocAttr]
  · refine kK_keep (c75 _ c a b _) rfl ?_
    obtain ⟨f1, f2⟩ := fin _ rfl
    generalize cmpI (key c a 0) (key c b 0) = n at f1 f2 ⊢
    by_cases h0 : n = 0
    · simp only [h0, evA, if_true, if_false, beq_false, simprocAttr]
      exact kFor_go (by first | trivial | omega) ⟨f1 h0, _, _, _, _, by rw [wrap_succ (by omega)]⟩
    · have e0 := beq_f h0
      simp only [e0, f2 h0, evA, if_true, if_false, beq_false, simprocAttr]
      exact ⟨_, rfl⟩
  · refine kK_keep (c76 _ c a b _) rfl ?_
    obtain ⟨f1, f2⟩ := fin _ rfl
    generalize cmpI (key c a 1) (key c b 1) = n at f1 f2 ⊢
    by_cases h0 : n = 0
    · simp only [h0, evA, if_true, if_false, beq_false, simprocAttr]
      exact kFor_go (by first | trivial | omega) ⟨f1 h0, _, _, _, _, by rw [wrap_succ (by omega)]⟩
    · have e0 := beq_f h0
      simp only [e0, f2 h0, evA, if_true, if_false, beq_false, simprocAttr]
      exact ⟨_, rfl⟩
  · refine kK_keep (c77 _ c a b _) rfl ?_
    obtain ⟨f1, f2⟩ := fin _ rfl
    generalize cmpI (key c a 2) (key c b 2) = n at f1 f2 ⊢
    by_cases h0 : n = 0
    · simp only [h0, evA, if_true, if_false, beq_false, simprocAttr]
      exact kFor_go (by first | trivial | omega) ⟨f1 h0, _, _, _, _, by rw [wrap_succ (by omega)]⟩
    · have e0 := beq_f h0
      simp only [e0, f2 h0, evA, if_true, if_false, beq_false, simprocAttr]
      exact ⟨_, rfl⟩

end Go.Proofs.Ytjgolcbpgmlilaa.AM


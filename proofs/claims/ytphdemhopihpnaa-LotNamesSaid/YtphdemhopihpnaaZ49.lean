/- Parts of the proof, joined: LotSL to LotQ12. -/
import Derived.Shelf.SlSortCmp.Whole1
import Derived.Shelf.SlGeneric
import Derived.Ground.SlsfProg
import Derived.Test.YtphdemhopihpnaaProg
import Derived.Test.YtphdemhopihpnaaZ48

namespace Go.Proofs.Ytphdemhopihpnaa.AM
open Go Go.Shelf
def sortL_ren : Go.Shelf.Ren := ⟨fun | 6 => 62 | 15 => 77 | 14 => 76 | 28 => 90 | 29 => 91 | 20 => 82 | 21 => 83 | 22 => 84 | 23 => 85 | 24 => 86 | 25 => 87 | 26 => 88 | 27 => 89 | 46 => 92 | 47 => 93 | 48 => 94 | 49 => 95 | 50 => 96 | 57 => 97 | n => n, fun | 22 => 49 | 24 => 23 | 25 => 99 | 3 => 3 | 39 => 108 | 0 => 0 | 53 => 50 | 55 => 120 | 4 => 4 | 46 => 113 | 45 => 112 | 50 => 104 | 5 => 5 | 9 => 9 | 66 => 121 | 70 => 125 | 76 => 127 | 77 => 128 | n => n, fun | n => n⟩
theorem sortL : Go.Proofs.SlLaysF.n6 Try.prog sortL_ren := {
  mixed := by kernel_rfl
  f6 := ⟨Try.f62.name, by decide, Try.func62.trans (congrArg some (by kernel_rfl))⟩
  f14 := ⟨Try.f76.name, by decide, Try.func76.trans (congrArg some (by kernel_rfl))⟩
  f15 := Try.func77.trans (congrArg some (by kernel_rfl))
  f20 := ⟨Try.f82.name, by decide, Try.func82.trans (congrArg some (by kernel_rfl))⟩
  f21 := ⟨Try.f83.name, by decide, Try.func83.trans (congrArg some (by kernel_rfl))⟩
  f22 := ⟨Try.f84.name, by decide, Try.func84.trans (congrArg some (by kernel_rfl))⟩
  f23 := ⟨Try.f85.name, by decide, Try.func85.trans (congrArg some (by kernel_rfl))⟩
  f24 := ⟨Try.f86.name, by decide, Try.func86.trans (congrArg some (by kernel_rfl))⟩
  f25 := ⟨Try.f87.name, by decide, Try.func87.trans (congrArg some (by kernel_rfl))⟩
  f26 := ⟨Try.f88.name, by decide, Try.func88.trans (congrArg some (by kernel_rfl))⟩
  f27 := ⟨Try.f89.name, by decide, Try.func89.trans (congrArg some (by kernel_rfl))⟩
  f28 := Try.func90.trans (congrArg some (by kernel_rfl))
  f29 := Try.func91.trans (congrArg some (by kernel_rfl))
  f46 := ⟨Try.f92.name, by decide, Try.func92.trans (congrArg some (by kernel_rfl))⟩
  f47 := Try.func93.trans (congrArg some (by kernel_rfl))
  f48 := Try.func94.trans (congrArg some (by kernel_rfl))
  f49 := ⟨Try.f95.name, by decide, Try.func95.trans (congrArg some (by kernel_rfl))⟩
  f50 := ⟨Try.f96.name, by decide, Try.func96.trans (congrArg some (by kernel_rfl))⟩
  f57 := ⟨Try.f97.name, by decide, Try.func97.trans (congrArg some (by kernel_rfl))⟩
  t0 := Try.underlying0
  a0 := Try.isAgg0
  z0 := Try.sizeOf0
  v0 := Try.zeroValue0
  t3 := Try.underlying3
  a3 := Try.isAgg3
  z3 := Try.sizeOf3
  v3 := Try.zeroValue3
  t4 := Try.underlying4
  a4 := Try.isAgg4
  z4 := Try.sizeOf4
  v4 := Try.zeroValue4
  t5 := Try.underlying5
  a5 := Try.isAgg5
  z5 := Try.sizeOf5
  v5 := Try.zeroValue5
  t9 := Try.underlying9
  a9 := Try.isAgg9
  z9 := Try.sizeOf9
  v9 := Try.zeroValue9
  t22 := Try.underlying49
  a22 := Try.isAgg49
  z22 := Try.sizeOf49
  v22 := Try.zeroValue49
  a24 := Try.isAgg23
  z24 := Try.sizeOf23
  t25 := Try.underlying99
  a25 := Try.isAgg99
  z25 := Try.sizeOf99
  v25 := Try.zeroValue99
  t39 := Try.underlying108
  a39 := Try.isAgg108
  z39 := Try.sizeOf108
  v39 := Try.zeroValue108
  t45 := Try.underlying112
  a45 := Try.isAgg112
  z45 := Try.sizeOf112
  v45 := Try.zeroValue112
  t46 := Try.underlying113
  a46 := Try.isAgg113
  z46 := Try.sizeOf113
  v46 := Try.zeroValue113
  t50 := Try.underlying104
  a50 := Try.isAgg104
  z50 := Try.sizeOf104
  v50 := Try.zeroValue104
  t53 := Try.underlying50
  a53 := Try.isAgg50
  z53 := Try.sizeOf50
  v53 := Try.zeroValue50
  t55 := Try.underlying120
  a55 := Try.isAgg120
  z55 := Try.sizeOf120
  v55 := Try.zeroValue120
  t66 := Try.underlying121
  a66 := Try.isAgg121
  z66 := Try.sizeOf121
  v66 := Try.zeroValue121
  t70 := Try.underlying125
  a70 := Try.isAgg125
  z70 := Try.sizeOf125
  v70 := Try.zeroValue125
  t76 := Try.underlying127
  a76 := Try.isAgg127
  z76 := Try.sizeOf127
  v76 := Try.zeroValue127
  t77 := Try.underlying128
  a77 := Try.isAgg128
  z77 := Try.sizeOf128
  v77 := Try.zeroValue128 }
end Go.Proofs.Ytphdemhopihpnaa.AM

namespace Go.Proofs.Ytphdemhopihpnaa.AM
open Go
set_option linter.unusedVariables false
set_option linter.unusedSimpArgs false

def orF : List Int → Int
  | [] => 0
  | z :: zs => if z ≠ 0 then z else orF zs
theorem orF_cons (z : Int) (zs : List Int) : orF (z :: zs) = if z ≠ 0 then z else orF zs := rfl
theorem cmpLx_nc (y : Int) (ys : List Int) : cmpLx [] (y :: ys) = -1 := rfl
theorem cmpLx_cn (y : Int) (ys : List Int) : cmpLx (y :: ys) [] = 1 := rfl
theorem cmpLx_cc (x y : Int) (xs ys : List Int) : cmpLx (x :: xs) (y :: ys) = if cmpN x y ≠ 0 then cmpN x y else cmpLx xs ys := rfl
theorem orF_drop : ∀ {zs : List Int} {i : Nat}, (∀ j, j < i → zs[j]?.getD 0 = 0) → orF zs = orF (zs.drop i)
  | [], i, _ => by simp
  | z :: zs, 0, _ => rfl
  | z :: zs, i + 1, h => by
    have h0 := h 0 (by omega)
    simp at h0
    rw [List.drop_succ_cons, ← orF_drop (zs := zs) (i := i) fun j hj => by simpa using h (j + 1) (by omega)]
    rw [orF_cons, h0, if_neg (by simp)]

theorem c64 (zs : List Int) (hz : zs.length < 2 ^ 63) : PC Try.prog 64 [ints zs] (.i (orF zs)) := by
  refine ⟨AC_FE (fok64 true) (Nat.le_of_ble_eq_true rfl) ?_, rfl⟩
  simp only [ic64, evA, if_true, if_false, beq_false, simprocAttr]
  refine IL_for zs.length (fun i s => (∀ j, j < i → zs[j]?.getD 0 = 0) ∧ ∃ v3 v7 v8, s = ⟨[ints zs, .i 0, .i 0, v3, ints zs, .i zs.length, .i i, v7, v8], []⟩) ?_ 0 (Nat.zero_le _) ⟨by omega, _, _, _, rfl⟩
  rintro i s hi ⟨hall, v3, v7, v8, rfl⟩
  have hd := orF_drop hall
  by_cases h : i < zs.length
  · have hg : zs[i]?.getD 0 = zs[i] := by rw [List.getElem?_eq_getElem h]; rfl
    rw [List.drop_eq_getElem_cons h, orF_cons] at hd
    cases hz0 : (zs[i]?.getD 0 != 0) with
    | true =>
      rw [if_pos (by rw [← hg]; simpa using hz0), ← hg] at hd
      simp only [ic64l0, Int.ofNat_lt, h, hz0, hd, evA, if_true, if_false, beq_false, simprocAttr]
      exact frz
    | false =>
      have hws : IntKind.i64.wrap ((i : Int) + 1) = ((i + 1 : Nat) : Int) := wrap_succ (by omega)
      simp only [ic64l0, Int.ofNat_lt, h, hz0, hws, evA, if_true, if_false, beq_false, simprocAttr]
      refine kFor_go (by first | trivial | omega) ⟨fun j hj => ?_, _, _, _, rfl⟩
      rcases Nat.lt_succ_iff_lt_or_eq.1 hj with hj | rfl
      · exact hall j hj
      · simpa using hz0
  · rw [List.drop_eq_nil_of_le (by omega)] at hd
    simp only [ic64l0, Int.ofNat_lt, h, hd, orF, evA, if_true, if_false, beq_false, simprocAttr]
    exact frz

theorem c78 (x : Int) : PC Try.prog 78 [.i x] (.b false) := by
  refine ⟨AC_FE (fok78 true) (Nat.le_of_ble_eq_true rfl) ?_, rfl⟩
  simp only [ic78, evA, if_true, if_false, beq_false, simprocAttr]
  exact frz

theorem c65 (x y : Int) : PC Try.prog 65 [.i x, .i y] (.i (cmpN x y)) := by
  refine ⟨AC_FE (fok65 true) (Nat.le_of_ble_eq_true rfl) ?_, rfl⟩
  simp only [ic65, evA, if_true, if_false, beq_false, simprocAttr]
  refine (c78 x).call frz ?_
  simp only [evA, if_true, if_false, beq_false, simprocAttr]
  refine (c78 y).call frz ?_
  unfold cmpN
  by_cases h1 : x < y
  · simp only [h1, evA, if_true, if_false, beq_false, simprocAttr]
    exact frz
  · by_cases h2 : x > y
    · simp only [h1, h2, evA, if_true, if_false, beq_false, simprocAttr]
      exact frz
    · simp only [h1, h2, evA, if_true, if_false, beq_false, simprocAttr]
      exact frz

theorem cmpLx_drop : ∀ {xs ys : List Int} {i : Nat}, i ≤ xs.length → i ≤ ys.length → (∀ j, j < i → xs[j]?.getD 0 = ys[j]?.getD 0) → cmpLx xs ys = cmpLx (xs.drop i) (ys.drop i)
  | xs, ys, 0, _, _, _ => rfl
  | [], _, i + 1, h, _, _ => by simp at h
  | _ :: _, [], i + 1, _, h, _ => by simp at h
  | x :: xs, y :: ys, i + 1, h1, h2, h => by
    have h0 : x = y := by simpa using h 0 (by omega)
    subst h0
    rw [List.drop_succ_cons, List.drop_succ_cons, ← cmpLx_drop (xs := xs) (ys := ys) (i := i) (by simpa using h1) (by simpa using h2) fun j hj => by simpa using h (j + 1) (by omega)]
    rw [cmpLx_cc, cmpN_self, if_neg (by simp)]

theorem c66 (xs ys : List Int) (hx : xs.length < 2 ^ 63) : PC Try.prog 66 [ints xs, ints ys] (.i (cmpLx xs ys)) := by
  refine ⟨AC_FE (fok66 true) (Nat.le_of_ble_eq_true rfl) ?_, rfl⟩
  simp only [ic66, evA, if_true, if_false, beq_false, simprocAttr]
  refine IL_for xs.length (fun i s => (i ≤ ys.length ∧ ∀ j, j < i → xs[j]?.getD 0 = ys[j]?.getD 0) ∧ ∃ v3 v4 v5 v6 v10 v11 v12 v13, s = ⟨[ints xs, ints ys, .i 0, v3, v4, v5, v6, ints xs, .i xs.length, .i i, v10, v11, v12, v13], []⟩) ?_ 0 (Nat.zero_le _) ⟨⟨Nat.zero_le _, by omega⟩, _, _, _, _, _, _, _, _, rfl⟩
  rintro i s hi ⟨⟨hiy, hall⟩, v3, v4, v5, v6, v10, v11, v12, v13, rfl⟩
  have hd := cmpLx_drop hi hiy hall
  by_cases h : i < xs.length
  rotate_left
  · rw [List.drop_eq_nil_of_le (by omega)] at hd
    by_cases hl : xs.length < ys.length
    · rw [List.drop_eq_getElem_cons (show i < ys.length by omega), cmpLx_nc] at hd
      simp only [ic66l0, Int.ofNat_lt, h, hl, hd, evA, if_true, if_false, beq_false, simprocAttr]
      exact frz
    · rw [List.drop_eq_nil_of_le (show ys.length ≤ i by omega)] at hd
      replace hd : cmpLx xs ys = 0 := hd
      simp only [ic66l0, Int.ofNat_lt, h, hl, hd, evA, if_true, if_false, beq_false, simprocAttr]
      exact frz
  rw [List.drop_eq_getElem_cons h] at hd
  by_cases hy : i < ys.length
  rotate_left
  · rw [List.drop_eq_nil_of_le (show ys.length ≤ i by omega), cmpLx_cn] at hd
    have hge : decide ((i : Int) ≥ (ys.length : Int)) = true := decide_eq_true (by omega)
    simp only [ic66l0, Int.ofNat_lt, h, hge, hd, evA, if_true, if_false, beq_false, simprocAttr]
    exact frz
  have hge : decide ((i : Int) ≥ (ys.length : Int)) = false := decide_eq_false (by omega)
  rw [List.drop_eq_getElem_cons hy, cmpLx_cc] at hd
  have hgx : xs[i]?.getD 0 = xs[i] := by rw [List.getElem?_eq_getElem h]; rfl
  have hgy : ys[i]?.getD 0 = ys[i] := by rw [List.getElem?_eq_getElem hy]; rfl
  rw [← hgx, ← hgy] at hd
  have hws : IntKind.i64.wrap ((i : Int) + 1) = ((i + 1 : Nat) : Int) := wrap_succ (by omega)
  simp only [ic66l0, Int.ofNat_lt, h, hge, hy, evA, if_true, if_false, beq_false, simprocAttr]
  refine (c65 (xs[i]?.getD 0) (ys[i]?.getD 0)).call frz ?_
  cases hz0 : (cmpN (xs[i]?.getD 0) (ys[i]?.getD 0) != 0) with
  | true =>
    rw [if_pos (by simpa using hz0)] at hd
    simp only [hz0, hd, evA, if_true, if_false, beq_false, simprocAttr]
    exact frz
  | false =>
    simp only [hz0, hws, evA, if_true, if_false, beq_false, simprocAttr]
    refine kFor_go (by first | trivial | omega) ⟨⟨by omega, fun j hj => ?_⟩, _, _, _, _, _, _, _, _, rfl⟩
    rcases Nat.lt_succ_iff_lt_or_eq.1 hj with hj | rfl
    · exact hall j hj
    · exact cmpN_eq (by simpa using hz0)

/-- the comparison of Short -/
theorem c63 (xs ys : List Int) (hx : xs.length < 2 ^ 63) : PC Try.prog 63 [ints xs, ints ys] (.i (cmpS xs ys)) := by
  refine ⟨AC_FE (fok63 true) (Nat.le_of_ble_eq_true rfl) ?_, rfl⟩
  have ho : orF [cmpN xs.length ys.length, cmpLx xs ys] = cmpS xs ys := by
    unfold cmpS
    simp only [orF]
    by_cases h1 : cmpN xs.length ys.length ≠ 0
    · rw [if_pos h1, if_pos h1]
    · rw [if_neg h1, if_neg h1]
      by_cases h2 : cmpLx xs ys ≠ 0
      · rw [if_pos h2]
      · rw [if_neg h2]; omega
  simp only [ic63, evA, if_true, if_false, beq_false, simprocAttr]
  refine (c65 xs.length ys.length).call frz ?_
  simp only [evA, if_true, if_false, beq_false, simprocAttr]
  refine (c66 xs ys hx).call frz ?_
  simp only [evA, if_true, if_false, beq_false, simprocAttr]
  refine (c64 [cmpN xs.length ys.length, cmpLx xs ys] (by simp)).call (.cons (frz_ints' (zs := [cmpN xs.length ys.length, cmpLx xs ys]) (fun _ => trivial) rfl rfl) .nil) ?_
  rw [ho]
  simp only [evA, if_true, if_false, beq_false, simprocAttr]
  exact frz

end Go.Proofs.Ytphdemhopihpnaa.AM

namespace Go.Proofs.Ytphdemhopihpnaa.AM
open Go Go.Sort Go.Shelf
set_option linter.unusedVariables false
set_option linter.unusedSimpArgs false

/-- a list of numbers as one closed value -/
abbrev intsC (zs : List Int) : CV := .rsl (zs.map (.int .i64)) zs.length

theorem FnOk.enter {P : Program} {f : FuncId} {fe : FE} (hf : FnOk P f fe) : Enter P f := by
  obtain ⟨fn, c, h1, h2, h3, _⟩ := hf.ok
  exact Enter_of h1 h3 h2

/-- slices.SortFunc, of lists of tests -/
theorem c62 {n N : Nat} (hN : 0 < N) (hN2 : N < 2 ^ 60) (hn : n < 2 ^ 60) {σ : List AObj} {l : Nat} (hr : rowOf σ l = some ((List.range N).map fun s => AV.cv (intsC (setL n s)))) :
    AC Try.prog 62 [.sl l 0 N 1, .fn (.func 63) []] σ fun r τ => r = .tup [] ∧ ∃ p : List Nat, p.Perm (List.range N) ∧ p.Pairwise (fun i j => ¬ cmpS (setL n j) (setL n i) < 0) ∧ τ = σ.set l (.cells (p.map fun s => AV.cv (intsC (setL n s)))) := by
  have h := AC_sort1 (P := Try.prog) (ρ := sortL_ren) sortL (fok62 true).enter (g := 63) (cap := []) (n := N) hN (by omega) (A := fun s => intsC (setL n s)) (cf := fun i j => cmpS (setL n i) (setL n j)) (swoS (setL n)) rfl (fun i j _ _ => (c63 (setL n i) (setL n j) (by have := setL_len n i; omega)).ac.mono fun r τ h => by
    cases h with
    | c h => cases h; rfl) (σ := σ) (l := l) (rest := []) (by rw [List.append_nil]; exact hr)
  simp only [List.append_nil] at h
  exact h

end Go.Proofs.Ytphdemhopihpnaa.AM

namespace Go.Proofs.Ytphdemhopihpnaa.AM
open Go
set_option linter.unusedVariables false
set_option linter.unusedSimpArgs false

/-- slices.IndexFunc of numbers, in a heap that is kept -/
theorem c81o (zs : List Int) (fv : AV) (p : Nat → Bool) (hz : zs.length < 2 ^ 63) (σ : List AObj) (hf : ∀ i, i < zs.length → CallV Try.prog fv [.i (zs[i]?.getD 0)] σ fun r τ => r = .b (p i) ∧ τ = σ) :
    AC Try.prog 81 [ints zs, fv] σ fun r τ => r = .i (idxN p zs.length) ∧ τ = σ := by
  refine AC_FE (fok81 true) (Nat.le_of_ble_eq_true rfl) ?_
  simp only [ic81, evA, if_true, if_false, beq_false, simprocAttr]
  refine IL_for zs.length (fun i s => (∀ j, j < i → p j = false) ∧ ∃ v3 v6 v7, s = ⟨[ints zs, fv, .i 0, v3, .i zs.length, .i i, v6, v7], σ⟩) ?_ 0 (Nat.zero_le _) ⟨by omega, _, _, _, rfl⟩
  rintro i s hi ⟨hall, v3, v6, v7, rfl⟩
  by_cases h : i < zs.length
  · simp only [ic81l0, Int.ofNat_lt, h, evA, if_true, if_false, beq_false, simprocAttr]
    refine (hf i h).run ?_
    cases hp : p i
    · simp only [evA, if_true, if_false, beq_false, simprocAttr]
      refine kFor_go (by first | trivial | omega) ⟨fun j hj => ?_, _, _, _, by rw [wrap_in (by omega)]; rfl⟩
      rcases Nat.lt_succ_iff_lt_or_eq.1 hj with hj | rfl
      · exact hall j hj
      · exact hp
    · simp only [evA, if_true, if_false, beq_false, simprocAttr]
      exact (idxN_some h hall hp).symm
  · simp only [ic81l0, Int.ofNat_lt, h, evA, if_true, if_false, beq_false, simprocAttr]
    have : i = zs.length := by omega
    subst this
    exact (idxN_none hall).symm
theorem c72o (zs : List Int) (fv : AV) (p : Nat → Bool) (hz : zs.length < 2 ^ 63) (σ : List AObj) (hf : ∀ i, i < zs.length → CallV Try.prog fv [.i (zs[i]?.getD 0)] σ fun r τ => r = .b (p i) ∧ τ = σ) :
    AC Try.prog 72 [ints zs, fv] σ fun r τ => r = .b (anyN p zs.length) ∧ τ = σ := by
  refine AC_FE (fok72 true) (Nat.le_of_ble_eq_true rfl) ?_
  simp only [ic72, evA, if_true, if_false, beq_false, simprocAttr]
  refine (c81o zs fv p hz _ hf).run ?_
  simp only [evA, if_true, if_false, beq_false, simprocAttr, idxN_ge]

/-- whether an examiner does not know a test's learner -/
def canT (ks : List Int) (t i : Nat) : Bool := !(ks[t]?.getD 0).toNat.testBit i

/-- the closure of short: a test of the list, an examiner -/
theorem c80 {ts ks : List Int} (hok : DrawOk ts ks) {t i : Nat} (ht : t < ks.length) (hi : i < ts.length) {x : AV} {σ : List AObj} {b d e : Nat} (hb : rowOf σ b = some [.ptr d 0]) (hd : rowOf σ d = some [ints ts, ints ks, x]) (he : rowOf σ e = some [.i i]) :
    AC Try.prog 80 [.i t, .ptr b 0, .ptr e 0] σ fun r τ => r = .b (canT ks t i) ∧ τ = σ := by
  refine AC_FE (fok80 true) (Nat.le_of_ble_eq_true rfl) ?_
  have hkr := hok.kr t ht
  obtain ⟨S, hS⟩ : ∃ S : Nat, ks[t]?.getD 0 = (S : Int) := ⟨(ks[t]?.getD 0).toNat, (Int.toNat_of_nonneg hkr.1).symm⟩
  have hi6 : i < 6 := by have := hok.tl; omega
  have hS62 : S < 2 ^ 62 := by
    have h2 := hkr.2
    rw [hS] at h2
    unfold capF at h2
    have h3 := hok.tl
    have hp : (2 : Nat) ^ ts.length ≤ 2 ^ 6 := Nat.pow_le_pow_right (by omega) (by omega)
    generalize 2 ^ ts.length = q at *
    omega
  have hbit := bit_and S i hS62 (by omega)
  have hi0 : ¬ ((i : Int) < 0) := by omega
  have hv : (!S.testBit i) = canT ks t i := by unfold canT; rw [hS]; rfl
  rw [hv] at hbit
  simp only [ic80, hb, hd, he, evA, if_true, if_false, beq_false, simprocAttr]
  refine DW_s [] [] hmix (by kernel_rfl) rfl ?_
  simp only [hb, hd, he, ht, hS, shiftI, hi0, hbit, evA, if_true, if_false, beq_false, simprocAttr]

/-- how many tests of a list more than there are times of those who can -/
def leftS (ts ks : List Int) (zs : List Int) : Nat → Int
  | 0 => zs.length
  | i + 1 => if anyN (fun j => canT ks (zs[j]?.getD 0).toNat i) zs.length = true then leftS ts ks zs i - ts[i]?.getD 0 else leftS ts ks zs i
def shortB (ts ks zs : List Int) : Bool := decide (leftS ts ks zs ts.length > 0)

theorem left_ran {ts ks zs : List Int} (hok : DrawOk ts ks) (hz : zs.length ≤ 8) : ∀ i, i ≤ ts.length → -(4 * (i : Int)) ≤ leftS ts ks zs i ∧ leftS ts ks zs i ≤ 8
  | 0, _ => by simp only [leftS]; omega
  | i + 1, h => by
    have ih := left_ran hok hz i (by omega)
    have := hok.tr i (by omega)
    unfold leftS
    split <;> omega

/-- (*draw).short, in a heap that has the draw -/
theorem c68 {ts ks : List Int} (hok : DrawOk ts ks) (zs : List Int) (hz : zs.length ≤ 8) (hzs : ∀ j, j < zs.length → ∃ t : Nat, zs[j]?.getD 0 = (t : Int) ∧ t < ks.length) {x : AV} {σ : List AObj} {d : Nat} (hd : rowOf σ d = some [ints ts, ints ks, x]) :
    AC Try.prog 68 [.ptr d 0, ints zs] σ fun r τ => r = .b (shortB ts ks zs) ∧ τ = σ := by
  refine AC.cut0 (AC_FE (fok68 true) (Nat.le_of_ble_eq_true rfl) ?_) rfl
  have htl := hok.tl
  have hdl : d < σ.length := (List.getElem?_eq_some_iff.1 (rowOf_some hd)).1
  have e1 : ∀ J : List AObj, rowOf (σ ++ J) d = some [ints ts, ints ks, x] := fun J => rowOf_low hd J
  have e2 : ∀ J : List AObj, rowOf (σ ++ AObj.cells [.ptr d 0] :: J) σ.length = some [.ptr d 0] := fun J => by rw [rowOf_az]; rfl
  simp only [ic68, e1, e2, evA, if_true, if_false, beq_false, simprocAttr]
  refine IL_for ts.length (fun i s => ∃ v5 v6 v10 v11 J, s = ⟨[.ptr d 0, ints zs, .ptr σ.length 0, .b false, .i (leftS ts ks zs i), v5, v6, ints ts, .i ts.length, .i i, v10, v11], σ ++ AObj.cells [.ptr d 0] :: J⟩) ?_ 0 (Nat.zero_le _) ⟨_, _, _, _, [], rfl⟩
  rintro i s hi ⟨v5, v6, v10, v11, J, rfl⟩
  by_cases h : i < ts.length
  rotate_left
  · have : i = ts.length := by omega
    subst this
    simp only [ic68l0, Int.ofNat_lt, h, evA, if_true, if_false, beq_false, simprocAttr]
    exact ⟨rfl, _, rfl⟩
  have hws : IntKind.i64.wrap ((i : Int) + 1) = ((i + 1 : Nat) : Int) := wrap_succ (by omega)
  have e3 : ∀ (J : List AObj) (x : AObj), rowOf (σ ++ AObj.cells [.ptr d 0] :: (J ++ [x])) (σ ++ AObj.cells [.ptr d 0] :: J).length = rowOf [x] 0 := fun J x => by
    rw [show σ ++ AObj.cells [.ptr d 0] :: (J ++ [x]) = (σ ++ AObj.cells [.ptr d 0] :: J) ++ [x] by simp, rowOf_az]
  have e4 : ∀ (J : List AObj) (x y : AObj), (σ ++ AObj.cells [.ptr d 0] :: (J ++ [x])).set (σ ++ AObj.cells [.ptr d 0] :: J).length y = σ ++ AObj.cells [.ptr d 0] :: (J ++ [y]) := fun J x y => by
    rw [show σ ++ AObj.cells [.ptr d 0] :: (J ++ [x]) = (σ ++ AObj.cells [.ptr d 0] :: J) ++ [x] by simp, set_az]
    simp
  simp only [ic68l0, Int.ofNat_lt, h, List.append_assoc, List.cons_append, e3, e4, evA, if_true, if_false, beq_false, simprocAttr]
  refine AC.run (c72o zs _ (fun j => canT ks (zs[j]?.getD 0).toNat i) (by omega) _ fun j hj => ?_) ?_
  · obtain ⟨t, h1, h2⟩ := hzs j hj
    rw [h1]
    exact c80 hok h2 h (e2 _) (e1 _) (e3 J _)
  have hr := left_ran (ks := ks) hok hz (i + 1) (by omega)
  unfold leftS at hr
  cases hc : anyN (fun j => canT ks (zs[j]?.getD 0).toNat i) zs.length with
  | false =>
    simp only [hws, evA, if_true, if_false, beq_false, simprocAttr]
    have hl : leftS ts ks zs (i + 1) = leftS ts ks zs i := by rw [leftS, if_neg (by rw [hc]; decide)]
    exact kFor_go (by first | trivial | omega) ⟨_, _, _, _, J ++ [.cells [.i i]], by rw [hl]⟩
  | true =>
    rw [if_pos hc] at hr
    have hsub : IntKind.i64.wrap (leftS ts ks zs i - ts[i]?.getD 0) = leftS ts ks zs i - ts[i]?.getD 0 := wrap_in (by omega)
    simp only [hws, hsub, evA, if_true, if_false, beq_false, simprocAttr]
    have hl : leftS ts ks zs (i + 1) = leftS ts ks zs i - ts[i]?.getD 0 := by rw [leftS, if_pos hc]
    exact kFor_go (by first | trivial | omega) ⟨_, _, _, _, J ++ [.cells [.i i]], by rw [hl]⟩

end Go.Proofs.Ytphdemhopihpnaa.AM

namespace Go.Proofs.Ytphdemhopihpnaa.AM
open Go
set_option linter.unusedVariables false
set_option linter.unusedSimpArgs false

abbrev lls (ls : List (List Int)) : AV := .cv (.rsl (ls.map intsC) ls.length)

theorem c79 (ls : List (List Int)) (fv : AV) (p : Nat → Bool) (hz : ls.length < 2 ^ 63) (σ : List AObj) (hf : ∀ i, i < ls.length → CallV Try.prog fv [ints (ls[i]?.getD [])] σ fun r τ => r = .b (p i) ∧ τ = σ) :
    AC Try.prog 79 [lls ls, fv] σ fun r τ => r = .i (idxN p ls.length) ∧ τ = σ := by
  refine AC_FE (fok79 true) (Nat.le_of_ble_eq_true rfl) ?_
  simp only [ic79, evA, if_true, if_false, beq_false, simprocAttr]
  refine IL_for ls.length (fun i s => (∀ j, j < i → p j = false) ∧ ∃ v3 v6 v7, s = ⟨[lls ls, fv, .i 0, v3, .i ls.length, .i i, v6, v7], σ⟩) ?_ 0 (Nat.zero_le _) ⟨by omega, _, _, _, rfl⟩
  rintro i s hi ⟨hall, v3, v6, v7, rfl⟩
  by_cases h : i < ls.length
  · have hld : (ls.map intsC)[i]? = some (intsC (ls[i]?.getD [])) := by simp [h]
    simp only [ic79l0, Int.ofNat_lt, h, ia_rsl h, hld, evA, if_true, if_false, beq_false, simprocAttr]
    refine (hf i h).run ?_
    cases hp : p i
    · simp only [evA, if_true, if_false, beq_false, simprocAttr]
      refine kFor_go (by first | trivial | omega) ⟨fun j hj => ?_, _, _, _, by rw [wrap_in (by omega)]; rfl⟩
      rcases Nat.lt_succ_iff_lt_or_eq.1 hj with hj | rfl
      · exact hall j hj
      · exact hp
    · simp only [evA, if_true, if_false, beq_false, simprocAttr]
      exact (idxN_some h hall hp).symm
  · simp only [ic79l0, Int.ofNat_lt, h, evA, if_true, if_false, beq_false, simprocAttr]
    have : i = ls.length := by omega
    subst this
    exact (idxN_none hall).symm

theorem c67 (ls : List (List Int)) (fv : AV) (p : Nat → Bool) (hz : ls.length < 2 ^ 63) (σ : List AObj) (hf : ∀ i, i < ls.length → CallV Try.prog fv [ints (ls[i]?.getD [])] σ fun r τ => r = .b (p i) ∧ τ = σ) :
    AC Try.prog 67 [lls ls, fv] σ fun r τ => ((∃ i, i < ls.length ∧ p i = true ∧ (∀ j, j < i → p j = false) ∧ r = ints (ls[i]?.getD [])) ∨ ((∀ j, j < ls.length → p j = false) ∧ r = .cv .nils)) ∧ τ = σ := by
  refine AC_FE (fok67 true) (Nat.le_of_ble_eq_true rfl) ?_
  simp only [ic67, evA, if_true, if_false, beq_false, simprocAttr]
  refine (c79 ls fv p hz _ hf).run ?_
  by_cases hx : ∃ i, i < ls.length ∧ p i = true ∧ ∀ j, j < i → p j = false
  · obtain ⟨i, hi, hp, hall⟩ := hx
    have hix := idxN_some hi hall hp
    have hld : (ls.map intsC)[i]? = some (intsC (ls[i]?.getD [])) := by simp [hi]
    have hge : decide ((i : Int) ≥ 0) = true := decide_eq_true (by omega)
    simp only [hix, hge, ia_rsl hi, hld, evA, if_true, if_false, beq_false, simprocAttr]
    exact .inl ⟨i, hi, hp, hall, rfl⟩
  · have hall : ∀ j, j < ls.length → p j = false := by
      have key : ∀ n, n ≤ ls.length → ∀ j, j < n → p j = false := by
        intro n
        induction n with
        | zero => intro _ j hj; omega
        | succ n ih =>
          intro hn j hj
          rcases Nat.lt_succ_iff_lt_or_eq.1 hj with hj | rfl
          · exact ih (by omega) j hj
          · cases hpj : p j with
            | false => rfl
            | true => exact absurd ⟨j, by omega, hpj, fun k hk => ih (by omega) k hk⟩ hx
      exact key _ (Nat.le_refl _)
    have hix := idxN_none hall
    simp only [hix, evA, if_true, if_false, beq_false, simprocAttr]
    exact .inr hall

end Go.Proofs.Ytphdemhopihpnaa.AM

namespace Go.Proofs.Ytphdemhopihpnaa.AM
open Go
set_option linter.unusedVariables false
set_option linter.unusedSimpArgs false

/-- whether the tests of a set are short of examiners -/
def lackB (ts ks : List Int) (s : Nat) : Bool := shortB ts ks (setL ks.length s)
/-- the fewest tests that are short, in the order of lists -/
def shortQ (ts ks : List Int) : List Int := if waysF ks ks.length ts = 0 then bestF ks.length (lackB ts ks) (2 ^ ks.length) else []

theorem left_nil (ts ks : List Int) : ∀ i, leftS ts ks [] i = 0
  | 0 => rfl
  | i + 1 => by
    unfold leftS
    have : anyN (fun j => canT ks (([] : List Int)[j]?.getD 0).toNat i) ([] : List Int).length = false := rfl
    rw [this, if_neg (by decide)]; exact left_nil ts ks i
theorem lack_ne {ts ks : List Int} : ∀ s, lackB ts ks s = true → setL ks.length s ≠ [] := fun s h e => by
  unfold lackB shortB at h
  rw [e, left_nil] at h
  exact absurd h (by decide)
theorem lack_0 (ts ks : List Int) : lackB ts ks 0 = false := by
  unfold lackB shortB
  rw [setL_zero, left_nil]; rfl

theorem setL_get {n s j : Nat} (h : j < (setL n s).length) : ∃ t : Nat, (setL n s)[j]?.getD 0 = (t : Int) ∧ t < n := by
  have hm : (setL n s)[j] ∈ setL n s := List.getElem_mem h
  obtain ⟨t, h1, _, h2⟩ := setL_mem.1 hm
  exact ⟨t, by rw [List.getElem?_eq_getElem h]; exact h2, h1⟩

/-- the row of all lists of sets, of so many first ones -/
abbrev allR (n k : Nat) : List AV := (List.range k).map fun s => AV.cv (intsC (setL n s))
theorem allR_succ (n k : Nat) : allR n (k + 1) = allR n k ++ [.cv (intsC (setL n k))] := by simp [allR, List.range_succ]
theorem allR_len (n k : Nat) : (allR n k).length = k := by simp

/-- the draw's block, the map forgotten -/
abbrev shD (ts ks : List Int) : AObj := .cells [ints ts, ints ks, .undef]

theorem cvs_moves {g : Nat → Nat} {k : Nat} {σ : List AObj} {a b : AV} (h : Move1 g k σ a b) : ∀ cs : List CV, Moves g k σ (cs.map .cv ++ [a]) (cs.map .cv ++ [b])
  | [] => .cons h .nil
  | c :: cs => .cons (.inl ⟨rfl, rfl⟩) (cvs_moves h cs)

/-- behind a round: the row of all lists is kept, and its new list is read as closed -/
theorem sh_weak {vars : List Nat} {N n s k : Nat} {ts ks : List Int} {v8 : AV} {heap : List AObj} {vals vals2 : List AV} (h0 : heap[0]? = some (shD ts ks)) (hk : heap[k]? = some (.cells (allR n s ++ [v8]))) (hk0 : 0 < k)
    (hv8 : (v8 = .cv .nils ∧ setL n s = []) ∨ ∃ l, l ≠ 0 ∧ l ≠ k ∧ v8 = .sl l 0 (setL n s).length 1 ∧ rowOf heap l = some ((setL n s).map AV.i))
    (hv : Moves (fun l => if l = 0 then 0 else k) 2 ((heap.set 0 .dead).set k .dead) vals vals2) :
    Weak ⟨vars, N, none, 0⟩ ⟨vals, heap⟩ ⟨vals2, [shD ts ks, .cells (allR n (s + 1))]⟩ := by
  refine Weak.move (σf := (heap.set 0 .dead).set k .dead) (g := fun l => if l = 0 then 0 else k) rfl ?_ (by simp) ?_ hv ?_
  · intro a b hab hb
    have : b < 2 := hb
    have ha : a = 0 := by omega
    have hb : b ≠ 0 := by omega
    simp only [ha, hb, if_true, if_false]; exact hk0
  · intro l o ho
    rw [List.getElem?_set] at ho
    by_cases e1 : k = l
    · rw [if_pos e1] at ho
      split at ho
      · left; simpa using ho.symm
      · cases ho
    · rw [if_neg e1, List.getElem?_set] at ho
      by_cases e2 : 0 = l
      · rw [if_pos e2] at ho
        split at ho
        · left; simpa using ho.symm
        · cases ho
      · rw [if_neg e2] at ho
        right
        refine ⟨ho, fun l2 hl2 => ?_⟩
        split <;> omega
  · intro l o2 ho
    match l, ho with
    | 0, ho => cases ho; exact ⟨_, h0, trivial, .inl ⟨rfl, rfl⟩⟩
    | 1, ho =>
      cases ho
      refine ⟨_, hk, trivial, .inr ⟨_, _, rfl, rfl, ?_⟩⟩
      rw [allR_succ]
      have e : allR n s = ((List.range s).map fun s => intsC (setL n s)).map AV.cv := by simp [allR]
      rw [e]
      refine cvs_moves (.inr ?_) _
      rcases hv8 with ⟨rfl, hz⟩ | ⟨l, h1, h2, rfl, hr⟩
      · rw [hz]; exact .c .nl
      · refine frz_ints (fun _ => trivial) ?_
        rw [rowOf_set_ne (Ne.symm h2), rowOf_set_ne (Ne.symm h1)]
        exact hr

end Go.Proofs.Ytphdemhopihpnaa.AM

namespace Go.Proofs.Ytphdemhopihpnaa.AM
open Go
set_option linter.unusedVariables false
set_option linter.unusedSimpArgs false

theorem bit_and1 (x i : Nat) (hx : x < 2 ^ 62) (hi : i < 60) : (IntKind.i64.wrap ((BitVec.ofInt IntKind.i64.bits (((x : Nat) : Int).fdiv (2 ^ min i IntKind.i64.bits)) &&& BitVec.ofInt IntKind.i64.bits 1).toNat) == 1) = x.testBit i := by
  have hb : IntKind.i64.bits = 64 := rfl
  have h1 : min i 64 = i := by omega
  rw [hb, h1]
  have h2 : ((x : Nat) : Int).fdiv (2 ^ i) = ((x / 2 ^ i : Nat) : Int) := by
    rw [Int.fdiv_eq_ediv_of_nonneg _ (by exact_mod_cast Nat.zero_le _)]
    norm_cast
  rw [h2]
  have h3 : x / 2 ^ i < 2 ^ 62 := Nat.lt_of_le_of_lt (Nat.div_le_self _ _) hx
  rw [Nat.testBit_eq_decide_div_mod_eq]
  generalize x / 2 ^ i = y at h3 ⊢
  have h4 : (BitVec.ofInt 64 (y : Int) &&& BitVec.ofInt 64 1).toNat = y % 2 := by
    rw [BitVec.toNat_and]
    have e1 : (BitVec.ofInt 64 (y : Int)).toNat = y := by
      rw [BitVec.toNat_ofInt]; omega
    have e2 : (BitVec.ofInt 64 1).toNat = 1 := by decide
    rw [e1, e2, Nat.and_one_is_mod]
  rw [h4, wrap_in (by omega)]
  by_cases h : y % 2 = 1
  · simp [h]
  · have : y % 2 = 0 := by omega
    simp [this]

theorem append_row {by_ l n : Nat} {σ : List AObj} {cs : List AV} {x : AV} (hr : rowOf σ l = some cs) (hc : cs.length = n) (hx : x.isSc = true) (h1 : (n + 1) * by_ ≤ 2 ^ 44) (h2 : n + 1 ≤ 2 ^ 44) :
    f_append 1 by_ [.sl l 0 n 1, .sl σ.length 0 1 1] (σ ++ [.cells [x]]) = some (.sl (σ.length + 1) 0 (n + 1) 1, (σ ++ [AObj.cells [x]]).set l AObj.dead ++ [AObj.cells (cs ++ [x])]) := by
  have hr' := rowOf_push hr (AObj.cells [x])
  have hs : srcCells (σ ++ [AObj.cells [x]]) 1 (.sl σ.length 0 1 1) = some [x] := by simp [srcCells, rowOf]
  have hl : lenF (.sl σ.length 0 1 1) = some 1 := rfl
  simp only [f_append, hr', hs, hl, Option.bind_some]
  rw [if_pos ⟨trivial, by omega, rfl, h1, h2, by simp [hx]⟩, List.take_of_length_le (by omega)]
  simp
theorem append_row0 {by_ : Nat} {σ : List AObj} {x : AV} (hx : x.isSc = true) (h1 : 1 * by_ ≤ 2 ^ 44) :
    f_append 1 by_ [.cv .nils, .sl σ.length 0 1 1] (σ ++ [.cells [x]]) = some (.sl (σ.length + 1) 0 1 1, (σ ++ [AObj.cells [x]]) ++ [AObj.cells [x]]) := by
  have hs : srcCells (σ ++ [AObj.cells [x]]) 1 (.sl σ.length 0 1 1) = some [x] := by simp [srcCells, rowOf]
  have hl : lenF (.sl σ.length 0 1 1) = some 1 := rfl
  simp only [f_append, hs, hl, Option.bind_some]
  rw [if_neg (by omega), if_pos ⟨rfl, h1, by omega, by simp [hx]⟩]
  simp

theorem c32_err (ts ks : List Int) (ht : ts.length < 2 ^ 63) (hk : ks.length < 2 ^ 63) {x y e : Int} (hv : checkV ts ks = tup3 x y e) (he : e ≠ 0) : PA Try.prog 32 [drw ts ks] (.tup [ints [], .i e]) := by
  refine ⟨AC_FE (fok32 true) (Nat.le_of_ble_eq_true rfl) ?_, rfl, rfl⟩
  have hb : (e != 0) = true := by simpa using he
  simp only [ic32, f_box, cellsOf, evA, if_true, if_false, beq_false, simprocAttr]
  refine AC.run (c53f ts ks ht hk hv _) ?_
  simp only [hb, evA, if_true, if_false, beq_false, simprocAttr]
  exact .tup (.cons (.c .nl) (.cons (.c (.c _ trivial)) .nil))

/-- before a round over the sets -/
def shI (ts ks : List Int) (N s : Nat) (st : St) : Prop := ∃ v6 heap, ((s = 0 ∧ v6 = .cv .nils ∧ heap = [shD ts ks]) ∨ (0 < s ∧ v6 = .sl 1 0 s 1 ∧ heap = [shD ts ks, .cells (allR ks.length s)])) ∧
  st = ⟨[.undef, .undef, .cv .nils, .i 0, .ptr 0 0, .undef, v6, .undef, .undef, .undef, .undef, .undef, .i N, .i s, .undef, .undef, .undef, .undef, .undef], heap⟩

theorem c32_ok (ts ks : List Int) (ht : ts.length < 2 ^ 63) (hk : ks.length < 2 ^ 63) (hv : checkV ts ks = tup3 0 0 0) (hok : DrawOk ts ks) : PA Try.prog 32 [drw ts ks] (.tup [ints (shortQ ts ks), .i 0]) := by
  refine ⟨AC_SW (fok32 true) (Nat.le_of_ble_eq_true rfl) ?_, rfl, rfl⟩
  simp only [ic32]
  refine SW_seq ?_
  simp only [f_box, cellsOf, kSW_n, evA, if_true, if_false, beq_false, simprocAttr]
  refine SW_seq ?_
  simp only [kSW_n, evA, if_true, if_false, beq_false, simprocAttr]
  refine AC.run (c53f ts ks ht hk hv _) ?_
  simp only [kSW_n, evA, if_true, if_false, beq_false, simprocAttr]
  refine SW_seq ?_
  simp only [kSW_n, evA, if_true, if_false, beq_false, simprocAttr]
  refine SW_seq ?_
  simp only [kSW_n, evA, if_true, if_false, beq_false, simprocAttr]
  refine AC.run (c55 3 ts [ints ks, .map 2] _ rfl hok.tl.2) ?_
  have h := c54f ts ks hok ks.length ts [] (Nat.le_refl _) ⟨rfl, hok.tr⟩ (right_nil _ _) (σ := [AObj.cells [ints ts, ints ks], AObj.cells [ints ts, ints ks], AObj.map [], AObj.cells [ints ts, ints ks, .map 2]]) 3 2 (by decide) rfl rfl
  rw [Nat.sub_self] at h
  have hw0 := (waysF_bounds ks ks.length ts hok.tl.2).1
  unfold shortQ
  generalize (waysQ ks ks.length ts []).2 = K' at h
  generalize waysF ks ks.length ts = nw at h hw0 ⊢
  simp only [evA, if_true, if_false, beq_false, simprocAttr]
  refine AC.run h ?_
  by_cases hz : nw = 0
  rotate_left
  · have hgt : decide (nw > 0) = true := decide_eq_true (by omega)
    rw [if_neg hz]
    simp only [hgt, kSW_n, kSW_r, evA, if_true, if_false, beq_false, simprocAttr]
    exact .tup (.cons (.c .nl) (.cons (.c (.c _ trivial)) .nil))
  subst hz
  rw [if_pos rfl]
  simp only [kSW_n, kSW_r, evA, if_true, if_false, beq_false, simprocAttr]
  refine SW_seq ?_
  simp only [kSW_n, evA, if_true, if_false, beq_false, simprocAttr]
  refine SW.weak (Weak.move (vals2 := [.undef, .undef, .cv .nils, .i 0, .ptr 0 0, .undef, .cv .nils, .undef, .undef, .undef, .undef, .undef, .undef, .undef, .undef, .undef, .undef, .undef, .undef]) (σ2 := [shD ts ks]) (σf := [AObj.dead, .dead, .dead, .dead]) (g := fun l => l + 3) rfl (fun a b h _ => by omega) rfl ?_ ?_ ?_) ?_
  · intro l o ho
    left
    match l, ho with
    | 0, ho => cases ho; rfl
    | 1, ho => cases ho; rfl
    | 2, ho => cases ho; rfl
    | 3, ho => cases ho; rfl
    | l + 4, ho => cases ho
  · have u : ∀ a : AV, Move1 (fun l => l + 3) 1 [AObj.dead, .dead, .dead, .dead] a .undef := fun a => .inr (.un _)
    exact .cons (u _) (.cons (u _) (.cons (.inl ⟨rfl, rfl⟩) (.cons (.inl ⟨rfl, rfl⟩) (.cons (.inl ⟨rfl, rfl⟩) (.cons (u _) (.cons (.inl ⟨rfl, rfl⟩) (.cons (u _) (.cons (u _) (.cons (u _) (.cons (u _) (.cons (u _) (.cons (u _) (.cons (u _) (.cons (u _) (.cons (u _) (.cons (u _) (.cons (u _) (.cons (u _) .nil))))))))))))))))))
  · intro l o ho
    match l, ho with
    | 0, ho =>
      cases ho
      exact ⟨_, rfl, trivial, .inr ⟨_, _, rfl, rfl, .cons (.inl ⟨rfl, rfl⟩) (.cons (.inl ⟨rfl, rfl⟩) (.cons (.inr (.un _)) .nil))⟩⟩
    | l + 1, ho => cases ho
  have hkl := hok.kl
  obtain ⟨N, hN⟩ : ∃ N : Nat, N = 2 ^ ks.length := ⟨_, rfl⟩
  have hN8 : 1 ≤ N ∧ N ≤ 256 := by
    have h1 : (2 : Nat) ^ ks.length ≤ 2 ^ 8 := Nat.pow_le_pow_right (by omega) hkl
    have h2 : 0 < (2 : Nat) ^ ks.length := Nat.pow_pos (by omega)
    rw [hN]
    constructor
    · exact h2
    · exact h1
  have hsh : IntKind.i64.wrap (1 * 2 ^ min ks.length IntKind.i64.bits) = (N : Int) := by
    have h64 : IntKind.i64.bits = 64 := rfl
    have h2 : (2 : Int) ^ ks.length = ((2 ^ ks.length : Nat) : Int) := by simp
    rw [h64, Nat.min_eq_left (by omega), Int.one_mul, h2, ← hN]
    exact wrap_in (by omega)
  rw [← hN]
  have hn0 : ¬ ((ks.length : Int) < 0) := by omega
  refine SW_seq ?_
  simp only [kSW_n, shiftI, hn0, hsh, evA, if_true, if_false, beq_false, simprocAttr]
  refine IL_for N (shI ts ks N) ?_ 0 (Nat.zero_le _) ⟨_, _, .inl ⟨rfl, rfl, rfl⟩, rfl⟩
  rintro s st hs ⟨v6, heap, hc, rfl⟩
  by_cases h : s < N
  rotate_left
  · have : s = N := by omega
    subst this
    obtain ⟨_, rfl, rfl⟩ : 0 < s ∧ v6 = .sl 1 0 s 1 ∧ heap = [shD ts ks, .cells (allR ks.length s)] := by
      rcases hc with ⟨h0, _, _⟩ | h1
      · omega
      · exact h1
    simp only [ic32l1, Int.ofNat_lt, h, kSW_n, evA, if_true, if_false, beq_false, simprocAttr]
    refine SW_seq ?_
    simp only [kSW_n, evA, if_true, if_false, beq_false, simprocAttr]
    refine (c62 (n := ks.length) (N := s) (by omega) (by omega) (by omega) (σ := [shD ts ks, .cells (allR ks.length s)]) (l := 1) rfl).mono ?_
    rintro r τ ⟨rfl, p, hp, hps, rfl⟩
    simp only [List.set_cons_zero, List.set_cons_succ, kSW_n, evA, if_true, if_false, beq_false, simprocAttr]
    have hlen : p.length = s := by rw [hp.length_eq]; simp
    have hfin := first_best (lack_ne (ts := ts) (ks := ks)) (lack_0 ts ks) hp hps
    rw [← hfin]
    refine SW.weak (Weak.move (vals2 := [.undef, .undef, .cv .nils, .i 0, .ptr 0 0, .undef, lls (p.map (setL ks.length)), .undef, .undef, .undef, .undef, .undef, .undef, .undef, .undef, .undef, .undef, .undef, .undef]) (σ2 := [shD ts ks]) (σf := [AObj.dead, .cells (p.map fun s => AV.cv (intsC (setL ks.length s)))]) (g := fun l => l) rfl (fun a b h _ => h) rfl ?_ ?_ ?_) ?_
    · intro l o ho
      match l, ho with
      | 0, ho => cases ho; left; rfl
      | 1, ho => cases ho; right; exact ⟨rfl, fun l2 h2 => by simp at h2; omega⟩
      | l + 2, ho => cases ho
    · have u : ∀ a : AV, Move1 (fun l => l) 1 [AObj.dead, .cells (p.map fun s => AV.cv (intsC (setL ks.length s)))] a .undef := fun a => .inr (.un _)
      refine .cons (u _) (.cons (u _) (.cons (.inl ⟨rfl, rfl⟩) (.cons (.inl ⟨rfl, rfl⟩) (.cons (.inl ⟨rfl, rfl⟩) (.cons (u _) (.cons (.inr ?_) (.cons (u _) (.cons (u _) (.cons (u _) (.cons (u _) (.cons (u _) (.cons (u _) (.cons (u _) (.cons (u _) (.cons (u _) (.cons (u _) (.cons (u _) (.cons (u _) .nil))))))))))))))))))
      rw [← hlen]
      have hl2 : (p.map (setL ks.length)).length = p.length := by simp
      show FrzV anyC _ _ (.cv (.rsl ((p.map (setL ks.length)).map intsC) (p.map (setL ks.length)).length))
      rw [hl2]
      refine .c (.sl 1 0 p.length 1 _ _ rfl (by simp) ?_)
      rw [List.drop_zero, List.take_of_length_le (by simp), List.map_map]
      have key : ∀ q : List Nat, FrzCs anyC [AObj.dead, .cells (p.map fun s => AV.cv (intsC (setL ks.length s)))] (q.map fun s => AV.cv (intsC (setL ks.length s))) (q.map (intsC ∘ setL ks.length)) := by
        intro q
        induction q with
        | nil => exact .nil
        | cons a q ih => exact .cons (.c _ trivial) ih
      exact key p
    · intro l o ho
      match l, ho with
      | 0, ho =>
        cases ho
        exact ⟨_, rfl, trivial, .inl ⟨rfl, rfl⟩⟩
      | l + 1, ho => cases ho
    refine SW_seq ?_
    simp only [kSW_n, evA, if_true, if_false, beq_false, simprocAttr]
    refine (c67 (p.map (setL ks.length)) _ (fun i => lackB ts ks (p[i]?.getD 0)) (by simp; omega) [shD ts ks] fun i hi => ?_).mono ?_
    · have hi' : i < p.length := by simpa using hi
      have e : (p.map (setL ks.length))[i]?.getD [] = setL ks.length (p[i]?.getD 0) := by simp [hi']
      rw [e]
      exact c68 hok (setL ks.length (p[i]?.getD 0)) (by have := setL_len ks.length (p[i]?.getD 0); omega) (fun j hj => setL_get hj) rfl
    rintro r τ ⟨hr, rfl⟩
    simp only [kSW_n, evA, if_true, if_false, beq_false, simprocAttr]
    refine SW_of ?_
    simp only [evA, if_true, if_false, beq_false, simprocAttr]
    rcases hr with ⟨i, hi, hpi, hall, rfl⟩ | ⟨hall, rfl⟩
    · have hi' : i < p.length := by simpa using hi
      have e : (p.map (setL ks.length))[i]?.getD [] = setL ks.length (p[i]?.getD 0) := by simp [hi']
      have hf : p.find? (lackB ts ks) = some (p[i]?.getD 0) := by
        rw [List.find?_eq_some_iff_getElem]
        refine ⟨hpi, i, hi', by simp [hi'], fun j hj => ?_⟩
        have := hall j hj
        rw [List.getElem?_eq_getElem (by omega)] at this
        simpa using this
      rw [e, hf]
      exact .tup (.cons (.c (.c _ trivial)) (.cons (.c (.c _ trivial)) .nil))
    · have hf : p.find? (lackB ts ks) = none := by
        rw [List.find?_eq_none]
        intro x hx
        obtain ⟨j, hj, rfl⟩ := List.getElem_of_mem hx
        have := hall j (by simpa using hj)
        rw [List.getElem?_eq_getElem hj] at this
        simpa using this
      rw [hf]
      exact .tup (.cons (.c .nl) (.cons (.c (.c _ trivial)) .nil))
  have hr0 : rowOf heap 0 = some [ints ts, ints ks, .undef] := by
    rcases hc with ⟨_, _, rfl⟩ | ⟨_, _, rfl⟩ <;> rfl
  simp only [ic32l1, Int.ofNat_lt, h, hr0, evA, if_true, if_false, beq_false, simprocAttr]
  refine IL_for ks.length (fun t st => ∃ v8 σ' v9 v17 v18, AccFrom heap.length σ' v8 (setL t s) ∧ (∀ l, l < heap.length → rowOf σ' l = rowOf heap l) ∧
    st = ⟨[.undef, .undef, .cv .nils, .i 0, .ptr 0 0, .undef, v6, .i s, v8, v9, .undef, .undef, .i N, .i s, .b true, .i ks.length, .i t, v17, v18], σ'⟩) ?_ 0 (Nat.zero_le _) ⟨_, heap, _, _, _, by rw [show setL 0 s = [] from rfl]; exact AccFrom.nil (Nat.le_refl _), fun l _ => rfl, rfl⟩
  rintro t st ht2 ⟨v8, σ', v9, v17, v18, hA, hrows, rfl⟩
  by_cases h2 : t < ks.length
  · have hbit := bit_and1 s t (by omega) (by omega)
    have ht0 : ¬ ((t : Int) < 0) := by omega
    have hws : IntKind.i64.wrap ((t : Int) + 1) = ((t + 1 : Nat) : Int) := wrap_succ (by omega)
    simp only [ic32l0, Int.ofNat_lt, h2, shiftI, ht0, hbit, evA, if_true, if_false, beq_false, simprocAttr]
    cases hb : s.testBit t with
    | false =>
      simp only [hws, evA, if_true, if_false, beq_false, simprocAttr]
      refine kFor_go (by first | trivial | omega) ⟨_, _, _, _, _, ?_, hrows, rfl⟩
      rw [setL_succ, hb, if_neg (by decide), List.append_nil]; exact hA
    | true =>
      obtain ⟨v', σ2, hap, hacc, hrow2⟩ := accFrom_append (t : Int) hA (by have := setL_len t s; omega)
      simp only [hap, hws, evA, if_true, if_false, beq_false, simprocAttr]
      refine kFor_go (by first | trivial | omega) ⟨_, _, _, _, _, ?_, fun l hl => (hrow2 l hl).trans (hrows l hl), rfl⟩
      rw [setL_succ, hb, if_pos rfl]; exact hacc
  · have : t = ks.length := by omega
    subst this
    have hcv : cellsOf v8 = [v8] := by rcases hA.2 with ⟨rfl, _⟩ | ⟨l, _, rfl, _⟩ <;> rfl
    have hud : v8.isUndef = false := by rcases hA.2 with ⟨rfl, _⟩ | ⟨l, _, rfl, _⟩ <;> rfl
    have hsc : v8.isSc = true := by rcases hA.2 with ⟨rfl, _⟩ | ⟨l, _, rfl, _⟩ <;> rfl
    have hsr : setRange [AV.cv CV.nils] 0 [v8] = [v8] := rfl
    have hlen1 : ([v8] : List AV).length = 1 := rfl
    have hws : IntKind.i64.wrap ((s : Int) + 1) = ((s + 1 : Nat) : Int) := wrap_succ (by omega)
    have hmv : ∀ (D : List AObj) (k : Nat) (a5 a7 a8 a9 a10 a11 a14 a15 a16 a17 a18 : AV), 0 < k → Moves (fun l => if l = 0 then 0 else k) 2 D [.undef, .undef, .cv .nils, .i 0, .ptr 0 0, a5, .sl k 0 (s + 1) 1, a7, a8, a9, a10, a11, .i N, .i ((s + 1 : Nat) : Int), a14, a15, a16, a17, a18] [.undef, .undef, .cv .nils, .i 0, .ptr 0 0, .undef, .sl 1 0 (s + 1) 1, .undef, .undef, .undef, .undef, .undef, .i N, .i ((s + 1 : Nat) : Int), .undef, .undef, .undef, .undef, .undef] := by
      intro D k a5 a7 a8 a9 a10 a11 a14 a15 a16 a17 a18 hk
      have u : ∀ a : AV, Move1 (fun l => if l = 0 then 0 else k) 2 D a .undef := fun a => .inr (.un _)
      exact .cons (u _) (.cons (u _) (.cons (.inl ⟨rfl, rfl⟩) (.cons (.inl ⟨rfl, rfl⟩) (.cons (.inl ⟨rfl, rfl⟩) (.cons (u _) (.cons (.inl ⟨rfl, rfl⟩) (.cons (u _) (.cons (u _) (.cons (u _) (.cons (u _) (.cons (u _) (.cons (.inl ⟨rfl, rfl⟩) (.cons (.inl ⟨rfl, rfl⟩) (.cons (u _) (.cons (u _) (.cons (u _) (.cons (u _) (.cons (u _) .nil))))))))))))))))))
    rcases hc with ⟨rfl, rfl, rfl⟩ | ⟨hs0, rfl, rfl⟩
    · have happ := append_row0 (by_ := 24) (σ := σ') hsc (by decide)
      have h0 : σ'[0]? = some (shD ts ks) := rowOf_some ((hrows 0 (by simp)).trans rfl)
      simp only [ic32l0, Int.ofNat_lt, h2, hcv, hud, hlen1, hsr, happ, hws, evA, if_true, if_false, beq_false, simprocAttr]
      refine kFor_weak trivial (sh_weak (v8 := v8) (s := 0) (k := σ'.length + 1) ?_ ?_ (by omega) ?_ (hmv _ _ _ _ _ _ _ _ _ _ _ _ _ (by omega))) ⟨_, _, .inr ⟨by omega, rfl, rfl⟩, rfl⟩
      · have h0l := (List.getElem?_eq_some_iff.1 h0).1
        rw [List.append_assoc, List.getElem?_append_left h0l]; exact h0
      · simp [allR]
      · rcases hA.2 with ⟨rfl, hz⟩ | ⟨l, hl, rfl, hr⟩
        · exact .inl ⟨rfl, hz⟩
        · have hll := (List.getElem?_eq_some_iff.1 (rowOf_some hr)).1
          simp at hl
          exact .inr ⟨l, by omega, by omega, rfl, rowOf_low (rowOf_push hr _) _⟩
    · have hr1 : rowOf σ' 1 = some (allR ks.length s) := (hrows 1 (by simp)).trans rfl
      have happ := append_row (by_ := 24) (σ := σ') hr1 (allR_len _ _) hsc (by omega) (by omega)
      have h0 : σ'[0]? = some (shD ts ks) := rowOf_some ((hrows 0 (by simp)).trans rfl)
      simp only [ic32l0, Int.ofNat_lt, h2, hcv, hud, hlen1, hsr, happ, hws, evA, if_true, if_false, beq_false, simprocAttr]
      refine kFor_weak trivial (sh_weak (v8 := v8) (s := s) (k := σ'.length + 1) ?_ ?_ (by omega) ?_ (hmv _ _ _ _ _ _ _ _ _ _ _ _ _ (by omega))) ⟨_, _, .inr ⟨by omega, rfl, rfl⟩, rfl⟩
      · have h0l := (List.getElem?_eq_some_iff.1 h0).1
        rw [List.getElem?_append_left (by simp), List.getElem?_set_ne (by decide), List.getElem?_append_left h0l]; exact h0
      · simp
      · rcases hA.2 with ⟨rfl, hz⟩ | ⟨l, hl, rfl, hr⟩
        · exact .inl ⟨rfl, hz⟩
        · have hll := (List.getElem?_eq_some_iff.1 (rowOf_some hr)).1
          simp at hl
          refine .inr ⟨l, by omega, by omega, rfl, ?_⟩
          refine rowOf_low ?_ _
          rw [rowOf_set_ne (by omega)]
          exact rowOf_push hr _

end Go.Proofs.Ytphdemhopihpnaa.AM

namespace Go.Proofs.Ytphdemhopihpnaa.AM
open Go
set_option linter.unusedVariables false
set_option linter.unusedSimpArgs false

theorem c70 (s : Nat) (hs : s < 2 ^ 62) : PC Try.prog 70 [.i s] (ints (setL 8 s)) := by
  refine ⟨AC_FE (fok70 true) (Nat.le_of_ble_eq_true rfl) ?_, rfl⟩
  simp only [ic70, evA, if_true, if_false, beq_false, simprocAttr]
  refine IL_for 8 (fun i st => ∃ v2 σ v4 v5, AccFrom 0 σ v2 (setL i s) ∧ st = ⟨[.i s, .cv .nils, v2, .i i, v4, v5], σ⟩) ?_ 0 (Nat.zero_le _) ⟨_, _, _, _, by rw [show setL 0 s = [] from rfl]; exact AccFrom.nil (Nat.zero_le _), rfl⟩
  rintro i st hi ⟨v2, σ, v4, v5, hA, rfl⟩
  by_cases h : i < 8
  · have h8 : decide ((i : Int) < 8) = true := decide_eq_true (by omega)
    have hws : IntKind.i64.wrap ((i : Int) + 1) = ((i + 1 : Nat) : Int) := wrap_succ (by omega)
    simp only [ic70l0, h8, evA, if_true, if_false, beq_false, simprocAttr]
    refine (c45 s i hs (by omega)).call frz ?_
    cases hb : s.testBit i with
    | false =>
      simp only [hws, evA, if_true, if_false, beq_false, simprocAttr]
      refine kFor_go (by first | trivial | omega) ⟨_, _, _, _, ?_, rfl⟩
      rw [setL_succ, hb, if_neg (by decide), List.append_nil]; exact hA
    | true =>
      obtain ⟨v', σ2, hap, hacc, hrow2⟩ := accFrom_append (i : Int) hA (by have := setL_len i s; omega)
      simp only [hap, hws, evA, if_true, if_false, beq_false, simprocAttr]
      refine kFor_go (by first | trivial | omega) ⟨_, _, _, _, ?_, rfl⟩
      rw [setL_succ, hb, if_pos rfl]; exact hacc
  · have : i = 8 := by omega
    subst this
    have h8 : decide (((8 : Nat) : Int) < 8) = false := by decide
    simp only [ic70l0, h8, evA, if_true, if_false, beq_false, simprocAttr]
    rcases hA.2 with ⟨rfl, hz⟩ | ⟨l, _, rfl, hr⟩
    · rw [hz]; exact .c .nl
    · exact frz_ints (fun _ => trivial) hr

theorem c69 (a b : List Int) (ha : a.length < 2 ^ 63) : PC Try.prog 69 [ints a, ints b] (.b (decide (cmpS a b < 0))) := by
  refine ⟨AC_FE (fok69 true) (Nat.le_of_ble_eq_true rfl) ?_, rfl⟩
  by_cases hl : a.length = b.length
  rotate_left
  · have hne : ((a.length : Int) != (b.length : Int)) = true := by simpa using fun h => hl (by omega)
    have hc : decide (cmpS a b < 0) = decide ((a.length : Int) < b.length) := by
      unfold cmpS cmpN
      rw [if_pos (by split <;> (try split) <;> omega)]
      split
      · simp_all
      · split <;> simp_all
    rw [hc]
    simp only [ic69, hne, evA, if_true, if_false, beq_false, simprocAttr]
    exact frz
  have hne : ((a.length : Int) != (b.length : Int)) = false := by simp [hl]
  have hc : cmpS a b = cmpLx a b := by
    unfold cmpS
    rw [hl, cmpN_self, if_neg (by simp)]
  rw [hc]
  simp only [ic69, hne, evA, if_true, if_false, beq_false, simprocAttr]
  refine IL_for a.length (fun i st => (∀ j, j < i → a[j]?.getD 0 = b[j]?.getD 0) ∧ ∃ v5 v6, st = ⟨[ints a, ints b, .b false, .i i, .b false, v5, v6], []⟩) ?_ 0 (Nat.zero_le _) ⟨by omega, _, _, rfl⟩
  rintro i st hi ⟨hall, v5, v6, rfl⟩
  have hd := cmpLx_drop hi (by omega) hall
  by_cases h : i < a.length
  rotate_left
  · rw [List.drop_eq_nil_of_le (by omega), List.drop_eq_nil_of_le (by omega)] at hd
    have hd : cmpLx a b = 0 := hd
    simp only [ic69l0, Int.ofNat_lt, h, hd, evA, if_true, if_false, beq_false, simprocAttr]
    exact frz
  have hb : i < b.length := by omega
  rw [List.drop_eq_getElem_cons h, List.drop_eq_getElem_cons hb, cmpLx_cc] at hd
  have hgx : a[i]?.getD 0 = a[i] := by rw [List.getElem?_eq_getElem h]; rfl
  have hgy : b[i]?.getD 0 = b[i] := by rw [List.getElem?_eq_getElem hb]; rfl
  rw [← hgx, ← hgy] at hd
  have hws : IntKind.i64.wrap ((i : Int) + 1) = ((i + 1 : Nat) : Int) := wrap_succ (by omega)
  simp only [ic69l0, Int.ofNat_lt, h, evA, if_true, if_false, beq_false, simprocAttr]
  refine DW_s [] [] hmix (by kernel_rfl) rfl ?_
  simp only [h, hb, Int.ofNat_lt, evA, if_true, if_false, beq_false, simprocAttr]
  cases hz0 : (a[i]?.getD 0 != b[i]?.getD 0) with
  | true =>
    have hne : a[i]?.getD 0 ≠ b[i]?.getD 0 := by simpa using hz0
    have hv : decide (cmpLx a b < 0) = decide (a[i]?.getD 0 < b[i]?.getD 0) := by
      rw [hd, if_pos (fun h => hne (cmpN_eq h))]
      exact decide_eq_decide.2 cmpN_lt
    rw [hv]
    simp only [evA, if_true, if_false, beq_false, simprocAttr]
    refine DW_s [] [] hmix (by kernel_rfl) rfl ?_
    simp only [h, hb, Int.ofNat_lt, evA, if_true, if_false, beq_false, simprocAttr]
    exact frz
  | false =>
    simp only [hws, evA, if_true, if_false, beq_false, simprocAttr]
    refine kFor_go (by first | trivial | omega) ⟨fun j hj => ?_, _, _, rfl⟩
    rcases Nat.lt_succ_iff_lt_or_eq.1 hj with hj | rfl
    · exact hall j hj
    · simpa using hz0

end Go.Proofs.Ytphdemhopihpnaa.AM

namespace Go.Proofs.Ytphdemhopihpnaa.AM
open Go
set_option linter.unusedVariables false
set_option linter.unusedSimpArgs false

/-- the times of the first examiners that can serve some test of a set -/
def timesD (ts ks : List Int) (s : Nat) : Nat → Int
  | 0 => 0
  | i + 1 => if anyN (fun t => s.testBit t && canT ks t i) ks.length = true then timesD ts ks s i + ts[i]?.getD 0 else timesD ts ks s i
def lackD (ts ks : List Int) (s : Nat) : Bool := decide (timesD ts ks s ts.length < ((setL ks.length s).length : Int))

theorem times_ran {ts ks : List Int} (hok : DrawOk ts ks) (s : Nat) : ∀ i, i ≤ ts.length → 0 ≤ timesD ts ks s i ∧ timesD ts ks s i ≤ 4 * (i : Int)
  | 0, _ => by simp [timesD]
  | i + 1, h => by
    have ih := times_ran hok s i (by omega)
    have := hok.tr i (by omega)
    unfold timesD
    split <;> omega
theorem any_set {ks : List Int} {s i : Nat} : anyN (fun j => canT ks ((setL ks.length s)[j]?.getD 0).toNat i) (setL ks.length s).length = anyN (fun t => s.testBit t && canT ks t i) ks.length := by
  rw [Bool.eq_iff_iff, anyN_true, anyN_true]
  constructor
  · rintro ⟨j, hj, h⟩
    have hm : (setL ks.length s)[j] ∈ setL ks.length s := List.getElem_mem hj
    obtain ⟨t, h1, h2, h3⟩ := setL_mem.1 hm
    rw [List.getElem?_eq_getElem hj, h3] at h
    exact ⟨t, h1, by simp only [h2, Bool.true_and]; exact h⟩
  · rintro ⟨t, ht, h⟩
    rw [Bool.and_eq_true] at h
    obtain ⟨j, hj, he⟩ := List.getElem_of_mem (setL_mem.2 ⟨t, ht, h.1, rfl⟩)
    refine ⟨j, hj, ?_⟩
    rw [List.getElem?_eq_getElem hj, he]
    exact h.2
theorem left_times (ts ks : List Int) (s : Nat) : ∀ i, leftS ts ks (setL ks.length s) i = (setL ks.length s).length - timesD ts ks s i
  | 0 => by simp [leftS, timesD]
  | i + 1 => by
    rw [leftS, timesD, any_set, left_times ts ks s i]
    split <;> omega
/-- the program's word and the document's -/
theorem lack_eq (ts ks : List Int) (s : Nat) : lackB ts ks s = lackD ts ks s := by
  unfold lackB lackD shortB
  rw [left_times]
  exact decide_eq_decide.2 (by omega)

theorem setL_high : ∀ {n m : Nat} {s : Nat}, n ≤ m → s < 2 ^ n → setL m s = setL n s := by
  intro n m s h hs
  induction m with
  | zero => have : n = 0 := by omega
            subst this; rfl
  | succ m ih =>
    by_cases e : n = m + 1
    · rw [e]
    · rw [setL_succ, ih (by omega)]
      have hb : s.testBit m = false := Nat.testBit_lt_two_pow (Nat.lt_of_lt_of_le hs (Nat.pow_le_pow_right (by omega) (by omega)))
      rw [hb, if_neg (by decide), List.append_nil]

theorem setL_le (n s t : Nat) (h : t ≤ n) : (setL t s).length ≤ t := setL_len t s

theorem c43 {ts ks : List Int} (hok : DrawOk ts ks) (s : Nat) (hs : s < 2 ^ 62) : PC Try.prog 43 [drw ts ks, .i s] (.b (lackD ts ks s)) := by
  refine ⟨AC_FE (fok43 true) (Nat.le_of_ble_eq_true rfl) ?_, rfl⟩
  have htl := hok.tl
  have hkl := hok.kl
  simp only [ic43, f_box, cellsOf, evA, if_true, if_false, beq_false, simprocAttr]
  refine IL_for ks.length (fun t st => ∃ v10 v11, st = ⟨[drw ts ks, .i s, .ptr 0 0, .b false, .i (setL t s).length, .i 0, .i t, .undef, .undef, .undef, v10, v11, .undef, .undef, .undef], [.cells [ints ts, ints ks]]⟩) ?_ 0 (Nat.zero_le _) ⟨_, _, rfl⟩
  rintro t st ht ⟨v10, v11, rfl⟩
  by_cases h : t < ks.length
  · have hws : IntKind.i64.wrap ((t : Int) + 1) = ((t + 1 : Nat) : Int) := wrap_succ (by omega)
    simp only [ic43l2, Int.ofNat_lt, h, evA, if_true, if_false, beq_false, simprocAttr]
    refine (c45 s t hs (by omega)).call frz ?_
    cases hb : s.testBit t with
    | false =>
      have hl : (setL (t + 1) s).length = (setL t s).length := by rw [setL_succ, hb]; simp
      simp only [hws, evA, if_true, if_false, beq_false, simprocAttr]
      exact kFor_go (by first | trivial | omega) ⟨_, _, by rw [hl]⟩
    | true =>
      have hl : (setL (t + 1) s).length = (setL t s).length + 1 := by rw [setL_succ, hb]; simp
      have hw2 : IntKind.i64.wrap (((setL t s).length : Int) + 1) = (((setL t s).length + 1 : Nat) : Int) := wrap_succ (by have := setL_len t s; omega)
      simp only [hws, hw2, evA, if_true, if_false, beq_false, simprocAttr]
      exact kFor_go (by first | trivial | omega) ⟨_, _, by rw [hl]⟩
  have : t = ks.length := by omega
  subst this
  simp only [ic43l2, Int.ofNat_lt, h, evA, if_true, if_false, beq_false, simprocAttr]
  refine IL_for ts.length (fun i st => ∃ v8 v9 v12 v13 v14, st = ⟨[drw ts ks, .i s, .ptr 0 0, .b false, .i (setL ks.length s).length, .i (timesD ts ks s i), .i ks.length, .i i, v8, v9, .b false, v11, v12, v13, v14], [.cells [ints ts, ints ks]]⟩) ?_ 0 (Nat.zero_le _) ⟨_, _, _, _, _, rfl⟩
  rintro i st hi ⟨v8, v9, v12, v13, v14, rfl⟩
  by_cases h2 : i < ts.length
  rotate_left
  · have : i = ts.length := by omega
    subst this
    simp only [ic43l1, Int.ofNat_lt, h2, evA, if_true, if_false, beq_false, simprocAttr]
    exact frz
  have hws : IntKind.i64.wrap ((i : Int) + 1) = ((i + 1 : Nat) : Int) := wrap_succ (by omega)
  simp only [ic43l1, Int.ofNat_lt, h2, evA, if_true, if_false, beq_false, simprocAttr]
  refine IL_for ks.length (fun t st => ∃ v13, st = ⟨[drw ts ks, .i s, .ptr 0 0, .b false, .i (setL ks.length s).length, .i (timesD ts ks s i), .i ks.length, .i i, .b (anyN (fun t => s.testBit t && canT ks t i) t), .i t, .b false, v11, .b true, v13, v14], [.cells [ints ts, ints ks]]⟩) ?_ 0 (Nat.zero_le _) ⟨_, rfl⟩
  rintro t st ht2 ⟨v13, rfl⟩
  by_cases h3 : t < ks.length
  · have hws2 : IntKind.i64.wrap ((t : Int) + 1) = ((t + 1 : Nat) : Int) := wrap_succ (by omega)
    have hkr := hok.kr t h3
    obtain ⟨S, hS⟩ : ∃ S : Nat, ks[t]?.getD 0 = (S : Int) := ⟨(ks[t]?.getD 0).toNat, (Int.toNat_of_nonneg hkr.1).symm⟩
    have hS62 : S < 2 ^ 62 := by
      have h2 := hkr.2
      rw [hS] at h2
      unfold capF at h2
      have hp : (2 : Nat) ^ ts.length ≤ 2 ^ 6 := Nat.pow_le_pow_right (by omega) (by omega)
      generalize 2 ^ ts.length = q at *
      omega
    have hv : canT ks t i = !S.testBit i := by unfold canT; rw [hS]; rfl
    have hany := anyN_succ (fun t => s.testBit t && canT ks t i) t
    cases hcan : anyN (fun t => s.testBit t && canT ks t i) t with
    | true =>
      rw [hcan, Bool.true_or] at hany
      simp only [ic43l0, Int.ofNat_lt, h3, hws2, evA, if_true, if_false, beq_false, simprocAttr]
      exact kFor_go (by first | trivial | omega) ⟨_, by rw [hany]⟩
    | false =>
      rw [hcan, Bool.false_or] at hany
      simp only [ic43l0, Int.ofNat_lt, h3, evA, if_true, if_false, beq_false, simprocAttr]
      refine (c45 s t hs (by omega)).call frz ?_
      cases hb : s.testBit t with
      | false =>
        rw [hb, Bool.false_and] at hany
        simp only [hws2, evA, if_true, if_false, beq_false, simprocAttr]
        exact kFor_go (by first | trivial | omega) ⟨_, by rw [hany]⟩
      | true =>
        rw [hb, Bool.true_and, hv] at hany
        simp only [h3, hS, Int.ofNat_lt, evA, if_true, if_false, beq_false, simprocAttr]
        refine (c45 S i hS62 (by omega)).call frz ?_
        simp only [hws2, evA, if_true, if_false, beq_false, simprocAttr]
        exact kFor_go (by first | trivial | omega) ⟨_, by rw [hany]⟩
  have : t = ks.length := by omega
  subst this
  have hr := times_ran hok s i (by omega)
  have hti := hok.tr i h2
  cases hcan : anyN (fun t => s.testBit t && canT ks t i) ks.length with
  | false =>
    have hl : timesD ts ks s (i + 1) = timesD ts ks s i := by rw [timesD, hcan, if_neg (by decide)]
    simp only [ic43l0, Int.ofNat_lt, h3, hcan, hws, evA, if_true, if_false, beq_false, simprocAttr]
    exact kFor_go (by first | trivial | omega) ⟨_, _, _, _, _, by rw [hl]⟩
  | true =>
    have hl : timesD ts ks s (i + 1) = timesD ts ks s i + ts[i]?.getD 0 := by rw [timesD, hcan, if_pos rfl]
    have hadd : IntKind.i64.wrap (timesD ts ks s i + ts[i]?.getD 0) = timesD ts ks s i + ts[i]?.getD 0 := wrap_in (by omega)
    simp only [ic43l0, Int.ofNat_lt, h3, hcan, h2, hadd, hws, evA, if_true, if_false, beq_false, simprocAttr]
    exact kFor_go (by first | trivial | omega) ⟨_, _, _, _, _, by rw [hl]⟩

end Go.Proofs.Ytphdemhopihpnaa.AM

namespace Go.Proofs.Ytphdemhopihpnaa.AM
open Go
set_option linter.unusedVariables false
set_option linter.unusedSimpArgs false

theorem c33_err (ts ks : List Int) (ht : ts.length < 2 ^ 63) (hk : ks.length < 2 ^ 63) {x y e : Int} (hv : checkV ts ks = tup3 x y e) (he : e ≠ 0) : PA Try.prog 33 [drw ts ks] (.tup [ints [], .i e]) := by
  refine ⟨AC_FE (fok33 true) (Nat.le_of_ble_eq_true rfl) ?_, rfl, rfl⟩
  have hb : (e != 0) = true := by simpa using he
  simp only [ic33, f_box, cellsOf, evA, if_true, if_false, beq_false, simprocAttr]
  refine (c27_err ts ks ht hk hv he).call frz ?_
  simp only [hb, evA, if_true, if_false, beq_false, simprocAttr]
  exact .tup (.cons (.c .nl) (.cons (.c (.c _ trivial)) .nil))

theorem c33_ok (ts ks : List Int) (ht : ts.length < 2 ^ 63) (hk : ks.length < 2 ^ 63) (hv : checkV ts ks = tup3 0 0 0) (hok : DrawOk ts ks) : PA Try.prog 33 [drw ts ks] (.tup [ints (shortQ ts ks), .i 0]) := by
  refine ⟨AC_FE (fok33 true) (Nat.le_of_ble_eq_true rfl) ?_, rfl, rfl⟩
  have hc := c27_ok ts ks ht hk hv hok
  rw [countM_eq hok] at hc
  have hw0 := (waysF_bounds ks ks.length ts hok.tl.2).1
  have hkl := hok.kl
  unfold shortQ
  generalize waysF ks ks.length ts = nw at hc hw0 ⊢
  simp only [ic33, f_box, cellsOf, evA, if_true, if_false, beq_false, simprocAttr]
  refine hc.call frz ?_
  by_cases hz : nw = 0
  rotate_left
  · have hgt : decide (nw > 0) = true := decide_eq_true (by omega)
    rw [if_neg hz]
    simp only [hgt, evA, if_true, if_false, beq_false, simprocAttr]
    exact .tup (.cons (.c .nl) (.cons (.c (.c _ trivial)) .nil))
  subst hz
  rw [if_pos rfl]
  have h44 := c44 ks.length (by omega)
  obtain ⟨N, hN⟩ : ∃ N : Nat, N = 2 ^ ks.length := ⟨_, rfl⟩
  have hN8 : 1 ≤ N ∧ N ≤ 256 := by
    have h1 : (2 : Nat) ^ ks.length ≤ 2 ^ 8 := Nat.pow_le_pow_right (by omega) hkl
    have h2 : 0 < (2 : Nat) ^ ks.length := Nat.pow_pos (by omega)
    rw [hN]
    constructor
    · exact h2
    · exact h1
  rw [← hN] at h44 ⊢
  simp only [evA, if_true, if_false, beq_false, simprocAttr]
  refine IL_for N (fun s st => 1 ≤ s ∧ ∃ v6 v10 v11, ((v6 = .cv .nils ∧ bestF ks.length (lackB ts ks) s = []) ∨ v6 = ints (bestF ks.length (lackB ts ks) s)) ∧ st = ⟨[drw ts ks, .ptr 0 0, .cv .nils, .i 0, .i 0, .i 0, v6, .i s, .b false, .b false, v10, v11], [.cells [ints ts, ints ks]]⟩) ?_ 1 hN8.1 ⟨Nat.le_refl _, _, _, _, .inl ⟨rfl, rfl⟩, rfl⟩
  rintro s st hs ⟨hs1, v6, v10, v11, hv6, rfl⟩
  simp only [ic33l0, evA, if_true, if_false, beq_false, simprocAttr]
  refine h44.call frz ?_
  by_cases h : s < N
  rotate_left
  · have : s = N := by omega
    subst this
    simp only [Int.ofNat_lt, h, evA, if_true, if_false, beq_false, simprocAttr]
    rcases hv6 with ⟨rfl, h0⟩ | rfl
    · rw [h0]; exact .tup (.cons (.c .nl) (.cons (.c (.c _ trivial)) .nil))
    · exact .tup (.cons (.c (.c _ trivial)) (.cons (.c (.c _ trivial)) .nil))
  have hws : IntKind.i64.wrap ((s : Int) + 1) = ((s + 1 : Nat) : Int) := wrap_succ (by omega)
  have hbs : bestF ks.length (lackB ts ks) (s + 1) = if (1 ≤ s ∧ lackB ts ks s = true) ∧ (bestF ks.length (lackB ts ks) s = [] ∨ cmpS (setL ks.length s) (bestF ks.length (lackB ts ks) s) < 0) then setL ks.length s else bestF ks.length (lackB ts ks) s := rfl
  have hhi : setL 8 s = setL ks.length s := setL_high (by omega) (by omega)
  have h43 := c43 hok s (by omega)
  have h70 := c70 s (by omega)
  rw [hhi] at h70
  rw [← lack_eq] at h43
  simp only [Int.ofNat_lt, h, evA, if_true, if_false, beq_false, simprocAttr]
  refine h43.call frz ?_
  cases hla : lackB ts ks s with
  | false =>
    rw [hla, if_neg (by simp)] at hbs
    simp only [hws, evA, if_true, if_false, beq_false, simprocAttr]
    exact kFor_go (by first | trivial | omega) ⟨_, _, _, by rw [hbs]; exact hv6, rfl⟩
  | true =>
    rw [hla] at hbs
    have hgo : ∀ B, bestF ks.length (lackB ts ks) s = B → B.length < 2 ^ 60 → (bestF ks.length (lackB ts ks) (s + 1) = if B = [] ∨ cmpS (setL ks.length s) B < 0 then setL ks.length s else B) := by
      intro B hB _
      rw [hbs, hB]
      by_cases hx : B = [] ∨ cmpS (setL ks.length s) B < 0
      · rw [if_pos ⟨⟨hs1, rfl⟩, hx⟩, if_pos hx]
      · rw [if_neg (fun g => hx g.2), if_neg hx]
    rcases hv6 with ⟨rfl, h0⟩ | rfl
    · have h1 := hgo [] h0 (by simp)
      rw [if_pos (.inl rfl)] at h1
      simp only [evA, if_true, if_false, beq_false, simprocAttr]
      refine h70.call frz ?_
      simp only [hws, evA, if_true, if_false, beq_false, simprocAttr]
      exact kFor_go (by first | trivial | omega) ⟨_, _, _, .inr (by rw [h1]), rfl⟩
    · have hBl : (bestF ks.length (lackB ts ks) s).length < 2 ^ 60 := by
        rcases bestF_is (n := ks.length) (lack_ne (ts := ts) (ks := ks)) s with ⟨h, _⟩ | ⟨s', _, _, h, _⟩
        · rw [h]; simp
        · rw [h]; have := setL_len ks.length s'; omega
      generalize bestF ks.length (lackB ts ks) s = B at *
      have h1 := hgo B rfl
      by_cases hB : B = []
      · subst hB
        rw [if_pos (.inl rfl)] at h1
        simp only [List.length_nil, evA, if_true, if_false, beq_false, simprocAttr]
        refine h70.call frz ?_
        simp only [hws, evA, if_true, if_false, beq_false, simprocAttr]
        exact kFor_go (by first | trivial | omega) ⟨_, _, _, .inr (by rw [h1 (by simp)]), rfl⟩
      · have hl0 : ((B.length : Int) == 0) = false := by
          have : B.length ≠ 0 := fun e => hB (List.length_eq_zero_iff.1 e)
          simp [this]
        have hsl := setL_len ks.length s
        simp only [hl0, evA, if_true, if_false, beq_false, simprocAttr]
        refine h70.call frz ?_
        simp only [evA, if_true, if_false, beq_false, simprocAttr]
        refine (c69 (setL ks.length s) B (by omega)).call frz ?_
        by_cases hlt : cmpS (setL ks.length s) B < 0
        · rw [if_pos (.inr hlt)] at h1
          simp only [hlt, evA, if_true, if_false, beq_false, simprocAttr]
          refine h70.call frz ?_
          simp only [hws, evA, if_true, if_false, beq_false, simprocAttr]
          exact kFor_go (by first | trivial | omega) ⟨_, _, _, .inr (by rw [h1 hBl]), rfl⟩
        · rw [if_neg (by intro g; exact g.elim hB hlt)] at h1
          simp only [hlt, hws, evA, if_true, if_false, beq_false, simprocAttr]
          exact kFor_go (by first | trivial | omega) ⟨_, _, _, .inr (by rw [h1 hBl]), rfl⟩

end Go.Proofs.Ytphdemhopihpnaa.AM

namespace Go.Proofs.Ytphdemhopihpnaa.Pl

/-- how many below n have a property -/
def cnt : Nat → (Nat → Bool) → Nat
  | 0, _ => 0
  | n + 1, P => cnt n P + (if P n then 1 else 0)

theorem cnt_mono {n : Nat} {P Q : Nat → Bool} (h : ∀ i, i < n → P i = true → Q i = true) : cnt n P ≤ cnt n Q := by
  induction n with
  | zero => exact Nat.le_refl _
  | succ n ih =>
    have h1 := ih (fun i hi => h i (by omega))
    have h2 := h n (by omega)
    simp only [cnt]
    by_cases hp : P n = true
    · simp only [hp, h2 hp, if_true]; omega
    · rw [if_neg hp]; split <;> omega

theorem cnt_congr {n : Nat} {P Q : Nat → Bool} (h : ∀ i, i < n → P i = Q i) : cnt n P = cnt n Q :=
  Nat.le_antisymm (cnt_mono fun i hi e => by rw [← h i hi]; exact e) (cnt_mono fun i hi e => by rw [h i hi]; exact e)

theorem cnt_lt {n : Nat} {P Q : Nat → Bool} (h : ∀ i, i < n → P i = true → Q i = true) {k : Nat} (hk : k < n) (h1 : P k = false) (h2 : Q k = true) : cnt n P + 1 ≤ cnt n Q := by
  induction n with
  | zero => omega
  | succ n ih =>
    simp only [cnt]
    by_cases hkn : k = n
    · subst hkn
      have := cnt_mono (n := k) (fun i hi => h i (by omega))
      simp only [h1, h2, if_true]; simp; omega
    · have h3 := ih (fun i hi => h i (by omega)) (by omega)
      by_cases hp : P n = true
      · simp only [hp, h n (by omega) hp, if_true]; omega
      · rw [if_neg hp]; split <;> omega

theorem cnt_le {n : Nat} {P : Nat → Bool} : cnt n P ≤ n := by
  induction n with
  | zero => exact Nat.le_refl _
  | succ n ih => simp only [cnt]; split <;> omega

theorem cnt_pos {n : Nat} {P : Nat → Bool} (h : 0 < cnt n P) : ∃ k, k < n ∧ P k = true := by
  induction n with
  | zero => simp [cnt] at h
  | succ n ih =>
    by_cases hp : P n = true
    · exact ⟨n, by omega, hp⟩
    · simp only [cnt, hp] at h
      obtain ⟨k, hk, h1⟩ := ih (by simpa using h)
      exact ⟨k, by omega, h1⟩

theorem cnt_zero {n : Nat} {P : Nat → Bool} (h : ∀ i, i < n → P i = false) : cnt n P = 0 := by
  by_cases h0 : 0 < cnt n P
  · obtain ⟨k, hk, h1⟩ := cnt_pos h0
    rw [h k hk] at h1; exact absurd h1 (by decide)
  · omega

/-- one more at most, if at most one has the further property -/
theorem cnt_one {n : Nat} {P Q : Nat → Bool} (h : ∀ i k, i < n → k < n → P i = false → Q i = true → P k = false → Q k = true → i = k) : cnt n Q ≤ cnt n P + 1 := by
  induction n with
  | zero => simp [cnt]
  | succ n ih =>
    simp only [cnt]
    by_cases hq : Q n = true
    · by_cases hp : P n = true
      · have := ih (fun i k hi hk => h i k (by omega) (by omega))
        simp only [hq, hp, if_true]; omega
      · have hp : P n = false := by simpa using hp
        have : cnt n Q ≤ cnt n P := by
          apply cnt_mono
          intro i hi hqi
          cases hpi : P i with
          | true => rfl
          | false => exact absurd (h i n (by omega) (by omega) hpi hqi hp hq) (by omega)
        simp only [hq, hp, if_true]; simp; omega
    · have := ih (fun i k hi hk => h i k (by omega) (by omega))
      rw [if_neg hq]; split <;> omega

/-- equal counts, one property in the other: the same -/
theorem cnt_same {n : Nat} {P Q : Nat → Bool} (h : ∀ i, i < n → P i = true → Q i = true) (e : cnt n Q ≤ cnt n P) : ∀ i, i < n → P i = Q i := by
  intro i hi
  cases hq : Q i with
  | false =>
    cases hp : P i with
    | false => rfl
    | true => rw [h i hi hp] at hq; exact absurd hq (by decide)
  | true =>
    cases hp : P i with
    | true => rfl
    | false => have := cnt_lt h hi hp hq; omega

/-- the sum of the first values -/
def sumTo : Nat → (Nat → Nat) → Nat
  | 0, _ => 0
  | m + 1, f => sumTo m f + f m

theorem sumTo_mono {m : Nat} {f g : Nat → Nat} (h : ∀ c, c < m → f c ≤ g c) : sumTo m f ≤ sumTo m g := by
  induction m with
  | zero => exact Nat.le_refl _
  | succ m ih => have := ih (fun c hc => h c (by omega)); have := h m (by omega); simp only [sumTo]; omega

theorem sumTo_same {m : Nat} {f g : Nat → Nat} (h : ∀ c, c < m → f c ≤ g c) (e : sumTo m g ≤ sumTo m f) : ∀ c, c < m → f c = g c := by
  induction m with
  | zero => intro c hc; omega
  | succ m ih =>
    have h1 := sumTo_mono (m := m) (f := f) (g := g) (fun c hc => h c (by omega))
    have h2 := h m (by omega)
    simp only [sumTo] at e
    intro c hc
    by_cases hcm : c = m
    · subst hcm; omega
    · exact ih (fun c hc => h c (by omega)) (by omega) c (by omega)

theorem sum_add {m : Nat} {f g : Nat → Nat} : sumTo m (fun c => f c + g c) = sumTo m f + sumTo m g := by
  induction m with
  | zero => rfl
  | succ m ih => simp only [sumTo, ih]; omega

theorem sum_ind {m : Nat} (o : Option Nat) (h : ∀ c, o = some c → c < m) : sumTo m (fun c => if o == some c then 1 else 0) = if o.isSome then 1 else 0 := by
  cases o with
  | none =>
    have : ∀ m, sumTo m (fun c => if (none : Option Nat) == some c then 1 else 0) = 0 := by
      intro m; induction m with
      | zero => rfl
      | succ m ih => simp only [sumTo, ih]; simp
    simpa using this m
  | some d =>
    have hd := h d rfl
    have : ∀ m, sumTo m (fun c => if some d == some c then 1 else 0) = if d < m then 1 else 0 := by
      intro m; induction m with
      | zero => rfl
      | succ m ih =>
        simp only [sumTo, ih]
        by_cases h1 : d < m
        · have : ¬ d = m := by omega
          simp [h1, this]; omega
        · by_cases h2 : d = m
          · subst h2; simp
          · simp [h1, h2]; omega
    rw [this m]; simp [hd]

theorem sum_num {n m : Nat} (f : Nat → Option Nat) (h : ∀ i, i < n → ∀ c, f i = some c → c < m) : sumTo m (fun c => cnt n fun k => f k == some c) = cnt n fun k => (f k).isSome := by
  induction n with
  | zero => 
    have : ∀ m, sumTo m (fun _ => 0) = 0 := by intro m; induction m with | zero => rfl | succ m ih => simp [sumTo, ih]
    exact this m
  | succ n ih =>
    simp only [cnt]
    rw [sum_add, ih (fun i hi => h i (by omega)), sum_ind (f n) (h n (by omega))]

theorem sum_lt {m : Nat} {f g : Nat → Nat} (h : ∀ c, c < m → f c ≤ g c) {c : Nat} (hc : c < m) (hl : f c < g c) : sumTo m f < sumTo m g := by
  by_cases h1 : sumTo m g ≤ sumTo m f
  · have := sumTo_same h h1 c hc; omega
  · omega

theorem cnt_inj {n1 n : Nat} {σ : Nat → Nat} (h1 : ∀ k, k < n1 → σ k < n) (h2 : ∀ k k', k < n1 → k' < n1 → σ k = σ k' → k = k') (P : Nat → Bool) : cnt n1 (fun k => P (σ k)) ≤ cnt n P := by
  induction n1 generalizing P with
  | zero => exact Nat.zero_le _
  | succ n1 ih =>
    have h3 := ih (fun k hk => h1 k (by omega)) (fun k k' hk hk' => h2 k k' (by omega) (by omega)) (fun x => P x && !(x == σ n1))
    have h4 : cnt n1 (fun k => P (σ k)) ≤ cnt n1 (fun k => P (σ k) && !(σ k == σ n1)) := by
      apply cnt_mono
      intro k hk hp
      have : ¬ σ k = σ n1 := fun e => by have := h2 k n1 (by omega) (by omega) e; omega
      simp [hp, this]
    simp only [cnt]
    by_cases hp : P (σ n1) = true
    · have := cnt_lt (P := fun x => P x && !(x == σ n1)) (Q := P) (n := n) (fun i _ h => by simp only [Bool.and_eq_true] at h; exact h.1) (h1 n1 (by omega)) (by simp) hp
      simp only [hp, if_true]; omega
    · have : cnt n (fun x => P x && !(x == σ n1)) ≤ cnt n P := cnt_mono (fun i _ h => by simp only [Bool.and_eq_true] at h; exact h.1)
      rw [if_neg hp]; omega

theorem cnt_succ_ne {n : Nat} {P Q : Nat → Bool} {x : Nat} (hx : x < n) (h1 : P x = false) (h2 : Q x = true) (h : ∀ i, i < n → i ≠ x → P i = Q i) : cnt n Q = cnt n P + 1 := by
  have a := cnt_lt (P := P) (Q := Q) (n := n) (fun i hi hp => by
    by_cases e : i = x
    · subst e; exact h2
    · rw [← h i hi e]; exact hp) hx h1 h2
  have b := cnt_one (P := P) (Q := Q) (n := n) (fun i k hi hk p1 q1 p2 q2 => by
    have e1 : i = x := by
      by_cases e : i = x
      · exact e
      · rw [h i hi e, q1] at p1; exact absurd p1 (by decide)
    have e2 : k = x := by
      by_cases e : k = x
      · exact e
      · rw [h k hk e, q2] at p2; exact absurd p2 (by decide)
    rw [e1, e2])
  omega

theorem cnt_mem {n : Nat} : ∀ {l : List Nat}, l.Nodup → (∀ k ∈ l, k < n) → cnt n (fun k => l.contains k) = l.length
  | [], _, _ => cnt_zero fun _ _ => rfl
  | x :: l, hn, hm => by
    have h1 := cnt_mem (n := n) (l := l) (List.nodup_cons.1 hn).2 (fun k hk => hm k (by simp [hk]))
    have h2 := cnt_succ_ne (n := n) (P := fun k => l.contains k) (Q := fun k => (x :: l).contains k) (x := x) (hm x (by simp)) (by
      have := (List.nodup_cons.1 hn).1
      simpa using this) (by simp) (fun i _ e => by simp [e])
    rw [h2, h1]; rfl

end Go.Proofs.Ytphdemhopihpnaa.Pl

namespace Go.Proofs.Ytphdemhopihpnaa.Pl

theorem cnt_pos_of {n k : Nat} {P : Nat → Bool} (hk : k < n) (h : P k = true) : 0 < cnt n P := by
  by_cases h0 : cnt n P = 0
  · have := cnt_lt (P := fun _ => false) (Q := P) (n := n) (fun _ _ h => by simp at h) hk rfl h
    omega
  · omega

theorem cnt_or {n : Nat} {P Q : Nat → Bool} (h : ∀ i, i < n → P i = true → Q i = false) : cnt n (fun i => P i || Q i) = cnt n P + cnt n Q := by
  induction n with
  | zero => rfl
  | succ n ih =>
    have h1 := ih (fun i hi => h i (by omega))
    have h2 := h n (by omega)
    simp only [cnt, h1]
    have key : ∀ a b : Bool, (a = true → b = false) → (if (a || b) = true then 1 else 0) = (if a = true then 1 else 0) + (if b = true then 1 else 0) := by decide
    have := key (P n) (Q n) h2
    omega

theorem sum_pos {m : Nat} {f : Nat → Nat} (h : 0 < sumTo m f) : ∃ i, i < m ∧ 0 < f i := by
  induction m with
  | zero => simp [sumTo] at h
  | succ m ih =>
    simp only [sumTo] at h
    by_cases h1 : 0 < f m
    · exact ⟨m, by omega, h1⟩
    · obtain ⟨i, hi, h2⟩ := ih (by omega)
      exact ⟨i, by omega, h2⟩

theorem sum_congr {m : Nat} {f g : Nat → Nat} (h : ∀ c, c < m → f c = g c) : sumTo m f = sumTo m g :=
  Nat.le_antisymm (sumTo_mono fun c hc => Nat.le_of_eq (h c hc)) (sumTo_mono fun c hc => Nat.le_of_eq (h c hc).symm)

theorem sum_less {m x : Nat} {f g : Nat → Nat} (h : ∀ c, c < m → c ≠ x → f c = g c) (hx : f x ≤ g x + 1) : sumTo m f ≤ sumTo m g + 1 := by
  induction m with
  | zero => simp [sumTo]
  | succ m ih =>
    have := ih (fun c hc => h c (by omega))
    simp only [sumTo]
    by_cases e : m = x
    · subst e
      have : sumTo m f = sumTo m g := sum_congr fun c hc => h c (by omega) (by omega)
      omega
    · have := h m (by omega) e; omega

/-- the examiners who can one of some tests -/
def nb (N : Nat) (can : Nat → Nat → Bool) (S : Nat → Bool) (i : Nat) : Bool := decide (0 < cnt N fun t => S t && can t i)

def capOf (E : Nat) (k : Nat → Nat) (B : Nat → Bool) : Nat := sumTo E fun i => if B i then k i else 0

theorem nb_iff {N : Nat} {can : Nat → Nat → Bool} {S : Nat → Bool} {i : Nat} : nb N can S i = true ↔ ∃ t, t < N ∧ S t = true ∧ can t i = true := by
  unfold nb
  rw [decide_eq_true_eq]
  constructor
  · intro h
    obtain ⟨t, ht, h1⟩ := cnt_pos h
    simp only [Bool.and_eq_true] at h1
    exact ⟨t, ht, h1⟩
  · rintro ⟨t, ht, h1, h2⟩
    exact cnt_pos_of ht (by simp [h1, h2])

def Serves (N E : Nat) (can : Nat → Nat → Bool) (T : Nat → Bool) (k : Nat → Nat) (f : Nat → Nat) : Prop :=
  (∀ t, t < N → T t = true → f t < E ∧ can t (f t) = true) ∧ ∀ i, i < E → cnt N (fun t => T t && f t == i) ≤ k i

theorem hall {N E : Nat} {can : Nat → Nat → Bool} : ∀ m (T : Nat → Bool) (k : Nat → Nat), cnt N T ≤ m → (∀ S : Nat → Bool, (∀ t, t < N → S t = true → T t = true) → cnt N S ≤ capOf E k (nb N can S)) → ∃ f, Serves N E can T k f := by
  intro m
  induction m with
  | zero =>
    intro T k hm _
    refine ⟨fun _ => 0, fun t ht h => ?_, fun i _ => ?_⟩
    · have := cnt_pos_of ht h; omega
    · have : cnt N (fun t => T t && (0 == i)) ≤ cnt N T := cnt_mono fun t _ h => by simp only [Bool.and_eq_true] at h; exact h.1
      have e : cnt N (fun t => T t && ((fun _ => 0) t == i)) = cnt N (fun t => T t && (0 == i)) := rfl
      omega
  | succ m ih =>
    intro T k hm hS
    by_cases hx : ∃ S0 : Nat → Bool, (∀ t, t < N → S0 t = true → T t = true) ∧ 0 < cnt N S0 ∧ cnt N S0 < cnt N T ∧ capOf E k (nb N can S0) ≤ cnt N S0
    · obtain ⟨S0, h1, h2, h3, h4⟩ := hx
      obtain ⟨f0, a1, a2⟩ := ih S0 k (by omega) (fun S h => hS S fun t ht hs => h1 t ht (h t ht hs))
      have hsplit : cnt N T = cnt N S0 + cnt N (fun t => T t && !S0 t) := by
        rw [← cnt_or (fun t _ h => by simp [h])]
        apply cnt_congr
        intro t ht
        cases hs : S0 t with
        | true => simp [h1 t ht hs]
        | false => simp
      obtain ⟨f1, b1, b2⟩ := ih (fun t => T t && !S0 t) (fun i => if nb N can S0 i then 0 else k i) (by omega) (by
        intro S h
        have g1 := hS (fun t => S t || S0 t) (fun t ht hs => by
          simp only [Bool.or_eq_true] at hs
          rcases hs with hs | hs
          · have := h t ht hs; simp only [Bool.and_eq_true] at this; exact this.1
          · exact h1 t ht hs)
        rw [cnt_or (fun t ht hs => by have := h t ht hs; simp only [Bool.and_eq_true, Bool.not_eq_true'] at this; exact this.2)] at g1
        have g2 : capOf E k (nb N can fun t => S t || S0 t) ≤ capOf E k (nb N can S0) + capOf E (fun i => if nb N can S0 i then 0 else k i) (nb N can S) := by
          unfold capOf
          rw [← sum_add]
          apply sumTo_mono
          intro i _
          by_cases e : nb N can S0 i = true
          · simp only [e, if_true]; split <;> omega
          · simp only [if_neg e]
            by_cases e2 : nb N can (fun t => S t || S0 t) i = true
            · have : nb N can S i = true := by
                obtain ⟨t, ht, hs, hc⟩ := nb_iff.1 e2
                simp only [Bool.or_eq_true] at hs
                rcases hs with hs | hs
                · exact nb_iff.2 ⟨t, ht, hs, hc⟩
                · exact absurd (nb_iff.2 ⟨t, ht, hs, hc⟩) e
              simp [e2, this]
            · simp [e2]
        omega)
      refine ⟨fun t => if S0 t then f0 t else f1 t, fun t ht h => ?_, fun i hi => ?_⟩
      · cases hs : S0 t with
        | true => simpa [hs] using a1 t ht hs
        | false => simpa [hs] using b1 t ht (by simp [h, hs])
      · have e1 : cnt N (fun t => T t && (if S0 t then f0 t else f1 t) == i) = cnt N (fun t => S0 t && f0 t == i) + cnt N (fun t => (T t && !S0 t) && f1 t == i) := by
          rw [← cnt_or (fun t _ h => by simp only [Bool.and_eq_true] at h; simp [h.1])]
          apply cnt_congr
          intro t ht
          cases hs : S0 t with
          | true => simp [h1 t ht hs]
          | false => simp
        rw [e1]
        have c1 := a2 i hi
        have c2 := b2 i hi
        by_cases e : nb N can S0 i = true
        · simp only [e, if_true] at c2; omega
        · simp only [if_neg e] at c2
          have : cnt N (fun t => S0 t && f0 t == i) = 0 := cnt_zero fun t ht => by
            cases hs : S0 t with
            | false => rfl
            | true =>
              cases hf : f0 t == i with
              | false => rfl
              | true =>
                have hf : f0 t = i := by simpa using hf
                exact absurd (nb_iff.2 ⟨t, ht, hs, hf ▸ (a1 t ht hs).2⟩) e
          omega
    · by_cases hT : 0 < cnt N T
      · obtain ⟨t0, ht0, hT0⟩ := cnt_pos hT
        have g := hS (fun t => t == t0) (fun t _ h => by have : t = t0 := by simpa using h
                                                         rw [this]; exact hT0)
        have g1 := cnt_pos_of (P := fun t => t == t0) ht0 (by simp)
        obtain ⟨i0, hi0, g2⟩ := sum_pos (m := E) (f := fun i => if nb N can (fun t => t == t0) i then k i else 0) (by unfold capOf at g; omega)
        have hn : nb N can (fun t => t == t0) i0 = true := by
          by_cases e : nb N can (fun t => t == t0) i0 = true
          · exact e
          · rw [if_neg e] at g2; omega
        rw [if_pos hn] at g2
        have hcan : can t0 i0 = true := by
          obtain ⟨t, _, h1, h2⟩ := nb_iff.1 hn
          have : t = t0 := by simpa using h1
          rw [← this]; exact h2
        have hsplit : cnt N T = cnt N (fun t => T t && !(t == t0)) + 1 := cnt_succ_ne ht0 (by simp) hT0 (fun i _ e => by simp [e])
        obtain ⟨f1, b1, b2⟩ := ih (fun t => T t && !(t == t0)) (fun i => if i = i0 then k i - 1 else k i) (by omega) (by
          intro S h
          by_cases hs0 : 0 < cnt N S
          · have hST : ∀ t, t < N → S t = true → T t = true := fun t ht hs => by have := h t ht hs; simp only [Bool.and_eq_true] at this; exact this.1
            have h5 : cnt N S ≤ cnt N (fun t => T t && !(t == t0)) := cnt_mono h
            have h6 : ¬ capOf E k (nb N can S) ≤ cnt N S := fun e => hx ⟨S, hST, hs0, by omega, e⟩
            have h7 : capOf E k (nb N can S) ≤ capOf E (fun i => if i = i0 then k i - 1 else k i) (nb N can S) + 1 := by
              apply sum_less (x := i0)
              · intro c _ e; simp only [if_neg e]
              · simp only [if_true]; split <;> omega
            omega
          · omega)
        refine ⟨fun t => if t = t0 then i0 else f1 t, fun t ht h => ?_, fun i hi => ?_⟩
        · by_cases e : t = t0
          · subst e; simp only [if_true]; exact ⟨hi0, hcan⟩
          · simp only [if_neg e]; exact b1 t ht (by simp [h, e])
        · have c2 := b2 i hi
          show cnt N (fun t => T t && (if t = t0 then i0 else f1 t) == i) ≤ k i
          by_cases e : i = i0
          · subst e
            simp only [if_true] at c2
            have : cnt N (fun t => T t && (if t = t0 then i else f1 t) == i) ≤ cnt N (fun t => (T t && !(t == t0)) && f1 t == i) + 1 := by
              apply cnt_one
              intro a b _ _ p1 q1 p2 q2
              have key : ∀ a, ((T a && !(a == t0)) && f1 a == i) = false → (T a && (if a = t0 then i else f1 a) == i) = true → a = t0 := by
                intro a p q
                by_cases e : a = t0
                · exact e
                · simp [e] at p q
                  exact absurd q.2 (p q.1)
              rw [key a p1 q1, key b p2 q2]
            omega
          · simp only [if_neg e] at c2
            have : cnt N (fun t => T t && (if t = t0 then i0 else f1 t) == i) ≤ cnt N (fun t => (T t && !(t == t0)) && f1 t == i) := by
              apply cnt_mono
              intro t _ h
              by_cases e2 : t = t0
              · simp [e2] at h; exact absurd h.2.symm e
              · simpa [e2] using h
            omega
      · refine ⟨fun _ => 0, fun t ht h => ?_, fun i _ => ?_⟩
        · have := cnt_pos_of ht h; omega
        · have : cnt N (fun t => T t && ((fun _ => 0) t == i)) ≤ cnt N T := cnt_mono fun t _ h => by simp only [Bool.and_eq_true] at h; exact h.1
          omega

/-- the other way: who are served are not short -/
theorem served {N E : Nat} {can : Nat → Nat → Bool} {T : Nat → Bool} {k f : Nat → Nat} (h : Serves N E can T k f) {S : Nat → Bool} (hS : ∀ t, t < N → S t = true → T t = true) : cnt N S ≤ capOf E k (nb N can S) := by
  have e := sum_num (n := N) (m := E) (fun t => if S t then some (f t) else none) (fun t ht c hc => by
    cases hs : S t with
    | false => simp [hs] at hc
    | true => simp [hs] at hc; rw [← hc]; exact (h.1 t ht (hS t ht hs)).1)
  have e2 : cnt N (fun t => (if S t then some (f t) else none).isSome) = cnt N S := cnt_congr fun t _ => by cases S t <;> rfl
  rw [← e2, ← e]
  apply sumTo_mono
  intro i hi
  by_cases hn : nb N can S i = true
  · rw [if_pos hn]
    refine Nat.le_trans (cnt_mono fun t ht hs => ?_) (h.2 i hi)
    cases hst : S t with
    | false => simp [hst] at hs
    | true => simp [hst] at hs; simp [hS t ht hst, hs]
  · rw [if_neg hn]
    apply Nat.le_of_eq
    apply cnt_zero
    intro t ht
    cases hst : S t with
    | false => simp
    | true =>
      have : ¬ f t = i := fun e => hn (nb_iff.2 ⟨t, ht, hst, e ▸ (h.1 t ht (hS t ht hst)).2⟩)
      simpa [hst] using this

end Go.Proofs.Ytphdemhopihpnaa.Pl

namespace Go.Proofs.Ytphdemhopihpnaa.AM
open Go
set_option linter.unusedVariables false
set_option linter.unusedSimpArgs false

theorem c71 (xs ys : List Int) (hx : xs.length < 2 ^ 63) : PC Try.prog 71 [ints xs, ints ys] (.b (decide (xs = ys))) := by
  refine ⟨AC_FE (fok71 true) (Nat.le_of_ble_eq_true rfl) ?_, rfl⟩
  by_cases hl : xs.length = ys.length
  rotate_left
  · have hd : ((xs.length : Int) != (ys.length : Int)) = true := by simp; omega
    have hne : decide (xs = ys) = false := by simp; intro h; exact hl (by rw [h])
    simp only [ic71, hd, hne, evA, if_true, if_false, beq_false, simprocAttr]
    exact frz
  have hd : ((xs.length : Int) != (ys.length : Int)) = false := by simp; omega
  simp only [ic71, hd, evA, if_true, if_false, beq_false, simprocAttr]
  refine IL_for xs.length (fun i s => (∀ j, j < i → xs[j]?.getD 0 = ys[j]?.getD 0) ∧ ∃ v3 v7 v8, s = ⟨[ints xs, ints ys, .b false, v3, .b false, .i xs.length, .i i, v7, v8], []⟩) ?_ 0 (Nat.zero_le _) ⟨by omega, _, _, _, rfl⟩
  rintro i s hi ⟨hall, v3, v7, v8, rfl⟩
  by_cases h : i < xs.length
  · have h2 : i < ys.length := by omega
    have hwi : IntKind.i64.wrap ((i : Int) + 1) = ((i + 1 : Nat) : Int) := by rw [wrap_in (by omega)]; rfl
    simp only [ic71l0, Int.ofNat_lt, h, evA, if_true, if_false, beq_false, simprocAttr]
    refine DW_s [] [] hmix (by kernel_rfl) rfl ?_
    simp only [h, h2, evA, if_true, if_false, beq_false, simprocAttr]
    by_cases he : xs[i]?.getD 0 = ys[i]?.getD 0
    · have hb : (xs[i]?.getD 0 != ys[i]?.getD 0) = false := by simp [he]
      simp only [hb, hwi, evA, if_true, if_false, beq_false, simprocAttr]
      refine kFor_go (by first | trivial | omega) ⟨fun j hj => ?_, _, _, _, rfl⟩
      rcases Nat.lt_succ_iff_lt_or_eq.1 hj with hj | rfl
      · exact hall j hj
      · exact he
    · have hb : (xs[i]?.getD 0 != ys[i]?.getD 0) = true := by simpa using he
      have hne : decide (xs = ys) = false := by simp; intro h; exact he (by rw [h])
      simp only [hb, hne, evA, if_true, if_false, beq_false, simprocAttr]
      exact frz
  · have hte : i = xs.length := by omega
    subst hte
    have heq : decide (xs = ys) = true := by
      simp only [decide_eq_true_eq]
      apply List.ext_getElem hl
      intro j h1 h2
      have := hall j h1
      simpa [h1, h2] using this
    simp only [ic71l0, Int.ofNat_lt, h, heq, evA, if_true, if_false, beq_false, simprocAttr]
    exact frz

/-- what Honest answers, of a valid draw -/
def honestV (ts ks ps zs as_ : List Int) : AV :=
  if promErr ps zs ≠ 0 then .tup [.b false, .i (promErr ps zs)]
  else if as_.length ≠ ks.length then .tup [.b false, .i 3]
  else if (cheatF ps zs zs.length).length > 0 then .tup [.b false, .i 0]
  else if waysF ks ks.length ts = 0 then .tup [.b false, .i 0]
  else .tup [.b (decide (pickF ks ks.length ts (lotF zs zs.length % waysF ks ks.length ts) = as_)), .i 0]

theorem honestV_cl (ts ks ps zs as_ : List Int) : locsIn 0 (honestV ts ks ps zs as_) = true := by
  unfold honestV; repeat (split; · rfl)
  rfl

theorem cheatsV_ok {ps zs : List Int} (h : promErr ps zs = 0) : cheatsV ps zs = .tup [ints (cheatF ps zs zs.length), .i 0] := by unfold cheatsV; rw [if_pos h]
theorem cheatsV_err {ps zs : List Int} (h : ¬ promErr ps zs = 0) : cheatsV ps zs = .tup [ints [], .i (promErr ps zs)] := by unfold cheatsV; rw [if_neg h]
theorem lotV_ok {zs : List Int} (h : numErr zs = 0) : lotV zs = .tup [.i (lotF zs zs.length), .i 0] := by unfold lotV; rw [if_pos h]

theorem bneI_false {a b : Int} (h : a = b) : (a != b) = false := by simp [h]
theorem bneI_true {a b : Int} (h : ¬ a = b) : (a != b) = true := by simpa using h
theorem beqI_false {a b : Int} (h : ¬ a = b) : (a == b) = false := by simpa using h
theorem beqI_true {a b : Int} (h : a = b) : (a == b) = true := by simp [h]

theorem c34_ok (ts ks ps zs as_ : List Int) (ht : ts.length < 2 ^ 63) (hk : ks.length < 2 ^ 63) (hp : ps.length < 2 ^ 63) (hz : zs.length < 2 ^ 63) (ha : as_.length < 2 ^ 63) (hok : DrawOk ts ks) : PC Try.prog 34 [drw ts ks, ints ps, ints zs, ints as_] (honestV ts ks ps zs as_) := by
  refine ⟨AC_FE (fok34 true) (Nat.le_of_ble_eq_true rfl) ?_, honestV_cl ..⟩
  simp only [ic34, f_box, cellsOf, evA, if_true, if_false, beq_false, simprocAttr]
  refine AC.run (c53f ts ks ht hk (checkV_ok hok) _) ?_
  simp only [evA, if_true, if_false, beq_false, simprocAttr]
  refine (c18 ps zs hp hz).call frz ?_
  by_cases hpe : promErr ps zs = 0
  rotate_left
  · rw [cheatsV_err hpe]
    have hv : honestV ts ks ps zs as_ = .tup [.b false, .i (promErr ps zs)] := by unfold honestV; rw [if_pos hpe]
    have hb := bneI_true hpe
    simp only [hv, hb, evA, if_true, if_false, beq_false, simprocAttr]
    exact frz
  rw [cheatsV_ok hpe]
  by_cases hl : as_.length = ks.length
  rotate_left
  · have hv : honestV ts ks ps zs as_ = .tup [.b false, .i 3] := by unfold honestV; rw [if_neg (by simpa using hpe), if_pos hl]
    have hb := bneI_true (a := (as_.length : Int)) (b := (ks.length : Int)) (by omega)
    simp only [hv, hb, evA, if_true, if_false, beq_false, simprocAttr]
    exact frz
  have hbl := bneI_false (a := (as_.length : Int)) (b := (ks.length : Int)) (by omega)
  by_cases hc : (cheatF ps zs zs.length).length > 0
  · have hv : honestV ts ks ps zs as_ = .tup [.b false, .i 0] := by unfold honestV; rw [if_neg (by simpa using hpe), if_neg (by simpa using hl), if_pos hc]
    have hci : (((cheatF ps zs zs.length).length : Int) > 0) = True := eq_true (by omega)
    simp only [hv, hbl, hci, evA, if_true, if_false, beq_false, simprocAttr]
    exact frz
  have hci : (((cheatF ps zs zs.length).length : Int) > 0) = False := eq_false (by omega)
  have hnum := (promErr_ok hpe).1
  simp only [hbl, hci, evA, if_true, if_false, beq_false, simprocAttr]
  refine (c21 zs hz).call frz ?_
  rw [lotV_ok hnum]
  simp only [evA, if_true, if_false, beq_false, simprocAttr]
  refine AC.run (c55 3 ts [ints ks, .map 2] [AObj.cells [ints ts, ints ks], AObj.cells [ints ts, ints ks], AObj.map [], AObj.cells [ints ts, ints ks, .map 2]] rfl hok.tl.2) ?_
  have h := c54f ts ks hok ks.length ts [] (Nat.le_refl _) ⟨rfl, hok.tr⟩ (right_nil _ _) (σ := [AObj.cells [ints ts, ints ks], AObj.cells [ints ts, ints ks], AObj.map [], AObj.cells [ints ts, ints ks, .map 2]]) 3 2 (by decide) rfl rfl
  have hKr := (waysQ_right (ks := ks) ks.length ts [] (Nat.le_refl _) ⟨rfl, hok.tr⟩ (right_nil _ _)).2
  have hwn := waysF_nonneg ks ks.length ts
  have h58 := c58f ts ks hok _ hKr
  rw [Nat.sub_self] at h
  have hlb := lotF_bounds zs zs.length
  have hpl := fun x h0 h1 => pickF_length (ks := ks) ks.length ts x (Nat.le_refl _) h0 h1
  have hv : honestV ts ks ps zs as_ = if waysF ks ks.length ts = 0 then .tup [.b false, .i 0] else .tup [.b (decide (pickF ks ks.length ts (lotF zs zs.length % waysF ks ks.length ts) = as_)), .i 0] := by
    unfold honestV; rw [if_neg (by simpa using hpe), if_neg (by simpa using hl), if_neg hc]
  rw [hv]
  generalize lotF zs zs.length = n at *
  generalize (waysQ ks ks.length ts []).2 = K' at h h58
  generalize waysF ks ks.length ts = m at h hwn h58 hpl ⊢
  simp only [evA, if_true, if_false, beq_false, simprocAttr]
  refine AC.run h ?_
  by_cases hm0 : m = 0
  · have hgt : (m > 0) = False := eq_false (by omega)
    simp only [hgt, hm0, evA, if_true, if_false, beq_false, simprocAttr]
    exact frz
  · have hgt : (m > 0) = True := eq_true (by omega)
    obtain ⟨g1, g2, g3⟩ := mod_in (n := n) (m := m) (by omega) (by omega)
    have hmx : (if m > 1 then m else 1) = m := by split <;> omega
    simp only [hgt, hm0, hmx, g1, evA, if_true, if_false, beq_false, simprocAttr]
    refine AC.mono (h58 (n % m) ⟨g2, g3⟩ 3 2 (by decide) rfl rfl) fun v τ hacc => ?_
    simp only [evA, if_true, if_false, beq_false, simprocAttr]
    refine (c71 (pickF ks ks.length ts (n % m)) as_ (by rw [hpl _ g2 g3]; exact hk)).call (.cons (acc_frz (fun _ => trivial) hacc.acc) (.cons (.c (.c _ trivial)) .nil)) ?_
    simp only [evA, if_true, if_false, beq_false, simprocAttr]
    exact frz

theorem c34_err (ts ks ps zs as_ : List Int) (ht : ts.length < 2 ^ 63) (hk : ks.length < 2 ^ 63) {x y e : Int} (hv : checkV ts ks = tup3 x y e) (he : e ≠ 0) : PC Try.prog 34 [drw ts ks, ints ps, ints zs, ints as_] (.tup [.b false, .i e]) := by
  refine ⟨AC_FE (fok34 true) (Nat.le_of_ble_eq_true rfl) ?_, rfl⟩
  have hb : (e != 0) = true := by simpa using he
  simp only [ic34, f_box, cellsOf, evA, if_true, if_false, beq_false, simprocAttr]
  refine AC.run (c53f ts ks ht hk hv _) ?_
  simp only [hb, evA, if_true, if_false, beq_false, simprocAttr]
  exact frz

theorem c35_ok (ts ks ps zs as_ : List Int) (ht : ts.length < 2 ^ 63) (hk : ks.length < 2 ^ 63) (hp : ps.length < 2 ^ 63) (hz : zs.length < 2 ^ 63) (ha : as_.length < 2 ^ 63) (hok : DrawOk ts ks) : PC Try.prog 35 [drw ts ks, ints ps, ints zs, ints as_] (honestV ts ks ps zs as_) := by
  refine ⟨AC_FE (fok35 true) (Nat.le_of_ble_eq_true rfl) ?_, honestV_cl ..⟩
  have h27 := c27_ok ts ks ht hk (checkV_ok hok) hok
  rw [countM_eq hok] at h27
  have hwn := waysF_nonneg ks ks.length ts
  have h59 := c59 ts ks hok
  have hpl := fun x h0 h1 => pickF_length (ks := ks) ks.length ts x (Nat.le_refl _) h0 h1
  unfold honestV
  generalize waysF ks ks.length ts = m at h27 hwn h59 hpl ⊢
  simp only [ic35, f_box, cellsOf, evA, if_true, if_false, beq_false, simprocAttr]
  refine h27.call frz ?_
  simp only [evA, if_true, if_false, beq_false, simprocAttr]
  refine (c51 ps zs hp hz).call frz ?_
  by_cases hpe : promErr ps zs = 0
  rotate_left
  · have hb := bneI_true hpe
    have hb2 := beqI_false hpe
    simp only [hpe, hb, hb2, ne_eq, not_false_eq_true, evA, if_true, if_false, beq_false, simprocAttr]
    exact frz
  by_cases hl : as_.length = ks.length
  rotate_left
  · have hb := bneI_true (a := (as_.length : Int)) (b := (ks.length : Int)) (by omega)
    simp only [hpe, hl, hb, ne_eq, not_false_eq_true, not_true_eq_false, evA, if_true, if_false, beq_false, simprocAttr]
    exact frz
  have hnum := (promErr_ok hpe).1
  have hpz := (promErr_ok hpe).2
  have hbl := bneI_false (a := (as_.length : Int)) (b := (ks.length : Int)) (by omega)
  simp only [hpe, hl, hbl, ne_eq, not_false_eq_true, not_true_eq_false, evA, if_true, if_false, beq_false, simprocAttr]
  refine (c22 zs hz).call frz ?_
  rw [lotV_ok hnum]
  have hlb := lotF_bounds zs zs.length
  generalize lotF zs zs.length = n at *
  by_cases hm0 : m = 0
  · have he : (m == 0) = true := by simpa using hm0
    simp only [he, hm0, evA, if_true, if_false, beq_false, simprocAttr]
    split <;> exact frz
  have he : (m == 0) = false := by simpa using hm0
  simp only [he, hm0, evA, if_true, if_false, beq_false, simprocAttr]
  refine (c52 ps zs (numErr_ok hnum) hpz.1).call frz ?_
  by_cases hc : (cheatF ps zs zs.length).length > 0
  · have hci : (((cheatF ps zs zs.length).length : Int) > 0) = True := eq_true (by omega)
    simp only [hc, hci, evA, if_true, if_false, beq_false, simprocAttr]
    exact frz
  have hci : (((cheatF ps zs zs.length).length : Int) > 0) = False := eq_false (by omega)
  obtain ⟨g1, g2, g3⟩ := mod_in (n := n) (m := m) (by omega) (by omega)
  simp only [hc, hci, evA, if_true, if_false, beq_false, simprocAttr]
  refine DW_s [4, 6] [] hmix (by kernel_rfl) rfl ?_
  simp only [hm0, g1, evA, if_true, if_false, beq_false, simprocAttr]
  refine kK_keep ((h59 (n % m) ⟨g2, g3⟩).call frz ⟨rfl, rfl⟩) rfl ?_
  simp only [evA, if_true, if_false, beq_false, simprocAttr]
  refine kK_keep ((c20 (pickF ks ks.length ts (n % m)) as_ (by rw [hpl _ g2 g3]; exact hk)).call frz ⟨rfl, rfl⟩) rfl ?_
  simp only [evA, if_true, if_false, beq_false, simprocAttr]
  exact frz

theorem c35_err (ts ks ps zs as_ : List Int) (ht : ts.length < 2 ^ 63) (hk : ks.length < 2 ^ 63) {x y e : Int} (hv : checkV ts ks = tup3 x y e) (he : e ≠ 0) : PC Try.prog 35 [drw ts ks, ints ps, ints zs, ints as_] (.tup [.b false, .i e]) := by
  refine ⟨AC_FE (fok35 true) (Nat.le_of_ble_eq_true rfl) ?_, rfl⟩
  have hb : (e != 0) = true := by simpa using he
  have hb2 : (e == 0) = false := by simpa using he
  simp only [ic35, f_box, cellsOf, evA, if_true, if_false, beq_false, simprocAttr]
  refine (c27_err ts ks ht hk hv he).call frz ?_
  simp only [hb, hb2, evA, if_true, if_false, beq_false, simprocAttr]
  exact frz

end Go.Proofs.Ytphdemhopihpnaa.AM

namespace Go.Proofs.Ytphdemhopihpnaa.AM
open Go
set_option linter.unusedVariables false
set_option linter.unusedSimpArgs false

abbrev u8s (xs : List Nat) : AV := .cv (.rsl ((xs.map fun x : Nat => (x : Int)).map (.int .u8)) xs.length)

def turnF (xs : List Nat) (n : Nat) : Nat := if xs.length = 0 then 0 else xs[n % xs.length]?.getD 0

theorem turnF_le {xs : List Nat} (h : ∀ x ∈ xs, x ≤ 255) (n : Nat) : turnF xs n ≤ 255 := by
  unfold turnF; split
  · omega
  · rename_i hl
    have hlt : n % xs.length < xs.length := Nat.mod_lt _ (by omega)
    have := h (xs[n % xs.length]) (List.getElem_mem hlt)
    simpa [hlt] using this

theorem c46 (xs : List Nat) (n : Nat) (hx : ∀ x ∈ xs, x ≤ 255) (hl : xs.length < 2 ^ 63) (hn : n < 2 ^ 62) : PC Try.prog 46 [u8s xs, .i n] (.i (turnF xs n)) := by
  refine ⟨AC_FE (fok46 true) (Nat.le_of_ble_eq_true rfl) ?_, rfl⟩
  have hle := turnF_le hx n
  unfold turnF at hle ⊢
  by_cases h0 : xs.length = 0
  · have hb : ((xs.length : Int) == 0) = true := beqI_true (by omega)
    simp only [ic46, hb, h0, evA, if_true, if_false, beq_false, simprocAttr]
    exact frz
  · have hb : ((xs.length : Int) == 0) = false := beqI_false (by omega)
    have hz : ¬ ((xs.length : Int) = 0) := by omega
    have hr : (n : Int).tmod xs.length = ((n % xs.length : Nat) : Int) := by rw [Int.tmod_eq_emod_of_nonneg (by omega)]; rfl
    have hlt : n % xs.length < xs.length := Nat.mod_lt _ (by omega)
    have hlt' : n % xs.length < (xs.map fun x : Nat => (x : Int)).length := by simpa using hlt
    have hg : (xs.map fun x : Nat => (x : Int)).getD (n % xs.length) 0 = ((xs[n % xs.length]?.getD 0 : Nat) : Int) := by simp [List.getD, hlt]
    rw [if_neg h0] at hle ⊢
    generalize n % xs.length = j at *
    generalize xs[j]?.getD 0 = y at *
    have hw : IntKind.i64.wrap (y : Int) = y := wrap_in (by omega)
    have hia : ∀ σ, f_iaS 1 [u8s xs, .cv (.int .i64 j)] σ = some (.cv (.rp ((xs.map fun x : Nat => (x : Int)).map (.int .u8)) j), σ) := fun σ => ints_addr hlt σ
    have hld := ints_load (kd := .u8) hlt'
    rw [hg] at hld
    simp only [ic46, hb, hz, hr, hia, hld, hw, evA, if_true, if_false, beq_false, simprocAttr]
    exact frz

/-- the examiners before i that can take test t -/
def canL (ks us : List Int) (t i : Nat) : List Nat := (List.range i).filter (canB ks us t)
theorem canL_succ (ks us : List Int) (t i : Nat) : canL ks us t (i + 1) = if canB ks us t i then canL ks us t i ++ [i] else canL ks us t i := by
  unfold canL
  rw [List.range_succ, List.filter_append]
  by_cases h : canB ks us t i = true
  · simp [h]
  · simp [h]
theorem canL_mem {ks us : List Int} {t i j : Nat} (h : j ∈ canL ks us t i) : j < i ∧ canB ks us t j = true := by
  unfold canL at h
  simpa using h

/-- the assignment that the turns lead to, with r tests left -/
def allowF (ks : List Int) (xs : List Nat) : Nat → List Int → Option (List Int)
  | 0, _ => some []
  | r + 1, us =>
    let c := canL ks us (ks.length - (r + 1)) us.length
    if c.length = 0 then none else
    let i := c[turnF xs (ks.length - (r + 1)) % c.length]?.getD 0
    (allowF ks xs r (lessF us i)).map fun l => (i : Int) :: l

def allowV (o : Option (List Int)) : AV := match o with | none => .tup [ints [], .b false] | some l => .tup [ints l, .b true]

abbrev natI (l : List Nat) : List Int := l.map fun i : Nat => (i : Int)

theorem c39 (ts0 ks : List Int) (xs : List Nat) (hok : DrawOk ts0 ks) (hx : ∀ x ∈ xs, x ≤ 255) (hl : xs.length < 2 ^ 63) : PC Try.prog 39 [drw ts0 ks, u8s xs] (allowV (allowF ks xs ks.length ts0)) := by
  refine ⟨AC_FE (fok39 true) (Nat.le_of_ble_eq_true rfl) ?_, by unfold allowV; split <;> rfl⟩
  have h6 := hok.tl
  have hk8 := hok.kl
  simp only [ic39, f_box, cellsOf, append_I, apI_nil (zs := ts0) (by omega), evA, if_true, if_false, beq_false, simprocAttr]
  refine IL_for ks.length (fun t s => ∃ σ us zs v v8 v9 v10 v11 v12 v13 v14, (rowOf σ 0 = some [ints ts0, ints ks] ∧ rowOf σ 2 = some (us.map AV.i) ∧ AccFrom 3 σ v zs ∧ Dig ts0.length us ∧ allowF ks xs ks.length ts0 = (allowF ks xs (ks.length - t) us).map (fun l => zs ++ l) ∧ zs.length = t) ∧
    s = ⟨[drw ts0 ks, u8s xs, .ptr 0 0, .cv .nils, .b false, .sl 2 0 ts0.length 1, v, .i t, v8, v9, v10, v11, v12, v13, v14], σ⟩) ?_ 0 (Nat.zero_le _) ⟨_, ts0, [], .cv .nils, _, _, _, _, _, _, _, ⟨rfl, rfl, AccFrom.nil (by simp), ⟨rfl, hok.tr⟩, by simp, rfl⟩, rfl⟩
  rintro t s htl ⟨σ, us, zs, v, v8, v9, v10, v11, v12, v13, v14, ⟨r0, r2, hA, hd, heq, hzl⟩, rfl⟩
  by_cases h : t < ks.length
  rotate_left
  · have hte : t = ks.length := by omega
    subst hte
    rw [Nat.sub_self] at heq
    have heq : allowF ks xs ks.length ts0 = some zs := by simpa [allowF] using heq
    rw [heq]
    simp only [ic39l1, Int.ofNat_lt, h, r0, allowV, evA, if_true, if_false, beq_false, simprocAttr]
    exact .tup (.cons (acc_frz (fun _ => trivial) hA.acc) (.cons (.c (.c _ trivial)) .nil))
  obtain ⟨r, hr⟩ : ∃ r, ks.length - t = r + 1 := ⟨ks.length - t - 1, by omega⟩
  have hrt : ks.length - (r + 1) = t := by omega
  have hul := hd.1
  obtain ⟨S, hS, hS62, hSn⟩ := bits_ok hok h
  simp only [ic39l1, Int.ofNat_lt, h, r0, evA, if_true, if_false, beq_false, simprocAttr]
  refine IL_for us.length (fun i s => ∃ σ' vc v10 v12 v13 v14, (AccFrom σ.length σ' vc (natI (canL ks us t i)) ∧ ∀ l, l < σ.length → rowOf σ' l = rowOf σ l) ∧
    s = ⟨[drw ts0 ks, u8s xs, .ptr 0 0, .cv .nils, .b false, .sl 2 0 ts0.length 1, v, .i t, vc, .i i, v10, .b true, v12, v13, v14], σ'⟩) ?_ 0 (Nat.zero_le _) ⟨σ, _, _, _, _, _, ⟨AccFrom.nil (Nat.le_refl _), fun _ _ => rfl⟩, rfl⟩
  rintro i s hi ⟨σ', vc, w10, w12, w13, w14, ⟨hC, hrow⟩, rfl⟩
  have hA3 := hA.1
  by_cases hil : i < us.length
  · have hil' : i < ts0.length := by omega
    have r0' : rowOf σ' 0 = some [ints ts0, ints ks] := by rw [hrow 0 (by omega)]; exact r0
    have r2' : rowOf σ' 2 = some (us.map AV.i) := by rw [hrow 2 (by omega)]; exact r2
    have hwi : IntKind.i64.wrap ((i : Int) + 1) = ((i + 1 : Nat) : Int) := by rw [wrap_in (by omega)]; rfl
    have hcan : canB ks us t i = (decide (us[i]?.getD 0 > 0) && !S.testBit i) := by unfold canB; rw [hSn]
    have hcl : (natI (canL ks us t i)).length ≤ i := by
      simp only [List.length_map, canL]
      exact Nat.le_trans (List.length_filter_le _ _) (by simp)
    have skip : canB ks us t i = false → natI (canL ks us t (i + 1)) = natI (canL ks us t i) := fun hc => by rw [canL_succ, hc]; rfl
    by_cases hp : us[i]?.getD 0 > 0
    rotate_left
    · have hc : canB ks us t i = false := by rw [hcan]; simp [hp]
      simp only [ic39l0, Int.ofNat_lt, hil, hil', r0', r2', hp, hwi, evA, if_true, if_false, beq_false, simprocAttr]
      exact kFor_go (by first | trivial | omega) ⟨σ', vc, _, _, _, _, ⟨by rw [skip hc]; exact hC, hrow⟩, rfl⟩
    simp only [ic39l0, Int.ofNat_lt, hil, hil', r0', r2', hp, h, hS, evA, if_true, if_false, beq_false, simprocAttr]
    refine (c45 S i hS62 (by omega)).call frz ?_
    cases hbt : S.testBit i
    rotate_left
    · have hc : canB ks us t i = false := by rw [hcan, hbt]; simp
      simp only [hwi, evA, if_true, if_false, beq_false, simprocAttr]
      exact kFor_go (by first | trivial | omega) ⟨σ', vc, _, _, _, _, ⟨by rw [skip hc]; exact hC, hrow⟩, rfl⟩
    have hc : canB ks us t i = true := by rw [hcan, hbt]; simp [hp]
    obtain ⟨v', σ2, hap, hacc, hrow2⟩ := accFrom_append (i : Int) hC (by omega)
    simp only [hap, hwi, evA, if_true, if_false, beq_false, simprocAttr]
    refine kFor_go (by first | trivial | omega) ⟨σ2, v', _, _, _, _, ⟨?_, fun l hl => (hrow2 l hl).trans (hrow l hl)⟩, rfl⟩
    have : natI (canL ks us t (i + 1)) = natI (canL ks us t i) ++ [(i : Int)] := by rw [canL_succ, hc]; simp [natI]
    rw [this]; exact hacc
  · have hie : i = us.length := by omega
    subst hie
    have hil' : ¬ us.length < ts0.length := by omega
    have hstep : allowF ks xs (r + 1) us = if (canL ks us t us.length).length = 0 then none else (allowF ks xs r (lessF us ((canL ks us t us.length)[turnF xs t % (canL ks us t us.length).length]?.getD 0))).map fun l => (((canL ks us t us.length)[turnF xs t % (canL ks us t us.length).length]?.getD 0 : Nat) : Int) :: l := by
      simp only [allowF, hrt]
    have hmem := fun j (h : j ∈ canL ks us t us.length) => canL_mem h
    have hcl : (canL ks us t us.length).length ≤ us.length := by
      unfold canL
      exact Nat.le_trans (List.length_filter_le _ _) (by simp)
    rw [hr, hstep] at heq
    generalize canL ks us t us.length = C at *
    by_cases hC0 : C.length = 0
    · rw [if_pos hC0] at heq
      have heq : allowF ks xs ks.length ts0 = none := heq
      have hCn : C = [] := List.eq_nil_of_length_eq_zero hC0
      subst hCn
      rw [heq]
      rcases hC.2 with ⟨rfl, _⟩ | ⟨lc, _, rfl, _⟩
      · simp only [ic39l0, Int.ofNat_lt, hil', allowV, evA, if_true, if_false, beq_false, simprocAttr]
        exact frz
      · have hb : ((((natI []).length : Nat) : Int) == 0) = true := rfl
        simp only [ic39l0, Int.ofNat_lt, hil', hb, allowV, evA, if_true, if_false, beq_false, simprocAttr]
        exact frz
    rw [if_neg hC0] at heq
    rcases hC.2 with ⟨_, hCn⟩ | ⟨lc, _, rfl, hrc⟩
    · exact absurd (by simpa using congrArg List.length hCn) hC0
    have hlen : (natI C).length = C.length := by simp
    have hb : ((C.length : Int) == 0) = false := beqI_false (by omega)
    have hz : ¬ ((C.length : Int) = 0) := by omega
    simp only [ic39l0, Int.ofNat_lt, hil', hb, evA, if_true, if_false, beq_false, simprocAttr]
    refine (c46 xs t hx hl (by omega)).call (.cons (.c (.c _ trivial)) (.cons (.c (.c _ trivial)) .nil)) ?_
    have hrem : ((turnF xs t : Nat) : Int).tmod (C.length : Int) = ((turnF xs t % C.length : Nat) : Int) := by rw [Int.tmod_eq_emod_of_nonneg (by omega)]; rfl
    have hjl : turnF xs t % C.length < C.length := Nat.mod_lt _ (by omega)
    have hjl2 : turnF xs t % C.length < (natI C).length := by rw [hlen]; exact hjl
    have hcj : (natI C)[turnF xs t % C.length]?.getD 0 = ((C[turnF xs t % C.length]?.getD 0 : Nat) : Int) := by simp [hjl]
    have hcm := hmem (C[turnF xs t % C.length]?.getD 0) (by simp [hjl])
    generalize turnF xs t = T at *
    generalize T % C.length = j at *
    generalize C[j]?.getD 0 = c at *
    obtain ⟨hcl2, hcc⟩ := hcm
    have hA' : AccFrom 3 σ' v zs := ⟨by have := hC.1; omega, hA.2.imp id fun ⟨l, h1, h2, h3⟩ => ⟨l, h1, h2, by rw [hrow l (List.getElem?_eq_some_iff.1 (rowOf_some h3)).1]; exact h3⟩⟩
    have r0' : rowOf σ' 0 = some [ints ts0, ints ks] := by rw [hrow 0 (by omega)]; exact r0
    have r2' : rowOf σ' 2 = some (us.map AV.i) := by rw [hrow 2 (by omega)]; exact r2
    obtain ⟨v', σ3, hap, hacc, hrow2⟩ := accFrom_append (c : Int) hA' (by omega)
    have r0'' : rowOf σ3 0 = some [ints ts0, ints ks] := by rw [hrow2 0 (by omega)]; exact r0'
    have r2'' : rowOf σ3 2 = some (us.map AV.i) := by rw [hrow2 2 (by omega)]; exact r2'
    have hct : c < ts0.length := by omega
    have hc1 : c + 1 ≤ us.length := hcl2
    have hdc := hd.2 c hcl2
    have hw : IntKind.i64.wrap (us[c]?.getD 0 - 1) = us[c]?.getD 0 - 1 := wrap_in (by omega)
    have hwt : IntKind.i64.wrap ((t : Int) + 1) = ((t + 1 : Nat) : Int) := by rw [wrap_in (by omega)]; rfl
    have hga := av_load hjl2
    rw [hcj] at hga
    simp only [hz, hrem, hjl, hjl2, hrc, hga, hap, r2'', hct, hcl2, hc1, hw, hwt, evA, if_true, if_false, beq_false, simprocAttr]
    refine kFor_go (by first | trivial | omega) ⟨_, lessF us c, zs ++ [(c : Int)], v', _, _, _, _, _, _, _, ⟨?_, ?_, hacc.store (by omega) _, dig_less hd hcl2 hcc, ?_, by simp [hzl]⟩, rfl⟩
    · rw [rowOf_set_ne (by omega)]; exact r0''
    · exact rowOf_set_self r2''
    · rw [heq, show ks.length - (t + 1) = r by omega, Option.map_map]
      congr 1
      funext l
      simp

end Go.Proofs.Ytphdemhopihpnaa.AM

namespace Go.Proofs.Ytphdemhopihpnaa.AM
open Go
set_option linter.unusedVariables false
set_option linter.unusedSimpArgs false

/-- an allowed assignment of the last r tests -/
def AllowA (ks : List Int) : Nat → List Int → List Int → Prop
  | 0, _, l => l = []
  | r + 1, us, l => ∃ (i : Nat) (l' : List Int), l = (i : Int) :: l' ∧ i < us.length ∧ canB ks us (ks.length - (r + 1)) i = true ∧ AllowA ks r (lessF us i) l'

/-- its index -/
def indexF (ks : List Int) : Nat → List Int → List Int → Int
  | 0, _, _ => 0
  | _ + 1, _, [] => 0
  | r + 1, us, z :: l => preF ks r us z.toNat + indexF ks r (lessF us z.toNat) l

theorem AllowA.length {ks : List Int} : ∀ {r : Nat} {us l : List Int}, AllowA ks r us l → l.length = r
  | 0, us, l, h => by simp [AllowA] at h; simp [h]
  | r + 1, us, l, h => by
    obtain ⟨i, l', rfl, _, _, h⟩ := h
    simp [h.length]

theorem allowF_A {ks : List Int} {xs : List Nat} : ∀ (r : Nat) (us l : List Int), allowF ks xs r us = some l → AllowA ks r us l
  | 0, us, l, h => by simp [allowF] at h; simp [AllowA, h]
  | r + 1, us, l, h => by
    simp only [allowF] at h
    split at h
    · cases h
    · rename_i hc
      rw [Option.map_eq_some_iff] at h
      obtain ⟨l', h1, rfl⟩ := h
      have hj : turnF xs (ks.length - (r + 1)) % (canL ks us (ks.length - (r + 1)) us.length).length < (canL ks us (ks.length - (r + 1)) us.length).length := Nat.mod_lt _ (by omega)
      have hm := canL_mem (ks := ks) (us := us) (t := ks.length - (r + 1)) (i := us.length) (j := (canL ks us (ks.length - (r + 1)) us.length)[turnF xs (ks.length - (r + 1)) % (canL ks us (ks.length - (r + 1)) us.length).length]?.getD 0) (by simp [hj])
      exact ⟨_, l', rfl, hm.1, hm.2, allowF_A r _ _ h1⟩

theorem index_in {ks : List Int} : ∀ (r : Nat) (us l : List Int), AllowA ks r us l → 0 ≤ indexF ks r us l ∧ indexF ks r us l < waysF ks r us ∧ pickF ks r us (indexF ks r us l) = l
  | 0, us, l, h => by simp [AllowA] at h; simp [indexF, waysF, pickF, h]
  | r + 1, us, l, h => by
    obtain ⟨i, l', rfl, hi, hc, h⟩ := h
    obtain ⟨h1, h2, h3⟩ := index_in r (lessF us i) l' h
    have hp := preF_nonneg ks r us i
    have hs := preF_succ ks r us i
    rw [if_pos hc] at hs
    have hm := preF_mono ks r us (show i + 1 ≤ us.length from hi)
    simp only [indexF, Int.toNat_natCast]
    refine ⟨by omega, by rw [preF_full]; omega, ?_⟩
    rw [pick_step hi hc (by omega) (fun k hk _ => by have := preF_mono ks r us (show k + 1 ≤ i from hk); omega)]
    rw [show preF ks r us i + indexF ks r (lessF us i) l' - preF ks r us i = indexF ks r (lessF us i) l' by omega, h3]

theorem pick_A {ks : List Int} : ∀ (r : Nat) (us : List Int) (x : Int), 0 ≤ x → x < waysF ks r us → AllowA ks r us (pickF ks r us x) ∧ indexF ks r us (pickF ks r us x) = x
  | 0, us, x, h0, h1 => by simp [waysF] at h1; simp [pickF, AllowA, indexF]; omega
  | r + 1, us, x, h0, h1 => by
    rw [preF_full] at h1
    have hex : ∃ j, j < us.length ∧ canB ks us (ks.length - (r + 1)) j = true ∧ x < preF ks r us (j + 1) ∧ ∀ k, k < j → canB ks us (ks.length - (r + 1)) k = true → preF ks r us (k + 1) ≤ x := by
      cases hf : (List.range us.length).find? (fun i => canB ks us (ks.length - (r + 1)) i && decide (x < preF ks r us (i + 1))) with
      | some j =>
        rw [List.find?_range_eq_some] at hf
        obtain ⟨h2, h3, h4⟩ := hf
        simp only [Bool.and_eq_true, decide_eq_true_eq] at h2
        refine ⟨j, by simpa using h3, h2.1, h2.2, fun k hk hck => ?_⟩
        have := h4 k hk
        simp only [hck, Bool.true_and, Bool.not_eq_true', decide_eq_false_iff_not] at this
        omega
      | none =>
        exfalso
        simp only [List.find?_eq_none, List.mem_range, Bool.and_eq_true, decide_eq_true_eq, not_and] at hf
        have := pre_le (ks := ks) (r := r) (us := us) h0 us.length fun k hk hck => by have := hf k hk hck; omega
        omega
    obtain ⟨j, hj, hc, hx, hb⟩ := hex
    have hpj := pre_le (ks := ks) (r := r) (us := us) h0 j hb
    have hs := preF_succ ks r us j
    rw [if_pos hc] at hs
    obtain ⟨g1, g2⟩ := pick_A (ks := ks) r (lessF us j) (x - preF ks r us j) (by omega) (by omega)
    rw [pick_step hj hc hx hb]
    refine ⟨⟨j, _, rfl, hj, hc, g1⟩, ?_⟩
    simp only [indexF, Int.toNat_natCast, g2]
    omega

theorem pick_inj {ks : List Int} {r : Nat} {us : List Int} {x y : Int} (hx : 0 ≤ x ∧ x < waysF ks r us) (hy : 0 ≤ y ∧ y < waysF ks r us) (h : pickF ks r us x = pickF ks r us y) : x = y := by
  rw [← (pick_A r us x hx.1 hx.2).2, ← (pick_A r us y hy.1 hy.2).2, h]

end Go.Proofs.Ytphdemhopihpnaa.AM

namespace Go.Proofs.Ytphdemhopihpnaa.AM
open Go
set_option linter.unusedVariables false
set_option linter.unusedSimpArgs false

/-- is an assignment of the last r tests allowed -/
def allowB (ks : List Int) : Nat → List Int → List Int → Bool
  | 0, _, _ => true
  | _ + 1, _, [] => false
  | r + 1, us, z :: l => decide (z.toNat < us.length) && canB ks us (ks.length - (r + 1)) z.toNat && allowB ks r (lessF us z.toNat) l

theorem allowB_A {ks : List Int} : ∀ (r : Nat) (us l : List Int), l.length = r → (∀ z ∈ l, 0 ≤ z) → (allowB ks r us l = true ↔ AllowA ks r us l)
  | 0, us, l, hl, _ => by
    have : l = [] := List.eq_nil_of_length_eq_zero hl
    simp [allowB, AllowA, this]
  | r + 1, us, [], hl, _ => by simp at hl
  | r + 1, us, z :: l, hl, h0 => by
    have ih := allowB_A (ks := ks) r (lessF us z.toNat) l (by simpa using hl) (fun y hy => h0 y (by simp [hy]))
    have hz := h0 z (by simp)
    simp only [allowB, AllowA, Bool.and_eq_true, decide_eq_true_eq, ih]
    constructor
    · rintro ⟨⟨h1, h2⟩, h3⟩
      exact ⟨z.toNat, l, by rw [Int.toNat_of_nonneg hz], h1, h2, h3⟩
    · rintro ⟨i, l', he, h1, h2, h3⟩
      simp only [List.cons.injEq] at he
      obtain ⟨rfl, rfl⟩ := he
      exact ⟨⟨by simpa using h1, by simpa using h2⟩, by simpa using h3⟩

/-- how often a number stands among the first -/
def cntF (l : List Int) (z : Int) : Nat → Nat
  | 0 => 0
  | k + 1 => if l[k]?.getD 0 = z then cntF l z k + 1 else cntF l z k
theorem cntF_le (l : List Int) (z : Int) : ∀ k, cntF l z k ≤ k
  | 0 => Nat.le_refl _
  | k + 1 => by
    have := cntF_le l z k
    simp only [cntF]; split <;> omega

/-- test t's examiner may take it, and has not too many -/
def fitB (ts ks l : List Int) (t : Nat) : Bool := (ks[t]?.getD 0).toNat.testBit (l[t]?.getD 0).toNat || decide ((cntF l (l[t]?.getD 0) l.length : Int) > ts[(l[t]?.getD 0).toNat]?.getD 0)

def assignE (ts ks l : List Int) : Int :=
  if l.length ≠ ks.length then 3
  else if (firstBad 0 (ts.length - 1) l).isSome then 4
  else if (List.range l.length).any (fitB ts ks l) then 2 else 0

theorem c40 (ts ks l : List Int) (hok : DrawOk ts ks) (hl : l.length < 2 ^ 63) : PC Try.prog 40 [drw ts ks, ints l] (.i (assignE ts ks l)) := by
  refine ⟨AC_FE (fok40 true) (Nat.le_of_ble_eq_true rfl) ?_, rfl⟩
  have h6 := hok.tl
  have hk8 := hok.kl
  simp only [ic40, f_box, cellsOf, evA, if_true, if_false, beq_false, simprocAttr]
  by_cases hlen : l.length = ks.length
  rotate_left
  · have hb := bneI_true (a := (l.length : Int)) (b := (ks.length : Int)) (by omega)
    have hv : assignE ts ks l = 3 := by unfold assignE; rw [if_pos hlen]
    simp only [hb, hv, evA, if_true, if_false, beq_false, simprocAttr]
    exact frz
  have hb := bneI_false (a := (l.length : Int)) (b := (ks.length : Int)) (by omega)
  have hwn : IntKind.i64.wrap ((ts.length : Int) - 1) = (ts.length : Int) - 1 := wrap_in (by omega)
  simp only [hb, evA, if_true, if_false, beq_false, simprocAttr]
  refine IL_for l.length (fun t s => (∀ j, j < t → inB (l[j]?.getD 0) 0 ((ts.length : Int) - 1) = true) ∧ ∃ v9 v10, s = ⟨[drw ts ks, ints l, .ptr 0 0, .i 0, .i t, .undef, .undef, .undef, .b false, v9, v10, .undef, .undef, .undef, .undef], [.cells [ints ts, ints ks]]⟩) ?_ 0 (Nat.zero_le _) ⟨fun j hj => absurd hj (Nat.not_lt_zero _), _, _, rfl⟩
  rintro t s htl ⟨hall, v9, v10, rfl⟩
  have hwt : IntKind.i64.wrap ((t : Int) + 1) = ((t + 1 : Nat) : Int) := by rw [wrap_in (by omega)]; rfl
  by_cases h : t < l.length
  · simp only [ic40l2, Int.ofNat_lt, h, evA, if_true, if_false, beq_false, simprocAttr]
    refine DW_s [8] [] hmix (by kernel_rfl) rfl ?_
    simp only [h, hwn, evA, if_true, if_false, beq_false, simprocAttr]
    refine kK_keep ((c48 (l[t]?.getD 0) 0 ((ts.length : Int) - 1)).call frz ⟨rfl, rfl⟩) rfl ?_
    rw [← show inB (l[t]?.getD 0) 0 ((ts.length : Int) - 1) = (decide (l[t]?.getD 0 ≥ 0) && decide (l[t]?.getD 0 ≤ (ts.length : Int) - 1)) from rfl]
    cases hbt : inB (l[t]?.getD 0) 0 ((ts.length : Int) - 1)
    · have hv : assignE ts ks l = 4 := by unfold assignE; rw [if_neg (by simpa using hlen), firstBad_some h hall hbt]; rfl
      simp only [hv, evA, if_true, if_false, beq_false, simprocAttr]
      exact frz
    · simp only [hwt, evA, if_true, if_false, beq_false, simprocAttr]
      refine kFor_go (by first | trivial | omega) ⟨fun j hj => ?_, _, _, rfl⟩
      rcases Nat.lt_succ_iff_lt_or_eq.1 hj with hj | rfl
      · exact hall j hj
      · exact hbt
  have hte : t = l.length := by omega
  subst hte
  clear hwt
  have hfb := firstBad_none hall
  have hrng : ∀ j, j < l.length → 0 ≤ l[j]?.getD 0 ∧ l[j]?.getD 0 ≤ (ts.length : Int) - 1 := fun j hj => inB_iff.1 (hall j hj)
  have hval : assignE ts ks l = if (List.range l.length).any (fitB ts ks l) then 2 else 0 := by
    unfold assignE; rw [if_neg (by simpa using hlen), hfb]; rfl
  simp only [ic40l2, Int.ofNat_lt, h, evA, if_true, if_false, beq_false, simprocAttr]
  refine IL_for l.length (fun t s => (∀ j, j < t → fitB ts ks l j = false) ∧ ∃ v6 v7 v11 v12 v13 v14, s = ⟨[drw ts ks, ints l, .ptr 0 0, .i 0, .i l.length, .i t, v6, v7, .b false, .b false, v10, v11, v12, v13, v14], [.cells [ints ts, ints ks]]⟩) ?_ 0 (Nat.zero_le _) ⟨fun j hj => absurd hj (Nat.not_lt_zero _), _, _, _, _, _, _, rfl⟩
  rintro t s htl2 ⟨hfit, v6, v7, v11, v12, v13, v14, rfl⟩
  have hwt : IntKind.i64.wrap ((t : Int) + 1) = ((t + 1 : Nat) : Int) := by rw [wrap_in (by omega)]; rfl
  by_cases h : t < l.length
  rotate_left
  · have hte : t = l.length := by omega
    subst hte
    have hv : assignE ts ks l = 0 := by
      rw [hval, if_neg]
      simp only [List.any_eq_true, List.mem_range, not_exists, not_and, Bool.not_eq_true]
      exact hfit
    simp only [ic40l1, Int.ofNat_lt, h, hv, evA, if_true, if_false, beq_false, simprocAttr]
    exact frz
  simp only [ic40l1, Int.ofNat_lt, h, evA, if_true, if_false, beq_false, simprocAttr]
  refine IL_for l.length (fun k s => ∃ v12 v13 v14, s = ⟨[drw ts ks, ints l, .ptr 0 0, .i 0, .i l.length, .i t, .i (cntF l (l[t]?.getD 0) k), .i k, .b false, .b false, v10, .b true, v12, v13, v14], [.cells [ints ts, ints ks]]⟩) ?_ 0 (Nat.zero_le _) ⟨_, _, _, rfl⟩
  rintro k s hkl ⟨w12, w13, w14, rfl⟩
  have hwk : IntKind.i64.wrap ((k : Int) + 1) = ((k + 1 : Nat) : Int) := by rw [wrap_in (by omega)]; rfl
  have hcl := cntF_le l (l[t]?.getD 0) k
  have hwc : IntKind.i64.wrap ((cntF l (l[t]?.getD 0) k : Int) + 1) = ((cntF l (l[t]?.getD 0) k + 1 : Nat) : Int) := by rw [wrap_in (by omega)]; rfl
  by_cases hk : k < l.length
  · simp only [ic40l0, Int.ofNat_lt, hk, evA, if_true, if_false, beq_false, simprocAttr]
    refine DW_s [] [] hmix (by kernel_rfl) rfl ?_
    simp only [h, hk, evA, if_true, if_false, beq_false, simprocAttr]
    by_cases he : l[k]?.getD 0 = l[t]?.getD 0
    · have hbe := beqI_true he
      simp only [hbe, hwc, hwk, evA, if_true, if_false, beq_false, simprocAttr]
      exact kFor_go (by first | trivial | omega) ⟨_, _, _, by simp only [cntF, he, if_true]; rfl⟩
    · have hbe := beqI_false he
      simp only [hbe, hwk, evA, if_true, if_false, beq_false, simprocAttr]
      exact kFor_go (by first | trivial | omega) ⟨_, _, _, by simp only [cntF, he, if_false]; rfl⟩
  have hke : k = l.length := by omega
  subst hke
  have hr := hrng t h
  obtain ⟨z, hz⟩ : ∃ z : Nat, l[t]?.getD 0 = (z : Int) := ⟨(l[t]?.getD 0).toNat, (Int.toNat_of_nonneg hr.1).symm⟩
  have hzl : z < ts.length := by omega
  obtain ⟨S, hS, hS62, hSn⟩ := bits_ok hok (t := t) (by omega)
  have hfb2 : fitB ts ks l t = (S.testBit z || decide ((cntF l (z : Int) l.length : Int) > ts[z]?.getD 0)) := by
    unfold fitB; rw [hSn, hz]; rfl
  have htk : t < ks.length := by omega
  rw [hz]
  have fin : fitB ts ks l t = true → assignE ts ks l = 2 := fun hf => by
    rw [hval, if_pos]
    simp only [List.any_eq_true, List.mem_range]
    exact ⟨t, h, hf⟩
  have nxt : fitB ts ks l t = false → ∀ j, j < t + 1 → fitB ts ks l j = false := fun hf j hj => by
    rcases Nat.lt_succ_iff_lt_or_eq.1 hj with hj | rfl
    · exact hfit j hj
    · exact hf
  simp only [ic40l0, Int.ofNat_lt, hk, evA, if_true, if_false, beq_false, simprocAttr]
  refine DW_s [9] [] hmix (by kernel_rfl) rfl ?_
  simp only [h, htk, hS, hz, evA, if_true, if_false, beq_false, simprocAttr]
  refine kK_keep ((c45 S z hS62 (by omega)).call frz ⟨rfl, rfl⟩) rfl ?_
  generalize cntF l (z : Int) l.length = C at *
  cases hbt : S.testBit z
  · by_cases hgt : (C : Int) > ts[z]?.getD 0
    · have hv := fin (by rw [hfb2, hbt]; simp [hgt])
      simp only [hz, h, hzl, hgt, hv, evA, if_true, if_false, beq_false, simprocAttr]
      exact frz
    · simp only [hz, h, hzl, hgt, hwt, evA, if_true, if_false, beq_false, simprocAttr]
      exact kFor_go (by first | trivial | omega) ⟨nxt (by rw [hfb2, hbt]; simp [hgt]), _, _, _, _, _, _, rfl⟩
  · have hv := fin (by rw [hfb2, hbt]; rfl)
    simp only [hv, evA, if_true, if_false, beq_false, simprocAttr]
    exact frz

theorem cntF_count (l : List Int) (z : Int) : ∀ k, k ≤ l.length → cntF l z k = (l.take k).count z
  | 0, _ => rfl
  | k + 1, h => by
    have hk : k < l.length := h
    rw [cntF, cntF_count l z k (by omega), List.take_add_one, List.count_append]
    simp only [List.getElem?_eq_getElem hk, Option.getD_some, Option.toList_some, List.count_singleton]
    by_cases he : l[k] = z
    · simp [he]
    · simp [he]

theorem allow_iff {ks : List Int} {n : Nat} : ∀ (r : Nat) (us l : List Int), r ≤ ks.length → us.length = n → (∀ j, j < us.length → 0 ≤ us[j]?.getD 0) → l.length = r → (∀ j, j < l.length → 0 ≤ l[j]?.getD 0 ∧ l[j]?.getD 0 < n) →
    (allowB ks r us l = true ↔ (∀ t, t < r → ((ks[ks.length - r + t]?.getD 0).toNat.testBit (l[t]?.getD 0).toNat) = false) ∧ ∀ i : Nat, i < n → (l.count (i : Int) : Int) ≤ us[i]?.getD 0)
  | 0, us, l, hr, hn, hu, hl, hb => by
    have : l = [] := List.eq_nil_of_length_eq_zero hl
    subst this
    simp only [allowB, List.count_nil, true_iff]
    exact ⟨fun t h => absurd h (Nat.not_lt_zero _), fun i hi => by have := hu i (by omega); simpa using this⟩
  | r + 1, us, [], hr, hn, hu, hl, hb => by simp at hl
  | r + 1, us, z :: l, hr, hn, hu, hl, hb => by
    have hz := hb 0 (by simp)
    simp only [List.getElem?_cons_zero, Option.getD_some] at hz
    obtain ⟨i, hi⟩ : ∃ i : Nat, z = (i : Int) := ⟨z.toNat, (Int.toNat_of_nonneg hz.1).symm⟩
    subst hi
    have hin : i < us.length := by omega
    have hll : l.length = r := by simpa using hl
    have hbl : ∀ j, j < l.length → 0 ≤ l[j]?.getD 0 ∧ l[j]?.getD 0 < n := fun j hj => by simpa using hb (j + 1) (by simp; omega)
    simp only [allowB, Int.toNat_natCast, Bool.and_eq_true, decide_eq_true_eq, canB, Bool.not_eq_true']
    have hu0 := hu i hin
    constructor
    · rintro ⟨⟨_, h1, h2⟩, h3⟩
      have hul : ∀ j, j < (lessF us i).length → 0 ≤ (lessF us i)[j]?.getD 0 := fun j hj => by
        simp only [List.length_set] at hj
        by_cases hij : i = j
        · subst hij; rw [List.getElem?_set_self hj]; simp only [Option.getD_some]; omega
        · rw [List.getElem?_set_ne hij]; exact hu j hj
      obtain ⟨g1, g2⟩ := (allow_iff r (lessF us i) l (by omega) (by simpa using hn) hul hll hbl).1 h3
      refine ⟨fun t ht => ?_, fun k hk => ?_⟩
      · cases t with
        | zero => simpa using h2
        | succ t =>
          have := g1 t (by omega)
          rw [show ks.length - (r + 1) + (t + 1) = ks.length - r + t by omega]
          simpa using this
      · have := g2 k hk
        rw [List.count_cons]
        by_cases hik : i = k
        · subst hik
          rw [List.getElem?_set_self hin] at this
          simp only [Option.getD_some] at this
          simp; omega
        · rw [List.getElem?_set_ne hik] at this
          have hne : ((i : Int) == (k : Int)) = false := beqI_false (by omega)
          rw [hne]; simpa using this
    · rintro ⟨g1, g2⟩
      have hci := g2 i (by omega)
      rw [List.count_cons] at hci
      simp only [beq_self_eq_true, if_true] at hci
      have hul : ∀ j, j < (lessF us i).length → 0 ≤ (lessF us i)[j]?.getD 0 := fun j hj => by
        simp only [List.length_set] at hj
        by_cases hij : i = j
        · subst hij; rw [List.getElem?_set_self hj]; simp only [Option.getD_some]; omega
        · rw [List.getElem?_set_ne hij]; exact hu j hj
      refine ⟨⟨hin, by omega, by simpa using g1 0 (by omega)⟩, (allow_iff r (lessF us i) l (by omega) (by simpa using hn) hul hll hbl).2 ⟨fun t ht => ?_, fun k hk => ?_⟩⟩
      · have := g1 (t + 1) (by omega)
        rw [show ks.length - (r + 1) + (t + 1) = ks.length - r + t by omega] at this
        simpa using this
      · have := g2 k hk
        rw [List.count_cons] at this
        by_cases hik : i = k
        · subst hik
          rw [List.getElem?_set_self hin]
          simp only [Option.getD_some]
          simp at this; omega
        · rw [List.getElem?_set_ne hik]
          have hne : ((i : Int) == (k : Int)) = false := beqI_false (by omega)
          rw [hne] at this; simpa using this

theorem assign_allow {ts ks l : List Int} (hok : DrawOk ts ks) (hlen : l.length = ks.length) (hb : ∀ j, j < l.length → 0 ≤ l[j]?.getD 0 ∧ l[j]?.getD 0 < ts.length) : (List.range l.length).any (fitB ts ks l) = !allowB ks ks.length ts l := by
  rw [Bool.eq_iff_iff]
  have key := allow_iff (ks := ks) (n := ts.length) ks.length ts l (Nat.le_refl _) rfl (fun j hj => (hok.tr j hj).1) hlen hb
  rw [Nat.sub_self] at key
  have hcnt : ∀ z, cntF l z l.length = l.count z := fun z => by rw [cntF_count l z l.length (Nat.le_refl _), List.take_length]
  cases ha : allowB ks ks.length ts l with
  | true =>
    obtain ⟨g1, g2⟩ := key.1 ha
    simp only [Bool.not_true, Bool.false_eq_true, iff_false, List.any_eq_true, List.mem_range, not_exists, not_and, Bool.not_eq_true]
    intro t ht
    have h1 := g1 t (by omega)
    have h2 := hb t ht
    have h3 := g2 (l[t]?.getD 0).toNat (by omega)
    rw [Int.toNat_of_nonneg h2.1] at h3
    rw [Nat.zero_add] at h1
    unfold fitB
    rw [h1, hcnt]
    simp only [Bool.false_or, decide_eq_false_iff_not]
    omega
  | false =>
    simp only [Bool.not_false, iff_true, List.any_eq_true, List.mem_range]
    refine Classical.byContradiction fun hno => ?_
    have hall : ∀ t, t < l.length → fitB ts ks l t = false := fun t ht => by
      cases hf : fitB ts ks l t with
      | false => rfl
      | true => exact absurd ⟨t, ht, hf⟩ hno
    have : allowB ks ks.length ts l = true := by
      refine key.2 ⟨fun t ht => ?_, fun i hi => ?_⟩
      · have := hall t (by omega)
        unfold fitB at this
        simp only [Bool.or_eq_false_iff] at this
        rw [Nat.zero_add]; exact this.1
      · by_cases hm : (i : Int) ∈ l
        · obtain ⟨t, ht, he⟩ := List.mem_iff_getElem.1 hm
          have := hall t ht
          unfold fitB at this
          simp only [Bool.or_eq_false_iff, decide_eq_false_iff_not] at this
          have h2 := this.2
          have hlt : l[t]?.getD 0 = (i : Int) := by simp [ht, he]
          rw [hlt, hcnt, Int.toNat_natCast] at h2
          omega
        · rw [List.count_eq_zero_of_not_mem hm]
          exact (hok.tr i hi).1
    rw [this] at ha; cases ha

end Go.Proofs.Ytphdemhopihpnaa.AM

namespace Go.Proofs.Ytphdemhopihpnaa.AM
open Go
set_option linter.unusedVariables false
set_option linter.unusedSimpArgs false

/-- what Index answers, of a valid draw -/
def indexV (ts ks l : List Int) : AV :=
  if l.length ≠ ks.length then .tup [.i 0, .i 3]
  else if (firstBad 0 (ts.length - 1) l).isSome then .tup [.i 0, .i 4]
  else if allowB ks ks.length ts l then .tup [.i (indexF ks ks.length ts l), .i 0] else .tup [.i 0, .i 2]

theorem indexV_cl (ts ks l : List Int) : locsIn 0 (indexV ts ks l) = true := by
  unfold indexV; repeat (split; · rfl)
  rfl

theorem indexF_bounds (ks : List Int) (r : Nat) (us l : List Int) (hl : l.length = r) (h0 : ∀ z ∈ l, 0 ≤ z) (ha : allowB ks r us l = true) : 0 ≤ indexF ks r us l ∧ indexF ks r us l < waysF ks r us :=
  let h := index_in r us l ((allowB_A r us l hl h0).1 ha)
  ⟨h.1, h.2.1⟩

theorem rng_of {ts l : List Int} (h : firstBad 0 (ts.length - 1) l = none) : ∀ j, j < l.length → 0 ≤ l[j]?.getD 0 ∧ l[j]?.getD 0 < ts.length := fun j hj => by
  have := inB_iff.1 (firstBad_iff h j hj); omega
theorem rng_mem {ts l : List Int} (h : firstBad 0 (ts.length - 1) l = none) : ∀ z ∈ l, 0 ≤ z := fun z hz => by
  obtain ⟨j, hj, rfl⟩ := List.mem_iff_getElem.1 hz
  have := rng_of h j hj
  simp [hj] at this; omega

theorem drop_cons (l : List Int) {t : Nat} (h : t < l.length) : l.drop t = l[t]?.getD 0 :: l.drop (t + 1) := by
  rw [List.drop_eq_getElem_cons h]; simp [h]

theorem c31_ok (ts0 ks l : List Int) (ht : ts0.length < 2 ^ 63) (hk : ks.length < 2 ^ 63) (hl : l.length < 2 ^ 63) (hok : DrawOk ts0 ks) : PC Try.prog 31 [drw ts0 ks, ints l] (indexV ts0 ks l) := by
  refine ⟨AC_FE (fok31 true) (Nat.le_of_ble_eq_true rfl) ?_, indexV_cl ..⟩
  have h6 := hok.tl
  have hk8 := hok.kl
  have hc25 := c25 ts0 ks ht hk
  rw [checkV_ok hok] at hc25
  simp only [ic31, f_box, cellsOf, evA, if_true, if_false, beq_false, simprocAttr]
  refine hc25.call frz ?_
  simp only [evA, if_true, if_false, beq_false, simprocAttr]
  refine (c40 ts0 ks l hok hl).call frz ?_
  have hE : ∀ e, assignE ts0 ks l = e → e ≠ 0 → indexV ts0 ks l = .tup [.i 0, .i e] := by
    intro e he hne
    unfold assignE at he
    unfold indexV
    by_cases h1 : l.length ≠ ks.length
    · rw [if_pos h1] at he ⊢; rw [← he]
    · rw [if_neg h1] at he ⊢
      by_cases h2 : (firstBad 0 (ts0.length - 1) l).isSome = true
      · rw [if_pos h2] at he ⊢; rw [← he]
      · rw [if_neg h2] at he ⊢
        have hn : firstBad 0 (ts0.length - 1) l = none := by simpa using h2
        rw [assign_allow hok (by simpa using h1) (rng_of hn)] at he
        cases ha : allowB ks ks.length ts0 l with
        | true => rw [ha] at he; simp at he; exact absurd he.symm hne
        | false => rw [ha] at he; simp at he; rw [← he]; rfl
  by_cases he0 : assignE ts0 ks l = 0
  rotate_left
  · have hv := hE _ rfl he0
    have hb := bneI_true he0
    rw [hv]
    simp only [hb, evA, if_true, if_false, beq_false, simprocAttr]
    exact frz
  have hfacts : l.length = ks.length ∧ firstBad 0 (ts0.length - 1) l = none ∧ allowB ks ks.length ts0 l = true := by
    unfold assignE at he0
    by_cases h1 : l.length ≠ ks.length
    · rw [if_pos h1] at he0; cases he0
    · rw [if_neg h1] at he0
      by_cases h2 : (firstBad 0 (ts0.length - 1) l).isSome = true
      · rw [if_pos h2] at he0; cases he0
      · rw [if_neg h2] at he0
        have hn : firstBad 0 (ts0.length - 1) l = none := by simpa using h2
        rw [assign_allow hok (by simpa using h1) (rng_of hn)] at he0
        refine ⟨by simpa using h1, hn, ?_⟩
        cases ha : allowB ks ks.length ts0 l with
        | true => rfl
        | false => rw [ha] at he0; simp at he0
  obtain ⟨hlen, hn, hal⟩ := hfacts
  have hv : indexV ts0 ks l = .tup [.i (indexF ks ks.length ts0 l), .i 0] := by
    unfold indexV; rw [if_neg (by simpa using hlen), hn, if_neg (by simp), if_pos hal]
  have hb := bneI_false he0
  rw [hv]
  simp only [hb, evA, if_true, if_false, beq_false, simprocAttr]
  obtain ⟨τ, hac, htab, _⟩ := c57f ts0 ks hok [AObj.cells [ints ts0, ints ks]]
  refine AC.run hac ?_
  have hb2 : ([AObj.cells [ints ts0, ints ks]] : List AObj).length + 1 = 2 := rfl
  rw [hb2] at htab ⊢
  have r0 : rowOf ([AObj.cells [ints ts0, ints ks]] ++ τ) 0 = some [ints ts0, ints ks] := rfl
  generalize [AObj.cells [ints ts0, ints ks]] ++ τ = σ0 at htab r0 ⊢
  have hmem := rng_mem hn
  have hrng := rng_of hn
  have hwT := waysF_bounds ks ks.length ts0 h6.2
  have hk68 : 6 ^ ks.length ≤ 6 ^ 8 := Nat.pow_le_pow_right (by omega) (by omega)
  have hib := indexF_bounds ks ks.length ts0 l hlen hmem hal
  simp only [r0, evA, if_true, if_false, beq_false, simprocAttr]
  refine IL_for l.length (fun t s => ∃ σ K us x v10 v13 v14 v15, (TabR ts0 ks σ 2 K ∧ rowOf σ 0 = some [ints ts0, ints ks] ∧ Dig ts0.length us ∧ allowB ks (ks.length - t) us (l.drop t) = true ∧ 0 ≤ x ∧ x + indexF ks (ks.length - t) us (l.drop t) = indexF ks ks.length ts0 l) ∧
    s = ⟨[drw ts0 ks, ints l, .ptr 0 0, .i 0, .i 0, .i 0, .sl 2 0 ks.length 1, ints us, .i x, .i t, v10, .b true, .b false, v13, v14, v15], σ⟩) ?_ 0 (Nat.zero_le _) ⟨σ0, _, ts0, 0, _, _, _, _, ⟨K0_tabR htab, r0, ⟨rfl, hok.tr⟩, hal, Int.le_refl _, by simp⟩, by rw [he0]; rfl⟩
  rintro t s htl ⟨σ, K, us, x, v10, v13, v14, v15, ⟨hT, hr0, hd, hat, hx0, heq⟩, rfl⟩
  by_cases h : t < l.length
  rotate_left
  · have hte : t = l.length := by omega
    subst hte
    have heq : x = indexF ks ks.length ts0 l := by
      rw [show ks.length - l.length = 0 by omega] at heq
      simpa [indexF] using heq
    simp only [ic31l1, Int.ofNat_lt, h, heq, evA, if_true, if_false, beq_false, simprocAttr]
    exact frz
  obtain ⟨r, hr⟩ : ∃ r, ks.length - t = r + 1 := ⟨ks.length - t - 1, by omega⟩
  have hrt : ks.length - (r + 1) = t := by omega
  have htk : t < ks.length := by omega
  have hlt := hrng t h
  rw [hr, drop_cons l h] at hat heq
  obtain ⟨z, hz⟩ : ∃ z : Nat, l[t]?.getD 0 = (z : Int) := ⟨(l[t]?.getD 0).toNat, (Int.toNat_of_nonneg hlt.1).symm⟩
  rw [hz] at hat heq
  simp only [allowB, Int.toNat_natCast, Bool.and_eq_true, decide_eq_true_eq, hrt] at hat
  simp only [indexF, Int.toNat_natCast] at heq
  obtain ⟨⟨hzu, hzc⟩, hrest⟩ := hat
  have hu6 : us.length ≤ 6 := by rw [hd.1]; exact h6.2
  have hrb := indexF_bounds ks r (lessF us z) (l.drop (t + 1)) (by simp; omega) (fun y hy => hmem y (List.mem_of_mem_drop hy)) hrest
  obtain ⟨S, hS, hS62, hSn⟩ := bits_ok hok htk
  simp only [ic31l1, Int.ofNat_lt, h, evA, if_true, if_false, beq_false, simprocAttr]
  refine IL_for z (fun i s => ∃ σ K v14 v15, (TabR ts0 ks σ 2 K ∧ rowOf σ 0 = some [ints ts0, ints ks]) ∧
    s = ⟨[drw ts0 ks, ints l, .ptr 0 0, .i 0, .i 0, .i 0, .sl 2 0 ks.length 1, ints us, .i (x + preF ks r us i), .i t, .i i, .b true, .b false, .b true, v14, v15], σ⟩) ?_ 0 (Nat.zero_le _) ⟨σ, K, _, _, ⟨hT, hr0⟩, by rw [preF_zero, Int.add_zero]; rfl⟩
  clear hT hr0
  rintro i s hi ⟨σ, K, v14, v15, ⟨hT, hr0⟩, rfl⟩
  have hlz : l.getD t 0 = (z : Int) := by rw [List.getD_eq_getElem?_getD]; exact hz
  by_cases hil : i < z
  rotate_left
  · have hie : i = z := by omega
    subst hie
    have hdz := hd.2 i hzu
    have hpos : us[i]?.getD 0 > 0 := by
      simp only [canB, Bool.and_eq_true, decide_eq_true_eq] at hzc; exact hzc.1
    have h61 := c61 us i (by omega) hzu (by omega)
    have hwt : IntKind.i64.wrap ((t : Int) + 1) = ((t + 1 : Nat) : Int) := by rw [wrap_in (by omega)]; rfl
    simp only [ic31l0, Int.ofNat_lt, hil, h, hz, evA, if_true, if_false, beq_false, simprocAttr]
    refine h61.call frz ?_
    simp only [hwt, evA, if_true, if_false, beq_false, simprocAttr]
    refine kFor_go (by first | trivial | omega) ⟨σ, K, lessF us i, x + preF ks r us i, _, _, _, _, ⟨hT, hr0, dig_less hd hzu hzc, ?_, ?_, ?_⟩, rfl⟩
    · rw [show ks.length - (t + 1) = r by omega]; exact hrest
    · have := preF_nonneg ks r us i; omega
    · rw [show ks.length - (t + 1) = r by omega]; omega
  have hiu : i < us.length := by omega
  have hcan : canB ks us t i = (decide (us[i]?.getD 0 > 0) && !S.testBit i) := by unfold canB; rw [hSn]
  have hdi := hd.2 i hiu
  have hps := preF_succ ks r us i
  rw [hrt] at hps
  have hwi : IntKind.i64.wrap ((i : Int) + 1) = ((i + 1 : Nat) : Int) := by rw [wrap_in (by omega)]; rfl
  have next : canB ks us t i = false → preF ks r us (i + 1) = preF ks r us i := fun hc => by
    rw [hc] at hps; simpa using hps
  by_cases hp : us[i]?.getD 0 > 0
  rotate_left
  · have hc : canB ks us t i = false := by rw [hcan]; simp [hp]
    simp only [ic31l0, Int.ofNat_lt, hil, h, hz, hiu, hp, hwi, evA, if_true, if_false, beq_false, simprocAttr]
    exact kFor_go (by first | trivial | omega) ⟨σ, K, _, _, ⟨hT, hr0⟩, by rw [next hc]⟩
  simp only [ic31l0, Int.ofNat_lt, hil, h, hz, hiu, hp, hr0, htk, hS, evA, if_true, if_false, beq_false, simprocAttr]
  refine (c45 S i hS62 (by omega)).call frz ?_
  cases hbt : S.testBit i
  rotate_left
  · have hc : canB ks us t i = false := by rw [hcan, hbt]; simp
    simp only [hwi, evA, if_true, if_false, beq_false, simprocAttr]
    exact kFor_go (by first | trivial | omega) ⟨σ, K, _, _, ⟨hT, hr0⟩, by rw [next hc]⟩
  have hc : canB ks us t i = true := by rw [hcan, hbt]; simp [hp]
  rw [hc, if_pos rfl] at hps
  have hdl := dig_less hd hiu hc
  obtain ⟨K', h56, hT', hKl⟩ := hT.call hok r (lessF us i) (by omega) hdl
  have h61 := c61 us i (by omega) hiu (by omega)
  rw [show ks.length - r = t + 1 by omega] at h56
  have hco := callOk_put (σ := σ) (b := 2) (K := K') (waysF ks r (lessF us i))
  have hwt : IntKind.i64.wrap ((t : Int) + 1) = ((t + 1 : Nat) : Int) := by rw [wrap_in (by omega)]; rfl
  have hr0' : rowOf (putTab σ 2 K') 0 = some [ints ts0, ints ks] := by rw [putTab_lo (by omega)]; exact hr0
  have hpm := preF_mono ks r us (show i + 1 ≤ z by omega)
  have hpn := preF_nonneg ks r us i
  have hsum : IntKind.i64.wrap (x + preF ks r us i + waysF ks r (lessF us i)) = x + preF ks r us (i + 1) := by
    rw [hps] at hpm ⊢
    have := waysF_nonneg ks r (lessF us i)
    generalize 6 ^ ks.length = p1 at *
    rw [wrap_in (by omega)]; omega
  simp only [evA, if_true, if_false, beq_false, simprocAttr]
  refine DW_s [7] [] hmix (by kernel_rfl) rfl ?_
  simp only [hr0, hwt, evA, if_true, if_false, beq_false, simprocAttr]
  refine kK_keep (h61.call frz ⟨rfl, rfl⟩) rfl ?_
  simp only [evA, if_true, if_false, beq_false, simprocAttr]
  refine kK_turn h56 hco ?_
  simp only [hsum, hwi, evA, if_true, if_false, beq_false, simprocAttr]
  exact kFor_go (by first | trivial | omega) ⟨_, K', _, _, ⟨hT', hr0'⟩, rfl⟩

theorem c31_err (ts ks l : List Int) (ht : ts.length < 2 ^ 63) (hk : ks.length < 2 ^ 63) {x y e : Int} (hv : checkV ts ks = tup3 x y e) (he : e ≠ 0) : PC Try.prog 31 [drw ts ks, ints l] (.tup [.i 0, .i e]) := by
  refine ⟨AC_FE (fok31 true) (Nat.le_of_ble_eq_true rfl) ?_, rfl⟩
  have hb := bneI_true he
  have hb2 := beqI_false he
  have hc25 := c25 ts ks ht hk
  rw [hv] at hc25
  simp only [ic31, f_box, cellsOf, evA, if_true, if_false, beq_false, simprocAttr]
  refine hc25.call frz ?_
  simp only [hb, hb2, evA, if_true, if_false, beq_false, simprocAttr]
  exact frz

end Go.Proofs.Ytphdemhopihpnaa.AM

namespace Go.Proofs.Ytphdemhopihpnaa.AM
open Go
set_option linter.unusedVariables false
set_option linter.unusedSimpArgs false

def ia30 : IC := (.seq (.region [jw 9 .mv [.v 19]])
 (.region [jw 10 (.alloc [(.cv (.int .i64 0)), (.cv (.int .i64 0)), (.cv (.int .i64 0)), (.cv (.int .i64 0)), (.cv (.int .i64 0)), (.cv (.int .i64 0)), (.cv (.int .i64 0))]) [], jq (.store 7) [.v 10, .v 20]]))
def ib30 : IC := (.block 4 (.seq (.seq (.region [jv 9, jL 7, jw 21 (.bin .eql .int) [.t 0, .t 1]])
 (.cond 21 (.seq (.region [jN 7 10, jq (.store 7) [.v 6, .t 0], jq (.store 1) [.v 8, jB true]])
 (.exit 3))
 .skip))
 (.dr [[], [], [], [1, 2], [0, 3], [4, 3, 0, 1, 2, 3, 4]] [jL 3, jL 5, jN 7 10, jk 54 [.t 1, .t 2], jq (.bin .add .int) [.t 0, .t 3], jq (.store 1) [.v 3, .t 4]])))
theorem ca30 : compC Try.prog vs30 68 (nav [1, 1, 1, 1, 0, 1, 0, 0, 1, 1, 0, 0, 1, 1, 0, 1, 0, 2] (Try.f30.body.getD .skip)) = some ia30 := by kernel_rfl
theorem cb30 : compC Try.prog vs30 68 (nav [1, 1, 1, 1, 0, 1, 0, 0, 1, 1, 0, 0, 1, 1, 0, 1, 0, 3] (Try.f30.body.getD .skip)) = some ib30 := by kernel_rfl

structure ISt (ts0 ks l : List Int) (t : Nat) (σ : List AObj) (K : Memo) (us : List Int) (x : Int) : Prop where
  len : 7 ≤ σ.length
  o1 : σ[1]? = some (.cells [.i x])
  o3 : σ[3]? = some (.map (rendK K))
  o4 : σ[4]? = some (.cells [ints ts0, ints ks, .map 3])
  o5 : σ[5]? = some (.cells [.ptr 4 0])
  o6 : σ[6]? = some (.cells (keyCs t us))
  cl : Cl σ
  kr : RightQ ks ts0.length K
  ud : Dig ts0.length us
  xb : 0 ≤ x ∧ x + waysF ks (ks.length - t) us ≤ waysF ks ks.length ts0
  al : allowB ks ks.length ts0 l = allowB ks (ks.length - t) us (l.drop t)
  eq : indexF ks ks.length ts0 l = x + indexF ks (ks.length - t) us (l.drop t)

theorem c30_ok (ts0 ks l : List Int) (ht : ts0.length < 2 ^ 63) (hk : ks.length < 2 ^ 63) (hl : l.length < 2 ^ 63) (hok : DrawOk ts0 ks) : PC Try.prog 30 [drw ts0 ks, ints l] (indexV ts0 ks l) := by
  refine ⟨AC_FE (fok30 true) (Nat.le_of_ble_eq_true rfl) ?_, indexV_cl ..⟩
  have h6 := hok.tl
  have hk8 := hok.kl
  have h53 := c53f ts0 ks ht hk (checkV_ok hok) [AObj.cells [ints ts0, ints ks], AObj.cells [.i 0]]
  simp only [List.length_cons, List.length_nil, Nat.reduceAdd] at h53
  simp only [ic30, f_box, cellsOf, evA, if_true, if_false, beq_false, simprocAttr]
  refine AC.run h53 ?_
  have hwn : IntKind.i64.wrap ((ts0.length : Int) - 1) = (ts0.length : Int) - 1 := wrap_in (by omega)
  by_cases hlen : l.length = ks.length
  rotate_left
  · have hb := bneI_true (a := (l.length : Int)) (b := (ks.length : Int)) (by omega)
    have hv : indexV ts0 ks l = .tup [.i 0, .i 3] := by unfold indexV; rw [if_pos hlen]
    simp only [hb, hv, evA, if_true, if_false, beq_false, simprocAttr]
    exact frz
  have hb := bneI_false (a := (l.length : Int)) (b := (ks.length : Int)) (by omega)
  simp only [hb, hwn, evA, if_true, if_false, beq_false, simprocAttr]
  refine (c47 0 ((ts0.length : Int) - 1) l (by omega)).call frz ?_
  cases ho : outF 0 ((ts0.length : Int) - 1) l
  rotate_left
  · have hv : indexV ts0 ks l = .tup [.i 0, .i 4] := by
      unfold indexV
      rw [if_neg (by simpa using hlen), if_pos]
      cases hf : firstBad 0 ((ts0.length : Int) - 1) l with
      | some i => rfl
      | none =>
        have := outF_false.2 (fun j hj => firstBad_iff hf j hj)
        rw [this] at ho; cases ho
    simp only [hv, evA, if_true, if_false, beq_false, simprocAttr]
    exact frz
  have hn : firstBad 0 ((ts0.length : Int) - 1) l = none := firstBad_none fun j hj => outF_false.1 ho j hj
  have hrng := rng_of hn
  have hv : indexV ts0 ks l = if allowB ks ks.length ts0 l then .tup [.i (indexF ks ks.length ts0 l), .i 0] else .tup [.i 0, .i 2] := by
    unfold indexV; rw [if_neg (by simpa using hlen), hn, if_neg (by simp)]
  rw [hv]
  simp only [evA, if_true, if_false, beq_false, simprocAttr]
  refine AC.run (c55 4 ts0 [ints ks, .map 3] [AObj.cells [ints ts0, ints ks], AObj.cells [.i 0], AObj.cells [ints ts0, ints ks], AObj.map [], AObj.cells [ints ts0, ints ks, .map 3], AObj.cells [.ptr 4 0]] rfl h6.2) ?_
  have hp6 := pad6_len h6.2
  have hsr : ∀ x : AV, setRange [x, .cv (.int .i64 0), .cv (.int .i64 0), .cv (.int .i64 0), .cv (.int .i64 0), .cv (.int .i64 0), .cv (.int .i64 0)] 1 ((pad6 ts0).map AV.i) = x :: (pad6 ts0).map AV.i := fun x => setRange_1 (by simp [hp6])
  have hwT := waysF_bounds ks ks.length ts0 h6.2
  have hk68 : 6 ^ ks.length ≤ 6 ^ 8 := Nat.pow_le_pow_right (by omega) (by omega)
  simp only [cellsOf, hp6, isSc_ints, hsr, evA, if_true, if_false, beq_false, simprocAttr]
  refine IL_for l.length (fun t s => ∃ σ K us x, ISt ts0 ks l t σ K us x ∧ s = ⟨[drw ts0 ks, ints l, .ptr 0 0, .ptr 1 0, .i 0, .ptr 5 0, .ptr 6 0, .undef, .undef, .undef, .undef, .b false, .b false, .b false, ints l, .i l.length, .i t, .undef, .undef, .undef, .undef, .undef, .undef], σ⟩) ?_ 0 (Nat.zero_le _) ⟨_, [], ts0, 0, ⟨by simp, rfl, rfl, rfl, rfl, rfl, ?_, right_nil _ _, ⟨rfl, hok.tr⟩, ⟨Int.le_refl _, by simp⟩, by simp, by simp⟩, rfl⟩
  rotate_left
  · intro l' o ho
    match l', ho with
    | 0, ho | 1, ho | 2, ho | 4, ho | 5, ho => cases ho; rfl
    | 3, ho => cases ho; rfl
    | 6, ho => cases ho; exact objIn_key _ 0 ts0
  rintro t s htl ⟨σ, K, us, x, hP, rfl⟩
  by_cases h : t < l.length
  rotate_left
  · have hte : t = l.length := by omega
    subst hte
    have r1 := rowOf_get hP.o1
    have hst := set_same hP.o1
    have hal := hP.al
    have heq := hP.eq
    rw [show ks.length - l.length = 0 by omega] at hal heq
    simp only [List.drop_length, allowB, indexF, Int.add_zero] at hal heq
    rw [hal, if_pos rfl, heq]
    simp only [ic30l0, Int.ofNat_lt, h, r1, hst, evA, if_true, if_false, beq_false, simprocAttr]
    exact frz
  obtain ⟨r, hr⟩ : ∃ r, ks.length - t = r + 1 := ⟨ks.length - t - 1, by omega⟩
  have hrt : ks.length - (r + 1) = t := by omega
  have hu6 : us.length ≤ 6 := by rw [hP.ud.1]; exact h6.2
  have hup6 := pad6_len hu6
  have hutk : ((pad6 us).map AV.i).take 6 = (pad6 us).map AV.i := List.take_of_length_le (by simp [hup6])
  have hlt := hrng t h
  obtain ⟨z, hz⟩ : ∃ z : Nat, l[t]?.getD 0 = (z : Int) := ⟨(l[t]?.getD 0).toNat, (Int.toNat_of_nonneg hlt.1).symm⟩
  have hzu : z < us.length := by have := hP.ud.1; omega
  have hN7 := hP.len
  obtain ⟨σ2, hσ2⟩ : ∃ σ2 : List AObj, σ2 = σ ++ [AObj.cells [.i z], AObj.cells [.b false]] := ⟨_, rfl⟩
  have h2lo : ∀ k, k < σ.length → σ2[k]? = σ[k]? := fun k hk => by rw [hσ2, List.getElem?_append_left hk]
  have r5 : rowOf σ2 5 = some [.ptr 4 0] := rowOf_get ((h2lo 5 (by omega)).trans hP.o5)
  have r6 : rowOf σ2 6 = some (keyCs t us) := rowOf_get ((h2lo 6 (by omega)).trans hP.o6)
  have q1 := rowOf_last σ [.cv (.int .i64 0)]
  have q2 := rowOf_last (σ ++ [AObj.cells [.cv (.int .i64 z)]]) [.cv (.bool false)]
  have hse : ∀ x y : AObj, (σ ++ [x]).set σ.length y = σ ++ [y] := fun x y => by simp
  have hse2 : ∀ x y : AObj, ((σ ++ [AObj.cells [.cv (.int .i64 z)]]) ++ [x]).set (σ ++ [AObj.cells [.cv (.int .i64 z)]]).length y = σ ++ [AObj.cells [.i z], y] := fun x y => by simp
  simp only [ic30l0, Int.ofNat_lt, h, hz, q1, q2, hse, hse2, evA, if_true, if_false, beq_false, simprocAttr]
  rw [← hσ2]
  have hl1 : (σ ++ [AObj.cells [.cv (.int .i64 z)]]).length = σ.length + 1 := by simp
  simp only [hl1, r5, r6, hup6, hutk, evA, if_true, if_false, beq_false, simprocAttr]
  refine AC.run (c60 4 t us σ2 hu6) ?_
  simp only [evA, if_true, if_false, beq_false, simprocAttr]
  refine RW_s (gf := 75) (cap := [.ptr σ2.length 0, .ptr (σ2.length + 1) 0]) rfl (Nat.le_of_ble_eq_true rfl) (fun l h => by cases h) ?_
  generalize hRR : newLoop _ _ _ _ _ = R
  have e1 : R.vars = vs30 := by rw [← hRR]; rfl
  have e2 : R.ntmps = 68 := by rw [← hRR]; rfl
  have e3 : R.params = [53, 54] := by rw [← hRR]; rfl
  have e4 : R.vals = [drw ts0 ks, ints l, .ptr 0 0, .ptr 1 0, .i 0, .ptr 5 0, .ptr 6 0, .ptr σ.length 0, .ptr (σ.length + 1) 0, .undef, .undef, .b false, .b false, .b false, ints l, .i l.length, .i t, .b true, .fn (.func 75) [.ptr σ2.length 0, .ptr (σ2.length + 1) 0], .undef, .undef, .undef, .undef] := by rw [← hRR]; rfl
  have e5 : R.state = .ready := by rw [← hRR]; rfl
  have e6 : R.pending = none := by rw [← hRR]; rfl
  have e7 : compC Try.prog vs30 68 R.assign = some ia30 := by rw [← hRR]; exact ca30
  have e8 : compC Try.prog vs30 68 R.body = some ib30 := by rw [← hRR]; exact cb30
  have e9 : ({ { R with state := .busy, pending := none } with state := .ready, pending := none } : ALoop) = R := by
    clear hRR; cases R; simp_all
  clear hRR
  have hN2 : σ2.length = σ.length + 2 := by rw [hσ2]; simp
  have hz2 : σ2[σ.length]? = some (.cells [.i z]) := by rw [hσ2, List.getElem?_append_right (Nat.le_refl _), Nat.sub_self]; rfl
  have hf2 : σ2[σ.length + 1]? = some (.cells [.b false]) := by rw [hσ2, List.getElem?_append_right (by omega), Nat.add_sub_cancel_left]; rfl
  have hcl2 : Cl σ2 := by
    rw [hσ2, show [AObj.cells [.i z], AObj.cells [.b false]] = [AObj.cells [.i z]] ++ [AObj.cells [.b false]] from rfl, ← List.append_assoc]
    exact (hP.cl.push (show objIn _ (AObj.cells [.i z]) = true from rfl)).push (show objIn _ (AObj.cells [.b false]) = true from rfl)
  have p1 : σ2[1]? = some (.cells [.i x]) := (h2lo 1 (by omega)).trans hP.o1
  have p3 : σ2[3]? = some (.map (rendK K)) := (h2lo 3 (by omega)).trans hP.o3
  have p4 : σ2[4]? = some (.cells [ints ts0, ints ks, .map 3]) := (h2lo 4 (by omega)).trans hP.o4
  have p5 : σ2[5]? = some (.cells [.ptr 4 0]) := (h2lo 5 (by omega)).trans hP.o5
  have p6 : σ2[6]? = some (.cells (keyCs t us)) := (h2lo 6 (by omega)).trans hP.o6
  have hlen2 : (σ2 ++ [AObj.cells [.ptr 4 0], AObj.cells (keyCs t us)]).length = σ2.length + 2 := by simp
  have hrk : r + 1 ≤ ks.length := by omega
  have hQL := waysQL_pre (ks := ks) (r := r) (us := us) (K := K) hrk hP.ud hP.kr
  obtain ⟨X, hX⟩ : ∃ X : Nat → AObj, ∀ i, X i = .cells (keyCs (t + 1) (lessF us i)) := ⟨_, fun _ => rfl⟩
  obtain ⟨G, hG⟩ : ∃ G : Nat → List AObj, ∀ i, G i = (σ2.set 3 (.map (rendK (waysQL ks r us K i).2))).set 1 (.cells [.i (x + preF ks r us i)]) := ⟨_, fun _ => rfl⟩
  obtain ⟨H, hH⟩ : ∃ H : Nat → List AObj, ∀ i, H i = G i ++ [AObj.cells [.ptr 4 0], .cells (keyCs t us), .loop R] := ⟨_, fun _ => rfl⟩
  have hG0 : G 0 = σ2 := by
    rw [hG, preF_zero, Int.add_zero]
    have : (waysQL ks r us K 0).2 = K := rfl
    rw [this, set_same p3, set_same p1]
  have hGl : ∀ i, (G i).length = σ2.length := fun i => by rw [hG]; simp
  have hHl : ∀ i, (H i).length = σ2.length + 3 := fun i => by rw [hH]; simp [hGl]
  have hGn : ∀ i l, l ≠ 1 → l ≠ 3 → (G i)[l]? = σ2[l]? := fun i l h1 h3 => by
    rw [hG, List.getElem?_set_ne (by omega), List.getElem?_set_ne (by omega)]
  have hHlo : ∀ i l, l < σ2.length → (H i)[l]? = (G i)[l]? := fun i l hl => by rw [hH, List.getElem?_append_left (by rw [hGl]; exact hl)]
  have hHhi : ∀ i k, (H i)[σ2.length + k]? = [AObj.cells [.ptr 4 0], .cells (keyCs t us), .loop R][k]? := fun i k => by
    rw [hH, List.getElem?_append_right (by rw [hGl]; omega), hGl, Nat.add_sub_cancel_left]
  have hap2 : ∀ (n : Nat) (L : List AObj) (k : Nat), σ2.length + 3 ≤ k → (H n ++ L)[k]? = L[k - (σ2.length + 3)]? := fun n L k h => by rw [List.getElem?_append_right (by rw [hHl]; exact h), hHl]
  have hG3 : ∀ i, (G i)[3]? = some (.map (rendK (waysQL ks r us K i).2)) := fun i => by
    rw [hG, List.getElem?_set_ne (by omega), List.getElem?_set_self (by omega)]
  have hG1 : ∀ i, (G i)[1]? = some (.cells [.i (x + preF ks r us i)]) := fun i => by
    rw [hG, List.getElem?_set_self (by simp; omega)]
  have hRin : ∀ n, σ2.length + 3 ≤ n → objIn n (.loop R) = true := fun n hn => by
    simp [objIn, e4, locsInAll, locsIn]
    omega
  have hGcl : ∀ i, Cl (G i) := fun i => by
    rw [hG]
    exact (hcl2.set 3 (objIn_rend _ _)).set 1 rfl
  have hHcl : ∀ i, Cl (H i) := fun i => by
    rw [hH, show [AObj.cells [.ptr 4 0], .cells (keyCs t us), .loop R] = [AObj.cells [.ptr 4 0]] ++ [AObj.cells (keyCs t us)] ++ [AObj.loop R] from rfl, ← List.append_assoc, ← List.append_assoc]
    refine (((hGcl i).push ?_).push (objIn_key _ _ _)).push (hRin _ (by simp [hGl]))
    simp [objIn, locsInAll, locsIn, hGl]; omega
  have hG0' : (σ2 ++ [AObj.cells [.ptr 4 0], AObj.cells (keyCs t us)]) ++ [AObj.loop R] = H 0 := by rw [hH, hG0]; simp
  rw [hG0', hlen2]
  obtain ⟨go, hgo⟩ : ∃ go : Nat → Bool, ∀ i, go i = !decide (i = z) := ⟨_, fun _ => rfl⟩
  obtain ⟨T2, hT2⟩ : ∃ T2 : Nat → List AObj, ∀ i, T2 i = ((H i ++ [X i]) ++ [X i]).set (σ2.length + 2) (.loop { R with state := .busy, pending := none }) := ⟨_, fun _ => rfl⟩
  obtain ⟨F, hF⟩ : ∃ F : Nat → List AObj, ∀ i, F i = (((T2 i).set 6 (X i)).set (σ.length + 1) (.cells [.b true])).set (σ2.length + 2) (.loop { R with state := .done, pending := some (.exit 3) }) := ⟨_, fun _ => rfl⟩
  have hT2l : ∀ i, (T2 i).length = σ2.length + 5 := fun i => by rw [hT2]; simp [hHl]
  have hT2cl : ∀ i, Cl (T2 i) := fun i => by
    rw [hT2]
    refine Cl.set (Cl.push (Cl.push (hHcl i) ?_) ?_) (σ2.length + 2) ?_
    · rw [hX]; exact objIn_key _ _ _
    · rw [hX]; exact objIn_key _ _ _
    · simp only [List.length_append, List.length_cons, List.length_nil, hHl]
      exact hRin _ (by omega)
  have hFcl : ∀ i, Cl (F i) := fun i => by
    rw [hF]
    refine Cl.set (Cl.set (Cl.set (hT2cl i) 6 ?_) (σ.length + 1) rfl) (σ2.length + 2) ?_
    · rw [hX]; exact objIn_key _ _ _
    · simp only [List.length_set, hT2l]
      exact hRin _ (by omega)
  have hFl : ∀ i, (F i).length = σ2.length + 5 := fun i => by rw [hF]; simp [hT2l]
  have hHt : ∀ i l, l < σ2.length → (T2 i)[l]? = (G i)[l]? := fun i l hl => by
    rw [hT2, List.getElem?_set_ne (by omega), List.append_assoc, List.getElem?_append_left (by rw [hHl]; omega), hHlo i l hl]
  refine (c75 ts0 ks us (.map 3) σ2.length (σ2.length + 1) 4 (σ2.length + 2) t H F go hok hP.ud.1 hP.ud.2 (by omega) (fun i hi => ?_) (by rw [hHl]; omega) (fun i hi hc => ?_) (fun i hi hc hb => ?_) (fun i hi hc hb hg => ?_)).mono ?_
  · refine ⟨by rw [hHl, hHl], rowOf_get (hHhi i 0), rowOf_get ?_, rowOf_get (hHhi i 1), fun o ho => ?_⟩
    · rw [hHlo i 4 (by omega), hGn i 4 (by omega) (by omega)]; exact p4
    · have := (hHcl i).mem o ho
      rwa [hHl i, ← hHl 0] at this
  · rw [hH, hH, hG, hG, waysQL_succ, preF_succ, hrt, hc]
    simp
  · have hdi := dig_less hP.ud hi hc
    have hQi := hQL i (by omega)
    have h54 := fun (τ : List AObj) h1 h2 => c54f ts0 ks hok r (lessF us i) (waysQL ks r us K i).2 (by omega) hdi hQi.2 (σ := τ) 4 3 (by omega) h1 h2
    have hsucc := waysQL_succ ks r us K i
    rw [hrt, hc, if_pos rfl] at hsucc
    have hK' : (waysQ ks r (lessF us i) (waysQL ks r us K i).2).2 = (waysQL ks r us K (i + 1)).2 := by rw [hsucc]
    rw [hK', show ks.length - r = t + 1 by omega] at h54
    have hgi := hgo i
    have hXi := hX i
    have hT2i := hT2 i
    have hps := preF_succ ks r us i
    rw [hrt, hc, if_pos rfl] at hps
    have hFi := hF i
    have hpm := preF_mono ks r us (show i + 1 ≤ us.length by omega)
    have hpf := preF_full ks r us
    have hpn := preF_nonneg ks r us i
    have hwn2 := waysF_nonneg ks r (lessF us i)
    rw [hXi] at hT2i hFi
    show YC _ _ [.i i, keyV (t + 1) (lessF us i)] (H i ++ [.cells (keyCs (t + 1) (lessF us i))]) fun v τ => v = .b (go i) ∧ τ = if go i then H (i + 1) ++ [AObj.cells (keyCs (t + 1) (lessF us i))] else F i
    have hp62 : (pad6 (lessF us i)).length = 6 := pad6_len (by simpa using hu6)
    generalize lessF us i = us' at *
    have body : ∀ Q : AV → List AObj → Prop, (go i = true → Q (.b true) (H (i + 1) ++ [AObj.cells (keyCs (t + 1) us')] ++ [AObj.cells (keyCs (t + 1) us')])) → (go i = false → Q (.b false) (F i)) → YC Try.prog (σ2.length + 2) [.i i, keyV (t + 1) us'] (H i ++ [AObj.cells (keyCs (t + 1) us')]) Q := by
      intro Q kq1 kq2
      have x53 : vs30.idxOf? 53 = some 19 := by decide
      have x54 : vs30.idxOf? 54 = some 20 := by decide
      have htk2 : ((pad6 us').map AV.i).take 6 = (pad6 us').map AV.i := List.take_of_length_le (by simp [hp62])
      have hsr2 : ∀ x : AV, setRange [x, .cv (.int .i64 0), .cv (.int .i64 0), .cv (.int .i64 0), .cv (.int .i64 0), .cv (.int .i64 0), .cv (.int .i64 0)] 1 ((pad6 us').map AV.i) = x :: (pad6 us').map AV.i := fun x => setRange_1 (by simp [hp62])
      obtain ⟨B, hB⟩ : ∃ B, B = H i ++ [AObj.cells (keyCs (t + 1) us')] := ⟨_, rfl⟩
      have hBl : B.length = σ2.length + 4 := by rw [hB]; simp [hHl]
      have hBH : ∀ l, l < σ2.length + 3 → B[l]? = (H i)[l]? := fun l hl => by rw [hB, List.getElem?_append_left (by rw [hHl]; exact hl)]
      have hBr : B[σ2.length + 2]? = some (.loop R) := by rw [hBH _ (by omega), hHhi i 2]; rfl
      rw [← hB]
      refine YC_IS (r := R) ia30 ib30 hBr e5 (by rw [e3]; rfl) (by rw [e1, e2, e3]; rfl) (by rw [e1, e2]; exact e7) (by rw [e1, e2]; exact e8) ?_
      rw [e1, e2, e3, e4]
      have ql := fun cs => rowOf_last B cs
      simp only [ia30, putPars, x53, x54, cellsOf, hp62, isSc_ints, hsr2, ql, set_end, kAsg_n, evA, if_true, if_false, beq_false, simprocAttr]
      refine ⟨R, by rw [List.getElem?_append_left (by omega)]; exact hBr, e5, ?_⟩
      rw [e6]
      have hT1 : setLoop (B ++ [AObj.cells (keyCs (t + 1) us')]) (σ2.length + 2) R .busy none = T2 i := by rw [hT2i, hB]; rfl
      have hlit : (AObj.cells (AV.i ((t + 1 : Nat) : Int) :: (pad6 us').map AV.i)) = AObj.cells (keyCs (t + 1) us') := rfl
      rw [hT1]
      have ty : (T2 i)[σ2.length + 4]? = some (.cells (keyCs (t + 1) us')) := by
        rw [hT2i, List.getElem?_set_ne (by omega), List.append_assoc, hap2 _ _ _ (by omega)]
        rw [show σ2.length + 4 - (σ2.length + 3) = 1 by omega]; rfl
      have tr : (T2 i)[σ2.length + 2]? = some (.loop { R with state := .busy, pending := none }) := by
        rw [hT2i, List.getElem?_set_self (by simp [hHl])]
      have tz := rowOf_get ((hHt i σ.length (by omega)).trans ((hGn i σ.length (by omega) (by omega)).trans hz2))
      have ta := rowOf_get ((hHt i (σ.length + 1) (by omega)).trans ((hGn i (σ.length + 1) (by omega) (by omega)).trans hf2))
      have t1 := rowOf_get ((hHt i 1 (by omega)).trans (hG1 i))
      have t5 := rowOf_get ((hHt i 5 (by omega)).trans ((hGn i 5 (by omega) (by omega)).trans p5))
      have t6 := rowOf_get ((hHt i 6 (by omega)).trans ((hGn i 6 (by omega) (by omega)).trans p6))
      have t3 := (hHt i 3 (by omega)).trans (hG3 i)
      have t4 := (hHt i 4 (by omega)).trans ((hGn i 4 (by omega) (by omega)).trans p4)
      have ty' := rowOf_get ty
      simp only [ib30, tz, evA, if_true, if_false, beq_false, simprocAttr]
      by_cases hiz : i = z
      · subst hiz
        have hgf : go i = false := by rw [hgi]; simp
        have kq2 := kq2 hgf
        have hbe := beqI_true (a := (i : Int)) rfl
        have ta' : ∀ y, rowOf ((T2 i).set 6 y) (σ.length + 1) = some [.b false] := fun y => by rw [rowOf_set_ne (by omega)]; exact ta
        have hsr5 : setRange (.i (t : Int) :: (pad6 us).map AV.i) 0 (.i ((t + 1 : Nat) : Int) :: (pad6 us').map AV.i) = .i ((t + 1 : Nat) : Int) :: (pad6 us').map AV.i := setRange_0 (by simp [hp62, hup6])
        have hsr6 : setRange (.i ((t + 1 : Nat) : Int) :: (pad6 us).map AV.i) 1 ((pad6 us').map AV.i) = .i ((t + 1 : Nat) : Int) :: (pad6 us').map AV.i := setRange_1 (by simp [hp62, hup6])
        simp only [hbe, ty', hBl, t6, ta', hp62, htk2, hup6, cellsOf, isSc_ints, hsr5, hsr6, evA, if_true, if_false, beq_false, simprocAttr]
        rw [kRnd_x]
        refine ⟨{ R with state := .busy, pending := none }, ?_, ?_⟩
        · rw [List.getElem?_set_ne (by omega), List.getElem?_set_ne (by omega)]; exact tr
        · rw [hFi] at kq2
          exact kq2
      · have hgf : go i = true := by rw [hgi]; simp [hiz]
        have kq1 := kq1 hgf
        have hbe := beqI_false (a := (i : Int)) (b := (z : Int)) (by omega)
        have hsum : IntKind.i64.wrap (x + preF ks r us i + waysF ks r us') = x + preF ks r us (i + 1) := by
          have h2 := hP.xb
          rw [hr, hpf] at h2
          rw [hps] at hpm ⊢
          generalize 6 ^ ks.length = p1 at *
          rw [wrap_in (by omega)]; omega
        simp only [hbe, evA, if_true, if_false, beq_false, simprocAttr]
        refine DW_s [] [(0, 3)] hmix (by kernel_rfl) rfl ?_
        simp only [t1, t5, ty', hBl, hp62, htk2, evA, if_true, if_false, beq_false, simprocAttr]
        refine kK_turn (h54 (T2 i) t4 t3) (callOk_set rfl (objIn_rend _ _)) ?_
        have s1 : rowOf ((T2 i).set 3 (.map (rendK (waysQL ks r us K (i + 1)).2))) 1 = some [.i (x + preF ks r us i)] := by rw [rowOf_set_ne (by omega)]; exact t1
        have s11 : ((T2 i).set 3 (.map (rendK (waysQL ks r us K (i + 1)).2)))[1]? = (T2 i)[1]? := List.getElem?_set_ne (by omega)
        simp only [s1, s11, hsum, evA, if_true, if_false, beq_false, simprocAttr]
        rw [kRnd_n]
        refine ⟨{ R with state := .busy, pending := none }, ?_, ?_⟩
        · rw [List.getElem?_set_ne (by omega), List.getElem?_set_ne (by omega)]; exact tr
        have hend : setLoop (((T2 i).set 3 (.map (rendK (waysQL ks r us K (i + 1)).2))).set 1 (AObj.cells [.i (x + preF ks r us (i + 1))])) (σ2.length + 2) { R with state := .busy, pending := none } .ready none = H (i + 1) ++ [AObj.cells (keyCs (t + 1) us')] ++ [AObj.cells (keyCs (t + 1) us')] := by
          have e9' : ({ { R with state := .busy, pending := none } with state := .ready, pending := none } : ALoop) = R := e9
          show (((T2 i).set 3 _).set 1 _).set (σ2.length + 2) (.loop { { R with state := .busy, pending := none } with state := .ready, pending := none }) = _
          rw [e9']
          apply List.ext_getElem?
          intro k
          rcases Nat.lt_trichotomy k (σ2.length + 2) with hk | rfl | hk
          · rw [List.getElem?_set_ne (by omega), List.getElem?_append_left (by simp [hHl]; omega), List.getElem?_append_left (by simp [hHl]; omega)]
            rcases Nat.lt_or_ge k σ2.length with hk2 | hk2
            · rw [hHlo _ k hk2]
              by_cases k1 : k = 1
              · subst k1; rw [List.getElem?_set_self (by simp [hT2l]), hG1]
              · rw [List.getElem?_set_ne (by omega)]
                by_cases k3 : k = 3
                · subst k3; rw [List.getElem?_set_self (by rw [hT2l]; omega), hG3]
                · rw [List.getElem?_set_ne (by omega), hHt _ k hk2, hGn _ k k1 k3, hGn _ k k1 k3]
            · rw [List.getElem?_set_ne (by omega), List.getElem?_set_ne (by omega), hT2i, List.getElem?_set_ne (by omega), List.append_assoc, List.getElem?_append_left (by rw [hHl]; omega)]
              obtain ⟨k', rfl⟩ : ∃ k', k = σ2.length + k' := ⟨k - σ2.length, by omega⟩
              rw [hHhi, hHhi]
          · rw [List.getElem?_set_self (by simp [hT2l]), List.getElem?_append_left (by simp [hHl]), List.getElem?_append_left (by simp [hHl]), hHhi]; rfl
          · rw [List.getElem?_set_ne (by omega), List.getElem?_set_ne (by omega), List.getElem?_set_ne (by omega), hT2i, List.getElem?_set_ne (by omega), List.append_assoc, List.append_assoc, hap2 _ _ k (by omega), hap2 _ _ k (by omega)]
        rw [hend]
        exact kq1
    cases hgi2 : go i
    · simp only [Bool.false_eq_true, if_false]
      exact body _ (fun h => by rw [hgi2] at h; cases h) (fun _ => ⟨rfl, rfl⟩)
    · simp only [if_true]
      refine YC.cut (body _ (fun _ => ⟨rfl, _, rfl⟩) (fun h => by rw [hgi2] at h; cases h)) (by simp [hHl]) rfl (fun l o ho => ?_)
      refine .inr ?_
      have hcl3 : Cl (H (i + 1) ++ [AObj.cells (keyCs (t + 1) us')]) := Cl.push (hHcl _) (objIn_key _ _ _)
      have := hcl3 l o ho
      simpa [hHl] using this
  · refine ⟨rfl, by rw [hFl]; simp [hHl], fun l o ho _ => ⟨hFcl i l o ho, fun hl => ?_⟩⟩
    simp only [List.length_append, List.length_cons, List.length_nil, hHl] at hl
    have hlt3 := (List.getElem?_eq_some_iff.1 ho).1
    rw [hFl] at hlt3
    rw [hF, List.getElem?_set_ne (by omega), List.getElem?_set_ne (by omega), List.getElem?_set_ne (by omega), hT2, List.getElem?_set_ne (by omega), List.append_assoc, hap2 _ _ l (by omega), hX] at ho
    have : l = σ2.length + 3 + 1 := by omega
    subst this
    rw [Nat.add_sub_cancel_left] at ho
    cases ho; trivial
  · have hal := hP.al
    have heq := hP.eq
    rw [hr, drop_cons l h, hz] at hal heq
    simp only [allowB, Int.toNat_natCast, hrt, decide_eq_true hzu, Bool.true_and] at hal
    simp only [indexF, Int.toNat_natCast] at heq
    have hll : l.length < 2 ^ 63 := hl
    have hwt : IntKind.i64.wrap ((t : Int) + 1) = ((t + 1 : Nat) : Int) := by rw [wrap_in (by omega)]; rfl
    rintro vv τ (⟨J, rfl, hall⟩ | ⟨j, rfl, hj, hcj, hgj, hbj⟩)
    · have hcz : canB ks us t z = false := by
        cases hc : canB ks us t z with
        | false => rfl
        | true =>
          have h1 := hall z hzu hc
          rw [hgo z] at h1; simp at h1
      rw [hcz, Bool.false_and] at hal
      refine ⟨R, ?_, (by rw [e5]; intro h; cases h), ?_⟩
      · rw [List.getElem?_append_left (by rw [hHl]; omega), hHhi]; rfl
      rw [e6]
      obtain ⟨Z, hZ⟩ : ∃ Z, Z = setLoop (H us.length ++ J) (σ2.length + 2) R .exhausted none := ⟨_, rfl⟩
      have hZlo : ∀ k, k < σ2.length → Z[k]? = (G us.length)[k]? := fun k hk => by
        rw [hZ]; simp only [setLoop]
        rw [List.getElem?_set_ne (by omega), List.getElem?_append_left (by rw [hHl]; omega), hHlo _ k hk]
      have za := rowOf_get ((hZlo (σ.length + 1) (by omega)).trans ((hGn _ (σ.length + 1) (by omega) (by omega)).trans hf2))
      have z1 := rowOf_get ((hZlo 1 (by omega)).trans (hG1 us.length))
      have zs1 := fun cs => rowOf_set_self (cs' := cs) z1
      dsimp only
      rw [hal, ← hZ]
      simp only [za, z1, zs1, evA, if_true, if_false, beq_false, simprocAttr]
      exact frz
    · have hjz : j = z := by
        have := hgo j
        rw [hgj] at this
        simpa using this.symm
      subst hjz
      have hdl := dig_less hP.ud hj hcj
      rw [hcj, Bool.true_and] at hal
      have hps := preF_succ ks r us j
      rw [hrt, if_pos hcj] at hps
      have hpm := preF_mono ks r us (show j + 1 ≤ us.length by omega)
      have hpf := preF_full ks r us
      have hpn := preF_nonneg ks r us j
      have hFr : (F j)[σ2.length + 2]? = some (.loop { R with state := .done, pending := some (.exit 3) }) := by
        rw [hF, List.getElem?_set_self (by simp [hT2l])]
      have hFlo : ∀ k, k < σ2.length → k ≠ 6 → k ≠ σ.length + 1 → (F j)[k]? = (G j)[k]? := fun k hk h6' ha => by
        rw [hF, List.getElem?_set_ne (by omega), List.getElem?_set_ne (by omega), List.getElem?_set_ne (by omega), hHt j k hk]
      have hFa : (F j)[σ.length + 1]? = some (.cells [.b true]) := by
        rw [hF, List.getElem?_set_ne (by omega), List.getElem?_set_self (by simp [hT2l]; omega)]
      have hF6 : (F j)[6]? = some (X j) := by
        rw [hF, List.getElem?_set_ne (by omega), List.getElem?_set_ne (by omega), List.getElem?_set_self (by simp [hT2l]; omega)]
      refine ⟨_, hFr, by simp, ?_⟩
      show W _ _ (.exit 3) _ _
      refine W_exit ?_
      obtain ⟨Z, hZ⟩ : ∃ Z, Z = setLoop (F j) (σ2.length + 2) { R with state := .done, pending := some (.exit 3) } .exhausted (some (.exit 3)) := ⟨_, rfl⟩
      have hZg : ∀ k, k < σ2.length → Z[k]? = (F j)[k]? := fun k hk => by
        rw [hZ]; simp only [setLoop]
        rw [List.getElem?_set_ne (by omega)]
      have hZl : Z.length = σ2.length + 5 := by rw [hZ]; simp [setLoop, hFl]
      have hZcl : Cl Z := by
        rw [hZ]; simp only [setLoop]
        refine Cl.set (hFcl j) _ ?_
        rw [hFl]
        exact hRin _ (by omega)
      have za := rowOf_get ((hZg (σ.length + 1) (by omega)).trans hFa)
      rw [← hZ]
      simp only [za, hwt, evA, if_true, if_false, beq_false, simprocAttr]
      refine kFor_weak (by first | trivial | omega) (Weak.undef (vals' := [drw ts0 ks, ints l, .ptr 0 0, .ptr 1 0, .i 0, .ptr 5 0, .ptr 6 0, .undef, .undef, .undef, .undef, .b false, .b false, .b false, ints l, .i l.length, .i ((t + 1 : Nat) : Int), .undef, .undef, .undef, .undef, .undef, .undef]) ⟨.inl rfl, .inl rfl, .inl rfl, .inl rfl, .inl rfl, .inl rfl, .inl rfl, .inr rfl, .inr rfl, .inr rfl, .inr rfl, .inl rfl, .inl rfl, .inl rfl, .inl rfl, .inl rfl, .inl rfl, .inr rfl, .inr rfl, .inr rfl, .inr rfl, .inr rfl, .inr rfl, trivial⟩)
        ⟨Z, (waysQL ks r us K j).2, lessF us j, x + preF ks r us j, ⟨by omega, ?_, ?_, ?_, ?_, ?_, hZcl, (hQL j (by omega)).2, hdl, ?_, ?_, ?_⟩, rfl⟩
      · rw [hZg 1 (by omega), hFlo 1 (by omega) (by omega) (by omega)]; exact hG1 j
      · rw [hZg 3 (by omega), hFlo 3 (by omega) (by omega) (by omega)]; exact hG3 j
      · rw [hZg 4 (by omega), hFlo 4 (by omega) (by omega) (by omega), hGn j 4 (by omega) (by omega)]; exact p4
      · rw [hZg 5 (by omega), hFlo 5 (by omega) (by omega) (by omega), hGn j 5 (by omega) (by omega)]; exact p5
      · rw [hZg 6 (by omega), hF6, hX]
      · rw [show ks.length - (t + 1) = r by omega]
        have := hP.xb
        rw [hr, hpf] at this
        omega
      · rw [hal, show ks.length - (t + 1) = r by omega]
      · rw [heq, show ks.length - (t + 1) = r by omega]; omega

theorem c30_err (ts ks l : List Int) (ht : ts.length < 2 ^ 63) (hk : ks.length < 2 ^ 63) {x y e : Int} (hv : checkV ts ks = tup3 x y e) (he : e ≠ 0) : PC Try.prog 30 [drw ts ks, ints l] (.tup [.i 0, .i e]) := by
  refine ⟨AC_FE (fok30 true) (Nat.le_of_ble_eq_true rfl) ?_, rfl⟩
  have hb := bneI_true he
  have h53 := c53f ts ks ht hk hv [AObj.cells [ints ts, ints ks], AObj.cells [.i 0]]
  simp only [List.length_cons, List.length_nil, Nat.reduceAdd] at h53
  simp only [ic30, f_box, cellsOf, evA, if_true, if_false, beq_false, simprocAttr]
  refine AC.run h53 ?_
  simp only [hb, evA, if_true, if_false, beq_false, simprocAttr]
  exact frz

end Go.Proofs.Ytphdemhopihpnaa.AM


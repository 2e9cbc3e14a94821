/- Parts of the proof, joined: ClsC7 to ClsN4. -/
import GoSem.Op.String
import Derived.Lib.Strings
import Derived.Test.YtpnghcaccfnngaaGreatDoorZ14
set_option linter.unusedVariables false
set_option linter.unusedSimpArgs false
set_option linter.unusedSectionVars false
namespace Go.Proofs.YtpnghcaccfnngaaGreatDoor.AM
variable [Dr]
open Go
def lowB (x : UInt8) : Bool := decide (97 ≤ x.toNat ∧ x.toNat ≤ 122)
def digB (x : UInt8) : Bool := decide (48 ≤ x.toNat ∧ x.toNat ≤ 57)
def nameOk (s : ByteArray) : Bool := decide (1 ≤ s.size ∧ s.size ≤ 16) && (match s.data.toList with | [] => false | x :: _ => lowB x) && s.data.toList.all fun x => lowB x || digB x
theorem c59i (n lo hi : Int) : PC Tryz.prog 59 [.i n, .i lo, .i hi] (.b (inB n lo hi)) := by
 have h := c59 n lo hi
 rw [inD_iff] at h
 exact h
def chk (s : ByteArray) (i : Nat) : Bool := match s.data[i]? with | none => false | some x => lowB x || (decide (i ≠ 0) && digB x)
theorem nameOk_iff (s : ByteArray) : nameOk s = true ↔ (1 ≤ s.size ∧ s.size ≤ 16) ∧ ∀ i, i < s.size → chk s i = true := by
 have hsz : s.size = s.data.toList.length := (Array.length_toList).symm
 have hg : ∀ i, s.data[i]? = s.data.toList[i]? := fun i => (Array.getElem?_toList).symm
 unfold nameOk chk
 simp only [hg, hsz]
 generalize s.data.toList = l
 simp only [Bool.and_eq_true, decide_eq_true_eq, List.all_eq_true, and_assoc]
 refine and_congr_right fun h1 => and_congr_right fun h2 => ?_
 constructor
 ·rintro ⟨h3, h4⟩ i hi
  rw [List.getElem?_eq_getElem hi]
  simp only
  cases i with
  | zero =>
   cases l with
   | nil => simp at h1
   | cons x l => simpa using h3
  | succ i => have := h4 _ (List.getElem_mem hi); simpa using this
 ·intro h
  refine ⟨?_, ?_⟩
  ·cases l with
   | nil => simp at h1
   | cons x l => simpa using h 0 (by simp)
  ·intro x hx
   obtain ⟨i, hi, rfl⟩ := List.mem_iff_getElem.1 hx
   have := h i hi
   rw [List.getElem?_eq_getElem hi] at this
   simp only [Bool.or_eq_true, Bool.and_eq_true] at this ⊢
   rcases this with h | h
   ·exact .inl h
   ·exact .inr h.2
theorem nameOk_not {s : ByteArray} (h : ¬ (1 ≤ s.size ∧ s.size ≤ 16)) : nameOk s = false := by
 cases hn : nameOk s with
 | false => rfl
 | true => exact absurd ((nameOk_iff s).1 hn).1 h
theorem nameOk_no {s : ByteArray} {i : Nat} (hi : i < s.size) (h : chk s i = false) : nameOk s = false := by
 cases hn : nameOk s with
 | false => rfl
 | true => rw [((nameOk_iff s).1 hn).2 i hi] at h; cases h
theorem ixStr_at {s : ByteArray} {i : Nat} (h : i < s.size) (σ : List AObj) : f_ixStr [.cv (.str s), .cv (.int .i64 i)] σ = some (.cv (.int .u8 ((s.data[i]'h).toNat : Nat)), σ) := by
 have : s.data[i]? = some (s.data[i]'h) := Array.getElem?_eq_getElem h
 simp [f_ixStr, this]
theorem ixStr_at0 {s : ByteArray} (h : 0 < s.size) (σ : List AObj) : f_ixStr [.cv (.str s), .cv (.int .i64 0)] σ = some (.cv (.int .u8 ((s.data[0]'h).toNat : Nat)), σ) := ixStr_at h σ
theorem chk_at {s : ByteArray} {i : Nat} (h : i < s.size) : chk s i = (lowB (s.data[i]'h) || (decide (i ≠ 0) && digB (s.data[i]'h))) := by
 have : s.data[i]? = some (s.data[i]'h) := Array.getElem?_eq_getElem h
 simp [chk, this]
theorem inB_low (x : UInt8) : inB (x.toNat : Nat) 97 122 = lowB x := by
 unfold inB lowB; rw [Bool.eq_iff_iff]; simp; omega
theorem inB_dig (x : UInt8) : inB (x.toNat : Nat) 48 57 = digB x := by
 unfold inB digB; rw [Bool.eq_iff_iff]; simp; omega
theorem c21 (s : ByteArray) (hs : s.size < 2 ^ 63) : PC Tryz.prog 21 [.cv (.str s)] (.b (nameOk s)) := by
 refine ⟨AC_FE (fok21 true) (Nat.le_of_ble_eq_true rfl) ?_, rfl⟩
 have hw : ∀ x : UInt8, IntKind.i64.wrap (x.toNat : Nat) = (x.toNat : Nat) := fun x => wrap_in (by have := x.toNat_lt; omega)
 simp only [ic21, evA, if_true, if_false, beq_false, simprocAttr]
 refine (c59i s.size 1 16).call frz ?_
 cases h1 : inB s.size 1 16
 ·have : nameOk s = false := nameOk_not fun h => by rw [inB_iff.2 (by omega)] at h1; cases h1
  simp only [this, evA, if_true, if_false, beq_false, simprocAttr]
  exact frz
 have h1' := inB_iff.1 h1
 have h0 : 0 < s.size := by omega
 simp only [ixStr_at0 h0, hw, evA, if_true, if_false, beq_false, simprocAttr]
 refine (c59i _ 97 122).call frz ?_
 rw [inB_low]
 cases h2 : lowB (s.data[0]'h0)
 ·have : nameOk s = false := nameOk_no h0 (by rw [chk_at h0]; simp [h2])
  simp only [this, evA, if_true, if_false, beq_false, simprocAttr]
  exact frz
 simp only [evA, if_true, if_false, beq_false, simprocAttr]
 refine IL_for s.size (fun i s' => (∀ j, j < i → chk s j = true) ∧ ∃ v3 v4 v5, s' = ⟨[.cv (.str s), .b false, .i i, v3, v4, v5], []⟩) ?_ 0 (Nat.zero_le _) ⟨by omega, _, _, _, rfl⟩
 rintro i s' hi ⟨hall, v3, v4, v5, rfl⟩
 by_cases h : i < s.size
 rotate_left
 ·have : nameOk s = true := (nameOk_iff s).2 ⟨by omega, fun j hj => hall j (by omega)⟩
  simp only [ic21l0, Int.ofNat_lt, h, this, evA, if_true, if_false, beq_false, simprocAttr]
  exact frz
 simp only [ic21l0, Int.ofNat_lt, h, ixStr_at h, hw, evA, if_true, if_false, beq_false, simprocAttr]
 refine (c59i _ 97 122).call frz ?_
 rw [inB_low]
 have hgo : chk s i = true → ∀ j, j < i + 1 → chk s j = true := fun hc j hj => by
  rcases Nat.lt_succ_iff_lt_or_eq.1 hj with hj | rfl
  ·exact hall j hj
  ·exact hc
 cases h3 : lowB (s.data[i]'h)
 ·simp only [ixStr_at h, hw, evA, if_true, if_false, beq_false, simprocAttr]
  refine (c59i _ 48 57).call frz ?_
  rw [inB_dig]
  cases h4 : digB (s.data[i]'h)
  ·have : nameOk s = false := nameOk_no h (by rw [chk_at h]; simp [h3, h4])
   simp only [this, evA, if_true, if_false, beq_false, simprocAttr]
   exact frz
  ·simp only [evA, if_true, if_false, beq_false, simprocAttr]
   have hc : chk s i = true := by
    rw [chk_at h, h3, h4]
    have : i ≠ 0 := by rintro rfl; rw [h2] at h3; cases h3
    simp [this]
   exact kFor_go (by first | trivial | omega) ⟨hgo hc, _, _, _, by rw [wrap_in (by omega)]; rfl⟩
 ·simp only [evA, if_true, if_false, beq_false, simprocAttr]
  have hc : chk s i = true := by rw [chk_at h, h3]; rfl
  exact kFor_go (by first | trivial | omega) ⟨hgo hc, _, _, _, by rw [wrap_in (by omega)]; rfl⟩
theorem get!_at {s : ByteArray} {i : Nat} (h : i < s.size) : s.get! i = s.data[i]'h := by
 show s.data[i]! = _
 exact getElem!_pos s.data i h
theorem decode_low {s : ByteArray} {i : Nat} (h : i < s.size) (hb : (s.data[i]'h).toNat < 128) : Utf8.decode s i = ((s.data[i]'h).toNat, 1) := by
 unfold Utf8.decode
 simp only [Nat.add_zero, get!_at h]
 rw [if_pos hb]
theorem decode_high {s : ByteArray} {i : Nat} (h : i < s.size) (hb : ¬ (s.data[i]'h).toNat < 128) : 128 ≤ (Utf8.decode s i).1 := by
 unfold Utf8.decode Utf8.runeError
 simp only [Nat.add_zero, get!_at h]
 rw [if_neg hb]
 split
 ·split
  ·assumption
  ·decide
 ·split
  ·split
   ·rename_i hc; simp only [Bool.and_eq_true, decide_eq_true_eq] at hc; omega
   ·decide
  ·split
   ·split
    ·rename_i hc; simp only [Bool.and_eq_true, decide_eq_true_eq] at hc; omega
    ·decide
   ·decide
theorem snext_go {s : ByteArray} {i : Nat} (h : i < s.size) : f_snext [.ptr 0 0] [.siter s i] = some (.tup [.b true, .i i, .cv (.int .i32 ((Utf8.decode s i).1 : Nat))], [.siter s (i + (Utf8.decode s i).2)]) := by
 simp [f_snext, siterOf, h]
theorem snext_end {s : ByteArray} {i : Nat} (h : ¬ i < s.size) : f_snext [.ptr 0 0] [.siter s i] = some (.tup [.b false], [.siter s i]) := by
 simp [f_snext, siterOf, h]
theorem c20 (s : ByteArray) (hs : s.size < 2 ^ 63) : PC Tryz.prog 20 [.cv (.str s)] (.b (nameOk s)) := by
 refine ⟨AC_FE (fok20 true) (Nat.le_of_ble_eq_true rfl) ?_, rfl⟩
 simp only [ic20, evA, if_true, if_false, beq_false, simprocAttr]
 refine IL_for s.size (fun i s' => (∀ j, j < i → chk s j = true) ∧ ∃ v2 v3 v5 v6 v7, s' = ⟨[.cv (.str s), .b false, v2, v3, .ptr 0 0, v5, v6, v7], [.siter s i]⟩) ?_ 0 (Nat.zero_le _) ⟨by omega, _, _, _, _, _, rfl⟩
 rintro i s' hi ⟨hall, v2, v3, v5, v6, v7, rfl⟩
 by_cases h : i < s.size
 rotate_left
 ·simp only [ic20l0, snext_end h, f_bslice, evA, if_true, if_false, beq_false, simprocAttr]
  refine (c56 1 16 [s.size] (by simp)).call frz ?_
  rw [outF_one]
  have : (!(!inB s.size 1 16)) = nameOk s := by
   rw [Bool.not_not, Bool.eq_iff_iff, inB_iff, nameOk_iff]
   exact ⟨fun h1 => ⟨by omega, fun j hj => hall j (by omega)⟩, fun h1 => by omega⟩
  simp only [this, evA, if_true, if_false, beq_false, simprocAttr]
  exact frz
 have hgo : chk s i = true → ∀ j, j < i + 1 → chk s j = true := fun hc j hj => by
  rcases Nat.lt_succ_iff_lt_or_eq.1 hj with hj | rfl
  ·exact hall j hj
  ·exact hc
 by_cases hb : (s.data[i]'h).toNat < 128
 ·simp only [ic20l0, snext_go h, decode_low h hb, evA, if_true, if_false, beq_false, simprocAttr]
  have hc := chk_at h
  generalize s.data[i]'h = x at hb hc ⊢
  by_cases h1 : ((x.toNat : Nat) : Int) < 97
  ·simp only [h1, evA, if_true, if_false, beq_false, simprocAttr]
   by_cases h0 : (i : Int) = 0
   ·have : nameOk s = false := nameOk_no h (by
     rw [hc]
     have : i = 0 := by omega
     simp [this, lowB]; omega)
    simp only [h0, this, evA, if_true, if_false, beq_false, simprocAttr]
    exact frz
   ·have h0' : ((i : Int) == 0) = false := by simp; omega
    simp only [h0', evA, if_true, if_false, beq_false, simprocAttr]
    by_cases h2 : ((x.toNat : Nat) : Int) < 48
    ·have : nameOk s = false := nameOk_no h (by rw [hc]; simp [lowB, digB]; omega)
     simp only [h2, this, evA, if_true, if_false, beq_false, simprocAttr]
     exact frz
    ·simp only [h2, evA, if_true, if_false, beq_false, simprocAttr]
     by_cases h3 : ((x.toNat : Nat) : Int) > 57
     ·have : nameOk s = false := nameOk_no h (by rw [hc]; simp [lowB, digB]; omega)
      simp only [h3, this, evA, if_true, if_false, beq_false, simprocAttr]
      exact frz
     ·simp only [h3, evA, if_true, if_false, beq_false, simprocAttr]
      exact kFor_go (by first | trivial | omega) ⟨hgo (by rw [hc]; simp [lowB, digB]; omega), _, _, _, _, _, rfl⟩
  ·simp only [h1, evA, if_true, if_false, beq_false, simprocAttr]
   by_cases h1b : ((x.toNat : Nat) : Int) > 122
   ·simp only [h1b, evA, if_true, if_false, beq_false, simprocAttr]
    have hno : nameOk s = false := nameOk_no h (by rw [hc]; simp [lowB, digB]; omega)
    by_cases h0 : (i : Int) = 0
    ·simp only [h0, hno, evA, if_true, if_false, beq_false, simprocAttr]
     exact frz
    ·have h0' : ((i : Int) == 0) = false := by simp; omega
     have h2 : ¬ ((x.toNat : Nat) : Int) < 48 := by omega
     have h3 : ((x.toNat : Nat) : Int) > 57 := by omega
     simp only [h0', h2, h3, hno, evA, if_true, if_false, beq_false, simprocAttr]
     exact frz
   ·simp only [h1b, evA, if_true, if_false, beq_false, simprocAttr]
    exact kFor_go (by first | trivial | omega) ⟨hgo (by rw [hc]; simp [lowB, digB]; omega), _, _, _, _, _, rfl⟩
 ·have hd := decode_high h hb
  have hno : nameOk s = false := nameOk_no h (by rw [chk_at h]; simp [lowB, digB]; omega)
  simp only [ic20l0, snext_go h, evA, if_true, if_false, beq_false, simprocAttr]
  generalize Utf8.decode s i = p at hd ⊢
  have h1 : ¬ ((p.1 : Nat) : Int) < 97 := by omega
  have h1b : ((p.1 : Nat) : Int) > 122 := by omega
  have h2 : ¬ ((p.1 : Nat) : Int) < 48 := by omega
  have h3 : ((p.1 : Nat) : Int) > 57 := by omega
  by_cases h0 : (i : Int) = 0
  ·simp only [h0, h1, h1b, hno, evA, if_true, if_false, beq_false, simprocAttr]
   exact frz
  ·have h0' : ((i : Int) == 0) = false := by simp; omega
   simp only [h0', h1, h1b, h2, h3, hno, evA, if_true, if_false, beq_false, simprocAttr]
   exact frz
end Go.Proofs.YtpnghcaccfnngaaGreatDoor.AM
namespace Go.Proofs.YtpnghcaccfnngaaGreatDoor.AM
variable [Dr]
open Go Pl Go.Sort Go.Shelf
abbrev Rt := Int × Int
def rgC (r : Rt) : List CV := [.int .i64 r.1, .int .i64 r.2]
abbrev rgV (r : Rt) : AV := .agg [.i r.1, .i r.2]
abbrev rgL (l : List Rt) : AV := .cv (.rsl (l.flatMap rgC) l.length)
theorem rgC_len (r : Rt) : (rgC r).length = 2 := rfl
theorem rgL_scl (l : List Rt) : ∀ c ∈ l.flatMap rgC, scl c := by
 intro c hc
 rw [List.mem_flatMap] at hc
 obtain ⟨m, _, hm⟩ := hc
 simp only [rgC, List.mem_cons, List.not_mem_nil, or_false] at hm
 rcases hm with rfl | rfl <;> trivial
theorem c117 (x : Int) : PC Tryz.prog 117 [.i x] (.b false) := by
 refine ⟨AC_FE (fok117 true) (Nat.le_of_ble_eq_true rfl) ?_, rfl⟩
 simp only [ic117, evA, if_true, if_false, beq_false, simprocAttr]
 exact frz
theorem c98 (x y : Int) : PC Tryz.prog 98 [.i x, .i y] (.i (cmpN x y)) := by
 refine ⟨AC_FE (fok98 true) (Nat.le_of_ble_eq_true rfl) ?_, rfl⟩
 simp only [ic98, evA, if_true, if_false, beq_false, simprocAttr]
 refine (c117 x).call frz ?_
 simp only [evA, if_true, if_false, beq_false, simprocAttr]
 refine (c117 y).call frz ?_
 unfold cmpN
 by_cases h1 : x < y
 ·simp only [h1, evA, if_true, if_false, beq_false, simprocAttr]
  exact frz
 ·by_cases h2 : x > y
  ·simp only [h1, h2, evA, if_true, if_false, beq_false, simprocAttr]
   exact frz
  ·simp only [h1, h2, evA, if_true, if_false, beq_false, simprocAttr]
   exact frz
theorem c97 (x y : Int) : PC Tryz.prog 97 [ints [x, y]] (.i (if x ≠ 0 then x else y)) := by
 refine ⟨AC_FE (fok97 true) (Nat.le_of_ble_eq_true rfl) ?_, rfl⟩
 simp only [ic97, evA, if_true, if_false, beq_false, simprocAttr]
 refine IL_unroll' ?_
 have h0 : decide ((0 : Int) < (([x, y] : List Int).length : Int)) = true := rfl
 have h1 : decide ((1 : Int) < (([x, y] : List Int).length : Int)) = true := rfl
 have h2 : decide ((2 : Int) < (([x, y] : List Int).length : Int)) = false := rfl
 have w1 : IntKind.i64.wrap (0 + 1) = 1 := by decide
 have w2 : IntKind.i64.wrap (1 + 1) = 2 := by decide
 have a0 : ∀ σ, f_iaS 1 [ints [x, y], .i 0] σ = some (.cv (.rp (([x, y] : List Int).map (.int .i64)) 0), σ) := fun σ => rfl
 have a1 : ∀ σ, f_iaS 1 [ints [x, y], .i 1] σ = some (.cv (.rp (([x, y] : List Int).map (.int .i64)) 1), σ) := fun σ => rfl
 cases hx : (x != 0) with
 | true =>
  rw [if_pos (by simpa using hx)]
  simp only [ic97l0, h0, a0, hx, evA, if_true, if_false, beq_false, simprocAttr]
  exact frz
 | false =>
  rw [if_neg (by simpa using hx)]
  simp only [ic97l0, h0, a0, hx, w1, evA, if_true, if_false, beq_false, simprocAttr]
  refine IL_unroll' ?_
  cases hy : (y != 0) with
  | true =>
   simp only [ic97l0, h1, a1, hy, evA, if_true, if_false, beq_false, simprocAttr]
   exact frz
  | false =>
   have hy0 : y = 0 := by simpa using hy
   simp only [ic97l0, h1, a1, hy, w2, evA, if_true, if_false, beq_false, simprocAttr]
   refine IL_unroll' ?_
   simp only [ic97l0, h2, evA, if_true, if_false, beq_false, simprocAttr]
   rw [hy0]
   exact frz
theorem c96 (a b : Rt) : PC Tryz.prog 96 [rgV a, rgV b] (.i (cmpR a b)) := by
 refine ⟨AC_FE (fok96 true) (Nat.le_of_ble_eq_true rfl) ?_, rfl⟩
 simp only [ic96, f_box, cellsOf, evA, if_true, if_false, beq_false, simprocAttr]
 refine DW_s [4, 9, 11] [] hmix (by kernel_rfl) rfl ?_
 simp only [evA, if_true, if_false, beq_false, simprocAttr]
 refine kK_keep ((c98 a.1 b.1).call frz ⟨rfl, rfl⟩) rfl ?_
 simp only [evA, if_true, if_false, beq_false, simprocAttr]
 refine kK_keep ((c98 a.2 b.2).call frz ⟨rfl, rfl⟩) rfl ?_
 simp only [evA, if_true, if_false, beq_false, simprocAttr]
 refine kK_keep ((c97 (cmpN a.1 b.1) (cmpN a.2 b.2)).call (.cons (frz_ints' (zs := [cmpN a.1 b.1, cmpN a.2 b.2]) (fun _ => trivial) rfl rfl) .nil) ⟨rfl, rfl⟩) rfl ?_
 simp only [evA, if_true, if_false, beq_false, simprocAttr]
 exact frz
theorem c96n (a b : Rt) : AC Tryz.prog 96 [rgV a, rgV b] [] fun r _ => r = .i (cmpR a b) := (c96 a b).ac.mono fun r τ h => by
 cases h with
 | c h => cases h; rfl
theorem FnOk.enter {P : Program} {f : FuncId} {fe : FE} (hf : FnOk P f fe) : Enter P f := by
 obtain ⟨fn, c, h1, h2, h3, _⟩ := hf.ok
 exact Enter_of h1 h3 h2
theorem en95 : Enter Tryz.prog 95 := Enter_of Tryz.func95 (by kernel_rfl) (c := Tryz.f95.body.getD .skip) (by kernel_rfl)
theorem flat_range (l : List Rt) : (List.range l.length).flatMap (fun i => rgC (l[i]?.getD (0, 0))) = l.flatMap rgC := by
 induction l with
 | nil => rfl
 | cons x l ih =>
  rw [List.length_cons, List.range_succ_eq_map, List.flatMap_cons, List.flatMap_map]
  simp only [List.getElem?_cons_zero, Option.getD_some, List.getElem?_cons_succ, List.flatMap_cons]
  rw [ih]
theorem map_range_get (l : List Rt) : (List.range l.length).map (fun i => l[i]?.getD (0, 0)) = l := by
 apply List.ext_getElem?
 intro i
 by_cases h : i < l.length
 ·simp [h]
 ·simp [h]
theorem c95 {l : List Rt} (hl : 0 < l.length) (hl2 : l.length < 2 ^ 60) {σ : List AObj} {p : Nat} (hr : rowOf σ p = some ((l.flatMap rgC).map .cv)) :
  AC Tryz.prog 95 [.sl p 0 l.length 2, .fn (.func 96) []] σ fun r τ => r = .tup [] ∧ τ = σ.set p (.cells (((sortR l).flatMap rgC).map .cv)) := by
 have h := AC_sortK (P := Tryz.prog) (ρ := sortL_ren) sortL 2 (fun w => Tryz.isAgg60 w) (fun w => Tryz.sizeOf60 w) en95 (g := 96) (cap := []) (n := l.length) hl (by omega) (A := fun i => rgC (l[i]?.getD (0, 0))) (fun i => rfl)
  (cf := fun i j => cmpR (l[i]?.getD (0, 0)) (l[j]?.getD (0, 0))) (swoR fun i => l[i]?.getD (0, 0)) rfl (fun i j _ _ => @c96n drOn (l[i]?.getD (0, 0)) (l[j]?.getD (0, 0))) (σ := σ) (l := p) (rest := []) (by rw [List.append_nil, flat_range]; exact hr)
 refine h.mono ?_
 rintro r τ ⟨rfl, q, hq, hs, rfl⟩
 refine ⟨rfl, ?_⟩
 have hm : q.map (fun i => l[i]?.getD (0, 0)) = sortR l := by
  refine sortR_eq ?_ ?_
  ·have := hq.map fun i => l[i]?.getD (0, 0)
   rwa [map_range_get] at this
  ·rw [List.pairwise_map]
   exact hs.imp fun {i j} h => cmpR_not.1 h
 rw [← hm, List.flatMap_map, List.append_nil]
end Go.Proofs.YtpnghcaccfnngaaGreatDoor.AM
namespace Go.Proofs.YtpnghcaccfnngaaGreatDoor.AM
variable [Dr]
open Go Pl
set_option maxRecDepth 100000 in
theorem c139z : PC Tryz.prog 139 [.cv (.int .u64 0)] (.i 0) := by
 refine ⟨AC_FE (fok139 true) (Nat.le_of_ble_eq_true rfl) ?_, rfl⟩
 simp only [ic139, evA, if_true, if_false, beq_false, simprocAttr]
 exact frz
theorem c116z : PC Tryz.prog 116 [.cv (.int .u64 0)] (.i 0) := by
 refine ⟨AC_FE (fok116 true) (Nat.le_of_ble_eq_true rfl) ?_, rfl⟩
 simp only [ic116, evA, if_true, if_false, beq_false, simprocAttr]
 refine c139z.call frz ?_
 simp only [evA, if_true, if_false, beq_false, simprocAttr]
 exact frz
theorem c130z : PC Tryz.prog 130 [.cv .nils, .i 0, .i 0, .fn (.func 96) []] (.tup []) := by
 refine ⟨AC_FE (fok130 true) (Nat.le_of_ble_eq_true rfl) ?_, rfl⟩
 simp only [ic130, evA, if_true, if_false, beq_false, simprocAttr]
 refine IL_unroll' ?_
 simp only [ic130l1, kUn_x, evA, if_true, if_false, beq_false, simprocAttr]
 exact .tup .nil
theorem c115z : PC Tryz.prog 115 [.cv .nils, .i 0, .i 0, .i 0, .fn (.func 96) []] (.tup []) := by
 refine ⟨AC_FE (fok115 true) (Nat.le_of_ble_eq_true rfl) ?_, rfl⟩
 simp only [ic115, evA, if_true, if_false, beq_false, simprocAttr]
 refine IL_unroll' ?_
 simp only [ic115l0, kUn_r, evA, if_true, if_false, beq_false, simprocAttr]
 refine c130z.call frz ?_
 simp only [kUn_r, evA, if_true, if_false, beq_false, simprocAttr]
 exact .tup .nil
theorem p95n : PC Tryz.prog 95 [.cv .nils, .fn (.func 96) []] (.tup []) := by
 refine ⟨AC_FE (fok95 true) (Nat.le_of_ble_eq_true rfl) ?_, rfl⟩
 simp only [ic95, evA, if_true, if_false, beq_false, simprocAttr]
 refine c116z.call frz ?_
 simp only [evA, if_true, if_false, beq_false, simprocAttr]
 refine c115z.call frz ?_
 simp only [evA, if_true, if_false, beq_false, simprocAttr]
 exact .tup .nil
theorem c95n (σ : List AObj) : AC Tryz.prog 95 [.cv .nils, .fn (.func 96) []] σ fun r τ => r = .tup [] ∧ τ = σ := p95n.call (.cons (frz_refl (k := 0) _ rfl) (.cons (frz_refl (k := 0) _ rfl) .nil)) ⟨rfl, rfl⟩
def regOps : Code → Array Oper
 | .region _ ops _ => ops
 | _ => #[]
def regOp (c : Code) (i : Nat) : Oper := (regOps c)[i]?.getD default
theorem hb72 : Tryz.f72.body = some (Tryz.f72.body.getD .skip) := by kernel_rfl
theorem sh72 : (Tryz.f72.body.getD .skip) = .seq (nav [0] (Tryz.f72.body.getD .skip)) (.seq (nav [1, 0] (Tryz.f72.body.getD .skip)) (.seq (.seq (.region 2 #[regOp (nav [1, 1, 0, 0] (Tryz.f72.body.getD .skip)) 0, regOp (nav [1, 1, 0, 0] (Tryz.f72.body.getD .skip)) 1] false) (.block 0 (.loop (.seq (.region 3 #[regOp (nav [1, 1, 0, 1, 0, 0, 0] (Tryz.f72.body.getD .skip)) 0, regOp (nav [1, 1, 0, 1, 0, 0, 0] (Tryz.f72.body.getD .skip)) 1] false)
  (.seq (.cond (.tmp 8) .skip (.exit 0)) (.block 1 (.seq (.region 4 (regOps (nav [1, 1, 0, 1, 0, 0, 1, 1, 0, 0] (Tryz.f72.body.getD .skip))) false) (nav [1, 1, 0, 1, 0, 0, 1, 1, 0, 1] (Tryz.f72.body.getD .skip))))))))) (.seq (nav [1, 1, 1, 0] (Tryz.f72.body.getD .skip)) (.seq (nav [1, 1, 1, 1, 0] (Tryz.f72.body.getD .skip)) .ret)))) := by kernel_rfl
abbrev vs72 : List Nat := [0, 2, 3, 4, 6]
def ic72a : IC := .region [⟨some 1, none, .prim .mv, [.c (.cv .nilf)]⟩]
def ic72b : IC := .region [⟨some 2, none, .prim .mv, [.c (.cv .nils)]⟩]
def is72 : List Ins := [⟨none, none, .prim (.extract 0), [.t 0]⟩, ⟨some 3, none, .prim (.alloc [.cv (.int .i64 0), .cv (.int .i64 0)]), []⟩, ⟨none, none, .prim (.store 2), [.v 3, .t 1]⟩]
def ic72c : IC := .region [⟨none, none, .prim .mv, [.v 2]⟩, ⟨none, none, .prim (.loadN 2), [.v 3]⟩, ⟨none, none, .prim (.bslice 2 1 [.cv (.int .i64 0), .cv (.int .i64 0)] [(0, 2)]), [.t 1]⟩, ⟨none, none, .prim (.append 2 16), [.t 0, .t 2]⟩, ⟨some 2, none, .prim .mv, [.t 3]⟩]
def ic72d : IC := .region [⟨none, none, .prim .mv, [.v 2]⟩, ⟨none, none, .call, [.c (.fn (.func 95) []), .t 0, .c (.fn (.func 96) [])]⟩]
def ic72e : IC := .region [⟨none, none, .prim .mv, [.v 2]⟩, ⟨none, none, .call, [.c (.fn (.func 99) []), .t 0]⟩, ⟨some 1, none, .prim .mv, [.t 1]⟩]
theorem cc72a : compC Tryz.prog vs72 19 (nav [0] (Tryz.f72.body.getD .skip)) = some ic72a := by kernel_rfl
theorem cc72b : compC Tryz.prog vs72 19 (nav [1, 0] (Tryz.f72.body.getD .skip)) = some ic72b := by kernel_rfl
theorem cc72c : compC Tryz.prog vs72 19 (nav [1, 1, 0, 1, 0, 0, 1, 1, 0, 1] (Tryz.f72.body.getD .skip)) = some ic72c := by kernel_rfl
theorem cc72d : compC Tryz.prog vs72 19 (nav [1, 1, 1, 0] (Tryz.f72.body.getD .skip)) = some ic72d := by kernel_rfl
theorem cc72e : compC Tryz.prog vs72 19 (nav [1, 1, 1, 1, 0] (Tryz.f72.body.getD .skip)) = some ic72e := by kernel_rfl
def mapE (es : List (Rt × Int)) : List (AV × AV) := es.map fun e => (rgV e.1, AV.i e.2)
def keysE (es : List (Rt × Int)) : List Rt := es.map (·.1)
theorem mapE_pf (es : List (Rt × Int)) : ∀ p ∈ mapE es, PF p.1 ∧ PF p.2 := by
 intro p hp
 simp only [mapE, List.mem_map] at hp
 obtain ⟨e, _, rfl⟩ := hp
 exact ⟨PF_ints (zs := [e.1.1, e.1.2]), PF_int⟩
abbrev eachV (ks : List Rt) : AV := .fn (.func 118) [.cv (.rp [.rsl (ks.flatMap rgC) ks.length] 0)]
theorem AccS.push {e n : Nat} {σ : List AObj} {v : AV} {cs : List CV} (h : AccS e σ v n cs) (o : AObj) : AccS e (σ ++ [o]) v n cs := by
 rcases h with h | ⟨l, h1, h2, h3⟩
 ·exact .inl h
 ·exact .inr ⟨l, h1, h2, rowOf_push h3 o⟩
theorem accS_frzC {p : CV → Prop} {e n : Nat} {σ : List AObj} {v : AV} {cs : List CV} (h : AccS e σ v n cs) (hp : ∀ c ∈ cs, p c) : FrzC p σ v (.rsl cs n) := by
 rcases h with ⟨rfl, rfl, rfl⟩ | ⟨l, rfl, hl, hr⟩
 ·exact .nl
 ·refine .sl l 0 n e _ _ hr (by simp [hl]) ?_
  rw [List.drop_zero, List.take_of_length_le (by simp [hl])]
  exact frzCs_cv hp
theorem sortR_nil : sortR [] = [] := by simp [sortR]
theorem c99 (v : AV) (σ : List AObj) (hv : v.isUndef = false ∧ cellsOf v = [v]) : AC Tryz.prog 99 [v] σ fun r τ => r = .fn (.func 118) [.ptr σ.length 0] ∧ τ = σ ++ [.cells [v]] := by
 refine AC_FE (fok99 true) (Nat.le_of_ble_eq_true rfl) ?_
 simp only [ic99, f_box, hv, evA, if_true, if_false, beq_false, simprocAttr]
theorem c72 {es : List (Rt × Int)} (hlen : es.length < 2 ^ 38) {σ : List AObj} {l : Nat} (hl : σ[l]? = some (.map (mapE es))) : AC Tryz.prog 72 [.map l] σ fun r τ => r = eachV (sortR (keysE es)) ∧ τ = σ := by
 have hp : (2 : Nat) ^ 38 = 274877906944 := by decide
 have hp2 : (2 : Nat) ^ 44 = 17592186044416 := by decide
 have hm : (mapE es).length = es.length := by simp [mapE]
 refine AC_map (fn := Tryz.f72) (vars := vs72) Tryz.func72 hb72 (Enter_of Tryz.func72 (by kernel_rfl) hb72) (Nat.le_of_ble_eq_true (by kernel_rfl)) hl (mapE_pf es) fun bm ces clock => ?_
 have hG : ∀ m X w m' w', GM 0 bm (mapE es) ces clock m X w → Step 1 m X w m' w' → GM 0 bm (mapE es) ces clock m' X w' := fun m X w m' w' h hs => h.step hs (Nat.zero_lt_one)
 have hN : Tryz.f72.ntmps = 19 := by kernel_rfl
 rw [hN, sh72]
 refine WX_seq hG (WX.of (W.mono (IW_sound _ ic72a _ _ cc72a (IS_sound _ _ (fun e s' => e = .normal ∧ s' = ⟨[.map 0, .cv .nilf, .undef, .undef, .undef], [.dead]⟩) .mk .mk ?_)) ?_))
 ·simp only [ic72a, evA, if_true, if_false, beq_false, simprocAttr]
 rintro e s' ⟨rfl, rfl⟩
 refine WX_seq hG (WX.of (W.mono (IW_sound _ ic72b _ _ cc72b (IS_sound _ _ (fun e s' => e = .normal ∧ s' = ⟨[.map 0, .cv .nilf, .cv .nils, .undef, .undef], [.dead]⟩) .mk .mk ?_)) ?_))
 ·simp only [ic72b, evA, if_true, if_false, beq_false, simprocAttr]
 rintro e s' ⟨rfl, rfl⟩
 refine WX_seq hG ?_
 refine WX_mapLoop (l := 0) (tm := 5) (tit := 6) (tn := 7) (tok := 8) (te := 9) (iit := 4) (T := 103) (K := 60) (E := 3) (x := .tmp 0) (is4 := is72) (o4 := regOp (nav [1, 1, 0, 1, 0, 0, 1, 1, 0, 0] (Tryz.f72.body.getD .skip)) 0) (Nat.zero_lt_one) rfl Tryz.underlying103 (by decide)
  ⟨by kernel_rfl, by kernel_rfl, by kernel_rfl⟩ ⟨by kernel_rfl, by kernel_rfl, by kernel_rfl⟩ ⟨by kernel_rfl, by kernel_rfl, by kernel_rfl⟩ ⟨by kernel_rfl, by kernel_rfl, by kernel_rfl⟩ ⟨by kernel_rfl, by kernel_rfl, by kernel_rfl, by kernel_rfl⟩
  (by kernel_rfl) (by kernel_rfl) rfl (by decide) (by decide)
  (fun dn s => dn.Nodup ∧ (∀ i ∈ dn, i < es.length) ∧ ∃ v2 v3 τ, (dn = [] → v2 = .cv .nils) ∧ AccS 2 τ v2 dn.length ((dn.map fun i => (keysE es)[i]?.getD (0, 0)).flatMap rgC) ∧ s = ⟨[.map 0, .cv .nilf, v2, v3, .ptr 1 0], τ⟩)
  ⟨List.nodup_nil, by simp, .cv .nils, .undef, _, fun _ => rfl, AccS.nil _ _, rfl⟩ ?_ ?_ ?_
 ·rintro dn s' ⟨_, _, v2, v3, τ, _, _, rfl⟩
  rfl
 ·rintro dn s' i k a ⟨hnd, hdl, v2, v3, τ, hz, hA, rfl⟩ hid hi
  have hil : i < es.length := by have := (List.getElem?_eq_some_iff.1 hi).1; omega
  have hki : k = rgV ((keysE es)[i]?.getD (0, 0)) := by
   simp only [mapE, List.getElem?_map, Option.map_eq_some_iff] at hi
   obtain ⟨e, he, h⟩ := hi
   cases h
   simp [keysE, he]
  have hdn : dn.length ≤ es.length := by
   have := hnd.length_le_of_subset (l₂ := List.range es.length) fun i hi => List.mem_range.2 (hdl i hi)
   simpa using this
  have hmap : ((dn ++ [i]).map fun i => (keysE es)[i]?.getD (0, 0)).flatMap rgC = (dn.map fun i => (keysE es)[i]?.getD (0, 0)).flatMap rgC ++ rgC ((keysE es)[i]?.getD (0, 0)) := by simp
  generalize (keysE es)[i]?.getD (0, 0) = kr at hki hmap
  subst hki
  have hA1 : AccS 2 (τ ++ [AObj.cells [.i kr.1, .i kr.2]]) v2 dn.length ((dn.map fun i => (keysE es)[i]?.getD (0, 0)).flatMap rgC) := hA.push _
  obtain ⟨v', σ', happ, hA'⟩ := accS_append (by_ := 16) (x := rgC kr) hA1 rfl (by omega) (by omega)
  have happ' : f_append 2 16 [v2, .sl (τ ++ [AObj.cells [.i kr.1, .i kr.2]]).length 0 1 2] ((τ ++ [AObj.cells [.i kr.1, .i kr.2]]) ++ [AObj.cells [.i kr.1, .i kr.2]]) = some (v', σ') := happ
  refine RS_sound _ _ _ _ _ .mk .mk ?_
  simp only [is72, rowOf_az, set_az, evA, if_true, if_false, beq_false, simprocAttr]
  refine W.mono (IW_sound _ ic72c _ _ cc72c (IS_sound _ _ (fun e s' => e = .normal ∧ s' = ⟨[.map 0, .cv .nilf, v', .ptr τ.length 0, .ptr 1 0], σ'⟩) .mk .mk ?_)) ?_
  ·simp only [ic72c, rowOf_az, set_az, happ', evA, if_true, if_false, beq_false, simprocAttr]
  rintro e s2 ⟨rfl, rfl⟩
  refine ⟨_, Weak.refl _ _, ?_, ?_, v', _, σ', (fun h => absurd h (by simp)), ?_, rfl⟩
  ·exact List.nodup_append.2 ⟨hnd, by simp, fun a ha b hb => by simp at hb; subst hb; rintro rfl; exact hid ha⟩
  ·intro j hj
   rcases List.mem_append.1 hj with hj | hj
   ·exact hdl j hj
   ·simp at hj; subst hj; exact hil
  ·rw [List.length_append, hmap]
   exact hA'
 ·rintro dn s' ⟨hnd, hdl, v2, v3, τ, hz, hA, rfl⟩ hperm
  rw [hm] at hperm
  have hks : (dn.map fun i => (keysE es)[i]?.getD (0, 0)).Perm (keysE es) := by
   have := hperm.map fun i => (keysE es)[i]?.getD (0, 0)
   have hl : es.length = (keysE es).length := by simp [keysE]
   rw [hl, map_range_get] at this
   exact this
  have hsr := sortR_congr hks
  have hdl' : dn.length = (dn.map fun i => (keysE es)[i]?.getD (0, 0)).length := by simp
  rw [hdl'] at hA
  generalize (dn.map fun i => (keysE es)[i]?.getD (0, 0)) = ks at hA hks hsr hdl'
  have hkl : ks.length = es.length := by have := hperm.length_eq; simp at this; omega
  rw [← hsr]
  have sorted : ∃ τ', AC Tryz.prog 95 [v2, .fn (.func 96) []] τ (fun r τ2 => r = .tup [] ∧ τ2 = τ') ∧ AccS 2 τ' v2 (sortR ks).length ((sortR ks).flatMap rgC) := by
   rcases hA with ⟨rfl, h0, _⟩ | ⟨l, rfl, _, hr⟩
   ·have : ks = [] := List.eq_nil_of_length_eq_zero h0
    subst this
    exact ⟨τ, c95n τ, by rw [sortR_nil]; exact AccS.nil _ _⟩
   ·by_cases hk0 : 0 < ks.length
    ·refine ⟨_, c95 hk0 (by omega) hr, .inr ⟨l, by rw [sortR_len], by rw [flat_len rgC_len], ?_⟩⟩
     exact rowOf_set_self hr
    ·have hd0 : dn = [] := List.eq_nil_of_length_eq_zero (by omega)
     cases hz hd0
  obtain ⟨τ', hsort, hA2⟩ := sorted
  refine WX_seq hG (WX.of (W.mono (IW_sound _ ic72d _ _ cc72d (IS_sound _ _ (fun e s' => e = .normal ∧ s' = ⟨[.map 0, .cv .nilf, v2, v3, .ptr 1 0], τ'⟩) .mk .mk ?_)) ?_))
  ·simp only [ic72d, evA, if_true, if_false, beq_false, simprocAttr]
   refine hsort.run ?_
   simp only [evA, if_true, if_false, beq_false, simprocAttr]
  rintro e s' ⟨rfl, rfl⟩
  refine WX_seq hG (WX.of (W.mono (IW_sound _ ic72e _ _ cc72e (IS_sound _ _ (fun e s' => e = .normal ∧ s' = ⟨[.map 0, .fn (.func 118) [.ptr τ'.length 0], v2, v3, .ptr 1 0], τ' ++ [.cells [v2]]⟩) .mk .mk ?_)) ?_))
  ·simp only [ic72e, evA, if_true, if_false, beq_false, simprocAttr]
   refine (c99 v2 τ' ?_).run ?_
   ·rcases hA2 with ⟨rfl, _⟩ | ⟨l, rfl, _⟩ <;> exact ⟨rfl, rfl⟩
   simp only [evA, if_true, if_false, beq_false, simprocAttr]
  rintro e s' ⟨rfl, rfl⟩
  refine WX.of (W_ret ⟨.fn (.func 118) [.ptr τ'.length 0], rfl, eachV (sortR ks), ?_, rfl⟩)
  refine .fn (.cons (.c (.ptr _ _ [v2] _ (by rw [rowOf_az]; rfl) (.cons (accS_frzC (hA2.push _) (rgL_scl _)) .nil))) .nil)
end Go.Proofs.YtpnghcaccfnngaaGreatDoor.AM
namespace Go.Proofs.YtpnghcaccfnngaaGreatDoor.AM
variable [Dr]
open Go
abbrev formP : PanicEntry := { v := .iface 25 (.int .i64 6), recovered := false }
theorem hb82' : Tryz.f82.body = some (Tryz.f82.body.getD .skip) := by kernel_rfl
theorem sh82 : (Tryz.f82.body.getD .skip) = .seq (nav [0] (Tryz.f82.body.getD .skip)) (.cond (.tmp 3) (.region 1 #[regOp (nav [1, 0] (Tryz.f82.body.getD .skip)) 0, regOp (nav [1, 0] (Tryz.f82.body.getD .skip)) 1] false) .skip) := by kernel_rfl
def ic82a : IC := .region [⟨none, none, .prim .mv, [.v 0]⟩, ⟨some 1, none, .prim .not, [.t 0]⟩]
theorem cc82a : compC Tryz.prog [0, 3] 5 (nav [0] (Tryz.f82.body.getD .skip)) = some ic82a := by kernel_rfl
theorem n82 : Tryz.f82.ntmps = 5 := by kernel_rfl
theorem en82 : Enter Tryz.prog 82 := Enter_of Tryz.func82 (by kernel_rfl) hb82'
theorem c82t (σ : List AObj) : AC Tryz.prog 82 [.b true] σ fun r τ => r = .tup [] ∧ τ = σ := by
 refine AC_of_body (vars := [0, 3]) Tryz.func82 hb82' en82 (Nat.le_of_ble_eq_true (by kernel_rfl)) ?_
 rw [n82, sh82]
 refine W_seq (W.mono (IW_sound _ ic82a _ _ cc82a (IS_sound _ _ (fun e s' => e = .normal ∧ s' = ⟨[.b true, .b false], σ⟩) .mk .mk ?_)) ?_)
 ·simp only [ic82a, evA, if_true, if_false, beq_false, simprocAttr]
 rintro e s' ⟨rfl, rfl⟩
 refine W_cond (i := 1) (b := false) rfl rfl ?_
 exact W_skip ⟨.tup [], by kernel_rfl, rfl, rfl⟩
theorem c82p (σ : List AObj) : ACp Tryz.prog 82 [.b false] σ [formP] fun τ => τ = σ := by
 refine ACp_of_body (vars := [0, 3]) Tryz.func82 hb82' en82 (Nat.le_of_ble_eq_true (by kernel_rfl)) ?_
 rw [n82, sh82]
 refine W_seq (W.mono (IW_sound _ ic82a _ _ cc82a (IS_sound _ _ (fun e s' => e = .normal ∧ s' = ⟨[.b false, .b true], σ⟩) .mk .mk ?_)) ?_)
 ·simp only [ic82a, evA, if_true, if_false, beq_false, simprocAttr]
 rintro e s' ⟨rfl, rfl⟩
 refine W_cond (i := 1) (b := true) rfl rfl ?_
 simp only [if_true]
 intro m X en ac w hs hr
 have hsz := hs.size
 have g0 : (regOp (nav [1, 0] (Tryz.f82.body.getD .skip)) 0).op = .makeInterface 25 (.const (.int .i64 6)) ∧ (regOp (nav [1, 0] (Tryz.f82.body.getD .skip)) 0).dst = some 4 ∧ (regOp (nav [1, 0] (Tryz.f82.body.getD .skip)) 0).guard = none := ⟨by kernel_rfl, by kernel_rfl, by kernel_rfl⟩
 have g1 : (regOp (nav [1, 0] (Tryz.f82.body.getD .skip)) 1).op = .panic (.tmp 4) ∧ (regOp (nav [1, 0] (Tryz.f82.body.getD .skip)) 1).dst = none ∧ (regOp (nav [1, 0] (Tryz.f82.body.getD .skip)) 1).guard = none := ⟨by kernel_rfl, by kernel_rfl, by kernel_rfl⟩
 generalize (regOp (nav [1, 0] (Tryz.f82.body.getD .skip)) 0) = o0 at g0
 generalize (regOp (nav [1, 0] (Tryz.f82.body.getD .skip)) 1) = o1 at g1
 refine wpIn_region ?_
 show wpOpsIn (wfen none) 0 Tryz.prog #[o0, o1] _ [0, 1] ac w
 refine wp_opv (o := o0) (v := .iface 25 (.int .i64 6)) (w' := w) rfl g0.2.2 (by rw [g0.1]; simp) (by simp [execOp, g0.1, Act.eval, Instr.makeInterface]) ?_
 rw [g0.2.1]
 have hw : Region.wanted o1 (yielded #[o0, o1] (ac.put (some 4) (.iface 25 (.int .i64 6))).tmps) = true := by simp [Region.wanted, g1.2.2]
 have ho1 : (#[o0, o1] : Array Oper)[1]? = some o1 := rfl
 have hev : (ac.put (some 4) (.iface 25 (.int .i64 6))).eval (.tmp 4) = .iface 25 (.int .i64 6) := by
  have hsz' : ac.tmps.size = 5 := hsz
  simp [Act.eval, Act.put, Array.getD_eq_getD_getElem?, hsz']
 simp only [wpOpsIn, ho1, hw, if_true]
 refine ⟨fun _ _ => trivial, ?_⟩
 have hrun : (o1.semAt (wfen none).round (ac.put (some 4) (.iface 25 (.int .i64 6))).eval).run Tryz.prog w = .halt (.panic (.iface 25 (.int .i64 6))) w := by
  show (o1.semAt none _).run Tryz.prog w = _
  rw [Oper.semAt_none]
  simp only [execOp, g1.1, hev]
  rfl
 rw [hrun, Oper.uponIn_panic]
 exact ⟨⟨[.b false, .b true], σ⟩, m, ⟨rfl, rfl⟩, SRel.put_other (t := 4) (show (4 : Nat) ∉ [0, 3] by decide) hs, Step.refl _ _ _ _⟩
theorem hb76 : Tryz.f76.body = some (Tryz.f76.body.getD .skip) := by kernel_rfl
theorem en76 : Enter Tryz.prog 76 := Enter_of Tryz.func76 (by kernel_rfl) hb76
theorem sh76 : (Tryz.f76.body.getD .skip) = .seq (.region 0 #[regOp (nav [0] (Tryz.f76.body.getD .skip)) 0, regOp (nav [0] (Tryz.f76.body.getD .skip)) 1] false) (.seq (.region 1 #[regOp (nav [1, 0] (Tryz.f76.body.getD .skip)) 0, regOp (nav [1, 0] (Tryz.f76.body.getD .skip)) 1] false) (.cond (.tmp 5) (.region 2 #[regOp (nav [1, 1, 0] (Tryz.f76.body.getD .skip)) 0, regOp (nav [1, 1, 0] (Tryz.f76.body.getD .skip)) 1, regOp (nav [1, 1, 0] (Tryz.f76.body.getD .skip)) 2, regOp (nav [1, 1, 0] (Tryz.f76.body.getD .skip)) 3] true) .skip)) := by kernel_rfl
theorem n76 : Tryz.f76.ntmps = 8 := by kernel_rfl
theorem rs76 : Tryz.f76.results = #[] := by kernel_rfl
theorem neq_err (n : Int) {o : Oper} (ho : o.op = .binOp .neq 20 (.tmp 4) (.const .nilIface) 20) {ρ : Operand → Value} (h4 : ρ (.tmp 4) = .iface 25 (.int .i64 n)) (hc : ρ (.const .nilIface) = .nilIface) (w : World) : (execOp ρ o).run Tryz.prog w = .ok (.value (.bool true)) w := by
 simp only [execOp, ho, h4, hc]
 kernel_rfl
theorem neq_nil {o : Oper} (ho : o.op = .binOp .neq 20 (.tmp 4) (.const .nilIface) 20) {ρ : Operand → Value} (h4 : ρ (.tmp 4) = .nilIface) (hc : ρ (.const .nilIface) = .nilIface) (w : World) : (execOp ρ o).run Tryz.prog w = .ok (.value (.bool false)) w := by
 simp only [execOp, ho, h4, hc]
 kernel_rfl
theorem as_err (n : Int) (w : World) : (Instr.typeAssert (.iface 25 (.int .i64 n)) 20 25 false).run Tryz.prog w = .ok (.int .i64 n) w := by kernel_rfl
theorem prim_same {P : Program} {m : LM} {X : Nat → Prop} {σ σ' : List AObj} {w : World} {cm : Bool} {o : Oper} {io : IOp} {os : List Operand} {ρ : Operand → Value} {avs : List AV} {r : AV} (hc : compOp P cm o = some (io, os)) (h : HRel m X σ w) (ha : VRels m X w avs (os.map ρ)) (hs : stepF io avs σ = some (r, σ')) (hl : σ'.length = σ.length) :
  ∃ nx w', (execOp ρ o).run P w = .ok nx w' ∧ ((∃ v, nx = .value v ∧ VRel m X w' r v) ∨ (nx = .skip ∧ r = .undef)) ∧ HRel m X σ' w' ∧ Step σ.length m X w m w' := by
 obtain ⟨nx, w2, m2, hrun, hres2, hh2, hst2⟩ := prim_sound hc h ha hs
 have hm2 : m2 = m := by
  funext l'
  by_cases hl' : l' < σ.length
  ·exact hst2.keep l' hl'
  ·have e1 : m l' = none := by
    cases hml : m l' with
    | none => rfl
    | some b' => exact absurd (h.dom l' b' hml).1 hl'
   have e2 : m2 l' = none := by
    cases hml : m2 l' with
    | none => rfl
    | some b' => exact absurd (hl ▸ (hh2.dom l' b' hml).1) hl'
   rw [e1, e2]
 subst hm2
 exact ⟨nx, w2, hrun, hres2, hh2, hst2⟩
theorem d76r (a b : Nat) (σ : List AObj) : ACd Tryz.prog 76 [.ptr a 0, .ptr b 0] .returning σ fun τ => τ = σ := by
 refine ⟨en76, fun m X w cargs ha hh => ?_⟩
 obtain ⟨x, us, rfl, h1, k1⟩ := ha.cons
 obtain ⟨y, us, rfl, h2, k2⟩ := k1.cons
 have := VRels.nil' k2
 subst this
 refine callsDIn_of_wpSIn Tryz.func76 hb76 trivial fun c₀ cs hu => ?_
 rw [sh76, n76]
 have g0 : (regOp (nav [0] (Tryz.f76.body.getD .skip)) 0).op = .call { callee := .builtin .recover, args := #[], argTypes := #[] } ∧ (regOp (nav [0] (Tryz.f76.body.getD .skip)) 0).dst = some 3 ∧ (regOp (nav [0] (Tryz.f76.body.getD .skip)) 0).guard = none := ⟨by kernel_rfl, by kernel_rfl, by kernel_rfl⟩
 have g1 : (regOp (nav [0] (Tryz.f76.body.getD .skip)) 1).op = .assign (.tmp 3) ∧ (regOp (nav [0] (Tryz.f76.body.getD .skip)) 1).dst = some 2 ∧ (regOp (nav [0] (Tryz.f76.body.getD .skip)) 1).guard = none := ⟨by kernel_rfl, by kernel_rfl, by kernel_rfl⟩
 have g2 : (regOp (nav [1, 0] (Tryz.f76.body.getD .skip)) 0).op = .move (.tmp 2) ∧ (regOp (nav [1, 0] (Tryz.f76.body.getD .skip)) 0).dst = some 4 ∧ (regOp (nav [1, 0] (Tryz.f76.body.getD .skip)) 0).guard = none := ⟨by kernel_rfl, by kernel_rfl, by kernel_rfl⟩
 have g3 : (regOp (nav [1, 0] (Tryz.f76.body.getD .skip)) 1).op = .binOp .neq 20 (.tmp 4) (.const .nilIface) 20 ∧ (regOp (nav [1, 0] (Tryz.f76.body.getD .skip)) 1).dst = some 5 ∧ (regOp (nav [1, 0] (Tryz.f76.body.getD .skip)) 1).guard = none := ⟨by kernel_rfl, by kernel_rfl, by kernel_rfl⟩
 generalize (regOp (nav [0] (Tryz.f76.body.getD .skip)) 0) = o0 at g0
 generalize (regOp (nav [0] (Tryz.f76.body.getD .skip)) 1) = o1 at g1
 generalize (regOp (nav [1, 0] (Tryz.f76.body.getD .skip)) 0) = o2 at g2
 generalize (regOp (nav [1, 0] (Tryz.f76.body.getD .skip)) 1) = o3 at g3
 refine wpSIn_seq (wpSIn_region ?_)
 show wpOpsSIn Fence.wide 0 Tryz.prog #[o0, o1] _ [0, 1] _ (c₀ :: cs) w
 have hrec : ∀ (ac : Act), (execOp ac.eval o0).run Tryz.prog w = .ok .recover w := fun ac => by simp only [execOp, g0.1]; rfl
 have hro : recoverD (c₀ :: cs) = none := by simp [recoverD, hu]
 simp only [wpOpsSIn, show (#[o0, o1] : Array Oper)[0]? = some o0 from rfl, show (#[o0, o1] : Array Oper)[1]? = some o1 from rfl, show ∀ q, Region.wanted o0 q = true from fun q => by simp [Region.wanted, g0], show ∀ q, Region.wanted o1 q = true from fun q => by simp [Region.wanted, g1], if_true, hrec, hro, g0.2.1]
 have hasg : ∀ (ac : Act) (w : World), (execOp ac.eval o1).run Tryz.prog w = .ok (.value (ac.eval (.tmp 3))) w := fun ac w => by simp [execOp, g1.1]
 simp only [hasg, g1.2.1, Exit.thenS]
 refine ⟨fun _ _ => trivial, fun _ _ => trivial, ?_⟩
 refine wpSIn_seq (wpSIn_region ?_)
 show wpOpsSIn Fence.wide 0 Tryz.prog #[o2, o3] _ [0, 1] _ (c₀ :: cs) w
 have hmv : ∀ (ac : Act) (w : World), (execOp ac.eval o2).run Tryz.prog w = .ok (.value (ac.eval (.tmp 2))) w := fun ac w => by simp [execOp, g2.1]
 have hne : ∀ (ac : Act), ac.eval (.tmp 4) = .nilIface → ∀ w, (execOp ac.eval o3).run Tryz.prog w = .ok (.value (.bool false)) w := fun ac h w => neq_nil g3.1 h rfl w
 simp only [wpOpsSIn, show (#[o2, o3] : Array Oper)[0]? = some o2 from rfl, show (#[o2, o3] : Array Oper)[1]? = some o3 from rfl, show ∀ q, Region.wanted o2 q = true from fun q => by simp [Region.wanted, g2], show ∀ q, Region.wanted o3 q = true from fun q => by simp [Region.wanted, g3], if_true, hmv, g2.2.1]
 rw [hne _ (by simp [Act.eval, Act.put])]
 simp only [g3.2.1, Exit.thenS]
 refine ⟨fun _ _ => trivial, fun _ _ => trivial, ?_⟩
 refine wpSIn_cond (t := false) (by simp [Act.eval, Act.put]) ?_
 simp only [Bool.false_eq_true, if_false]
 refine wpSIn_of_wpIn rfl (wpIn_skip ?_)
 refine ⟨rfl, .returning, by rw [← hu], .tuple #[], by simp [results, rs76], ⟨_, rfl⟩, rfl, σ, m, rfl, hh, Step.refl _ _ _ _, Nat.le_refl _⟩
theorem HRel.drew {m : LM} {X : Nat → Prop} {σ : List AObj} {w : World} (hh : HRel m X σ w) : HRel m X σ w.drew := by
 have hm : Mono m X w m X w.drew := ⟨fun _ _ h => h, fun b hb _ => ⟨rfl, hb⟩, fun b c e h => ⟨c, h, rfl⟩⟩
 refine ⟨hh.xb, hh.dom, hh.own, hh.inj, fun l o ho => ?_⟩
 have := hh.obj l o ho
 cases hml : m l with
 | none => rw [hml] at this; cases o <;> simp [ORel] at this ⊢
 | some bb => rw [hml] at this; exact ORel.mono hm rfl this
theorem d76p {a b : Nat} {x0 y0 : AV} {σ : List AObj} {n : Int} (hab : a ≠ b) (ha0 : σ[a]? = some (.cells [x0])) (hb0 : σ[b]? = some (.cells [y0])) :
  ACd Tryz.prog 76 [.ptr a 0, .ptr b 0] (.panicking [{ v := .iface 25 (.int .i64 n), recovered := false }]) σ fun τ => τ = (σ.set a (.cells [.cv .nils])).set b (.cells [.i n]) := by
 refine ⟨en76, fun m X w cargs ha hh => ?_⟩
 obtain ⟨x, us, rfl, h1, k1⟩ := ha.cons
 obtain ⟨y, us, rfl, h2', k2⟩ := k1.cons
 have := VRels.nil' k2
 subst this
 refine callsDIn_of_wpSIn Tryz.func76 hb76 trivial fun c₀ cs hu => ?_
 rw [sh76, n76]
 have g0 : (regOp (nav [0] (Tryz.f76.body.getD .skip)) 0).op = .call { callee := .builtin .recover, args := #[], argTypes := #[] } ∧ (regOp (nav [0] (Tryz.f76.body.getD .skip)) 0).dst = some 3 ∧ (regOp (nav [0] (Tryz.f76.body.getD .skip)) 0).guard = none := ⟨by kernel_rfl, by kernel_rfl, by kernel_rfl⟩
 have g1 : (regOp (nav [0] (Tryz.f76.body.getD .skip)) 1).op = .assign (.tmp 3) ∧ (regOp (nav [0] (Tryz.f76.body.getD .skip)) 1).dst = some 2 ∧ (regOp (nav [0] (Tryz.f76.body.getD .skip)) 1).guard = none := ⟨by kernel_rfl, by kernel_rfl, by kernel_rfl⟩
 have g2 : (regOp (nav [1, 0] (Tryz.f76.body.getD .skip)) 0).op = .move (.tmp 2) ∧ (regOp (nav [1, 0] (Tryz.f76.body.getD .skip)) 0).dst = some 4 ∧ (regOp (nav [1, 0] (Tryz.f76.body.getD .skip)) 0).guard = none := ⟨by kernel_rfl, by kernel_rfl, by kernel_rfl⟩
 have g3 : (regOp (nav [1, 0] (Tryz.f76.body.getD .skip)) 1).op = .binOp .neq 20 (.tmp 4) (.const .nilIface) 20 ∧ (regOp (nav [1, 0] (Tryz.f76.body.getD .skip)) 1).dst = some 5 ∧ (regOp (nav [1, 0] (Tryz.f76.body.getD .skip)) 1).guard = none := ⟨by kernel_rfl, by kernel_rfl, by kernel_rfl⟩
 have g4 : (regOp (nav [1, 1, 0] (Tryz.f76.body.getD .skip)) 0).op = .move (.tmp 2) ∧ (regOp (nav [1, 1, 0] (Tryz.f76.body.getD .skip)) 0).dst = some 6 ∧ (regOp (nav [1, 1, 0] (Tryz.f76.body.getD .skip)) 0).guard = none := ⟨by kernel_rfl, by kernel_rfl, by kernel_rfl⟩
 have g5 : (regOp (nav [1, 1, 0] (Tryz.f76.body.getD .skip)) 1).op = .typeAssert (.tmp 6) 20 25 false ∧ (regOp (nav [1, 1, 0] (Tryz.f76.body.getD .skip)) 1).dst = some 7 ∧ (regOp (nav [1, 1, 0] (Tryz.f76.body.getD .skip)) 1).guard = none := ⟨by kernel_rfl, by kernel_rfl, by kernel_rfl⟩
 have g6 : (regOp (nav [1, 1, 0] (Tryz.f76.body.getD .skip)) 2).op = .store 39 (.tmp 0) (.const (.slice none 0 0)) ∧ (regOp (nav [1, 1, 0] (Tryz.f76.body.getD .skip)) 2).dst = none ∧ (regOp (nav [1, 1, 0] (Tryz.f76.body.getD .skip)) 2).guard = none := ⟨by kernel_rfl, by kernel_rfl, by kernel_rfl⟩
 have g7 : (regOp (nav [1, 1, 0] (Tryz.f76.body.getD .skip)) 3).op = .store 25 (.tmp 1) (.tmp 7) ∧ (regOp (nav [1, 1, 0] (Tryz.f76.body.getD .skip)) 3).dst = none ∧ (regOp (nav [1, 1, 0] (Tryz.f76.body.getD .skip)) 3).guard = none := ⟨by kernel_rfl, by kernel_rfl, by kernel_rfl⟩
 have q6 : compOp Tryz.prog false (regOp (nav [1, 1, 0] (Tryz.f76.body.getD .skip)) 2) = some (.store 1, [.tmp 0, .const (.slice none 0 0)]) := by kernel_rfl
 have q7 : compOp Tryz.prog false (regOp (nav [1, 1, 0] (Tryz.f76.body.getD .skip)) 3) = some (.store 1, [.tmp 1, .tmp 7]) := by kernel_rfl
 have hdirs : dirsOf #[regOp (nav [1, 1, 0] (Tryz.f76.body.getD .skip)) 0, regOp (nav [1, 1, 0] (Tryz.f76.body.getD .skip)) 1, regOp (nav [1, 1, 0] (Tryz.f76.body.getD .skip)) 2, regOp (nav [1, 1, 0] (Tryz.f76.body.getD .skip)) 3] = [[], [0], [], [1, 2, 0, 1, 2]] := by kernel_rfl
 generalize (regOp (nav [0] (Tryz.f76.body.getD .skip)) 0) = o0 at g0
 generalize (regOp (nav [0] (Tryz.f76.body.getD .skip)) 1) = o1 at g1
 generalize (regOp (nav [1, 0] (Tryz.f76.body.getD .skip)) 0) = o2 at g2
 generalize (regOp (nav [1, 0] (Tryz.f76.body.getD .skip)) 1) = o3 at g3
 generalize (regOp (nav [1, 1, 0] (Tryz.f76.body.getD .skip)) 0) = o4 at g4 hdirs
 generalize (regOp (nav [1, 1, 0] (Tryz.f76.body.getD .skip)) 1) = o5 at g5 hdirs
 generalize (regOp (nav [1, 1, 0] (Tryz.f76.body.getD .skip)) 2) = o6 at g6 q6 hdirs
 generalize (regOp (nav [1, 1, 0] (Tryz.f76.body.getD .skip)) 3) = o7 at g7 q7 hdirs
 refine wpSIn_seq (wpSIn_region ?_)
 show wpOpsSIn Fence.wide 0 Tryz.prog #[o0, o1] _ [0, 1] _ (c₀ :: cs) w
 have hrec : ∀ (ac : Act), (execOp ac.eval o0).run Tryz.prog w = .ok .recover w := fun ac => by simp only [execOp, g0.1]; rfl
 have hro : recoverD (c₀ :: cs) = some (.iface 25 (.int .i64 n), { c₀ with mode := .panicking [{ v := .iface 25 (.int .i64 n), recovered := true }] } :: cs) := by simp [recoverD, hu]
 simp only [wpOpsSIn, show (#[o0, o1] : Array Oper)[0]? = some o0 from rfl, show (#[o0, o1] : Array Oper)[1]? = some o1 from rfl, show ∀ q, Region.wanted o0 q = true from fun q => by simp [Region.wanted, g0], show ∀ q, Region.wanted o1 q = true from fun q => by simp [Region.wanted, g1], if_true, hrec, hro, g0.2.1]
 have hasg : ∀ (ac : Act) (w : World), (execOp ac.eval o1).run Tryz.prog w = .ok (.value (ac.eval (.tmp 3))) w := fun ac w => by simp [execOp, g1.1]
 simp only [hasg, g1.2.1, Exit.thenS]
 refine ⟨fun _ _ => trivial, fun _ _ => trivial, ?_⟩
 refine wpSIn_seq (wpSIn_region ?_)
 show wpOpsSIn Fence.wide 0 Tryz.prog #[o2, o3] _ [0, 1] _ _ w
 have hmv : ∀ (ac : Act) (w : World), (execOp ac.eval o2).run Tryz.prog w = .ok (.value (ac.eval (.tmp 2))) w := fun ac w => by simp [execOp, g2.1]
 have hne : ∀ (ac : Act), ac.eval (.tmp 4) = .iface 25 (.int .i64 n) → ∀ w, (execOp ac.eval o3).run Tryz.prog w = .ok (.value (.bool true)) w := fun ac h w => neq_err n g3.1 h rfl w
 simp only [wpOpsSIn, show (#[o2, o3] : Array Oper)[0]? = some o2 from rfl, show (#[o2, o3] : Array Oper)[1]? = some o3 from rfl, show ∀ q, Region.wanted o2 q = true from fun q => by simp [Region.wanted, g2], show ∀ q, Region.wanted o3 q = true from fun q => by simp [Region.wanted, g3], if_true, hmv, g2.2.1]
 rw [hne _ (by simp [Act.eval, Act.put])]
 simp only [g3.2.1, Exit.thenS]
 refine ⟨fun _ _ => trivial, fun _ _ => trivial, ?_⟩
 refine wpSIn_cond (t := true) (by simp [Act.eval, Act.put]) ?_
 simp only [if_true]
 generalize hac : (((((({ tmps := #[x, y] ++ Array.replicate (8 - #[x, y].size) undef, defers := [] } : Act).put (some 3) (.iface 25 (.int .i64 n))).put (some 2) _).put (some 4) _).put (some 5) _)) = ac0
 have e0 : ac0.tmps.size = 8 ∧ ac0.defers = [] ∧ ac0.tmps.getD 0 undef = x ∧ ac0.tmps.getD 1 undef = y ∧ ac0.tmps.getD 2 undef = .iface 25 (.int .i64 n) := by
  rw [← hac]
  simp [Act.put, Act.eval]
 clear hac
 have hsa : a < σ.length := (List.getElem?_eq_some_iff.1 ha0).1
 have hsb : b < σ.length := (List.getElem?_eq_some_iff.1 hb0).1
 let σD : List Nat → List AObj := fun D => if 3 ∈ D then (if 2 ∈ D then σ.set a (.cells [.cv .nils]) else σ).set b (.cells [.i n]) else (if 2 ∈ D then σ.set a (.cells [.cv .nils]) else σ)
 have hσl : ∀ D, (σD D).length = σ.length := fun D => by simp only [σD]; split <;> split <;> simp
 let dirs : List (List Nat) := [[], [0], [], [1, 2, 0, 1, 2]]
 have hdir : ∀ i, i < 4 → dirOf #[o4, o5, o6, o7] i = dirs.getD i [] := fun i hi => by
  have : (dirsOf #[o4, o5, o6, o7]).getD i [] = dirs.getD i [] := by rw [hdirs]
  rw [← this]; simp [dirsOf, List.getD, hi]
 let Inv : List Nat → Act → World → Prop := fun D ac w1 => ac.tmps.size = 8 ∧ ac.defers = [] ∧ ac.tmps.getD 0 undef = x ∧ ac.tmps.getD 1 undef = y ∧ ac.tmps.getD 2 undef = .iface 25 (.int .i64 n) ∧ (0 ∈ D → ac.tmps.getD 6 undef = .iface 25 (.int .i64 n)) ∧ (1 ∈ D → ac.tmps.getD 7 undef = .int .i64 n) ∧
  HRel m X (σD D) w1 ∧ Step σ.length m X w m w1 ∧ (∀ i ∈ D, ∀ e ∈ dirs.getD i [], e ∈ D)
 refine wpSIn_of_wpIn rfl (wpIn_region_draw fun t => ?_)
 have hsch : Region.schedule (Tryz.prog.follows .mixedOrders) #[o4, o5, o6, o7] t = Region.linearise .any #[o4, o5, o6, o7] t := by simp [Region.schedule, hmix]
 rw [hsch]
 refine wp_sched (ro := none) (n := 4) (dir := dirOf #[o4, o5, o6, o7]) Inv ?_ ?_ _ [] ac0 w.drew (sched_of_linearise (ops := #[o4, o5, o6, o7]) (fun i hi e he => by
  rw [hdir i hi] at he
  have hi : i < 4 := hi
  have : i = 0 ∨ i = 1 ∨ i = 2 ∨ i = 3 := by omega
  rcases this with rfl | rfl | rfl | rfl <;> simp [dirs] at he <;> omega) t) ?_
 rotate_left
 ·rintro D ac w1 hall ⟨i1, i2, i3, i4, i5, i6, i7, i8, i9, i10⟩
  refine ⟨i2, .panicking [{ v := .iface 25 (.int .i64 n), recovered := true }], rfl, .tuple #[], by simp [results, rs76], ⟨_, rfl⟩, rfl, σD D, m, ?_, i8, i9, by rw [hσl]; exact Nat.le_refl _⟩
  simp only [σD, hall 3 (by omega), hall 2 (by omega), if_true]
 ·exact ⟨e0.1, e0.2.1, e0.2.2.1, e0.2.2.2.1, e0.2.2.2.2, by simp, by simp, by
   simp only [σD, List.not_mem_nil, if_false]
   exact HRel.drew hh, Step.of_heap rfl rfl rfl rfl (Nat.le_succ _), by simp⟩
 rintro D i ac w1 hi4 hiD hdep ⟨i1, i2, i3, i4, i5, i6, i7, i8, i9, i10⟩
 rw [hdir i hi4] at hdep
 have hcl : ∀ j ∈ i :: D, ∀ e ∈ dirs.getD j [], e ∈ i :: D := fun j hj e he => by
  rcases List.mem_cons.1 hj with rfl | hj
  ·exact List.mem_cons_of_mem _ (hdep e he)
  ·exact List.mem_cons_of_mem _ (i10 j hj e he)
 have h3D : 3 ∉ D := fun h => by
  have : i < 3 := by
   rcases Nat.lt_or_ge i 3 with h' | h'
   ·exact h'
   ·have : i = 3 := by omega
    subst this; exact absurd h hiD
  have : i = 0 ∨ i = 1 ∨ i = 2 := by omega
  exact hiD (i10 3 h i (by rcases this with rfl | rfl | rfl <;> simp [dirs]))
 have hcase : i = 0 ∨ i = 1 ∨ i = 2 ∨ i = 3 := by omega
 rcases hcase with rfl | rfl | rfl | rfl
 ·refine ⟨o4, .iface 25 (.int .i64 n), w1, rfl, g4.2.2, by rw [g4.1]; simp, .inl (by simp [execOp, g4.1, Act.eval, i5]), ?_⟩
  rw [g4.2.1]
  refine ⟨by simpa [Act.put] using i1, i2, ?_, ?_, ?_, fun _ => by simp [Act.put, Array.getD_eq_getD_getElem?, i1], fun h => ?_, by simpa [σD] using i8, i9, hcl⟩
  ·simpa [Act.put, Array.getD_eq_getD_getElem?] using i3
  ·simpa [Act.put, Array.getD_eq_getD_getElem?] using i4
  ·simpa [Act.put, Array.getD_eq_getD_getElem?] using i5
  ·have := i7 (by simpa using h)
   simpa [Act.put, Array.getD_eq_getD_getElem?] using this
 ·have h6 := i6 (hdep 0 (by simp [dirs]))
  refine ⟨o5, .int .i64 n, w1, rfl, g5.2.2, by rw [g5.1]; simp, .inl (by simp only [execOp, g5.1, Act.eval, h6]; simp only [Sem.run_bind, as_err, Result.andThen_ok, Sem.run_pure]), ?_⟩
  rw [g5.2.1]
  refine ⟨by simpa [Act.put] using i1, i2, ?_, ?_, ?_, fun h => ?_, fun h => by simp [Act.put, Array.getD_eq_getD_getElem?, i1], by simpa [σD] using i8, i9, hcl⟩
  ·simpa [Act.put, Array.getD_eq_getD_getElem?] using i3
  ·simpa [Act.put, Array.getD_eq_getD_getElem?] using i4
  ·simpa [Act.put, Array.getD_eq_getD_getElem?] using i5
  ·have := i6 (by simpa using h)
   simpa [Act.put, Array.getD_eq_getD_getElem?] using this
 ·have hev : VRels m X w1 [.ptr a 0, .cv .nils] (([.tmp 0, .const (.slice none 0 0)] : List Operand).map ac.eval) := by
   simp only [List.map_cons, List.map_nil, VRels]
   refine ⟨?_, ?_, trivial⟩
   ·simp only [Act.eval, i3]; simpa only [VRel] using h1
   ·simp [VRel, CV.rep, Act.eval]
  have hσ0 : σD D = σ := by simp [σD, h3D, hiD]
  rw [hσ0] at i8
  have hstep : stepF (.store 1) [.ptr a 0, .cv .nils] σ = some (.undef, σ.set a (.cells [.cv .nils])) := by
   have hrw : rowOf σ a = some [x0] := by simp [rowOf, ha0]
   simp [stepF, f_store, hrw, cellsOf, setRange, AV.isSc]
  obtain ⟨nx, w2, hrun, hres2, hh2, hst2⟩ := prim_same q6 i8 hev hstep (by simp)
  have h2D : σD (2 :: D) = σ.set a (.cells [.cv .nils]) := by simp [σD, h3D]
  have key : ∀ v, Inv (2 :: D) (ac.put o6.dst v) w2 := by
   intro v
   rw [g6.2.1]
   exact ⟨i1, i2, i3, i4, i5, fun h => i6 (by simpa using h), fun h => i7 (by simpa using h), by rw [h2D]; exact hh2, i9.trans hst2, hcl⟩
  rcases hres2 with ⟨c, rfl, hv⟩ | ⟨rfl, hu'⟩
  ·exact ⟨o6, c, w2, rfl, g6.2.2, by rw [g6.1]; simp, .inl hrun, key c⟩
  ·exact ⟨o6, undef, w2, rfl, g6.2.2, by rw [g6.1]; simp, .inr ⟨hrun, rfl⟩, key _⟩
 ·have h2 : 2 ∈ D := hdep 2 (by simp [dirs])
  have h7 := i7 (hdep 1 (by simp [dirs]))
  have hev : VRels m X w1 [.ptr b 0, .i n] (([.tmp 1, .tmp 7] : List Operand).map ac.eval) := by
   simp only [List.map_cons, List.map_nil, VRels]
   refine ⟨?_, ?_, trivial⟩
   ·simp only [Act.eval, i4]; simpa only [VRel] using h2'
   ·simp [VRel, CV.rep, Act.eval, h7]
  have hσ0 : σD D = σ.set a (.cells [.cv .nils]) := by simp [σD, h3D, h2]
  rw [hσ0] at i8
  have hstep : stepF (.store 1) [.ptr b 0, .i n] (σ.set a (.cells [.cv .nils])) = some (.undef, (σ.set a (.cells [.cv .nils])).set b (.cells [.i n])) := by
   have hrw : rowOf (σ.set a (.cells [.cv .nils])) b = some [y0] := by simp [rowOf, List.getElem?_set_ne hab, hb0]
   simp [stepF, f_store, hrw, cellsOf, setRange, AV.isSc]
  obtain ⟨nx, w2, hrun, hres2, hh2, hst2⟩ := prim_same q7 i8 hev hstep (by simp)
  have h2D : σD (3 :: D) = (σ.set a (.cells [.cv .nils])).set b (.cells [.i n]) := by simp [σD, h2]
  have key : ∀ v, Inv (3 :: D) (ac.put o7.dst v) w2 := by
   intro v
   rw [g7.2.1]
   refine ⟨i1, i2, i3, i4, i5, fun h => i6 (by simpa using h), fun h => i7 (by simpa using h), by rw [h2D]; exact hh2, i9.trans (by simpa using hst2), hcl⟩
  rcases hres2 with ⟨c, rfl, hv⟩ | ⟨rfl, hu'⟩
  ·exact ⟨o7, c, w2, rfl, g7.2.2, by rw [g7.1]; simp, .inl hrun, key c⟩
  ·exact ⟨o7, undef, w2, rfl, g7.2.2, by rw [g7.1]; simp, .inr ⟨hrun, rfl⟩, key _⟩
structure IsDate (D : Int) (j k : Nat) : Prop where
 k12 : k < 12
 lo : begF j + sumL (2000 + (j : Int)) k ≤ D
 hi : D < begF j + sumL (2000 + (j : Int)) (k + 1)
 top : D ≤ 40000
theorem sumL_12 (y : Int) : sumL y 12 = 337 + longF y 2 := by
 simp [sumL, longF]; omega
theorem begF_sum (j : Nat) : begF (j + 1) = begF j + sumL (2000 + (j : Int)) 12 := by rw [sumL_12, begF]; omega
theorem sumL_mono (y : Int) : ∀ {a b : Nat}, a ≤ b → sumL y a ≤ sumL y b := by
 intro a b h
 induction h with
 | refl => exact Int.le_refl _
 | step h ih => have := longF_ran y (((‹Nat› : Nat) : Int) + 1); simp only [sumL]; omega
theorem begF_ge : ∀ j : Nat, 365 * (j : Int) ≤ begF j ∧ begF j ≤ 366 * (j : Int)
 | 0 => by simp [begF]
 | j + 1 => by
  have := begF_ge j
  have h2 : 28 ≤ longF (2000 + (j : Int)) 2 ∧ longF (2000 + (j : Int)) 2 ≤ 29 := by
   simp only [longF]; simp; split <;> omega
  unfold begF; omega
theorem begF_mono {a b : Nat} (h : a ≤ b) : begF a ≤ begF b := by
 induction h with
 | refl => exact Int.le_refl _
 | step h ih => have := longF_ran (2000 + ((‹Nat› : Nat) : Int)) 2; simp only [begF]; omega
theorem IsDate.year {D : Int} {j k : Nat} (h : IsDate D j k) : begF j ≤ D ∧ D < begF (j + 1) ∧ j ≤ 110 := by
 have h1 := sumL_ran (2000 + (j : Int)) k
 have h2 := sumL_mono (2000 + (j : Int)) (show k + 1 ≤ 12 from h.k12)
 have h3 := begF_sum j
 have h4 := begF_ge j
 have := h.lo; have := h.hi; have := h.top
 omega
theorem isDate_ex : ∀ n : Nat, n ≤ 40000 → ∃ j k, IsDate n j k
 | 0, _ => ⟨0, 0, by omega, by simp [begF, sumL], by simp [begF, sumL, longF], by omega⟩
 | n + 1, hn => by
  obtain ⟨j, k, h⟩ := isDate_ex n (by omega)
  have h1 := h.k12; have h2 := h.lo; have h3 := h.hi
  by_cases h4 : ((n + 1 : Nat) : Int) < begF j + sumL (2000 + (j : Int)) (k + 1)
  ·exact ⟨j, k, h1, by omega, h4, by omega⟩
  ·by_cases h5 : k + 1 < 12
   ·refine ⟨j, k + 1, h5, by omega, ?_, by omega⟩
    have := longF_ran (2000 + (j : Int)) (((k + 1 : Nat) : Int) + 1)
    rw [sumL]; omega
   ·have hk : k + 1 = 12 := by omega
    have h6 := begF_sum j
    rw [hk] at h3 h4
    refine ⟨j + 1, 0, by omega, by simp only [sumL]; omega, ?_, by omega⟩
    have := longF_ran (2000 + ((j + 1 : Nat) : Int)) (((0 : Nat) : Int) + 1)
    simp only [sumL]; omega
theorem isDate_of {D : Int} (h0 : 0 ≤ D) (h1 : D ≤ 40000) : ∃ j k, IsDate D j k := by
 obtain ⟨n, rfl⟩ : ∃ n : Nat, D = n := ⟨D.toNat, by omega⟩
 exact isDate_ex n (by omega)
abbrev dateA (D : Int) (j k : Nat) : AV := .agg [.i (2000 + (j : Int)), .i ((k : Int) + 1), .i (D - begF j - sumL (2000 + (j : Int)) k + 1)]
theorem c22n (D : Int) (h : inB D 0 40000 = false) : PC Tryz.prog 22 [.i D] (.tup [.agg [.i 0, .i 0, .i 0], .i 7]) := by
 refine ⟨AC_FE (fok22 true) (Nat.le_of_ble_eq_true rfl) ?_, rfl⟩
 simp only [ic22, evA, if_true, if_false, beq_false, simprocAttr]
 refine (c56 0 40000 [D] (by simp)).call frz ?_
 rw [outF_one, h]
 simp only [Bool.not_false, evA, if_true, if_false, beq_false, simprocAttr]
 exact frz
theorem years_beg (j : Nat) (hj : j ≤ 111) : PC Tryz.prog 58 [.i (2000 + (j : Int))] (.i (begF j)) := by
 have := c58 (2000 + (j : Int)) j rfl (by omega) (by omega)
 rwa [← begF_eq j (by omega)] at this
theorem c22 {D : Int} {j k : Nat} (h : IsDate D j k) : PC Tryz.prog 22 [.i D] (.tup [dateA D j k, .i 0]) := by
 obtain ⟨hy1, hy2, hj⟩ := h.year
 have hb0 := begF_ge j
 have hD0 : 0 ≤ D := by omega
 have htop := h.top
 have hin : inB D 0 40000 = true := inB_iff.2 ⟨hD0, h.top⟩
 have hin' : (!inB D 0 40000) = false := by rw [hin]; rfl
 obtain ⟨q, hq⟩ : ∃ q : Nat, D.tdiv 366 = q := ⟨(D.tdiv 366).toNat, by rw [Int.tdiv_eq_ediv_of_nonneg hD0]; omega⟩
 have hqe : (q : Int) = D / 366 := by rw [← hq, Int.tdiv_eq_ediv_of_nonneg hD0]
 have hqj : q ≤ j := by
  rcases Nat.lt_or_ge j q with hlt | hge
  ·have h1 := begF_mono (show j + 1 ≤ q from hlt)
   have h2 := begF_ge q
   omega
  ·exact hge
 have hw0 : IntKind.i64.wrap (q : Int) = q := wrap_in (by omega)
 have hw1 : IntKind.i64.wrap (2000 + (q : Int)) = 2000 + (q : Int) := wrap_in (by omega)
 refine ⟨AC_FE (fok22 true) (Nat.le_of_ble_eq_true rfl) ?_, rfl⟩
 simp only [ic22, evA, if_true, if_false, beq_false, simprocAttr]
 refine (c56 0 40000 [D] (by simp)).call frz ?_
 rw [outF_one, hin']
 simp only [hq, hw0, hw1, evA, if_true, if_false, beq_false, simprocAttr]
 refine IL_for j (fun i s => ∃ v4 v6 v7 v8 v9 v10, s = ⟨[.i D, .ptr 0 0, .i 0, .ptr 2 0, v4, .b false, v6, v7, v8, v9, v10], [.cells [.i 0, .i 0, .i 0], .cells [.i D], .cells [.i (2000 + (i : Int)), .i 1, .i 0]]⟩) ?_ q hqj ⟨_, _, _, _, _, _, rfl⟩
 rintro i s hi ⟨v4, v6, v7, v8, v9, v10, rfl⟩
 have hwi : IntKind.i64.wrap (2000 + (i : Int) + 1) = 2000 + ((i + 1 : Nat) : Int) := by rw [wrap_in (by omega)]; omega
 by_cases hlt : i < j
 ·have hle : decide (begF (i + 1) ≤ D) = true := decide_eq_true (by have := begF_mono (show i + 1 ≤ j from hlt); omega)
  simp only [ic22l1, hwi, evA, if_true, if_false, beq_false, simprocAttr]
  refine (years_beg (i + 1) (by omega)).call frz ?_
  simp only [hle, hwi, evA, if_true, if_false, beq_false, simprocAttr]
  exact kFor_go (by first | trivial | omega) ⟨_, _, _, _, _, _, rfl⟩
 have hij : i = j := by omega
 subst hij
 have hle : decide (begF (i + 1) ≤ D) = false := decide_eq_false (by omega)
 simp only [ic22l1, hwi, evA, if_true, if_false, beq_false, simprocAttr]
 refine (years_beg (i + 1) (by omega)).call frz ?_
 simp only [hle, evA, if_true, if_false, beq_false, simprocAttr]
 refine (years_beg i (by omega)).call frz ?_
 have hws : IntKind.i64.wrap (D - begF i) = D - begF i := wrap_in (by omega)
 simp only [hws, evA, if_true, if_false, beq_false, simprocAttr]
 refine (c57 (2000 + (i : Int))).call frz ?_
 simp only [evA, if_true, if_false, beq_false, simprocAttr]
 have hlo := h.lo; have hhi := h.hi; have hk := h.k12
 obtain ⟨y, hy⟩ : ∃ y, y = 2000 + (i : Int) := ⟨_, rfl⟩
 rw [← hy] at hlo hhi ⊢
 refine IL_for k (fun t s => ∃ v4 v6 v9 v10, s = ⟨[.i (D - begF i - sumL y t), .ptr 0 0, .i 0, .ptr 2 0, v4, .b false, v6, .agg ((lenL y).map AV.i), .i t, v9, v10], [.cells [.i 0, .i 0, .i 0], .cells [.i D], .cells [.i y, .i ((t : Int) + 1), .i 0]]⟩) ?_ 0 (Nat.zero_le _) ⟨_, _, _, _, by simp [sumL]; trivial⟩
 rintro t s ht ⟨v4, v6, v9, v10, rfl⟩
 have ht12 : decide ((t : Int) < 12) = true := decide_eq_true (by omega)
 have hldt : ((lenL y).map AV.i)[t * 1]? = some (.i (longF y ((t : Int) + 1))) := by
  have := lenL_len y
  have h2 := long_len y t (by omega)
  rw [Nat.mul_one, List.getElem?_map, List.getElem?_eq_getElem (by omega)]
  rw [List.getElem?_eq_getElem (by omega)] at h2
  simp at h2
  simp [h2]
 have hix : ∀ σ, f_ixA 12 1 1 false [.agg ((lenL y).map AV.i), .cv (.int .i64 t)] σ = some (.i (longF y ((t : Int) + 1)), σ) := fun σ => by
  simp only [f_ixA, Int.toNat_natCast, hldt]
  rw [if_pos (by omega)]; rfl
 have hsr := sumL_ran y t
 have hlr := longF_ran y ((t : Int) + 1)
 have hsk := sumL_mono y ht
 by_cases htk : t < k
 ·have hst := sumL_mono y (show t + 1 ≤ k from htk)
  rw [sumL] at hst
  have hnl : decide (D - begF i - sumL y t < longF y ((t : Int) + 1)) = false := decide_eq_false (by omega)
  have hws2 : IntKind.i64.wrap (D - begF i - sumL y t - longF y ((t : Int) + 1)) = D - begF i - sumL y (t + 1) := by rw [sumL, wrap_in (by omega)]; omega
  have hws3 : IntKind.i64.wrap ((t : Int) + 1 + 1) = ((t + 1 : Nat) : Int) + 1 := by rw [wrap_in (by omega)]; omega
  have hws4 : IntKind.i64.wrap ((t : Int) + 1) = ((t + 1 : Nat) : Int) := wrap_succ (by omega)
  simp only [ic22l0, ht12, hix, hnl, hws2, hws3, hws4, evA, if_true, if_false, beq_false, simprocAttr]
  exact kFor_go (by first | trivial | omega) ⟨_, _, _, _, rfl⟩
 have htk' : t = k := by omega
 subst htk'
 rw [sumL] at hhi
 have hnl : decide (D - begF i - sumL y t < longF y ((t : Int) + 1)) = true := decide_eq_true (by omega)
 have hws2 : IntKind.i64.wrap (D - begF i - sumL y t + 1) = D - begF i - sumL y t + 1 := wrap_in (by omega)
 subst hy
 simp only [ic22l0, ht12, hix, hnl, hws2, evA, if_true, if_false, beq_false, simprocAttr]
 exact frz
abbrev dOf (D : Int) (j k : Nat) : Int := D - begF j - sumL (2000 + (j : Int)) k + 1
abbrev yPl (j k : Nat) (ys ms : Int) : Int := 2000 + (j : Int) + (ys + (ms + k) / 12)
abbrev mPl (k : Nat) (ms : Int) : Int := (ms + k) % 12 + 1
def plusV (D : Int) (j k : Nat) (ys ms : Int) : AV := dayV (yPl j k ys ms) (mPl k ms) (min (dOf D j k) (longF (yPl j k ys ms) (mPl k ms)))
theorem IsDate.dd {D : Int} {j k : Nat} (h : IsDate D j k) : 1 ≤ dOf D j k ∧ dOf D j k ≤ longF (2000 + (j : Int)) ((k : Int) + 1) := by
 have h1 := h.lo; have h2 := h.hi
 rw [sumL] at h2
 unfold dOf; omega
theorem dayV_ok {y m d : Int} (hm : 1 ≤ m ∧ m ≤ 12) (hd : 1 ≤ d ∧ d ≤ longF y m) : dayV y m d = if inB y 2000 2200 = false then .tup [.i 0, .i 7] else if dayT y m d > 40000 then .tup [.i 0, .i 7] else .tup [.i (dayT y m d), .i 0] := by
 obtain ⟨k, hk⟩ : ∃ k : Nat, m - 1 = (k : Int) := ⟨(m - 1).toNat, by omega⟩
 have hm1 : inB m 1 12 = true := inB_iff.2 hm
 unfold dayV
 rw [hm1, hk, Int.toNat_natCast, long_len y k (by omega), show (k : Int) + 1 = m by omega, inB_iff.2 hd]
 rfl
theorem dayV_cases {y m d : Int} (hm : 1 ≤ m ∧ m ≤ 12) (hd : 1 ≤ d ∧ d ≤ longF y m) : dayV y m d = .tup [.i 0, .i 7] ∨ ∃ n, dayV y m d = .tup [.i n, .i 0] := by
 rw [dayV_ok hm hd]
 split
 ·exact .inl rfl
 ·split
  ·exact .inl rfl
  ·exact .inr ⟨_, rfl⟩
theorem c24n (D ys ms : Int) (h : (inB D 0 40000 && (inB ys 0 100 && inB ms 0 1200)) = false) : PC Tryz.prog 24 [.i D, .i ys, .i ms] (.tup [.i 0, .i 7]) := by
 refine ⟨AC_FE (fok24 true) (Nat.le_of_ble_eq_true rfl) ?_, rfl⟩
 cases h1 : inB D 0 40000 with
 | false =>
  simp only [ic24, evA, if_true, if_false, beq_false, simprocAttr]
  refine (c22n D h1).call frz ?_
  simp only [evA, if_true, if_false, beq_false, simprocAttr]
  exact frz
 | true =>
  obtain ⟨j, k, hd⟩ := isDate_of (inB_iff.1 h1).1 (inB_iff.1 h1).2
  simp only [ic24, evA, if_true, if_false, beq_false, simprocAttr]
  refine (c22 hd).call frz ?_
  simp only [evA, if_true, if_false, beq_false, simprocAttr]
  refine (c56 0 100 [ys] (by simp)).call frz ?_
  rw [outF_one]
  cases h2 : inB ys 0 100 with
  | false =>
   simp only [Bool.not_false, evA, if_true, if_false, beq_false, simprocAttr]
   exact frz
  | true =>
   rw [h1, h2] at h
   simp only [Bool.true_and] at h
   simp only [Bool.not_true, evA, if_true, if_false, beq_false, simprocAttr]
   refine (c56 0 1200 [ms] (by simp)).call frz ?_
   rw [outF_one, h]
   simp only [Bool.not_false, evA, if_true, if_false, beq_false, simprocAttr]
   exact frz
theorem c24 {D : Int} {j k : Nat} (hd : IsDate D j k) {ys ms : Int} (hy : 0 ≤ ys ∧ ys ≤ 100) (hm : 0 ≤ ms ∧ ms ≤ 1200) : PC Tryz.prog 24 [.i D, .i ys, .i ms] (plusV D j k ys ms) := by
 have hj := hd.year
 have hdd := hd.dd
 have hlr0 := longF_ran (2000 + (j : Int)) ((k : Int) + 1)
 refine ⟨AC_FE (fok24 true) (Nat.le_of_ble_eq_true rfl) ?_, by unfold plusV dayV; repeat (split <;> try rfl)⟩
 have hk := hd.k12
 have hb := begF_ge j
 have h1 : (!inB D 0 40000) = false := by rw [inB_iff.2 ⟨by omega, hd.top⟩]; rfl
 have h2 : (!inB ys 0 100) = false := by rw [inB_iff.2 hy]; rfl
 have h3 : (!inB ms 0 1200) = false := by rw [inB_iff.2 hm]; rfl
 have hw1 : IntKind.i64.wrap ((k : Int) + 1 - 1) = k := by rw [wrap_in (by omega)]; omega
 have hw2 : IntKind.i64.wrap (ms + k) = ms + k := wrap_in (by omega)
 have hq : (ms + k).tdiv 12 = (ms + k) / 12 := Int.tdiv_eq_ediv_of_nonneg (by omega)
 have hr : (ms + k).tmod 12 = (ms + k) % 12 := Int.tmod_eq_emod_of_nonneg (by omega)
 unfold plusV yPl mPl
 unfold dOf at hdd ⊢
 obtain ⟨q, hqe⟩ : ∃ q, (ms + k) / 12 = q := ⟨_, rfl⟩
 obtain ⟨r, hre⟩ : ∃ r : Nat, (ms + k) % 12 = (r : Int) := ⟨((ms + k) % 12).toNat, by omega⟩
 have hq0 : 0 ≤ q ∧ q ≤ 101 := by omega
 have hr0 : r < 12 := by omega
 rw [hqe] at hq
 rw [hre] at hr
 have hw6 : IntKind.i64.wrap q = q := wrap_in (by omega)
 have hw3 : IntKind.i64.wrap (ys + q) = ys + q := wrap_in (by omega)
 have hw4 : IntKind.i64.wrap (2000 + (j : Int) + (ys + q)) = 2000 + (j : Int) + (ys + q) := wrap_in (by omega)
 have hw5 : IntKind.i64.wrap ((r : Int) + 1) = (r : Int) + 1 := wrap_in (by omega)
 have hw7 : IntKind.i64.wrap ((r : Int) + 1 - 1) = (r : Int) := by rw [wrap_in (by omega)]; omega
 have hw8 : IntKind.i64.wrap (r : Int) = (r : Int) := wrap_in (by omega)
 rw [hqe, hre]
 generalize hY : 2000 + (j : Int) + (ys + q) = Y at hw4
 have hld : ((lenL Y).map AV.i)[r * 1]? = some (.i (longF Y ((r : Int) + 1))) := by
  have := lenL_len Y
  have h2 := long_len Y r (by omega)
  rw [Nat.mul_one, List.getElem?_map, List.getElem?_eq_getElem (by omega)]
  rw [List.getElem?_eq_getElem (by omega)] at h2
  simp at h2
  simp [h2]
 have hix : ∀ σ, f_ixA 12 1 1 false [.agg ((lenL Y).map AV.i), .cv (.int .i64 r)] σ = some (.i (longF Y ((r : Int) + 1)), σ) := fun σ => by
  simp only [f_ixA, Int.toNat_natCast, hld]
  rw [if_pos (by omega)]; rfl
 simp only [ic24, evA, if_true, if_false, beq_false, simprocAttr]
 refine (c22 hd).call frz ?_
 simp only [evA, if_true, if_false, beq_false, simprocAttr]
 refine (c56 0 100 [ys] (by simp)).call frz ?_
 rw [outF_one, h2]
 simp only [evA, if_true, if_false, beq_false, simprocAttr]
 refine (c56 0 1200 [ms] (by simp)).call frz ?_
 rw [outF_one, h3]
 simp only [hw1, hw2, hq, hr, hw3, hw6, hw8, hY, hw4, hw5, evA, if_true, if_false, beq_false, simprocAttr]
 refine DW_s [4] [] hmix (by kernel_rfl) rfl ?_
 simp only [evA, if_true, if_false, beq_false, simprocAttr]
 refine kK_keep ((c57 Y).call frz ⟨rfl, rfl⟩) rfl ?_
 have hmin : (if longF Y ((r : Int) + 1) < D - begF j - sumL (2000 + (j : Int)) k + 1 then longF Y ((r : Int) + 1) else D - begF j - sumL (2000 + (j : Int)) k + 1) = min (D - begF j - sumL (2000 + (j : Int)) k + 1) (longF Y ((r : Int) + 1)) := by
  split <;> omega
 have hlr := longF_ran Y ((r : Int) + 1)
 simp only [hw7, hix, f_min2, hmin, evA, if_true, if_false, beq_false, simprocAttr]
 obtain ⟨dd, hdde⟩ : ∃ dd, dd = min (D - begF j - sumL (2000 + (j : Int)) k + 1) (longF Y ((r : Int) + 1)) := ⟨_, rfl⟩
 have hdd1 : 1 ≤ dd ∧ dd ≤ longF Y ((r : Int) + 1) := by omega
 rw [← hdde]
 refine (c18 Y ((r : Int) + 1) dd).call frz ?_
 rcases dayV_cases (y := Y) (m := (r : Int) + 1) (d := dd) (by omega) hdd1 with h | ⟨n, h⟩ <;> rw [h] <;> simp only [evA, if_true, if_false, beq_false, simprocAttr] <;> exact frz
def bday (D : Int) (j k n : Nat) : Int := begF (j + n) + sumL (2000 + ((j + n : Nat) : Int)) k + min (dOf D j k) (longF (2000 + ((j + n : Nat) : Int)) ((k : Int) + 1)) - 1
def ageN (D E : Int) (j k j2 : Nat) : Nat := if E < bday D j k (j2 - j) then j2 - j - 1 else j2 - j
theorem IsDate.le {D E : Int} {j k j2 k2 : Nat} (h : IsDate D j k) (h2 : IsDate E j2 k2) (hle : D ≤ E) : j ≤ j2 := by
 have := h.year; have := h2.year
 rcases Nat.lt_or_ge j2 j with hl | hg
 ·have := begF_mono (show j2 + 1 ≤ j from hl); omega
 ·exact hg
theorem c26n (D E : Int) (h : (inB D 0 40000 && inB E 0 40000) = false) : PC Tryz.prog 26 [.i D, .i E] (.tup [.i 0, .i 7]) := by
 refine ⟨AC_FE (fok26 true) (Nat.le_of_ble_eq_true rfl) ?_, rfl⟩
 cases h1 : inB D 0 40000 with
 | false =>
  simp only [ic26, evA, if_true, if_false, beq_false, simprocAttr]
  refine (c22n D h1).call frz ?_
  simp only [evA, if_true, if_false, beq_false, simprocAttr]
  cases h2 : inB E 0 40000 with
  | false =>
   refine (c22n E h2).call frz ?_
   simp only [evA, if_true, if_false, beq_false, simprocAttr]
   exact frz
  | true =>
   obtain ⟨j, k, hd⟩ := isDate_of (inB_iff.1 h2).1 (inB_iff.1 h2).2
   refine (c22 hd).call frz ?_
   simp only [evA, if_true, if_false, beq_false, simprocAttr]
   exact frz
 | true =>
  rw [h1, Bool.true_and] at h
  obtain ⟨j, k, hd⟩ := isDate_of (inB_iff.1 h1).1 (inB_iff.1 h1).2
  simp only [ic26, evA, if_true, if_false, beq_false, simprocAttr]
  refine (c22 hd).call frz ?_
  simp only [evA, if_true, if_false, beq_false, simprocAttr]
  refine (c22n E h).call frz ?_
  simp only [evA, if_true, if_false, beq_false, simprocAttr]
  exact frz
theorem c26 {D E : Int} {j k j2 k2 : Nat} (h : IsDate D j k) (h2 : IsDate E j2 k2) (hle : D ≤ E) : PC Tryz.prog 26 [.i D, .i E] (.tup [.i (ageN D E j k j2), .i 0]) := by
 refine ⟨AC_FE (fok26 true) (Nat.le_of_ble_eq_true rfl) ?_, rfl⟩
 have hj := h.le h2 hle
 have hy := h.year; have hy2 := h2.year
 have hk := h.k12; have hk2 := h2.k12
 have hb := begF_ge j
 have hdd := h.dd
 have hdd2 := h2.dd
 have hlr0 := longF_ran (2000 + (j2 : Int)) ((k : Int) + 1)
 have hlt : ¬ (E < D) := by omega
 have hw1 : IntKind.i64.wrap (2000 + (j2 : Int) - (2000 + (j : Int))) = ((j2 - j : Nat) : Int) := by rw [wrap_in (by omega)]; omega
 have hw7 : IntKind.i64.wrap ((k : Int) + 1 - 1) = (k : Int) := by rw [wrap_in (by omega)]; omega
 have hld : ((lenL (2000 + (j2 : Int))).map AV.i)[k * 1]? = some (.i (longF (2000 + (j2 : Int)) ((k : Int) + 1))) := by
  have := lenL_len (2000 + (j2 : Int))
  have h2 := long_len (2000 + (j2 : Int)) k (by omega)
  rw [Nat.mul_one, List.getElem?_map, List.getElem?_eq_getElem (by omega)]
  rw [List.getElem?_eq_getElem (by omega)] at h2
  simp at h2
  simp [h2]
 have hix : ∀ σ, f_ixA 12 1 1 false [.agg ((lenL (2000 + (j2 : Int))).map AV.i), .cv (.int .i64 k)] σ = some (.i (longF (2000 + (j2 : Int)) ((k : Int) + 1)), σ) := fun σ => by
  simp only [f_ixA, Int.toNat_natCast, hld]
  rw [if_pos (by omega)]; rfl
 have hmin : (if longF (2000 + (j2 : Int)) ((k : Int) + 1) < D - begF j - sumL (2000 + (j : Int)) k + 1 then longF (2000 + (j2 : Int)) ((k : Int) + 1) else D - begF j - sumL (2000 + (j : Int)) k + 1) = min (dOf D j k) (longF (2000 + (j2 : Int)) ((k : Int) + 1)) := by
  unfold dOf; split <;> omega
 have hbe : bday D j k (j2 - j) = begF j2 + sumL (2000 + (j2 : Int)) k + min (dOf D j k) (longF (2000 + (j2 : Int)) ((k : Int) + 1)) - 1 := by
  unfold bday
  rw [show j + (j2 - j) = j2 by omega]
 generalize hmd : min (dOf D j k) (longF (2000 + (j2 : Int)) ((k : Int) + 1)) = md at hmin hbe
 have hmd1 : 1 ≤ md ∧ md ≤ longF (2000 + (j2 : Int)) ((k : Int) + 1) := by omega
 have hE : E = begF j2 + sumL (2000 + (j2 : Int)) k2 + dOf E j2 k2 - 1 := by unfold dOf; omega
 have hans : ∀ c : Bool, (c = true ↔ E < bday D j k (j2 - j)) → (if c then IntKind.i64.wrap (((j2 - j : Nat) : Int) - 1) else ((j2 - j : Nat) : Int)) = (ageN D E j k j2 : Int) := fun c hc => by
  unfold ageN
  cases c with
  | false =>
   have : ¬ E < bday D j k (j2 - j) := fun h => by have := hc.2 h; cases this
   rw [if_neg this]; rfl
  | true =>
   have hlt2 := hc.1 rfl
   rw [if_pos hlt2]
   have : 1 ≤ j2 - j := by
    rcases Nat.eq_zero_or_pos (j2 - j) with h0 | h0
    ·have hjj : j2 = j := by omega
     rw [h0] at hlt2
     have hlt3 : E < begF j + sumL (2000 + (j : Int)) k + min (dOf D j k) (longF (2000 + (j : Int)) ((k : Int) + 1)) - 1 := hlt2
     unfold dOf at hlt3 hdd
     omega
    ·exact h0
   show IntKind.i64.wrap _ = _
   rw [wrap_in (by omega)]; omega
 simp only [ic26, evA, if_true, if_false, beq_false, simprocAttr]
 refine (c22 h).call frz ?_
 simp only [evA, if_true, if_false, beq_false, simprocAttr]
 refine (c22 h2).call frz ?_
 simp only [hlt, hw1, evA, if_true, if_false, beq_false, simprocAttr]
 refine DW_s [4] [] hmix (by kernel_rfl) rfl ?_
 simp only [evA, if_true, if_false, beq_false, simprocAttr]
 refine kK_keep ((c57 (2000 + (j2 : Int))).call frz ⟨rfl, rfl⟩) rfl ?_
 simp only [hw7, hix, f_min2, hmin, evA, if_true, if_false, beq_false, simprocAttr]
 have hdn : IntKind.i64.wrap (((j2 - j : Nat) : Int) - 1) = ((j2 - j : Nat) : Int) - 1 := wrap_in (by omega)
 have hT := hans true
 have hF := hans false
 simp only [if_true, Bool.false_eq_true, if_false] at hT hF
 rw [hbe] at hT hF
 by_cases hA : (k2 : Int) + 1 < (k : Int) + 1
 ·simp only [hA, evA, if_true, if_false, beq_false, simprocAttr]
  have := sumL_mono (2000 + (j2 : Int)) (show k2 + 1 ≤ k by omega)
  rw [sumL] at this
  rw [hT ⟨fun _ => by omega, fun _ => trivial⟩]
  exact frz
 ·cases hB : ((k2 : Int) + 1 == (k : Int) + 1) with
  | false =>
   have hne : k2 ≠ k := by intro h; subst h; simp at hB
   simp only [hA, hB, evA, if_true, if_false, beq_false, simprocAttr]
   have := sumL_mono (2000 + (j2 : Int)) (show k + 1 ≤ k2 by omega)
   rw [sumL] at this
   rw [hF ⟨fun h => (by cases h), fun h => (by omega)⟩]
   exact frz
  | true =>
   have hkk : k2 = k := by have := eq_of_beq hB; omega
   subst hkk
   by_cases hC : E - begF j2 - sumL (2000 + (j2 : Int)) k2 + 1 < md
   ·simp only [hA, hB, hC, evA, if_true, if_false, beq_false, simprocAttr]
    rw [hT ⟨fun _ => by omega, fun _ => trivial⟩]
    exact frz
   ·simp only [hA, hB, hC, evA, if_true, if_false, beq_false, simprocAttr]
    rw [hF ⟨fun h => (by cases h), fun h => (by omega)⟩]
    exact frz
end Go.Proofs.YtpnghcaccfnngaaGreatDoor.AM
namespace Go.Proofs.YtpnghcaccfnngaaGreatDoor.Pl
def setT (o : List Bool) (z : Nat) : List Bool := o.set z true
def relax1 (g : Nat → List Nat) (o : List Bool) (i : Nat) : List Bool := if o[i]?.getD false then (g i).foldl setT o else o
def relaxN (g : Nat → List Nat) (o : List Bool) (n : Nat) : List Bool := (List.range n).foldl (relax1 g) o
def covN (g : Nat → List Nat) (n c : Nat) : Nat → List Bool
 | 0 => (List.replicate n false).set c true
 | t + 1 => relaxN g (covN g n c t) n
def covG (g : Nat → List Nat) (n c : Nat) : List Bool := covN g n c n
inductive Rch (g : Nat → List Nat) (c : Nat) : Nat → Prop
 | refl : Rch g c c
 | step {a z : Nat} : Rch g c a → z ∈ g a → Rch g c z
theorem Rch.trans {g : Nat → List Nat} {a b c : Nat} (h1 : Rch g a b) (h2 : Rch g b c) : Rch g a c := by
 induction h2 with
 | refl => exact h1
 | step _ hz ih => exact ih.step hz
theorem Rch.head {g : Nat → List Nat} {a b c : Nat} (h1 : b ∈ g a) (h2 : Rch g b c) : Rch g a c := Rch.trans (Rch.refl.step h1) h2
def T (o : List Bool) (k : Nat) : Prop := o[k]?.getD false = true
theorem T.lt {o : List Bool} {k : Nat} (h : T o k) : k < o.length := by
 unfold T at h
 rcases Nat.lt_or_ge k o.length with h1 | h1
 ·exact h1
 ·rw [List.getElem?_eq_none h1] at h; cases h
theorem T_ext {a b : List Bool} (hl : a.length = b.length) (h : ∀ k, k < a.length → (T a k ↔ T b k)) : a = b := by
 apply List.ext_getElem hl
 intro k h1 h2
 have := h k h1
 unfold T at this
 rw [List.getElem?_eq_getElem h1, List.getElem?_eq_getElem h2] at this
 rw [Bool.eq_iff_iff]
 simpa using this
theorem setT_len (o : List Bool) (z : Nat) : (setT o z).length = o.length := by simp [setT]
theorem setT_T {o : List Bool} {z k : Nat} : T (setT o z) k ↔ T o k ∨ (k = z ∧ k < o.length) := by
 unfold T setT
 rw [List.getElem?_set]
 by_cases h : z = k
 ·subst h
  by_cases h2 : z < o.length
  ·simp [h2]
  ·simp [h2]
 ·simp [h, Ne.symm h]
theorem foldT_len (l : List Nat) : ∀ o : List Bool, (l.foldl setT o).length = o.length := by
 induction l with
 | nil => intro o; rfl
 | cons z l ih => intro o; rw [List.foldl_cons, ih, setT_len]
theorem foldT_T {k : Nat} (l : List Nat) : ∀ o : List Bool, T (l.foldl setT o) k ↔ T o k ∨ (k ∈ l ∧ k < o.length) := by
 induction l with
 | nil => intro o; simp
 | cons z l ih =>
  intro o
  rw [List.foldl_cons, ih, setT_T, setT_len, List.mem_cons]
  constructor
  ·rintro ((h | ⟨h1, h2⟩) | ⟨h1, h2⟩)
   ·exact .inl h
   ·exact .inr ⟨.inl h1, h2⟩
   ·exact .inr ⟨.inr h1, h2⟩
  ·rintro (h | ⟨h1 | h1, h2⟩)
   ·exact .inl (.inl h)
   ·exact .inl (.inr ⟨h1, h2⟩)
   ·exact .inr ⟨h1, h2⟩
section
variable {g : Nat → List Nat} {n c : Nat}
theorem relax1_len (o : List Bool) (i : Nat) : (relax1 g o i).length = o.length := by
 unfold relax1; split
 ·exact foldT_len _ _
 ·rfl
theorem relax1_T {o : List Bool} {i k : Nat} : T (relax1 g o i) k ↔ T o k ∨ (T o i ∧ k ∈ g i ∧ k < o.length) := by
 unfold relax1
 by_cases h : o[i]?.getD false = true
 ·rw [if_pos h, foldT_T]
  have h' : T o i := h
  simp [h']
 ·rw [if_neg h]
  have h' : ¬ T o i := h
  simp [h']
theorem relaxL_len (l : List Nat) : ∀ o : List Bool, (l.foldl (relax1 g) o).length = o.length := by
 induction l with
 | nil => intro o; rfl
 | cons z l ih => intro o; rw [List.foldl_cons, ih, relax1_len]
theorem relaxL_mono {k : Nat} (l : List Nat) : ∀ o : List Bool, T o k → T (l.foldl (relax1 g) o) k := by
 induction l with
 | nil => intro o h; exact h
 | cons z l ih => intro o h; rw [List.foldl_cons]; exact ih _ (relax1_T.2 (.inl h))
theorem relaxL_hit {i k : Nat} (l : List Nat) : ∀ o : List Bool, i ∈ l → T o i → k ∈ g i → k < o.length → T (l.foldl (relax1 g) o) k := by
 induction l with
 | nil => intro o h; simp at h
 | cons z l ih =>
  intro o h h1 h2 h3
  rw [List.foldl_cons]
  rcases List.mem_cons.1 h with rfl | h
  ·exact relaxL_mono l _ (relax1_T.2 (.inr ⟨h1, h2, h3⟩))
  ·exact ih _ h (relax1_T.2 (.inl h1)) h2 (by rw [relax1_len]; exact h3)
theorem relaxL_sub {P : Nat → Prop} (hP : ∀ a z, P a → z ∈ g a → P z) (l : List Nat) : ∀ o : List Bool, (∀ k, T o k → P k) → ∀ k, T (l.foldl (relax1 g) o) k → P k := by
 induction l with
 | nil => intro o h; exact h
 | cons z l ih =>
  intro o h
  rw [List.foldl_cons]
  refine ih _ fun k hk => ?_
  rcases relax1_T.1 hk with hk | ⟨h1, h2, _⟩
  ·exact h k hk
  ·exact hP z k (h z h1) h2
theorem covN_len : ∀ t, (covN g n c t).length = n
 | 0 => by simp [covN]
 | t + 1 => by rw [covN, relaxN, relaxL_len, covN_len t]
theorem covG_len : (covG g n c).length = n := covN_len n
theorem covN_sub : ∀ t k, T (covN g n c t) k → Rch g c k
 | 0, k, h => by
  have h : T (setT (List.replicate n false) c) k := h
  rcases setT_T.1 h with h | ⟨rfl, _⟩
  ·unfold T at h
   rw [List.getElem?_replicate] at h
   split at h <;> cases h
  ·exact .refl
 | t + 1, k, h => relaxL_sub (P := Rch g c) (fun a z h1 h2 => h1.step h2) (List.range n) _ (covN_sub t) k h
def cntT (o : List Bool) : Nat := o.countP id
theorem cntT_le {a : List Bool} : ∀ {b : List Bool}, a.length = b.length → (∀ k, T a k → T b k) → cntT a ≤ cntT b ∧ (∀ k, T b k → ¬ T a k → cntT a < cntT b) := by
 induction a with
 | nil =>
  intro b hl h
  have : b = [] := List.eq_nil_of_length_eq_zero (by simpa using hl.symm)
  subst this
  exact ⟨Nat.le_refl _, fun k hk _ => by simp [T] at hk⟩
 | cons x a ih =>
  intro b hl h
  match b, hl with
  | y :: b, hl =>
   have ht : ∀ k, T a k → T b k := fun k hk => h (k + 1) hk
   have h0 : x = true → y = true := fun hx => h 0 (by simpa [T] using hx)
   obtain ⟨i1, i2⟩ := ih (by simpa using hl) ht
   have e : ∀ (z : Bool) (l : List Bool), cntT (z :: l) = cntT l + (if z then 1 else 0) := fun z l => by
    unfold cntT; rw [List.countP_cons]; cases z <;> rfl
   rw [e, e]
   refine ⟨by cases x <;> cases y <;> simp_all <;> omega, fun k hk hk2 => ?_⟩
   match k with
   | 0 =>
    have hy : y = true := by simpa [T] using hk
    have hx : x = false := by simpa [T] using hk2
    subst hy hx
    simp; omega
   | k + 1 =>
    have := i2 k hk hk2
    cases x <;> cases y <;> simp_all <;> omega
theorem cntT_len (a : List Bool) : cntT a ≤ a.length := List.countP_le_length
abbrev InN (g : Nat → List Nat) (n : Nat) : Prop := ∀ i, i < n → ∀ z ∈ g i, z < n
theorem covN_grow (hg : InN g n) (hc : c < n) : ∀ t, (∀ a z, T (covN g n c t) a → z ∈ g a → T (covN g n c t) z) ∨ t + 1 ≤ cntT (covN g n c t)
 | 0 => by
  right
  have := (cntT_le (a := List.replicate n false) (b := covN g n c 0) (by simp [covN]) (fun k hk => by
   unfold T at hk
   rw [List.getElem?_replicate] at hk
   split at hk <;> cases hk)).2 c (by show T (setT (List.replicate n false) c) c; exact setT_T.2 (.inr ⟨rfl, by simpa using hc⟩)) (fun hk => by
   unfold T at hk
   rw [List.getElem?_replicate] at hk
   split at hk <;> cases hk)
  omega
 | t + 1 => by
  by_cases hcl : ∀ a z, T (covN g n c t) a → z ∈ g a → T (covN g n c t) z
  ·left
   have hsub : ∀ k, T (covN g n c (t + 1)) k → T (covN g n c t) k := relaxL_sub (P := T (covN g n c t)) hcl (List.range n) _ fun k hk => hk
   intro a z ha hz
   exact relaxL_mono _ _ (hcl a z (hsub a ha) hz)
  ·right
   have hm : t + 1 ≤ cntT (covN g n c t) := by
    rcases covN_grow hg hc t with h | h
    ·exact absurd h hcl
    ·exact h
   have hmono : ∀ k, T (covN g n c t) k → T (covN g n c (t + 1)) k := fun k hk => relaxL_mono (List.range n) _ hk
   obtain ⟨a, ha⟩ := Classical.not_forall.1 hcl
   obtain ⟨z, hz⟩ := Classical.not_forall.1 ha
   obtain ⟨h1, hz⟩ := Classical.not_imp.1 hz
   obtain ⟨h2, h3⟩ := Classical.not_imp.1 hz
   have han : a < n := by have := h1.lt; rw [covN_len] at this; exact this
   have hnew : T (covN g n c (t + 1)) z := relaxL_hit (i := a) (List.range n) _ (by simpa using han) h1 h2 (by rw [covN_len]; exact hg a han z h2)
   have := (cntT_le (by rw [covN_len, covN_len]) hmono).2 z hnew h3
   omega
theorem covG_iff (hg : InN g n) (hc : c < n) {k : Nat} : T (covG g n c) k ↔ Rch g c k := by
 constructor
 ·exact covN_sub n k
 ·have hcl : ∀ a z, T (covG g n c) a → z ∈ g a → T (covG g n c) z := by
   rcases covN_grow hg hc n with h | h
   ·exact h
   ·have h2 := cntT_len (covN g n c n)
    rw [covN_len] at h2
    omega
  have hcc : ∀ t, T (covN g n c t) c := by
   intro t
   induction t with
   | zero => show T (setT (List.replicate n false) c) c; exact setT_T.2 (.inr ⟨rfl, by simpa using hc⟩)
   | succ t ih => exact relaxL_mono (List.range n) _ ih
  intro h
  induction h with
  | refl => exact hcc n
  | step _ hz ih => exact hcl _ _ ih hz
structure Dfs (g : Nat → List Nat) (c : Nat) (M M' : List Bool) : Prop where
 len : M'.length = M.length
 mono : ∀ k, T M k → T M' k
 has : T M' c
 new : ∀ k, T M' k → T M k ∨ Rch g c k
 clo : ∀ a z, T M' a → ¬ T M a → z ∈ g a → T M' z
theorem Dfs.all (hg : InN g n) (hc : c < n) {M' : List Bool} (h : Dfs g c (List.replicate n false) M') : M' = covG g n c := by
 have hno : ∀ k, ¬ T (List.replicate n false) k := fun k hk => by
  unfold T at hk
  rw [List.getElem?_replicate] at hk
  split at hk <;> cases hk
 apply T_ext
 ·rw [h.len, covG_len]; simp
 intro k hk
 rw [covG_iff hg hc]
 constructor
 ·intro ht
  rcases h.new k ht with h1 | h1
  ·exact absurd h1 (hno k)
  ·exact h1
 ·intro hr
  induction hr with
  | refl => exact h.has
  | @step a z hr hz ih =>
   have ha : T M' a := ih (by
    rw [h.len, List.length_replicate]
    have : T (covG g n c) a := (covG_iff hg hc).2 hr
    have := this.lt
    rwa [covG_len] at this)
   exact h.clo a z ha (hno a) hz
end
end Go.Proofs.YtpnghcaccfnngaaGreatDoor.Pl
namespace Go.Proofs.YtpnghcaccfnngaaGreatDoor.AM
variable [Dr]
open Go Pl
structure Cls where
 nm : ByteArray
 inc : List Int
 need : Int
 age : Int
 term : Int
deriving Inhabited
structure Sys where
 cl : List Cls
 co : List ByteArray
deriving Inhabited
abbrev clsC (c : Cls) : List CV := [.str c.nm, .rsl (c.inc.map (.int .i64)) c.inc.length, .int .i64 c.need, .int .i64 c.age, .int .i64 c.term]
abbrev clsA (c : Cls) : AV := .agg [.cv (.str c.nm), ints c.inc, .i c.need, .i c.age, .i c.term]
def clsCs (cs : List Cls) : List CV := cs.flatMap clsC
abbrev clsR (cs : List Cls) : CV := .rsl (clsCs cs) cs.length
abbrev strR (co : List ByteArray) : CV := .rsl (co.map .str) co.length
abbrev sysV (s : Sys) : AV := .agg [.cv (clsR s.cl), .cv (strR s.co)]
theorem clsC_len (c : Cls) : (clsC c).length = 5 := rfl
theorem clsCs_len (cs : List Cls) : (clsCs cs).length = cs.length * 5 := flat_len clsC_len cs
section
variable {cs : List Cls} {k : Nat}
theorem cls_0 (h : k < cs.length) : (clsCs cs)[k * 5]? = some (.str (cs[k]!).nm) := flat_get clsC_len h (j := 0) (by omega)
theorem cls_1 (h : k < cs.length) : (clsCs cs)[k * 5 + 1]? = some (.rsl ((cs[k]!).inc.map (.int .i64)) (cs[k]!).inc.length) := flat_get clsC_len h (j := 1) (by omega)
theorem cls_ld (h : k < cs.length) (σ : List AObj) : f_loadN 5 [.cv (.rp (clsCs cs) (k * 5))] σ = some (clsA cs[k]!, σ) := by
 have h1 : k * 5 + 5 ≤ (clsCs cs).length := by rw [clsCs_len]; omega
 have h2 := flat_at clsC_len h
 simp only [f_loadN, h1, if_true]
 unfold clsCs; rw [h2]; rfl
theorem cls_sl (h : k ≤ cs.length) (σ : List AObj) : f_slS 5 false true [.cv (clsR cs), .cv (.int .i64 k)] σ = some (.cv (clsR (cs.take k)), σ) := by
 rw [sl_rsl h (clsCs_len cs)]; unfold clsCs; rw [flat_take clsC_len]; simp [h, clsCs, clsR]
theorem str_ld {co : List ByteArray} (h : k < co.length) : (co.map CV.str)[k]? = some (.str co[k]!) := by simp [h]
theorem str_sl {co : List ByteArray} (h : k ≤ co.length) (σ : List AObj) : f_slS 1 false true [.cv (strR co), .cv (.int .i64 k)] σ = some (.cv (strR (co.take k)), σ) := by
 rw [sl_rsl h (by simp)]; simp [h, strR, List.map_take]
end
theorem ia_cls {cs : List Cls} {k : Nat} (h : k < cs.length) (σ : List AObj) : f_iaS 5 [.cv (clsR cs), .cv (.int .i64 k)] σ = some (.cv (.rp (clsCs cs) (k * 5)), σ) := ia_rsl h σ
structure SSz (s : Sys) : Prop where
 cl : s.cl.length < 2 ^ 63
 co : s.co.length < 2 ^ 63
 nm : ∀ i, i < s.cl.length → (s.cl[i]!).nm.size < 2 ^ 63
 inc : ∀ i, i < s.cl.length → (s.cl[i]!).inc.length < 2 ^ 63
 cm : ∀ i, i < s.co.length → (s.co[i]!).size < 2 ^ 63
def findE (g : Nat → Int) : Nat → Nat → Int × Int
 | _, 0 => (0, 0)
 | i, k + 1 => if g i = 0 then findE g (i + 1) k else (i, g i)
theorem findE_none {g : Nat → Int} : ∀ (k i : Nat), (∀ j, i ≤ j → j < i + k → g j = 0) → findE g i k = (0, 0)
 | 0, _, _ => rfl
 | k + 1, i, h => by
  rw [findE, if_pos (h i (Nat.le_refl _) (by omega))]
  exact findE_none k (i + 1) fun j h1 h2 => h j (by omega) (by omega)
theorem findE_some {g : Nat → Int} : ∀ (k i m : Nat), i ≤ m → m < i + k → (∀ j, i ≤ j → j < m → g j = 0) → g m ≠ 0 → findE g i k = ((m : Int), g m)
 | 0, i, m, h1, h2, _, _ => by omega
 | k + 1, i, m, h1, h2, h3, h4 => by
  rcases Nat.lt_or_ge i m with h | h
  ·rw [findE, if_pos (h3 i (Nat.le_refl _) h)]
   exact findE_some k (i + 1) m h (by omega) (fun j a b => h3 j (by omega) b) h4
  ·have : i = m := by omega
   subst this
   rw [findE, if_neg h4]
theorem c103 (cs : List Cls) (p : CV) (g : Nat → Int) (hz : cs.length < 2 ^ 63) (hf : ∀ i, i < cs.length → ∀ σ, AC Tryz.prog 104 [.cv p, .i i, clsA cs[i]!] σ fun r τ => r = .i (g i) ∧ τ = σ) :
  PC Tryz.prog 103 [.cv (clsR cs), .bm 104 [.cv p]] (.tup [.i (findE g 0 cs.length).1, .i (findE g 0 cs.length).2]) := by
 refine ⟨AC_FE (fok103 true) (Nat.le_of_ble_eq_true rfl) ?_, rfl⟩
 simp only [ic103, evA, if_true, if_false, beq_false, simprocAttr]
 refine IL_for cs.length (fun i s => (∀ j, j < i → g j = 0) ∧ ∃ v2 v3 v4 v5 v9 v10, s = ⟨[.cv (clsR cs), .bm 104 [.cv p], v2, v3, v4, v5, .cv (clsR cs), .i cs.length, .i i, v9, v10], []⟩) ?_ 0 (Nat.zero_le _) ⟨by omega, _, _, _, _, _, _, rfl⟩
 rintro i s hi ⟨hall, v2, v3, v4, v5, v9, v10, rfl⟩
 by_cases h : i < cs.length
 ·simp only [ic103l0, Int.ofNat_lt, h, ia_cls h, cls_ld h, evA, if_true, if_false, beq_false, simprocAttr]
  refine (hf i h _).run ?_
  by_cases hg : g i = 0
  ·have hb : (g i != 0) = false := by simpa using hg
   simp only [hb, wrap_succ (show i + 1 < 2 ^ 63 by omega), evA, if_true, if_false, beq_false, simprocAttr]
   refine kFor_clip [] _ rfl (by first | trivial | omega) (Nat.zero_le _) (by simp) ⟨fun j hj => ?_, _, _, _, _, _, _, rfl⟩
   rcases Nat.lt_succ_iff_lt_or_eq.1 hj with hj | rfl
   ·exact hall j hj
   ·exact hg
  ·have hb : (g i != 0) = true := by simpa using hg
   rw [findE_some cs.length 0 i (Nat.zero_le _) (by omega) (fun j _ hj => hall j hj) hg]
   simp only [hb, evA, if_true, if_false, beq_false, simprocAttr]
   exact frz
 ·have : i = cs.length := by omega
  subst this
  rw [findE_none cs.length 0 fun j _ hj => hall j (by omega)]
  simp only [ic103l0, Int.ofNat_lt, h, evA, if_true, if_false, beq_false, simprocAttr]
  exact frz
theorem c105 (co : List ByteArray) (p : CV) (g : Nat → Int) (hz : co.length < 2 ^ 63) (hf : ∀ i, i < co.length → ∀ σ, AC Tryz.prog 106 [.cv p, .i i, .cv (.str co[i]!)] σ fun r τ => r = .i (g i) ∧ τ = σ) :
  PC Tryz.prog 105 [.cv (strR co), .bm 106 [.cv p]] (.tup [.i (findE g 0 co.length).1, .i (findE g 0 co.length).2]) := by
 refine ⟨AC_FE (fok105 true) (Nat.le_of_ble_eq_true rfl) ?_, rfl⟩
 simp only [ic105, evA, if_true, if_false, beq_false, simprocAttr]
 refine IL_for co.length (fun i s => (∀ j, j < i → g j = 0) ∧ ∃ v2 v3 v4 v5 v9 v10, s = ⟨[.cv (strR co), .bm 106 [.cv p], v2, v3, v4, v5, .cv (strR co), .i co.length, .i i, v9, v10], []⟩) ?_ 0 (Nat.zero_le _) ⟨by omega, _, _, _, _, _, _, rfl⟩
 rintro i s hi ⟨hall, v2, v3, v4, v5, v9, v10, rfl⟩
 by_cases h : i < co.length
 ·simp only [ic105l0, Int.ofNat_lt, h, ia_rsl h, str_ld h, evA, if_true, if_false, beq_false, simprocAttr]
  refine (hf i h _).run ?_
  by_cases hg : g i = 0
  ·have hb : (g i != 0) = false := by simpa using hg
   simp only [hb, wrap_succ (show i + 1 < 2 ^ 63 by omega), evA, if_true, if_false, beq_false, simprocAttr]
   refine kFor_clip [] _ rfl (by first | trivial | omega) (Nat.zero_le _) (by simp) ⟨fun j hj => ?_, _, _, _, _, _, _, rfl⟩
   rcases Nat.lt_succ_iff_lt_or_eq.1 hj with hj | rfl
   ·exact hall j hj
   ·exact hg
  ·have hb : (g i != 0) = true := by simpa using hg
   rw [findE_some co.length 0 i (Nat.zero_le _) (by omega) (fun j _ hj => hall j hj) hg]
   simp only [hb, evA, if_true, if_false, beq_false, simprocAttr]
   exact frz
 ·have : i = co.length := by omega
  subst this
  rw [findE_none co.length 0 fun j _ hj => hall j (by omega)]
  simp only [ic105l0, Int.ofNat_lt, h, evA, if_true, if_false, beq_false, simprocAttr]
  exact frz
def strIdx (co : List ByteArray) (x : ByteArray) : Int := idxN (fun i => decide (co[i]! = x)) co.length
theorem c81 (co : List ByteArray) (x : ByteArray) (hz : co.length < 2 ^ 63) : PC Tryz.prog 81 [.cv (strR co), .cv (.str x)] (.i (strIdx co x)) := by
 refine ⟨AC_FE (fok81 true) (Nat.le_of_ble_eq_true rfl) ?_, rfl⟩
 simp only [ic81, evA, if_true, if_false, beq_false, simprocAttr]
 refine IL_for co.length (fun i s => (∀ j, j < i → decide (co[j]! = x) = false) ∧ ∃ v3 v6 v7, s = ⟨[.cv (strR co), .cv (.str x), .i 0, v3, .i co.length, .i i, v6, v7], []⟩) ?_ 0 (Nat.zero_le _) ⟨by omega, _, _, _, rfl⟩
 rintro i s hi ⟨hall, v3, v6, v7, rfl⟩
 by_cases h : i < co.length
 ·have hc : (x.toList == (co[i]!).toList) = decide (co[i]! = x) := by rw [str_eq, Bool.eq_iff_iff]; simp; exact eq_comm
  simp only [ic81l0, Int.ofNat_lt, h, ia_rsl h, str_ld h, binS, hc, evA, if_true, if_false, beq_false, simprocAttr]
  cases hp : decide (co[i]! = x)
  ·simp only [wrap_succ (show i + 1 < 2 ^ 63 by omega), evA, if_true, if_false, beq_false, simprocAttr]
   refine kFor_go (by first | trivial | omega) ⟨fun j hj => ?_, _, _, _, rfl⟩
   rcases Nat.lt_succ_iff_lt_or_eq.1 hj with hj | rfl
   ·exact hall j hj
   ·exact hp
  ·simp only [evA, if_true, if_false, beq_false, simprocAttr]
   rw [show strIdx co x = (i : Int) from idxN_some (p := fun i => decide (co[i]! = x)) h hall hp]
   exact frz
 ·simp only [ic81l0, Int.ofNat_lt, h, evA, if_true, if_false, beq_false, simprocAttr]
  have : i = co.length := by omega
  subst this
  rw [show strIdx co x = -1 from idxN_none (p := fun i => decide (co[i]! = x)) hall]
  exact frz
theorem c123 (co : List ByteArray) (x : ByteArray) (hz : co.length < 2 ^ 63) : PC Tryz.prog 123 [.cv (strR co), .cv (.str x)] (.b (anyN (fun i => decide (co[i]! = x)) co.length)) := by
 refine ⟨AC_FE (fok123 true) (Nat.le_of_ble_eq_true rfl) ?_, rfl⟩
 simp only [ic123, evA, if_true, if_false, beq_false, simprocAttr]
 refine (c81 co x hz).call frz ?_
 simp only [strIdx, idxN_ge, evA, if_true, if_false, beq_false, simprocAttr]
 exact frz
theorem c86 (co : List ByteArray) (x : ByteArray) (hz : co.length < 2 ^ 63) : PC Tryz.prog 86 [.cv (strR co), .cv (.str x)] (.i (strIdx co x)) := by
 refine ⟨AC_FE (fok86 true) (Nat.le_of_ble_eq_true rfl) ?_, rfl⟩
 simp only [ic86, evA, if_true, if_false, beq_false, simprocAttr]
 refine IL_for co.length (fun i s => (∀ j, j < i → decide (co[j]! = x) = false) ∧ ∃ v4 v5, s = ⟨[.cv (strR co), .cv (.str x), .i 0, .i i, v4, v5], []⟩) ?_ 0 (Nat.zero_le _) ⟨by omega, _, _, rfl⟩
 rintro i s hi ⟨hall, v4, v5, rfl⟩
 by_cases h : i < co.length
 ·simp only [ic86l0, Int.ofNat_lt, h, ia_rsl h, str_ld h, binS, str_eq, evA, if_true, if_false, beq_false, simprocAttr]
  cases hp : decide (co[i]! = x)
  ·simp only [wrap_succ (show i + 1 < 2 ^ 63 by omega), evA, if_true, if_false, beq_false, simprocAttr]
   refine kFor_go (by first | trivial | omega) ⟨fun j hj => ?_, _, _, rfl⟩
   rcases Nat.lt_succ_iff_lt_or_eq.1 hj with hj | rfl
   ·exact hall j hj
   ·exact hp
  ·simp only [evA, if_true, if_false, beq_false, simprocAttr]
   rw [show strIdx co x = (i : Int) from idxN_some (p := fun i => decide (co[i]! = x)) h hall hp]
   exact frz
 ·simp only [ic86l0, Int.ofNat_lt, h, evA, if_true, if_false, beq_false, simprocAttr]
  have : i = co.length := by omega
  subst this
  rw [show strIdx co x = -1 from idxN_none (p := fun i => decide (co[i]! = x)) hall]
  exact frz
theorem c79 (cs : List Cls) (fv : AV) (p : Nat → Bool) (hz : cs.length < 2 ^ 63) (σ : List AObj) (hf : ∀ i, i < cs.length → CallV Tryz.prog fv [clsA cs[i]!] σ fun r τ => r = .b (p i) ∧ τ = σ) :
  AC Tryz.prog 79 [.cv (clsR cs), fv] σ fun r τ => r = .i (idxN p cs.length) ∧ τ = σ := by
 refine AC_FE (fok79 true) (Nat.le_of_ble_eq_true rfl) ?_
 simp only [ic79, evA, if_true, if_false, beq_false, simprocAttr]
 refine IL_for cs.length (fun i s => (∀ j, j < i → p j = false) ∧ ∃ v3 v6 v7, s = ⟨[.cv (clsR cs), fv, .i 0, v3, .i cs.length, .i i, v6, v7], σ⟩) ?_ 0 (Nat.zero_le _) ⟨by omega, _, _, _, rfl⟩
 rintro i s hi ⟨hall, v3, v6, v7, rfl⟩
 by_cases h : i < cs.length
 ·simp only [ic79l0, Int.ofNat_lt, h, ia_cls h, cls_ld h, evA, if_true, if_false, beq_false, simprocAttr]
  refine (hf i h).run ?_
  cases hp : p i
  ·simp only [wrap_succ (show i + 1 < 2 ^ 63 by omega), evA, if_true, if_false, beq_false, simprocAttr]
   refine kFor_go (by first | trivial | omega) ⟨fun j hj => ?_, _, _, _, rfl⟩
   rcases Nat.lt_succ_iff_lt_or_eq.1 hj with hj | rfl
   ·exact hall j hj
   ·exact hp
  ·simp only [evA, if_true, if_false, beq_false, simprocAttr]
   exact (idxN_some h hall hp).symm
 ·simp only [ic79l0, Int.ofNat_lt, h, evA, if_true, if_false, beq_false, simprocAttr]
  have : i = cs.length := by omega
  subst this
  exact (idxN_none hall).symm
theorem c121 (cs : List Cls) (fv : AV) (p : Nat → Bool) (hz : cs.length < 2 ^ 63) (σ : List AObj) (hf : ∀ i, i < cs.length → CallV Tryz.prog fv [clsA cs[i]!] σ fun r τ => r = .b (p i) ∧ τ = σ) :
  AC Tryz.prog 121 [.cv (clsR cs), fv] σ fun r τ => r = .b (anyN p cs.length) ∧ τ = σ := by
 refine AC_FE (fok121 true) (Nat.le_of_ble_eq_true rfl) ?_
 simp only [ic121, evA, if_true, if_false, beq_false, simprocAttr]
 refine (c79 cs fv p hz _ hf).run ?_
 simp only [evA, if_true, if_false, beq_false, simprocAttr, idxN_ge]
def clsErr (s : Sys) (i : Nat) : Int :=
 if nameOk (s.cl[i]!).nm = false then 6
 else if anyN (fun k => decide ((s.cl[k]!).nm = (s.cl[i]!).nm)) i = true then 5
 else if ((s.cl[i]!).inc.length : Int) > s.cl.length then 3
 else if (outF 0 ((s.cl.length : Int) - 1) (s.cl[i]!).inc || !inB (s.cl[i]!).need (-1) ((s.cl.length : Int) - 1)) = true then 4
 else if ((s.cl[i]!).need == (i : Int)) = true then 2
 else if outF 0 100 [(s.cl[i]!).age, (s.cl[i]!).term] = true then 7
 else 0
def codErr (s : Sys) (i : Nat) : Int :=
 if nameOk s.co[i]! = false then 6
 else if anyN (fun k => decide (s.co[k]! = s.co[i]!)) i = true then 5
 else 0
theorem c122 (x c : Cls) (σ : List AObj) (l : Nat) (hl : rowOf σ l = some [.cv (.str c.nm), ints c.inc, .i c.need, .i c.age, .i c.term]) : AC Tryz.prog 122 [clsA x, .ptr l 0] σ fun r τ => r = .b (decide (x.nm = c.nm)) ∧ τ = σ := by
 refine AC.cutF ?_ rfl
 refine AC_FE (fok122 true) (Nat.le_of_ble_eq_true rfl) ?_
 have hl2 := rowOf_low hl [.cells [.cv (.str x.nm), ints x.inc, .i x.need, .i x.age, .i x.term]]
 simp only [ic122, f_box, cellsOf, rowOf_az, hl2, binS, str_eq, evA, if_true, if_false, beq_false, simprocAttr]
 exact ⟨_, rfl⟩
theorem c104 (s : Sys) (hs : SSz s) (cov : CV) (i : Nat) (hi : i < s.cl.length) : PC Tryz.prog 104 [.cv (.rp [clsR s.cl, strR s.co, cov] 0), .i i, clsA s.cl[i]!] (.i (clsErr s i)) := by
 refine ⟨AC_FE (fok104 true) (Nat.le_of_ble_eq_true rfl) ?_, rfl⟩
 have hcl := hs.cl
 have hnm := hs.nm i hi
 have hin := hs.inc i hi
 have hw : IntKind.i64.wrap ((s.cl.length : Int) - 1) = (s.cl.length : Int) - 1 := wrap_in (by omega)
 have hsl : ∀ σ, f_slS 5 false true [.cv (clsR s.cl), .cv (.int .i64 i)] σ = some (.cv (clsR (s.cl.take i)), σ) := cls_sl (by omega)
 have htl : (s.cl.take i).length = i := by simp; omega
 have htk : ∀ k, k < i → (s.cl.take i)[k]! = s.cl[k]! := fun k hk => by
  rw [getElem!_pos _ k (by omega), getElem!_pos _ k (by omega), List.getElem_take]
 have h20 := c20 (s.cl[i]!).nm hnm
 have hA : ∀ σ, rowOf σ 0 = some [.cv (.str (s.cl[i]!).nm), ints (s.cl[i]!).inc, .i (s.cl[i]!).need, .i (s.cl[i]!).age, .i (s.cl[i]!).term] → AC Tryz.prog 121 [.cv (clsR (s.cl.take i)), .fn (.func 122) [.ptr 0 0]] σ fun r τ => r = .b (anyN (fun k => decide ((s.cl[k]!).nm = (s.cl[i]!).nm)) i) ∧ τ = σ := fun σ hσ => by
  have := c121 (s.cl.take i) (.fn (.func 122) [.ptr 0 0]) (fun k => decide ((s.cl[k]!).nm = (s.cl[i]!).nm)) (by omega) σ fun k hk => by
   rw [htk k (by omega)]
   exact c122 s.cl[k]! s.cl[i]! σ 0 hσ
  rwa [htl] at this
 unfold clsErr
 generalize s.cl[i]! = c at *
 simp only [ic104, f_box, cellsOf, hw, evA, if_true, if_false, beq_false, simprocAttr]
 refine h20.call frz ?_
 cases h1 : nameOk c.nm with
 | false =>
  rw [if_pos rfl]
  simp only [evA, if_true, if_false, beq_false, simprocAttr]
  exact frz
 | true =>
 rw [if_neg (by decide)]
 simp only [hsl, evA, if_true, if_false, beq_false, simprocAttr]
 refine (hA _ rfl).run ?_
 cases h2 : anyN (fun k => decide ((s.cl[k]!).nm = c.nm)) i with
 | true =>
  rw [if_pos rfl]
  simp only [evA, if_true, if_false, beq_false, simprocAttr]
  exact frz
 | false =>
 rw [if_neg (by decide)]
 simp only [evA, if_true, if_false, beq_false, simprocAttr]
 refine DW_s [] [] hmix (by kernel_rfl) rfl ?_
 simp only [evA, if_true, if_false, beq_false, simprocAttr]
 by_cases h3 : (c.inc.length : Int) > s.cl.length
 ·rw [if_pos h3]
  simp only [h3, evA, if_true, if_false, beq_false, simprocAttr]
  exact frz
 rw [if_neg h3]
 simp only [h3, evA, if_true, if_false, beq_false, simprocAttr]
 refine (c56 0 ((s.cl.length : Int) - 1) c.inc hin).call frz ?_
 cases h4 : outF 0 ((s.cl.length : Int) - 1) c.inc with
 | true =>
  rw [Bool.true_or, if_pos rfl]
  simp only [evA, if_true, if_false, beq_false, simprocAttr]
  exact frz
 | false =>
 rw [Bool.false_or]
 simp only [evA, if_true, if_false, beq_false, simprocAttr]
 refine (c56 (-1) ((s.cl.length : Int) - 1) [c.need] (by simp)).call frz ?_
 rw [outF_one]
 cases h5 : inB c.need (-1) ((s.cl.length : Int) - 1) with
 | false =>
  rw [if_pos (show (!false) = true from rfl)]
  simp only [evA, if_true, if_false, beq_false, simprocAttr]
  exact frz
 | true =>
 rw [if_neg (show ¬ ((!true) = true) by decide)]
 simp only [evA, if_true, if_false, beq_false, simprocAttr]
 cases h6 : (c.need == (i : Int)) with
 | true =>
  rw [if_pos rfl]
  simp only [evA, if_true, if_false, beq_false, simprocAttr]
  exact frz
 | false =>
 rw [if_neg (by decide)]
 simp only [evA, if_true, if_false, beq_false, simprocAttr]
 refine (c56 0 100 [c.age, c.term] (by simp)).call frz ?_
 cases h7 : outF 0 100 [c.age, c.term] with
 | true =>
  rw [if_pos rfl]
  simp only [evA, if_true, if_false, beq_false, simprocAttr]
  exact frz
 | false =>
  rw [if_neg (by decide)]
  simp only [evA, if_true, if_false, beq_false, simprocAttr]
  exact frz
theorem c106 (s : Sys) (hs : SSz s) (cov : CV) (i : Nat) (hi : i < s.co.length) : PC Tryz.prog 106 [.cv (.rp [clsR s.cl, strR s.co, cov] 0), .i i, .cv (.str s.co[i]!)] (.i (codErr s i)) := by
 refine ⟨AC_FE (fok106 true) (Nat.le_of_ble_eq_true rfl) ?_, rfl⟩
 have hco := hs.co
 have hnm := hs.cm i hi
 have hsl : ∀ σ, f_slS 1 false true [.cv (strR s.co), .cv (.int .i64 i)] σ = some (.cv (strR (s.co.take i)), σ) := str_sl (by omega)
 have htl : (s.co.take i).length = i := by simp; omega
 have h123 := c123 (s.co.take i) s.co[i]! (by omega)
 have he : anyN (fun k => decide ((s.co.take i)[k]! = s.co[i]!)) (s.co.take i).length = anyN (fun k => decide (s.co[k]! = s.co[i]!)) i := by
  rw [htl, Bool.eq_iff_iff, anyN_true, anyN_true]
  constructor <;> rintro ⟨k, hk, h⟩ <;> refine ⟨k, hk, ?_⟩
  ·rwa [getElem!_pos _ k (by omega), List.getElem_take, ← getElem!_pos s.co k (by omega)] at h
  ·rw [getElem!_pos _ k (by omega), List.getElem_take, ← getElem!_pos s.co k (by omega)]; exact h
 rw [he] at h123
 unfold codErr
 simp only [ic106, evA, if_true, if_false, beq_false, simprocAttr]
 refine (c20 s.co[i]! hnm).call frz ?_
 cases h1 : nameOk s.co[i]! with
 | false =>
  rw [if_pos rfl]
  simp only [evA, if_true, if_false, beq_false, simprocAttr]
  exact frz
 | true =>
 rw [if_neg (by decide)]
 simp only [hsl, evA, if_true, if_false, beq_false, simprocAttr]
 refine h123.call frz ?_
 cases h2 : anyN (fun k => decide (s.co[k]! = s.co[i]!)) i with
 | true =>
  rw [if_pos rfl]
  simp only [evA, if_true, if_false, beq_false, simprocAttr]
  exact frz
 | false =>
  rw [if_neg (by decide)]
  simp only [evA, if_true, if_false, beq_false, simprocAttr]
  exact frz
theorem c85 (s : Sys) (hs : SSz s) (i : Nat) (hi : i < s.cl.length) : PC Tryz.prog 85 [sysV s, .i i] (.i (clsErr s i)) := by
 refine ⟨AC_FE (fok85 true) (Nat.le_of_ble_eq_true rfl) ?_, rfl⟩
 have hcl := hs.cl
 have hnm := hs.nm i hi
 have hin := hs.inc i hi
 have hw : IntKind.i64.wrap ((s.cl.length : Int) - 1) = (s.cl.length : Int) - 1 := wrap_in (by omega)
 have hld : ∀ σ, f_loadN 5 [.cv (.rp (clsCs s.cl) (i * 5))] σ = some (clsA s.cl[i]!, σ) := cls_ld hi
 have hia : ∀ σ, f_iaS 5 [.cv (clsR s.cl), .cv (.int .i64 i)] σ = some (.cv (.rp (clsCs s.cl) (i * 5)), σ) := ia_cls hi
 have h21 := c21 (s.cl[i]!).nm hnm
 unfold clsErr
 generalize s.cl[i]! = c at *
 simp only [ic85, f_box, cellsOf, hld, hia, hw, evA, if_true, if_false, beq_false, simprocAttr]
 refine h21.call frz ?_
 cases h1 : nameOk c.nm with
 | false =>
  rw [if_pos rfl]
  simp only [evA, if_true, if_false, beq_false, simprocAttr]
  exact frz
 | true =>
 rw [if_neg (by decide)]
 simp only [evA, if_true, if_false, beq_false, simprocAttr]
 refine IL_for i (fun k s' => (∀ j, j < k → decide ((s.cl[j]!).nm = c.nm) = false) ∧ ∃ v6 v7 v9 v10 v11 v12 v13 v14 v15 v16, s' = ⟨[sysV s, .i i, .ptr 0 0, .i 0, .ptr 1 0, .i k, v6, v7, .b false, v9, v10, v11, v12, v13, v14, v15, v16], [.cells [.cv (clsR s.cl), .cv (strR s.co)], .cells [.cv (.str c.nm), ints c.inc, .i c.need, .i c.age, .i c.term]]⟩) ?_ 0 (Nat.zero_le _) ⟨by omega, _, _, _, _, _, _, _, _, _, _, rfl⟩
 rintro k s' hk ⟨hall, v6, v7, v9, v10, v11, v12, v13, v14, v15, v16, rfl⟩
 by_cases hki : k < i
 ·have hk2 : k < s.cl.length := by omega
  simp only [ic85l1, Int.ofNat_lt, hki, evA, if_true, if_false, beq_false, simprocAttr]
  refine DW_s [] [] hmix (by kernel_rfl) rfl ?_
  simp only [ia_cls hk2, cls_0 hk2, binS, str_eq, evA, if_true, if_false, beq_false, simprocAttr]
  cases h2 : decide ((s.cl[k]!).nm = c.nm) with
  | true =>
   rw [if_pos (anyN_true.2 ⟨k, hki, h2⟩)]
   simp only [evA, if_true, if_false, beq_false, simprocAttr]
   exact frz
  | false =>
   simp only [wrap_succ (show k + 1 < 2 ^ 63 by omega), evA, if_true, if_false, beq_false, simprocAttr]
   refine kFor_go (by first | trivial | omega) ⟨fun j hj => ?_, _, _, _, _, _, _, _, _, _, _, rfl⟩
   rcases Nat.lt_succ_iff_lt_or_eq.1 hj with hj | rfl
   ·exact hall j hj
   ·exact h2
 have hki' : k = i := by omega
 subst hki'
 have h2 : anyN (fun j => decide ((s.cl[j]!).nm = c.nm)) k = false := anyN_false.2 hall
 rw [if_neg (by rw [h2]; decide)]
 by_cases h3 : s.cl.length < c.inc.length
 ·rw [if_pos (show (c.inc.length : Int) > s.cl.length by omega)]
  simp only [ic85l1, Int.ofNat_lt, hki, hw, gt_iff_lt, h3, evA, if_true, if_false, beq_false, simprocAttr]
  exact frz
 rw [if_neg (show ¬ (c.inc.length : Int) > s.cl.length by omega)]
 simp only [ic85l1, Int.ofNat_lt, hki, hw, gt_iff_lt, h3, evA, if_true, if_false, beq_false, simprocAttr]
 refine IL_for c.inc.length (fun m s' => (∀ j, j < m → inB (c.inc[j]?.getD 0) 0 ((s.cl.length : Int) - 1) = true) ∧ ∃ v9 v10 v12 v13 v14 v15 v16, s' = ⟨[sysV s, .i k, .ptr 0 0, .i 0, .ptr 1 0, .i k, .i ((s.cl.length : Int) - 1), .i m, .b false, v9, v10, .b false, v12, v13, v14, v15, v16], [.cells [.cv (clsR s.cl), .cv (strR s.co)], .cells [.cv (.str c.nm), ints c.inc, .i c.need, .i c.age, .i c.term]]⟩) ?_ 0 (Nat.zero_le _) ⟨by omega, _, _, _, _, _, _, _, rfl⟩
 rintro m s' hm ⟨hal2, v9, v10, v12, v13, v14, v15, v16, rfl⟩
 by_cases hmi : m < c.inc.length
 ·simp only [ic85l0, Int.ofNat_lt, hmi, evA, if_true, if_false, beq_false, simprocAttr]
  refine (c59i (c.inc[m]?.getD 0) 0 ((s.cl.length : Int) - 1)).call frz ?_
  cases h4 : inB (c.inc[m]?.getD 0) 0 ((s.cl.length : Int) - 1) with
  | false =>
   rw [if_pos (by rw [outF_true hmi h4]; rfl)]
   simp only [evA, if_true, if_false, beq_false, simprocAttr]
   exact frz
  | true =>
   simp only [wrap_succ (show m + 1 < 2 ^ 63 by omega), evA, if_true, if_false, beq_false, simprocAttr]
   refine kFor_go (by first | trivial | omega) ⟨fun j hj => ?_, _, _, _, _, _, _, _, rfl⟩
   rcases Nat.lt_succ_iff_lt_or_eq.1 hj with hj | rfl
   ·exact hal2 j hj
   ·exact h4
 have hmi' : m = c.inc.length := by omega
 subst hmi'
 rw [outF_false.2 hal2, Bool.false_or]
 simp only [ic85l0, Int.ofNat_lt, hmi, evA, if_true, if_false, beq_false, simprocAttr]
 refine (c59i c.need (-1) ((s.cl.length : Int) - 1)).call frz ?_
 cases h5 : inB c.need (-1) ((s.cl.length : Int) - 1) with
 | false =>
  rw [if_pos (show (!false) = true from rfl)]
  simp only [evA, if_true, if_false, beq_false, simprocAttr]
  exact frz
 | true =>
 rw [if_neg (show ¬ ((!true) = true) by decide)]
 simp only [evA, if_true, if_false, beq_false, simprocAttr]
 cases h6 : (c.need == (k : Int)) with
 | true =>
  rw [if_pos rfl]
  simp only [evA, if_true, if_false, beq_false, simprocAttr]
  exact frz
 | false =>
 rw [if_neg (by decide)]
 have ho : outF 0 100 [c.age, c.term] = (!inB c.age 0 100 || !inB c.term 0 100) := by
  have e1 := outF_one 0 100 c.age
  have e2 := outF_one 0 100 c.term
  simp only [outF, List.any_cons, List.any_nil, Bool.or_false] at e1 e2 ⊢
  rw [e1, e2]
 rw [ho]
 simp only [evA, if_true, if_false, beq_false, simprocAttr]
 refine (c59i c.age 0 100).call frz ?_
 cases h7 : inB c.age 0 100 with
 | false =>
  rw [if_pos (show (!false || !inB c.term 0 100) = true from rfl)]
  simp only [evA, if_true, if_false, beq_false, simprocAttr]
  exact frz
 | true =>
 simp only [evA, if_true, if_false, beq_false, simprocAttr]
 refine (c59i c.term 0 100).call frz ?_
 cases h8 : inB c.term 0 100 with
 | false =>
  rw [if_pos (show (!true || !false) = true from rfl)]
  simp only [evA, if_true, if_false, beq_false, simprocAttr]
  exact frz
 | true =>
  rw [if_neg (show ¬ ((!true || !true) = true) by decide)]
  simp only [evA, if_true, if_false, beq_false, simprocAttr]
  exact frz
abbrev boolR (o : List Bool) : CV := .rsl (o.map .bool) o.length
abbrev boolA (o : List Bool) : List AV := o.map AV.b
def nx (s : Sys) (i : Nat) : List Nat := (s.cl[i]!).inc.map Int.toNat
def OkI (s : Sys) : Prop := ∀ i, i < s.cl.length → ∀ z ∈ (s.cl[i]!).inc, 0 ≤ z ∧ z < s.cl.length
theorem OkI.inN {s : Sys} (h : OkI s) : InN (nx s) s.cl.length := fun i hi z hz => by
 obtain ⟨y, hy, rfl⟩ := List.mem_map.1 hz
 have := h i hi y hy
 omega
abbrev cov (s : Sys) (c : Nat) : List Bool := covG (nx s) s.cl.length c
theorem cov_len {s : Sys} {c : Nat} : (cov s c).length = s.cl.length := covG_len
theorem mk_bools {n : Nat} (h : n < 2 ^ 40) (σ : List AObj) : f_mkslice 1 1 [.cv (.bool false)] [.i n, .i n] σ = some (.sl σ.length 0 n 1, σ ++ [.cells (boolA (List.replicate n false))]) := by
 have e : (2 : Int) ^ 46 = 70368744177664 := by decide
 have e2 : (2 : Nat) ^ 40 = 1099511627776 := by decide
 have h1 : 0 ≤ (n : Int) ∧ True ∧ (n : Int) * (1 : Nat) ≤ 2 ^ 46 ∧ (n : Int) ≤ 2 ^ 46 ∧ [AV.cv (.bool false)].length = 1 := by
  refine ⟨by omega, trivial, by omega, by omega, rfl⟩
 simp only [f_mkslice]
 rw [if_pos h1]
 simp [zcells]
theorem set_bools {o : List Bool} {k : Nat} : (boolA o).set k (.cv (.bool true)) = boolA (setT o k) := by
 unfold setT; exact List.map_set.symm
theorem get_bools {o : List Bool} {k : Nat} (h : k < o.length) : (boolA o)[k]? = some (.b (o[k]?.getD false)) := by simp [h]
theorem frz_bools {p : CV → Prop} (hp : ∀ z, p (.bool z)) {σ : List AObj} {o : List Bool} {l n : Nat} (hn : n = o.length) (hr : rowOf σ l = some (boolA o)) : FrzV p σ (.sl l 0 n 1) (.cv (boolR o)) := by
 subst hn
 have : boolA o = (o.map CV.bool).map AV.cv := by simp
 refine sl_frz (cs := o.map CV.bool) (rest := []) (by rw [hr, this]; simp) (by simp) ?_
 intro c hc
 obtain ⟨b, _, rfl⟩ := List.mem_map.1 hc
 exact hp b
theorem relax1_step {g : Nat → List Nat} {o : List Bool} {i k : Nat} (h : o[i]?.getD false = true) : (((g i).take k).foldl setT o)[i]?.getD false = true := (foldT_T _ _).2 (.inl h)
theorem c51 (s : Sys) (hs : SSz s) (hn : s.cl.length < 2 ^ 40) (hok : OkI s) (c : Nat) (hc : c < s.cl.length) : PC Tryz.prog 51 [sysV s, .i c] (.cv (boolR (cov s c))) := by
 have e40 : (2 : Nat) ^ 40 = 1099511627776 := by decide
 refine ⟨AC_FE (fok51 true) (Nat.le_of_ble_eq_true rfl) ?_, rfl⟩
 have hsl : ∀ σ, f_iaS 1 [.sl 1 0 s.cl.length 1, .cv (.int .i64 c)] σ = some (.ptr 1 (0 + c), σ) := sl_addr hc
 have hrep : c + 1 ≤ (List.replicate s.cl.length false).length := by simp; omega
 simp only [ic51, f_box, cellsOf, mk_bools hn, hsl, Nat.zero_add, set_bools, hrep, evA, if_true, if_false, beq_false, simprocAttr]
 refine IL_for s.cl.length (fun t s' => ∃ v6 v7 v8 v9 v10, s' = ⟨[sysV s, .i c, .ptr 0 0, .cv .nils, .sl 1 0 s.cl.length 1, .i t, v6, v7, v8, v9, v10], [.cells [.cv (clsR s.cl), .cv (strR s.co)], .cells (boolA (covN (nx s) s.cl.length c t))]⟩) ?_ 0 (Nat.zero_le _) ⟨_, _, _, _, _, rfl⟩
 rintro t s' ht ⟨v6, v7, v8, v9, v10, rfl⟩
 by_cases htn : t < s.cl.length
 ·simp only [ic51l2, Int.ofNat_lt, htn, evA, if_true, if_false, beq_false, simprocAttr]
  have hcl := covN_len (g := nx s) (n := s.cl.length) (c := c) t
  have hcov : covN (nx s) s.cl.length c (t + 1) = relaxN (nx s) (covN (nx s) s.cl.length c t) s.cl.length := rfl
  generalize covN (nx s) s.cl.length c t = o at hcl hcov
  refine IL_for s.cl.length (fun i s' => ∃ v7 v9 v10, s' = ⟨[sysV s, .i c, .ptr 0 0, .cv .nils, .sl 1 0 s.cl.length 1, .i t, .i i, v7, .b true, v9, v10], [.cells [.cv (clsR s.cl), .cv (strR s.co)], .cells (boolA (relaxN (nx s) o i))]⟩) ?_ 0 (Nat.zero_le _) ⟨_, _, _, rfl⟩
  rintro i s' hi ⟨v7, v9, v10, rfl⟩
  by_cases hin : i < s.cl.length
  ·have hinc := hs.inc i hin
   have hrl : (relaxN (nx s) o i).length = s.cl.length := by rw [relaxN, relaxL_len, hcl]
   have hstep : relaxN (nx s) o (i + 1) = relax1 (nx s) (relaxN (nx s) o i) i := by simp [relaxN, List.range_succ]
   generalize hq : relaxN (nx s) o i = q at hrl hstep
   simp only [ic51l1, Int.ofNat_lt, hin, evA, if_true, if_false, beq_false, simprocAttr]
   refine IL_for (s.cl[i]!).inc.length (fun k s' => (k = 0 ∨ q[i]?.getD false = true) ∧ ∃ v10, s' = ⟨[sysV s, .i c, .ptr 0 0, .cv .nils, .sl 1 0 s.cl.length 1, .i t, .i i, .i k, .b true, .b true, v10], [.cells [.cv (clsR s.cl), .cv (strR s.co)], .cells (boolA (((nx s i).take k).foldl setT q))]⟩) ?_ 0 (Nat.zero_le _) ⟨.inl rfl, _, rfl⟩
   rintro k s' hk ⟨hkq, v10, rfl⟩
   have hnx : (nx s i).length = (s.cl[i]!).inc.length := by simp [nx]
   by_cases hki : k < (s.cl[i]!).inc.length
   ·have hz : (nx s i)[k]? = some ((s.cl[i]!).inc[k]?.getD 0).toNat := by rw [nx, List.getElem?_map, List.getElem?_eq_getElem hki]; rfl
    have hzr := hok i hin ((s.cl[i]!).inc[k]?.getD 0) (by rw [List.getElem?_eq_getElem hki]; exact List.getElem_mem hki)
    have hfl : (((nx s i).take k).foldl setT q).length = s.cl.length := by rw [foldT_len, hrl]
    have hgb := get_bools (o := ((nx s i).take k).foldl setT q) (k := i) (by omega)
    have hbit : (((nx s i).take k).foldl setT q)[i]?.getD false = q[i]?.getD false := by
     rcases hkq with rfl | h
     ·simp
     ·rw [h]; exact relax1_step h
    rw [hbit] at hgb
    have hsli : ∀ σ, f_iaS 1 [.sl 1 0 s.cl.length 1, .cv (.int .i64 i)] σ = some (.ptr 1 (0 + i), σ) := sl_addr hin
    simp only [ic51l0, Int.ofNat_lt, hki, ia_cls hin, cls_1 hin, hsli, Nat.zero_add, hgb, evA, if_true, if_false, beq_false, simprocAttr]
    cases hb : q[i]?.getD false with
    | false =>
     have hk0 : k = 0 := by
      rcases hkq with h | h
      ·exact h
      ·rw [hb] at h; cases h
     subst hk0
     simp only [wrap_succ (show i + 1 < 2 ^ 63 by omega), evA, if_true, if_false, beq_false, simprocAttr]
     have hst : relaxN (nx s) o (i + 1) = q := by rw [hstep, relax1, if_neg (by rw [hb]; decide)]
     exact kFor_go (by first | trivial | omega) ⟨_, _, _, by rw [hst]; rfl⟩
    | true =>
     obtain ⟨z, hze⟩ : ∃ z : Nat, (s.cl[i]!).inc[k]?.getD 0 = (z : Int) := ⟨((s.cl[i]!).inc[k]?.getD 0).toNat, by omega⟩
     rw [hze, Int.toNat_natCast] at hz
     have hslz : ∀ σ, f_iaS 1 [.sl 1 0 s.cl.length 1, .cv (.int .i64 z)] σ = some (.ptr 1 (0 + z), σ) := sl_addr (by omega)
     have hzl : z + 1 ≤ (((nx s i).take k).foldl setT q).length := by omega
     simp only [ic51l0, Int.ofNat_lt, hki, ia_cls hin, cls_1 hin, hze, hzl, hslz, Nat.zero_add, set_bools, wrap_succ (show k + 1 < 2 ^ 63 by omega), evA, if_true, if_false, beq_false, simprocAttr]
     have hst : ((nx s i).take (k + 1)).foldl setT q = setT (((nx s i).take k).foldl setT q) z := by
      rw [List.take_add_one, hz, List.foldl_append]
      rfl
     exact kFor_go (by first | trivial | omega) ⟨.inr trivial, _, by rw [hst]⟩
   ·have hkl : k = (s.cl[i]!).inc.length := by omega
    simp only [ic51l0, Int.ofNat_lt, hki, ia_cls hin, cls_1 hin, wrap_succ (show i + 1 < 2 ^ 63 by omega), evA, if_true, if_false, beq_false, simprocAttr]
    have hst : relaxN (nx s) o (i + 1) = ((nx s i).take k).foldl setT q := by
     rw [hstep, hkl, ← hnx, List.take_length, relax1]
     split
     ·rfl
     ·rename_i hb
      have hk0 : k = 0 := by
       rcases hkq with h | h
       ·exact h
       ·exact absurd h hb
      have : nx s i = [] := List.eq_nil_of_length_eq_zero (by omega)
      rw [this]; rfl
    exact kFor_go (by first | trivial | omega) ⟨_, _, _, by rw [hst]⟩
  ·have hin' : i = s.cl.length := by omega
   subst hin'
   simp only [ic51l1, Int.ofNat_lt, hin, wrap_succ (show t + 1 < 2 ^ 63 by omega), evA, if_true, if_false, beq_false, simprocAttr]
   exact kFor_go (by first | trivial | omega) ⟨_, _, _, _, _, by rw [hcov]⟩
 ·have htn' : t = s.cl.length := by omega
  subst htn'
  simp only [ic51l2, Int.ofNat_lt, htn, evA, if_true, if_false, beq_false, simprocAttr]
  exact frz_bools (fun _ => trivial) (by rw [cov_len]) rfl
theorem nx_get {s : Sys} {c k : Nat} (hk : k < (s.cl[c]!).inc.length) : (nx s c)[k]? = some ((s.cl[c]!).inc[k]?.getD 0).toNat := by rw [nx, List.getElem?_map, List.getElem?_eq_getElem hk]; rfl
theorem nx_len {s : Sys} {c : Nat} : (nx s c).length = (s.cl[c]!).inc.length := by simp [nx]
structure DfsH (s : Sys) (σ : List AObj) (A B D L R : Nat) : Prop where
 a : rowOf σ A = some [.sl R 0 s.cl.length 1]
 b : rowOf σ B = some [.ptr L 0]
 d : rowOf σ D = some [.fn (.func 124) [.ptr A 0, .ptr B 0, .ptr D 0]]
 l : ∃ v, rowOf σ L = some [.cv (clsR s.cl), .cv (strR s.co), v]
 ra : R ≠ A
 rb : R ≠ B
 rd : R ≠ D
 rl : R ≠ L
 rr : R < σ.length
theorem DfsH.set {s : Sys} {σ : List AObj} {A B D L R : Nat} (h : DfsH s σ A B D L R) (x : AObj) : DfsH s (σ.set R x) A B D L R :=
 ⟨by rw [rowOf_set_ne h.ra]; exact h.a, by rw [rowOf_set_ne h.rb]; exact h.b, by rw [rowOf_set_ne h.rd]; exact h.d, by rw [rowOf_set_ne h.rl]; exact h.l, h.ra, h.rb, h.rd, h.rl, by simpa using h.rr⟩
theorem cntT_set {M : List Bool} {c : Nat} (hc : c < M.length) (h : ¬ T M c) : cntT M < cntT (setT M c) :=
 (cntT_le (setT_len M c).symm fun k hk => setT_T.2 (.inl hk)).2 c (setT_T.2 (.inr ⟨rfl, hc⟩)) h
theorem c124 (s : Sys) (hs : SSz s) (hok : OkI s) (A B D L R : Nat) : ∀ (m : Nat) (σ : List AObj) (M : List Bool) (c : Nat), DfsH s σ A B D L R → M.length = s.cl.length → c < s.cl.length → s.cl.length - cntT M < m →
  AC Tryz.prog 124 [.i c, .ptr A 0, .ptr B 0, .ptr D 0] (σ.set R (.cells (boolA M))) fun r τ => r = .tup [] ∧ ∃ M', Dfs (nx s) c M M' ∧ τ = σ.set R (.cells (boolA M'))
 | 0, _, _, _, _, _, _, hm => absurd hm (Nat.not_lt_zero _)
 | m + 1, σ, M, c, hσ, hM, hc, hm => by
  have hH := fun (o : List Bool) => hσ.set (.cells (boolA o))
  obtain ⟨lv, hL⟩ := hσ.l
  have hA : ∀ o : List Bool, rowOf (σ.set R (.cells (boolA o))) A = some [.sl R 0 s.cl.length 1] := fun o => (hH o).a
  have hB : ∀ o : List Bool, rowOf (σ.set R (.cells (boolA o))) B = some [.ptr L 0] := fun o => (hH o).b
  have hD : ∀ o : List Bool, rowOf (σ.set R (.cells (boolA o))) D = some [.fn (.func 124) [.ptr A 0, .ptr B 0, .ptr D 0]] := fun o => (hH o).d
  have hLL : ∀ o : List Bool, rowOf (σ.set R (.cells (boolA o))) L = some [.cv (clsR s.cl), .cv (strR s.co), lv] := fun o => by rw [rowOf_set_ne hσ.rl]; exact hL
  have hR : ∀ o : List Bool, rowOf (σ.set R (.cells (boolA o))) R = some (boolA o) := fun o => by simp [rowOf, hσ.rr]
  have hgc := get_bools (o := M) (k := c) (by omega)
  have hslc : ∀ σ', f_iaS 1 [.sl R 0 s.cl.length 1, .cv (.int .i64 c)] σ' = some (.ptr R (0 + c), σ') := sl_addr hc
  refine AC_FE (fok124 true) (Nat.le_of_ble_eq_true rfl) ?_
  by_cases hT : M[c]?.getD false = true
  ·rw [hT] at hgc
   simp only [ic124, hA, hR, hslc, Nat.zero_add, hgc, evA, if_true, if_false, beq_false, simprocAttr]
   exact ⟨M, ⟨rfl, fun k h => h, hT, fun k h => .inl h, fun a z h1 h2 => absurd h1 h2⟩, rfl⟩
  ·have hTf : M[c]?.getD false = false := by simpa using hT
   rw [hTf] at hgc
   have hcl : c + 1 ≤ M.length := by omega
   have hsz := cntT_set (c := c) (by omega) (show ¬ T M c from hT)
   have hinc := hs.inc c hc
   have hle := cntT_len (setT M c)
   rw [setT_len] at hle
   have hM1 : (setT M c).length = s.cl.length := by rw [setT_len, hM]
   simp only [ic124, hA, hB, hLL, hR, hslc, Nat.zero_add, hgc, hcl, set_bools, List.set_set, ia_cls hc, cls_1 hc, evA, if_true, if_false, beq_false, simprocAttr]
   refine IL_for (s.cl[c]!).inc.length (fun k s' => ∃ v4 v9 M2, (M2.length = s.cl.length ∧ (∀ j, T (setT M c) j → T M2 j) ∧ (∀ j, T M2 j → T (setT M c) j ∨ Rch (nx s) c j) ∧ (∀ a z, T M2 a → ¬ T (setT M c) a → z ∈ nx s a → T M2 z) ∧ ∀ j z, j < k → (nx s c)[j]? = some z → T M2 z) ∧ s' = ⟨[.i c, .ptr A 0, .ptr B 0, .ptr D 0, v4, .b false, .cv (.rsl ((s.cl[c]!).inc.map (.int .i64)) (s.cl[c]!).inc.length), .i (s.cl[c]!).inc.length, .i k, v9], σ.set R (.cells (boolA M2))⟩) ?_ 0 (Nat.zero_le _) ⟨_, _, setT M c, ⟨hM1, fun _ h => h, fun _ h => .inl h, fun a z h1 h2 => absurd h1 h2, by omega⟩, rfl⟩
   rintro k s' hk ⟨v4, v9, M2, ⟨q1, q2, q3, q4, q5⟩, rfl⟩
   by_cases hki : k < (s.cl[c]!).inc.length
   ·have hz := nx_get hki
    have hzr := hok c hc ((s.cl[c]!).inc[k]?.getD 0) (by rw [List.getElem?_eq_getElem hki]; exact List.getElem_mem hki)
    obtain ⟨z, hze⟩ : ∃ z : Nat, (s.cl[c]!).inc[k]?.getD 0 = (z : Int) := ⟨((s.cl[c]!).inc[k]?.getD 0).toNat, by omega⟩
    rw [hze, Int.toNat_natCast] at hz
    have hcnt : cntT (setT M c) ≤ cntT M2 := (cntT_le (by rw [hM1, q1]) q2).1
    have ih := c124 s hs hok A B D L R m σ M2 z hσ q1 (by omega) (by omega)
    have hzm : z ∈ nx s c := List.mem_of_getElem? hz
    simp only [ic124l0, Int.ofNat_lt, hki, hD, hze, evA, if_true, if_false, beq_false, simprocAttr]
    refine ih.mono ?_
    rintro r τ ⟨rfl, M3, hd, rfl⟩
    simp only [wrap_succ (show k + 1 < 2 ^ 63 by omega), evA, if_true, if_false, beq_false, simprocAttr]
    refine kFor_go (by first | trivial | omega) ⟨_, _, M3, ⟨by rw [hd.len, q1], fun j h => hd.mono j (q2 j h), fun j h => ?_, fun a y h1 h2 h3 => ?_, fun j y hj hy => ?_⟩, rfl⟩
    ·rcases hd.new j h with h | h
     ·exact q3 j h
     ·exact .inr (Rch.head hzm h)
    ·by_cases hm2 : T M2 a
     ·exact hd.mono y (q4 a y hm2 h2 h3)
     ·exact hd.clo a y h1 hm2 h3
    ·rcases Nat.lt_succ_iff_lt_or_eq.1 hj with hj | rfl
     ·exact hd.mono y (q5 j y hj hy)
     ·rw [hz] at hy; cases hy; exact hd.has
   ·have hkl : k = (s.cl[c]!).inc.length := by omega
    simp only [ic124l0, Int.ofNat_lt, hki, evA, if_true, if_false, beq_false, simprocAttr]
    refine ⟨M2, ⟨by rw [q1, hM], fun j h => q2 j (setT_T.2 (.inl h)), q2 c (setT_T.2 (.inr ⟨rfl, by omega⟩)), fun j h => ?_, fun a z h1 h2 h3 => ?_⟩, rfl⟩
    ·rcases q3 j h with h | h
     ·rcases setT_T.1 h with h | ⟨rfl, _⟩
      ·exact .inl h
      ·exact .inr .refl
     ·exact .inr h
    ·by_cases hac : a = c
     ·subst hac
      obtain ⟨j, hj, hje⟩ := List.mem_iff_getElem.1 h3
      rw [nx_len] at hj
      exact q5 j z (by omega) (by rw [List.getElem?_eq_getElem (by rw [nx_len]; exact hj), hje])
     ·exact q4 a z h1 (fun h => by
       rcases setT_T.1 h with h | ⟨h, _⟩
       ·exact h2 h
       ·exact hac h) h3
def CovV (s : Sys) (b : Nat) (τ : List AObj) (v : AV) (i : Nat) : Prop :=
 (v = .cv .nils ∧ i = 0) ∨ ∃ (q : Nat) (a : Nat → Nat), b ≤ q ∧ v = .sl q 0 i 1 ∧ rowOf τ q = some ((List.range i).map fun k => AV.sl (a k) 0 s.cl.length 1) ∧ ∀ k, k < i → b ≤ a k ∧ a k ≠ q ∧ rowOf τ (a k) = some (boolA (cov s k))
structure LookH (s : Sys) (σ : List AObj) (L i : Nat) (τ : List AObj) : Prop where
 len : σ.length ≤ τ.length
 frame : ∀ l, l < σ.length → l ≠ L → τ[l]? = σ[l]?
 sys : ∃ v, rowOf τ L = some [.cv (clsR s.cl), .cv (strR s.co), v] ∧ CovV s (σ.length + 1) τ v i
theorem set_row {σ : List AObj} {l : Nat} {cs : List AV} (h : rowOf σ l = some cs) : σ.set l (.cells cs) = σ := by
 have := rowOf_some h
 apply List.ext_getElem?
 intro i
 rw [List.getElem?_set]
 split
 ·rename_i e; subst e
  obtain ⟨h1, h2⟩ := List.getElem?_eq_some_iff.1 this
  rw [if_pos h1, this]
 ·rfl
theorem rowOf_congr {X τ : List AObj} {l : Nat} (h : X[l]? = τ[l]?) : rowOf X l = rowOf τ l := by unfold rowOf; rw [h]
theorem look_step {s : Sys} {σ τ X : List AObj} {L i Q qo : Nat} {a : Nat → Nat} {v : AV} (hlb : σ.length < τ.length) (h2 : ∀ l, l < σ.length → l ≠ L → τ[l]? = σ[l]?)
  (h3 : rowOf τ L = some [.cv (clsR s.cl), .cv (strR s.co), v]) (h5 : rowOf τ σ.length = some [.ptr L 0]) (hLl : L < σ.length) (hqo : σ.length + 1 ≤ qo)
  (hX : ∀ l, l < τ.length → l ≠ qo → X[l]? = τ[l]?) (hXl : τ.length ≤ X.length)
  (hQ : rowOf X Q = some ((List.range (i + 1)).map fun k => AV.sl (a k) 0 s.cl.length 1)) (hQl : τ.length < Q)
  (ha : ∀ k, k < i → σ.length + 1 ≤ a k ∧ a k < τ.length ∧ a k ≠ qo ∧ rowOf τ (a k) = some (boolA (cov s k))) (hai : a i = τ.length) (hR : rowOf X τ.length = some (boolA (cov s i))) :
  LookH s σ L (i + 1) (X.set L (.cells [.cv (clsR s.cl), .cv (strR s.co), .sl Q 0 (i + 1) 1])) ∧ rowOf (X.set L (.cells [.cv (clsR s.cl), .cv (strR s.co), .sl Q 0 (i + 1) 1])) σ.length = some [.ptr L 0] := by
 have hXL : rowOf X L = some [.cv (clsR s.cl), .cv (strR s.co), v] := by rw [rowOf_congr (hX L (by omega) (by omega))]; exact h3
 refine ⟨⟨by simp; omega, fun l h4 h6 => ?_, _, rowOf_set_self hXL, .inr ⟨Q, a, by omega, rfl, ?_, fun k hk => ?_⟩⟩, ?_⟩
 ·rw [List.getElem?_set_ne (Ne.symm h6), hX l (by omega) (by omega), h2 l h4 h6]
 ·rw [rowOf_set_ne (by omega)]; exact hQ
 ·rcases Nat.lt_succ_iff_lt_or_eq.1 hk with hk | rfl
  ·obtain ⟨a1, a2, a3, a4⟩ := ha k hk
   refine ⟨a1, by omega, ?_⟩
   rw [rowOf_set_ne (by omega), rowOf_congr (hX _ a2 a3)]; exact a4
  ·rw [hai]
   refine ⟨by omega, by omega, ?_⟩
   rw [rowOf_set_ne (by omega)]; exact hR
 ·rw [rowOf_set_ne (by omega), rowOf_congr (hX _ hlb (by omega))]; exact h5
theorem c107 (s : Sys) (hs : SSz s) (hn12 : s.cl.length ≤ 12) (hok : OkI s) (L : Nat) (σ : List AObj) (hL : rowOf σ L = some [.cv (clsR s.cl), .cv (strR s.co), .cv .nils]) :
  AC Tryz.prog 107 [.ptr L 0] σ fun r τ => r = .tup [] ∧ LookH s σ L s.cl.length τ := by
 have e40 : (2 : Nat) ^ 40 = 1099511627776 := by decide
 have hn : s.cl.length < 2 ^ 40 := by omega
 have hLl : L < σ.length := (List.getElem?_eq_some_iff.1 (rowOf_some hL)).1
 refine AC_FE (fok107 true) (Nat.le_of_ble_eq_true rfl) ?_
 simp only [ic107, f_box, cellsOf, rowOf_az, rowOf_low hL, evA, if_true, if_false, beq_false, simprocAttr]
 refine IL_for s.cl.length (fun i s' => ∃ v2 v3 v4 v7 τ, LookH s σ L i τ ∧ rowOf τ σ.length = some [.ptr L 0] ∧ s' = ⟨[.ptr L 0, .ptr σ.length 0, v2, v3, v4, .i s.cl.length, .i i, v7], τ⟩) ?_ 0 (Nat.zero_le _) ⟨_, _, _, _, _, ⟨by simp, fun l h1 h2 => List.getElem?_append_left h1, _, rowOf_low hL _, .inl ⟨rfl, rfl⟩⟩, by rw [rowOf_az]; rfl, rfl⟩
 ·rintro i s' hi ⟨v2, v3, v4, v7, τ, ⟨h1, h2, v, h3, h4⟩, h5, rfl⟩
  have hlb : σ.length < τ.length := (List.getElem?_eq_some_iff.1 (rowOf_some h5)).1
  have hwi : IntKind.i64.wrap ((i : Int) + 1) = ((i + 1 : Nat) : Int) := wrap_succ (by omega)
  by_cases hin : i < s.cl.length
  ·have hvn : v.isUndef = false := by
    rcases h4 with ⟨rfl, _⟩ | ⟨q, a, _, rfl, _⟩ <;> rfl
   have g5 := fun J => rowOf_low h5 J
   have g3 := fun J => rowOf_low h3 J
   simp only [ic107l0, Int.ofNat_lt, hin, h5, h3, g5, g3, mk_bools hn, rowOf_az, rowOf_as, set_az, set_as, List.append_assoc, List.length_append, evA, if_true, if_false, beq_false, simprocAttr]
   have hdfs := c124 s hs hok (τ.length + 1) σ.length (τ.length + 2) L τ.length (s.cl.length + 1) (τ ++ [AObj.cells (boolA (List.replicate s.cl.length false)), AObj.cells [AV.sl τ.length 0 s.cl.length 1], AObj.cells [AV.fn (Fn.func 124) [AV.ptr (τ.length + 1) 0, AV.ptr σ.length 0, AV.ptr (τ.length + 2) 0]]]) (List.replicate s.cl.length false) i ⟨by rw [rowOf_as]; rfl, g5 _, by rw [rowOf_as]; rfl, ⟨v, g3 _⟩, by omega, by omega, by omega, by omega, by simp⟩ (by simp) hin (by omega)
   rw [set_row (by rw [rowOf_az]; rfl)] at hdfs
   refine hdfs.mono ?_
   rintro r τ1 ⟨rfl, M', hd, rfl⟩
   rw [hd.all hok.inN hin]
   simp only [set_az, evA, if_true, if_false, beq_false, simprocAttr]
   refine DW_s [] [(0, 6), (0, 7), (1, 6), (4, 6)] hmix (by kernel_rfl) rfl ?_
   have k5 := fun J => get_low h5 J
   have kL := fun J => get_low h3 J
   have hsrc : ∀ (x0 x1 x2 : AObj) (J : List AObj), srcCells (τ ++ (x0 :: x1 :: x2 :: AObj.cells [AV.sl τ.length 0 s.cl.length 1] :: J)) 1 (.sl (τ.length + 3) 0 1 1) = some [AV.sl τ.length 0 s.cl.length 1] := fun x0 x1 x2 J => by
    simp only [srcCells, if_true, rowOf_as]; rfl
   rcases h4 with ⟨rfl, rfl⟩ | ⟨q, a, hq1, rfl, hq2, hq3⟩
   ·simp only [h5, h3, g5, g3, k5, kL, hsrc, f_append, lenF, rowOf_az, rowOf_as, set_az, set_as, List.append_assoc, List.length_append, evA, if_true, if_false, beq_false, simprocAttr]
    have hst := look_step (s := s) (σ := σ) (τ := τ) (L := L) (i := 0) (Q := τ.length + 4) (qo := τ.length) (a := fun _ => τ.length) (X := τ ++ [AObj.cells (boolA (cov s 0)), AObj.cells [AV.sl τ.length 0 s.cl.length 1], AObj.cells [AV.fn (Fn.func 124) [AV.ptr (τ.length + 1) 0, AV.ptr σ.length 0, AV.ptr (τ.length + 2) 0]], AObj.cells [AV.sl τ.length 0 s.cl.length 1], AObj.cells [AV.sl τ.length 0 s.cl.length 1]]) hlb h2 h3 h5 hLl (by omega) (fun l hl _ => List.getElem?_append_left hl) (by simp) (by rw [rowOf_as]; rfl) (by omega) (fun k hk => by omega) rfl (by rw [rowOf_az]; rfl)
    exact kFor_go trivial ⟨_, _, _, _, _, hst.1, hst.2, rfl⟩
   ·have hql : q < τ.length := (List.getElem?_eq_some_iff.1 (rowOf_some hq2)).1
    have gq := fun J => rowOf_low hq2 J
    have hap : ∀ (J J' : List AObj) (x : AObj) (l : Nat), l < τ.length → l ≠ q → ((τ ++ J).set q x ++ J')[l]? = τ[l]? := fun J J' x l hl hne => by
     rw [List.getElem?_append_left (by simp; omega), List.getElem?_set_ne (Ne.symm hne), List.getElem?_append_left hl]
    have m5 : ∀ (J J' : List AObj) (x : AObj), ((τ ++ J).set q x ++ J')[σ.length]? = some (.cells [.ptr L 0]) := fun J J' x => by rw [hap _ _ _ _ hlb (by omega)]; exact rowOf_some h5
    have mL : ∀ (J J' : List AObj) (x : AObj), ((τ ++ J).set q x ++ J')[L]? = some (.cells [.cv (clsR s.cl), .cv (strR s.co), .sl q 0 i 1]) := fun J J' x => by rw [hap _ _ _ _ (by omega) (by omega)]; exact rowOf_some h3
    have rL : ∀ (J J' : List AObj) (x : AObj), rowOf ((τ ++ J).set q x ++ J') L = some [.cv (clsR s.cl), .cv (strR s.co), .sl q 0 i 1] := fun J J' x => by rw [rowOf_congr (hap _ _ _ _ (by omega) (by omega))]; exact h3
    have hrow : ((List.range i).map fun k => AV.sl (a k) 0 s.cl.length 1).length = i := by simp
    have htk : ((List.range i).map fun k => AV.sl (a k) 0 s.cl.length 1).take i = (List.range i).map fun k => AV.sl (a k) 0 s.cl.length 1 := by rw [List.take_of_length_le (by simp)]
    have hc1 : i ≤ (List.range i).length := by simp
    have hc2 : (i + 1) * 24 ≤ 2 ^ 44 := by
     have : (2 : Nat) ^ 44 = 17592186044416 := by decide
     omega
    have hc3 : i + 1 ≤ 2 ^ 44 := by omega
    simp only [hwi, h5, h3, g5, g3, k5, kL, m5, mL, rL, gq, hc1, hc2, hc3, htk, hsrc, f_append, lenF, rowOf_az, rowOf_as, set_az, set_as, List.append_assoc, List.length_append, evA, if_true, if_false, beq_false, simprocAttr]
    obtain ⟨a', ha', hai'⟩ : ∃ a' : Nat → Nat, (∀ k, k < i → a' k = a k) ∧ a' i = τ.length := ⟨fun k => if k < i then a k else τ.length, fun k hk => by simp [hk], by simp⟩
    have hrow' : ((List.range i).map fun k => AV.sl (a k) 0 s.cl.length 1) ++ [AV.sl τ.length 0 s.cl.length 1] = (List.range (i + 1)).map fun k => AV.sl (a' k) 0 s.cl.length 1 := by
     rw [List.range_succ, List.map_append]
     congr 1
     ·apply List.map_congr_left
      intro k hk
      rw [ha' k (List.mem_range.1 hk)]
     ·simp [hai']
    rw [hrow']
    have hlen4 : ((τ ++ [AObj.cells (boolA (cov s i)), AObj.cells [AV.sl τ.length 0 s.cl.length 1], AObj.cells [AV.fn (Fn.func 124) [AV.ptr (τ.length + 1) 0, AV.ptr σ.length 0, AV.ptr (τ.length + 2) 0]], AObj.cells [AV.sl τ.length 0 s.cl.length 1]]).set q AObj.dead).length = τ.length + 4 := by simp
    have hst := look_step (s := s) (σ := σ) (τ := τ) (L := L) (i := i) (Q := τ.length + 4) (qo := q) (a := a') (X := (τ ++ [AObj.cells (boolA (cov s i)), AObj.cells [AV.sl τ.length 0 s.cl.length 1], AObj.cells [AV.fn (Fn.func 124) [AV.ptr (τ.length + 1) 0, AV.ptr σ.length 0, AV.ptr (τ.length + 2) 0]], AObj.cells [AV.sl τ.length 0 s.cl.length 1]]).set q AObj.dead ++ [AObj.cells ((List.range (i + 1)).map fun k => AV.sl (a' k) 0 s.cl.length 1)]) hlb h2 h3 h5 hLl hq1 (fun l hl hne => hap _ _ _ _ hl hne) (by simp; omega) (by rw [← hlen4, rowOf_az]; rfl) (by omega) (fun k hk => ?_) hai' ?_
    ·exact kFor_go trivial ⟨_, _, _, _, _, hst.1, hst.2, rfl⟩
    ·obtain ⟨b1, b2, b3⟩ := hq3 k hk
     rw [ha' k hk]
     exact ⟨b1, (List.getElem?_eq_some_iff.1 (rowOf_some b3)).1, b2, b3⟩
    ·have : ((τ ++ [AObj.cells (boolA (cov s i)), AObj.cells [AV.sl τ.length 0 s.cl.length 1], AObj.cells [AV.fn (Fn.func 124) [AV.ptr (τ.length + 1) 0, AV.ptr σ.length 0, AV.ptr (τ.length + 2) 0]], AObj.cells [AV.sl τ.length 0 s.cl.length 1]]).set q AObj.dead ++ [AObj.cells ((List.range (i + 1)).map fun k => AV.sl (a' k) 0 s.cl.length 1)])[τ.length]? = some (.cells (boolA (cov s i))) := by
      rw [List.getElem?_append_left (by simp), List.getElem?_set_ne (by omega), get_az]; rfl
     unfold rowOf; rw [this]
  ·have hin' : i = s.cl.length := by omega
   subst hin'
   simp only [ic107l0, Int.ofNat_lt, hin, evA, if_true, if_false, beq_false, simprocAttr]
   exact ⟨h1, h2, v, h3, h4⟩
theorem c111i (zs : List Int) (fv : AV) (p : Nat → Bool) (hz : zs.length < 2 ^ 63) (hf : ∀ i, i < zs.length → ∀ σ, CallV Tryz.prog fv [.i (zs[i]?.getD 0)] σ fun r τ => r = .b (p i) ∧ τ = σ) (σ : List AObj) :
  AC Tryz.prog 111 [ints zs, fv] σ fun r τ => r = .i (idxN p zs.length) ∧ τ = σ := by
 refine AC_FE (fok111 true) (Nat.le_of_ble_eq_true rfl) ?_
 simp only [ic111, evA, if_true, if_false, beq_false, simprocAttr]
 refine IL_for zs.length (fun i s => (∀ j, j < i → p j = false) ∧ ∃ v3 v6 v7, s = ⟨[ints zs, fv, .i 0, v3, .i zs.length, .i i, v6, v7], σ⟩) ?_ 0 (Nat.zero_le _) ⟨by omega, _, _, _, rfl⟩
 rintro i s hi ⟨hall, v3, v6, v7, rfl⟩
 by_cases h : i < zs.length
 ·simp only [ic111l0, Int.ofNat_lt, h, evA, if_true, if_false, beq_false, simprocAttr]
  refine (hf i h _).run ?_
  cases hp : p i
  ·simp only [evA, if_true, if_false, beq_false, simprocAttr]
   refine kFor_go (by first | trivial | omega) ⟨fun j hj => ?_, _, _, _, by rw [wrap_in (by omega)]; rfl⟩
   rcases Nat.lt_succ_iff_lt_or_eq.1 hj with hj | rfl
   ·exact hall j hj
   ·exact hp
  ·simp only [evA, if_true, if_false, beq_false, simprocAttr]
   exact (idxN_some h hall hp).symm
 ·simp only [ic111l0, Int.ofNat_lt, h, evA, if_true, if_false, beq_false, simprocAttr]
  have : i = zs.length := by omega
  subst this
  exact (idxN_none hall).symm
theorem c87i (zs : List Int) (fv : AV) (p : Nat → Bool) (hz : zs.length < 2 ^ 63) (hf : ∀ i, i < zs.length → ∀ σ, CallV Tryz.prog fv [.i (zs[i]?.getD 0)] σ fun r τ => r = .b (p i) ∧ τ = σ) : PC Tryz.prog 87 [ints zs, fv] (.b (anyN p zs.length)) := by
 refine ⟨AC_FE (fok87 true) (Nat.le_of_ble_eq_true rfl) ?_, rfl⟩
 simp only [ic87, evA, if_true, if_false, beq_false, simprocAttr]
 refine (c111i zs fv p hz hf _).run ?_
 simp only [evA, if_true, if_false, beq_false, simprocAttr, idxN_ge]
 exact frz
def covCs (s : Sys) : List CV := (List.range s.cl.length).map fun k => boolR (cov s k)
abbrev covR (s : Sys) : CV := .rsl (covCs s) s.cl.length
abbrev sysR (s : Sys) : List CV := [clsR s.cl, strR s.co, covR s]
abbrev sysP (s : Sys) : AV := .cv (.rp (sysR s) 0)
def covB (s : Sys) (c k : Nat) : Bool := (cov s c)[k]?.getD false
theorem covCs_get {s : Sys} {k : Nat} (hk : k < s.cl.length) : (covCs s)[k]? = some (boolR (cov s k)) := by simp [covCs, hk]
theorem cov_get {s : Sys} {c k : Nat} (hk : k < s.cl.length) : ((cov s c).map CV.bool)[k]? = some (.bool (covB s c k)) := by
 have := cov_len (s := s) (c := c)
 rw [List.getElem?_map, List.getElem?_eq_getElem (by omega)]
 unfold covB; rw [List.getElem?_eq_getElem (by omega)]; rfl
theorem ia_cov {s : Sys} {c k : Nat} (hk : k < s.cl.length) (σ : List AObj) : f_iaS 1 [.cv (boolR (cov s c)), .cv (.int .i64 k)] σ = some (.cv (.rp ((cov s c).map CV.bool) (k * 1)), σ) := ia_rsl (by rw [cov_len]; exact hk) σ
theorem c108 (s : Sys) (z i : Nat) (hz : z < s.cl.length) (hi : i < s.cl.length) : PC Tryz.prog 108 [.i z, .cv (.rp [.rp (sysR s) 0] 0), .cv (.rp [.int .i64 i] 0)] (.b (covB s z i)) := by
 refine ⟨AC_FE (fok108 true) (Nat.le_of_ble_eq_true rfl) ?_, rfl⟩
 simp only [ic108, evA, if_true, if_false, beq_false, simprocAttr]
 refine DW_s [] [] hmix (by kernel_rfl) rfl ?_
 simp only [ia_rsl hz, Nat.mul_one, covCs_get hz, ia_cov hi, cov_get hi, evA, if_true, if_false, beq_false, simprocAttr]
 exact frz
def dnB (s : Sys) (i : Nat) : Bool := anyN (fun k => covB s ((s.cl[i]!).inc[k]?.getD 0).toNat i) (s.cl[i]!).inc.length
def dnE (s : Sys) (i : Nat) : Int := if dnB s i then 9 else 0
def sysE (s : Sys) : Int × Int × Int :=
 if (!inB s.cl.length 1 12 || decide ((s.co.length : Int) > 8)) = true then (1, 0, 3)
 else if (findE (clsErr s) 0 s.cl.length).2 ≠ 0 then (2, findE (clsErr s) 0 s.cl.length)
 else if (findE (codErr s) 0 s.co.length).2 ≠ 0 then (3, findE (codErr s) 0 s.co.length)
 else if (findE (dnE s) 0 s.cl.length).2 ≠ 0 then (4, findE (dnE s) 0 s.cl.length)
 else (0, 0, 0)
theorem findE_all {g : Nat → Int} : ∀ (k i : Nat), (findE g i k).2 = 0 → ∀ j, i ≤ j → j < i + k → g j = 0
 | 0, i, _, j, h1, h2 => by omega
 | k + 1, i, h, j, h1, h2 => by
  rw [findE] at h
  by_cases hg : g i = 0
  ·rw [if_pos hg] at h
   rcases Nat.lt_or_ge i j with hl | hl
   ·exact findE_all k (i + 1) h j hl (by omega)
   ·have : j = i := by omega
    subst this; exact hg
  ·rw [if_neg hg] at h; exact absurd h hg
theorem clsErr_ok {s : Sys} {i : Nat} (h : clsErr s i = 0) : ∀ z ∈ (s.cl[i]!).inc, 0 ≤ z ∧ z < s.cl.length := by
 unfold clsErr at h
 split at h; · cases h
 split at h; · cases h
 split at h; · cases h
 split at h; · cases h
 rename_i h4
 intro z hz
 have h5 : outF 0 ((s.cl.length : Int) - 1) (s.cl[i]!).inc = false := by
  cases hh : outF 0 ((s.cl.length : Int) - 1) (s.cl[i]!).inc with
  | false => rfl
  | true => rw [hh, Bool.true_or] at h4; exact absurd rfl h4
 rw [outF_false] at h5
 obtain ⟨j, hj, rfl⟩ := List.mem_iff_getElem.1 hz
 have := h5 j hj
 rw [List.getElem?_eq_getElem hj, inB_iff, Option.getD_some] at this
 omega
theorem okI_of {s : Sys} (h : (findE (clsErr s) 0 s.cl.length).2 = 0) : OkI s := fun i hi => clsErr_ok (findE_all _ _ h i (Nat.zero_le _) (by omega))
def sysO (s : Sys) : AV := .tup [if (sysE s).2.2 = 0 then sysP s else .cv .nilp, .i (sysE s).1, .i (sysE s).2.1, .i (sysE s).2.2]
theorem c75 (s : Sys) (hs : SSz s) : PA Tryz.prog 75 [sysV s] (sysO s) := by
 refine ⟨AC_FE (fok75 true) (Nat.le_of_ble_eq_true rfl) ?_, by unfold sysO; split <;> rfl, rfl⟩
 have hcl := hs.cl
 have hco := hs.co
 have h56 := c56 1 12 [(s.cl.length : Int)] (by simp)
 rw [outF_one] at h56
 unfold sysO
 simp only [ic75, f_box, cellsOf, evA, if_true, if_false, beq_false, simprocAttr]
 refine h56.call frz ?_
 cases h1 : inB s.cl.length 1 12 with
 | false =>
  have he : sysE s = (1, 0, 3) := by unfold sysE; rw [h1]; rfl
  rw [he]
  simp only [Bool.not_false, evA, if_true, if_false, beq_false, simprocAttr]
  exact frz
 | true =>
 cases h2 : decide ((s.co.length : Int) > 8) with
 | true =>
  have he : sysE s = (1, 0, 3) := by unfold sysE; rw [h1, h2]; rfl
  rw [he]
  simp only [Bool.not_true, h2, evA, if_true, if_false, beq_false, simprocAttr]
  exact frz
 | false =>
 have hn12 : s.cl.length ≤ 12 := by rw [inB_iff] at h1; omega
 simp only [Bool.not_true, h2, evA, if_true, if_false, beq_false, simprocAttr]
 refine DW_s [7] [] hmix (by kernel_rfl) rfl ?_
 simp only [evA, if_true, if_false, beq_false, simprocAttr]
 refine kK_keep ((c103 s.cl (.rp [clsR s.cl, strR s.co, .nils] 0) (clsErr s) hcl fun i hi σ => (c104 s hs .nils i hi).call frz ⟨rfl, rfl⟩).call frz ⟨rfl, rfl⟩) rfl ?_
 have hok0 := okI_of (s := s)
 have e1 : sysE s = if (findE (clsErr s) 0 s.cl.length).2 ≠ 0 then (2, findE (clsErr s) 0 s.cl.length) else if (findE (codErr s) 0 s.co.length).2 ≠ 0 then (3, findE (codErr s) 0 s.co.length) else if (findE (dnE s) 0 s.cl.length).2 ≠ 0 then (4, findE (dnE s) 0 s.cl.length) else (0, 0, 0) := by
  unfold sysE; rw [h1, h2]; rfl
 rw [e1]
 generalize findE (clsErr s) 0 s.cl.length = fc at hok0 e1
 obtain ⟨ca, ce⟩ := fc
 by_cases hce : ce = 0
 rotate_left
 ·have hb : (ce != 0) = true := by simpa using hce
  rw [if_pos hce, if_neg hce]
  simp only [hb, evA, if_true, if_false, beq_false, simprocAttr]
  exact frz
 have hok := hok0 hce
 have hb : (ce != 0) = false := by simpa using hce
 rw [if_neg (show ¬ (ce ≠ 0) from fun h => h hce)]
 simp only [hb, evA, if_true, if_false, beq_false, simprocAttr]
 refine DW_s [7] [] hmix (by kernel_rfl) rfl ?_
 simp only [evA, if_true, if_false, beq_false, simprocAttr]
 refine kK_keep ((c105 s.co (.rp [clsR s.cl, strR s.co, .nils] 0) (codErr s) hco fun i hi σ => (c106 s hs .nils i hi).call frz ⟨rfl, rfl⟩).call frz ⟨rfl, rfl⟩) rfl ?_
 generalize findE (codErr s) 0 s.co.length = fd
 obtain ⟨da, de⟩ := fd
 by_cases hde : de = 0
 rotate_left
 ·have hb : (de != 0) = true := by simpa using hde
  rw [if_pos hde, if_neg hde]
  simp only [hb, evA, if_true, if_false, beq_false, simprocAttr]
  exact frz
 have hb2 : (de != 0) = false := by simpa using hde
 rw [if_neg (show ¬ (de ≠ 0) from fun h => h hde)]
 simp only [hb2, evA, if_true, if_false, beq_false, simprocAttr]
 refine (c107 s hs hn12 hok 2 [AObj.cells [AV.cv (clsR s.cl), AV.cv (strR s.co)], AObj.cells [AV.ptr 2 0], AObj.cells [AV.cv (clsR s.cl), AV.cv (strR s.co), AV.cv CV.nils], AObj.cells [AV.i ↑s.cl.length]] rfl).mono ?_
 rintro r τ ⟨rfl, hlen, hfr, v, hv, hcv⟩
 have f0 := hfr 0 (by simp) (by omega)
 have f1 := hfr 1 (by simp) (by omega)
 match τ, hlen with
 | x0 :: x1 :: x2 :: x3 :: J, _ =>
 have g0 : x0 = .cells [AV.cv (clsR s.cl), AV.cv (strR s.co)] := by simpa using f0
 have g1 : x1 = .cells [.ptr 2 0] := by simpa using f1
 have g2 : x2 = .cells [.cv (clsR s.cl), .cv (strR s.co), v] := by
  have := rowOf_some hv
  simpa using this
 subst g0 g1 g2
 have hvr : FrzV anyC (List.replicate 3 .dead ++ (x3 :: J)) v (.cv (covR s)) := by
  rcases hcv with ⟨rfl, h0⟩ | ⟨q, a, hq1, rfl, hq2, hq3⟩
  ·rw [inB_iff] at h1; omega
  ·have hsh : ∀ l, 5 ≤ l → ∀ cs, rowOf (AObj.cells [AV.cv (clsR s.cl), AV.cv (strR s.co)] :: .cells [.ptr 2 0] :: .cells [.cv (clsR s.cl), .cv (strR s.co), .sl q 0 s.cl.length 1] :: x3 :: J) l = some cs → rowOf (List.replicate 3 AObj.dead ++ (x3 :: J)) l = some cs := fun l hl cs h => by
    obtain ⟨m, rfl⟩ : ∃ m, l = m + 3 := ⟨l - 3, by omega⟩
    exact h
   refine .c (.sl q 0 s.cl.length 1 _ _ (hsh q hq1 _ hq2) (by simp) ?_)
   have hl2 : ((List.range s.cl.length).map fun k => AV.sl (a k) 0 s.cl.length 1).length = s.cl.length := by simp
   rw [List.drop_zero, Nat.mul_one, List.take_of_length_le (by omega)]
   unfold covCs
   have key : ∀ (ks : List Nat), (∀ k ∈ ks, k < s.cl.length) → FrzCs anyC (List.replicate 3 AObj.dead ++ (x3 :: J)) (ks.map fun k => AV.sl (a k) 0 s.cl.length 1) (ks.map fun k => boolR (cov s k)) := by
    intro ks
    induction ks with
    | nil => intro _; exact .nil
    | cons k ks ih =>
     intro h
     obtain ⟨b1, b2, b3⟩ := hq3 k (h k (by simp))
     have hrk := hsh (a k) b1 _ b3
     have hfb := frz_bools (p := anyC) (fun _ => trivial) (n := s.cl.length) (by rw [cov_len]) hrk
     refine .cons ?_ (ih fun k' hk' => h k' (by simp [hk']))
     cases hfb with
     | c h => exact h
   exact key _ fun k hk => List.mem_range.1 hk
 simp only [evA, if_true, if_false, beq_false, simprocAttr]
 refine IL.weak (Weak.turn (τ := [.cells [.cv (clsR s.cl), .cv (strR s.co)], .cells [.ptr 2 0], .cells [.cv (clsR s.cl), .cv (strR s.co), v]]) (τ2 := [.cells [.cv (clsR s.cl), .cv (strR s.co)], .cells [.ptr 2 0], .cells [.cv (clsR s.cl), .cv (strR s.co), .cv (covR s)]]) (J := x3 :: J) rfl rfl (vals2 := [sysV s, .ptr 0 0, .ptr 1 0, .i 0, .i da, .i de, .undef, .undef, .b false, .b false, .b false, .cv (clsR s.cl), .i s.cl.length, .i 0, .undef, .undef]) ?_ ?_) ?_
 ·repeat (first | exact .nil | refine .cons (.inl ⟨rfl, rfl⟩) ?_)
 ·intro l o2 hl
  match l with
  | 0 => cases hl; exact ⟨_, rfl, trivial, .inl ⟨rfl, rfl⟩⟩
  | 1 => cases hl; exact ⟨_, rfl, trivial, .inl ⟨rfl, rfl⟩⟩
  | 2 => cases hl; exact ⟨_, rfl, trivial, .inr ⟨_, _, rfl, rfl, .cons (.inl ⟨rfl, rfl⟩) (.cons (.inl ⟨rfl, rfl⟩) (.cons (.inr hvr) .nil))⟩⟩
  | l + 3 => simp at hl
 have he2 : ∀ i, dnB s i = true → dnE s i ≠ 0 := fun i h => by unfold dnE; rw [if_pos h]; decide
 have he3 : ∀ i, dnB s i = false → dnE s i = 0 := fun i h => by unfold dnE; rw [if_neg (by rw [h]; decide)]
 refine IL_for s.cl.length (fun i s' => (∀ j, j < i → dnB s j = false) ∧ ∃ v6 v7 v14 v15, s' = ⟨[sysV s, .ptr 0 0, .ptr 1 0, .i 0, .i da, .i de, v6, v7, .b false, .b false, .b false, .cv (clsR s.cl), .i s.cl.length, .i i, v14, v15], [.cells [.cv (clsR s.cl), .cv (strR s.co)], .cells [.ptr 2 0], .cells [.cv (clsR s.cl), .cv (strR s.co), .cv (covR s)]]⟩) ?_ 0 (Nat.zero_le _) ⟨by omega, _, _, _, _, rfl⟩
 rintro i s' hi ⟨hall, v6, v7, v14, v15, rfl⟩
 by_cases hin : i < s.cl.length
 ·have hinc := hs.inc i hin
  have h87 := c87i (s.cl[i]!).inc (.fn (.func 108) [.cv (.rp [.rp (sysR s) 0] 0), .cv (.rp [.int .i64 i] 0)]) (fun k => covB s ((s.cl[i]!).inc[k]?.getD 0).toNat i) hinc fun k hk σ => by
   have hzr := hok i hin ((s.cl[i]!).inc[k]?.getD 0) (by rw [List.getElem?_eq_getElem hk]; exact List.getElem_mem hk)
   obtain ⟨z, hze⟩ : ∃ z : Nat, (s.cl[i]!).inc[k]?.getD 0 = (z : Int) := ⟨((s.cl[i]!).inc[k]?.getD 0).toNat, by omega⟩
   rw [hze, Int.toNat_natCast]
   exact (c108 s z i (by omega) hin).call frz ⟨rfl, rfl⟩
  simp only [ic75l0, Int.ofNat_lt, hin, ia_cls hin, cls_ld hin, evA, if_true, if_false, beq_false, simprocAttr]
  refine h87.call frz ?_
  cases hd : dnB s i with
  | true =>
   have hd' : anyN (fun k => covB s ((s.cl[i]!).inc[k]?.getD 0).toNat i) (s.cl[i]!).inc.length = true := hd
   have hfe := findE_some s.cl.length 0 i (Nat.zero_le _) (by omega) (fun j _ hj => he3 j (hall j hj)) (he2 i hd)
   have hne : dnE s i = 9 := by unfold dnE; rw [if_pos hd]
   rw [hne] at hfe
   rw [hd', hfe]
   simp only [evA, if_true, if_false, beq_false, simprocAttr]
   refine DW_s [] [(0, 1)] hmix (by kernel_rfl) rfl ?_
   simp only [evA, if_true, if_false, beq_false, simprocAttr]
   exact frz
  | false =>
   have hd' : anyN (fun k => covB s ((s.cl[i]!).inc[k]?.getD 0).toNat i) (s.cl[i]!).inc.length = false := hd
   rw [hd']
   simp only [wrap_succ (show i + 1 < 2 ^ 63 by omega), evA, if_true, if_false, beq_false, simprocAttr]
   refine kFor_clip [.cells [.cv (clsR s.cl), .cv (strR s.co)], .cells [.ptr 2 0], .cells [.cv (clsR s.cl), .cv (strR s.co), .cv (covR s)]] _ rfl (by first | trivial | omega) (Nat.zero_le _) ?_ ⟨fun j hj => ?_, _, _, _, _, rfl⟩
   ·intro o ho
    simp only [List.mem_cons, List.not_mem_nil, or_false] at ho
    rcases ho with rfl | rfl | rfl <;> rfl
   ·rcases Nat.lt_succ_iff_lt_or_eq.1 hj with hj | rfl
    ·exact hall j hj
    ·exact hd
 ·have hin' : i = s.cl.length := by omega
  subst hin'
  have hfe := findE_none (g := dnE s) s.cl.length 0 fun j _ hj => he3 j (hall j (by omega))
  rw [hfe]
  simp only [ic75l0, Int.ofNat_lt, hin, evA, if_true, if_false, beq_false, simprocAttr]
  exact frz
abbrev chkV (s : Sys) : AV := .tup [.i (sysE s).1, .i (sysE s).2.1, .i (sysE s).2.2]
theorem c53 (s : Sys) (hs : SSz s) : PC Tryz.prog 53 [sysV s] (chkV s) := by
 refine ⟨AC_FE (fok53 true) (Nat.le_of_ble_eq_true rfl) ?_, rfl⟩
 unfold chkV
 simp only [ic53, f_box, cellsOf, evA, if_true, if_false, beq_false, simprocAttr]
 refine (c75 s hs).call ?_
 unfold sysO
 have hP : ∀ b : Prop, [Decidable b] → (if b then sysP s else AV.cv CV.nilp).isUndef = false := fun b _ => by split <;> rfl
 generalize sysE s = e
 obtain ⟨e1, e2, e3⟩ := e
 simp only [hP, evA, if_true, if_false, beq_false, simprocAttr]
 exact frz
theorem codIx {s : Sys} {i : Nat} (hi : i < s.co.length) : decide (strIdx (s.co.take i) s.co[i]! ≥ 0) = anyN (fun k => decide (s.co[k]! = s.co[i]!)) i := by
 have htl : (s.co.take i).length = i := by simp; omega
 rw [strIdx, idxN_ge, htl, Bool.eq_iff_iff, anyN_true, anyN_true]
 constructor <;> rintro ⟨k, hk, h⟩ <;> refine ⟨k, hk, ?_⟩
 ·rwa [getElem!_pos _ k (by omega), List.getElem_take, ← getElem!_pos s.co k (by omega)] at h
 ·rw [getElem!_pos _ k (by omega), List.getElem_take, ← getElem!_pos s.co k (by omega)]; exact h
theorem c54 (s : Sys) (hs : SSz s) : PC Tryz.prog 54 [sysV s] (chkV s) := by
 refine ⟨AC_FE (fok54 true) (Nat.le_of_ble_eq_true rfl) ?_, rfl⟩
 have hcl := hs.cl
 have hco := hs.co
 have he2 : ∀ i, dnB s i = true → dnE s i = 9 := fun i h => by unfold dnE; rw [if_pos h]
 have he3 : ∀ i, dnB s i = false → dnE s i = 0 := fun i h => by unfold dnE; rw [if_neg (by rw [h]; decide)]
 unfold chkV
 simp only [ic54, f_box, cellsOf, evA, if_true, if_false, beq_false, simprocAttr]
 refine (c59i s.cl.length 1 12).call frz ?_
 cases h1 : inB s.cl.length 1 12 with
 | false =>
  have he : sysE s = (1, 0, 3) := by unfold sysE; rw [h1]; rfl
  rw [he]
  simp only [Bool.not_false, evA, if_true, if_false, beq_false, simprocAttr]
  exact frz
 | true =>
 cases h2 : decide ((s.co.length : Int) > 8) with
 | true =>
  have he : sysE s = (1, 0, 3) := by unfold sysE; rw [h1, h2]; rfl
  rw [he]
  simp only [Bool.not_true, h2, evA, if_true, if_false, beq_false, simprocAttr]
  exact frz
 | false =>
 have hn12 : s.cl.length ≤ 12 := by rw [inB_iff] at h1; omega
 have e1 : sysE s = if (findE (clsErr s) 0 s.cl.length).2 ≠ 0 then (2, findE (clsErr s) 0 s.cl.length) else if (findE (codErr s) 0 s.co.length).2 ≠ 0 then (3, findE (codErr s) 0 s.co.length) else if (findE (dnE s) 0 s.cl.length).2 ≠ 0 then (4, findE (dnE s) 0 s.cl.length) else (0, 0, 0) := by
  unfold sysE; rw [h1, h2]; rfl
 rw [e1]
 simp only [Bool.not_true, h2, evA, if_true, if_false, beq_false, simprocAttr]
 refine IL_for s.cl.length (fun i s' => (∀ j, j < i → clsErr s j = 0) ∧ ∃ v2 v3 v4 v6 v7 v8 v9 v11 v12 v13 v14 v15 v16 v17 v18, s' = ⟨[sysV s, .ptr 0 0, v2, v3, v4, .i i, v6, v7, v8, v9, .b false, v11, v12, v13, v14, v15, v16, v17, v18], [.cells [.cv (clsR s.cl), .cv (strR s.co)]]⟩) ?_ 0 (Nat.zero_le _) ⟨by omega, _, _, _, _, _, _, _, _, _, _, _, _, _, _, _, rfl⟩
 rintro i s' hi ⟨hall, v2, v3, v4, v6, v7, v8, v9, v11, v12, v13, v14, v15, v16, v17, v18, rfl⟩
 by_cases hin : i < s.cl.length
 ·simp only [ic54l3, Int.ofNat_lt, hin, evA, if_true, if_false, beq_false, simprocAttr]
  refine (c85 s hs i hin).call frz ?_
  by_cases hg : clsErr s i = 0
  ·have hb : (clsErr s i != 0) = false := by simpa using hg
   simp only [hb, wrap_succ (show i + 1 < 2 ^ 63 by omega), evA, if_true, if_false, beq_false, simprocAttr]
   refine kFor_go (by first | trivial | omega) ⟨fun j hj => ?_, _, _, _, _, _, _, _, _, _, _, _, _, _, _, _, rfl⟩
   rcases Nat.lt_succ_iff_lt_or_eq.1 hj with hj | rfl
   ·exact hall j hj
   ·exact hg
  ·have hb : (clsErr s i != 0) = true := by simpa using hg
   rw [findE_some s.cl.length 0 i (Nat.zero_le _) (by omega) (fun j _ hj => hall j hj) hg, if_pos hg]
   simp only [hb, evA, if_true, if_false, beq_false, simprocAttr]
   exact frz
 have hin' : i = s.cl.length := by omega
 subst hin'
 have hok : OkI s := okI_of (by rw [findE_none s.cl.length 0 fun j _ hj => hall j (by omega)])
 rw [findE_none s.cl.length 0 fun j _ hj => hall j (by omega), if_neg (show ¬ ((0 : Int) ≠ 0) by decide)]
 simp only [ic54l3, Int.ofNat_lt, hin, evA, if_true, if_false, beq_false, simprocAttr]
 refine IL_for s.co.length (fun i s' => (∀ j, j < i → codErr s j = 0) ∧ ∃ v2 v3 v4 v5 v6 v8 v9 v11 v12 v13 v14 v15 v16 v17 v18, s' = ⟨[sysV s, .ptr 0 0, v2, v3, v4, v5, v6, .i i, v8, v9, .b false, v11, v12, v13, v14, v15, v16, v17, v18], [.cells [.cv (clsR s.cl), .cv (strR s.co)]]⟩) ?_ 0 (Nat.zero_le _) ⟨by omega, _, _, _, _, _, _, _, _, _, _, _, _, _, _, _, rfl⟩
 rintro i s' hi ⟨hal2, v2, v3, v4, v5, v6, v8, v9, v11, v12, v13, v14, v15, v16, v17, v18, rfl⟩
 by_cases hio : i < s.co.length
 ·have hnm := hs.cm i hio
  have hix := codIx hio
  have hge : codErr s i = if nameOk s.co[i]! = false then 6 else if decide (strIdx (s.co.take i) s.co[i]! ≥ 0) = true then 5 else 0 := by rw [hix]; rfl
  have hsl : ∀ σ, f_slS 1 false true [.cv (strR s.co), .cv (.int .i64 i)] σ = some (.cv (strR (s.co.take i)), σ) := str_sl (by omega)
  simp only [ic54l2, Int.ofNat_lt, hio, ia_rsl hio, str_ld hio, evA, if_true, if_false, beq_false, simprocAttr]
  refine (c21 s.co[i]! hnm).call frz ?_
  cases hn : nameOk s.co[i]! with
  | false =>
   have hg : codErr s i = 6 := by rw [hge, hn]; rfl
   have hfe := findE_some s.co.length 0 i (Nat.zero_le _) (by omega) (fun j _ hj => hal2 j hj) (g := codErr s) (by rw [hg]; decide)
   rw [hg] at hfe
   rw [hfe, if_pos (fun h => by cases h)]
   simp only [evA, if_true, if_false, beq_false, simprocAttr]
   exact frz
  | true =>
  simp only [evA, if_true, if_false, beq_false, simprocAttr]
  refine DW_s [9] [] hmix (by kernel_rfl) rfl ?_
  simp only [hsl, ia_rsl hio, str_ld hio, evA, if_true, if_false, beq_false, simprocAttr]
  refine kK_keep ((c86 (s.co.take i) s.co[i]! (by simp; omega)).call frz ⟨rfl, rfl⟩) rfl ?_
  cases hx : decide (strIdx (s.co.take i) s.co[i]! ≥ 0) with
  | true =>
   have hg : codErr s i = 5 := by rw [hge, hn, hx]; rfl
   have hfe := findE_some s.co.length 0 i (Nat.zero_le _) (by omega) (fun j _ hj => hal2 j hj) (g := codErr s) (by rw [hg]; decide)
   rw [hg] at hfe
   rw [hfe, if_pos (fun h => by cases h)]
   simp only [hx, evA, if_true, if_false, beq_false, simprocAttr]
   exact frz
  | false =>
   have hg : codErr s i = 0 := by rw [hge, hn, hx]; rfl
   simp only [hx, wrap_succ (show i + 1 < 2 ^ 63 by omega), evA, if_true, if_false, beq_false, simprocAttr]
   refine kFor_go (by first | trivial | omega) ⟨fun j hj => ?_, _, _, _, _, _, _, _, _, _, _, _, _, _, _, _, rfl⟩
   rcases Nat.lt_succ_iff_lt_or_eq.1 hj with hj | rfl
   ·exact hal2 j hj
   ·exact hg
 have hio' : i = s.co.length := by omega
 subst hio'
 rw [findE_none s.co.length 0 fun j _ hj => hal2 j (by omega), if_neg (show ¬ ((0 : Int) ≠ 0) by decide)]
 simp only [ic54l2, Int.ofNat_lt, hio, evA, if_true, if_false, beq_false, simprocAttr]
 refine IL_for s.cl.length (fun i s' => (∀ j, j < i → dnB s j = false) ∧ ∃ v2 v3 v4 v5 v6 v7 v9 v11 v12 v13 v14 v15 v16 v17 v18, s' = ⟨[sysV s, .ptr 0 0, v2, v3, v4, v5, v6, v7, .i i, v9, .b false, v11, v12, v13, v14, v15, v16, v17, v18], [.cells [.cv (clsR s.cl), .cv (strR s.co)]]⟩) ?_ 0 (Nat.zero_le _) ⟨by omega, _, _, _, _, _, _, _, _, _, _, _, _, _, _, _, rfl⟩
 rintro i s' hi ⟨hal3, v2, v3, v4, v5, v6, v7, v9, v11, v12, v13, v14, v15, v16, v17, v18, rfl⟩
 by_cases hin : i < s.cl.length
 ·have hinc := hs.inc i hin
  simp only [ic54l1, Int.ofNat_lt, hin, evA, if_true, if_false, beq_false, simprocAttr]
  refine IL_for (s.cl[i]!).inc.length (fun k s' => (∀ j, j < k → covB s ((s.cl[i]!).inc[j]?.getD 0).toNat i = false) ∧ ∃ v17 v18, s' = ⟨[sysV s, .ptr 0 0, v2, v3, v4, v5, v6, v7, .i i, .i k, .b false, v11, v12, v13, v14, v15, .b true, v17, v18], [.cells [.cv (clsR s.cl), .cv (strR s.co)]]⟩) ?_ 0 (Nat.zero_le _) ⟨by omega, _, _, rfl⟩
  rintro k s' hk ⟨hal4, v17, v18, rfl⟩
  by_cases hki : k < (s.cl[i]!).inc.length
  ·have hzr := hok i hin ((s.cl[i]!).inc[k]?.getD 0) (by rw [List.getElem?_eq_getElem hki]; exact List.getElem_mem hki)
   obtain ⟨z, hze⟩ : ∃ z : Nat, (s.cl[i]!).inc[k]?.getD 0 = (z : Int) := ⟨((s.cl[i]!).inc[k]?.getD 0).toNat, by omega⟩
   have e40 : (2 : Nat) ^ 40 = 1099511627776 := by decide
   simp only [ic54l0, Int.ofNat_lt, hki, ia_cls hin, cls_1 hin, evA, if_true, if_false, beq_false, simprocAttr]
   refine DW_s [10] [] hmix (by kernel_rfl) rfl ?_
   simp only [Int.ofNat_lt, hki, ia_cls hin, cls_1 hin, hze, evA, if_true, if_false, beq_false, simprocAttr]
   refine kK_keep ((c51 s hs (by omega) hok z (by omega)).call frz ⟨rfl, rfl⟩) rfl ?_
   simp only [ia_cov hin, Nat.mul_one, cov_get hin, evA, if_true, if_false, beq_false, simprocAttr]
   cases hb : covB s z i with
   | true =>
    have hd : dnB s i = true := anyN_true.2 ⟨k, hki, by rw [hze]; exact hb⟩
    have hg := he2 i hd
    have hfe := findE_some s.cl.length 0 i (Nat.zero_le _) (by omega) (fun j _ hj => he3 j (hal3 j hj)) (g := dnE s) (by rw [hg]; decide)
    rw [hg] at hfe
    rw [hfe, if_pos (fun h => by cases h)]
    simp only [evA, if_true, if_false, beq_false, simprocAttr]
    exact frz
   | false =>
    simp only [wrap_succ (show k + 1 < 2 ^ 63 by omega), evA, if_true, if_false, beq_false, simprocAttr]
    refine kFor_go (by first | trivial | omega) ⟨fun j hj => ?_, _, _, rfl⟩
    rcases Nat.lt_succ_iff_lt_or_eq.1 hj with hj | rfl
    ·exact hal4 j hj
    ·rw [hze]; exact hb
  have hkl : k = (s.cl[i]!).inc.length := by omega
  have hd : dnB s i = false := anyN_false.2 fun j hj => hal4 j (by omega)
  simp only [ic54l0, Int.ofNat_lt, hki, ia_cls hin, cls_1 hin, wrap_succ (show i + 1 < 2 ^ 63 by omega), evA, if_true, if_false, beq_false, simprocAttr]
  refine kFor_go (by first | trivial | omega) ⟨fun j hj => ?_, _, _, _, _, _, _, _, _, _, _, _, _, _, _, _, rfl⟩
  rcases Nat.lt_succ_iff_lt_or_eq.1 hj with hj | rfl
  ·exact hal3 j hj
  ·exact hd
 have hin' : i = s.cl.length := by omega
 subst hin'
 rw [findE_none s.cl.length 0 fun j _ hj => he3 j (hal3 j (by omega)), if_neg (show ¬ ((0 : Int) ≠ 0) by decide)]
 simp only [ic54l1, Int.ofNat_lt, hin, evA, if_true, if_false, beq_false, simprocAttr]
 exact frz
def idxB (o : Nat → Bool) : Nat → List Int
 | 0 => []
 | k + 1 => idxB o k ++ if o k then [(k : Int)] else []
theorem idxB_len (o : Nat → Bool) : ∀ k, (idxB o k).length ≤ k
 | 0 => Nat.le_refl _
 | k + 1 => by have := idxB_len o k; rw [idxB]; split <;> simp <;> omega
def cvsV (s : Sys) (c : Int) : AV :=
 if (sysE s).2.2 ≠ 0 then .tup [ints [], .i (sysE s).2.2]
 else if inB c 0 ((s.cl.length : Int) - 1) = false then .tup [ints [], .i 4]
 else .tup [ints (idxB (covB s c.toNat) s.cl.length), .i 0]
theorem sysE_n {s : Sys} (h : (sysE s).2.2 = 0) : (1 ≤ s.cl.length ∧ s.cl.length ≤ 12) ∧ s.co.length ≤ 8 ∧ OkI s := by
 unfold sysE at h
 split at h; · cases h
 rename_i h1
 split at h; · exact absurd h (by assumption)
 rename_i h2
 have h1' : (!inB (s.cl.length : Int) 1 12 || decide ((s.co.length : Int) > 8)) = false := by simpa using h1
 rw [Bool.or_eq_false_iff] at h1'
 have h3 : inB (s.cl.length : Int) 1 12 = true := by
  have := h1'.1
  cases hh : inB (s.cl.length : Int) 1 12 with
  | true => rfl
  | false => rw [hh] at this; cases this
 rw [inB_iff] at h3
 have h4 := of_decide_eq_false h1'.2
 have h2' : (findE (clsErr s) 0 s.cl.length).2 = 0 := Decidable.byContradiction fun hh => h2 hh
 exact ⟨by omega, by omega, okI_of h2'⟩
theorem c42 (s : Sys) (hs : SSz s) (c : Int) : PC Tryz.prog 42 [sysV s, .i c] (cvsV s c) := by
 refine ⟨AC_FE (fok42 true) (Nat.le_of_ble_eq_true rfl) ?_, by unfold cvsV; repeat (split <;> try rfl)⟩
 have hcl := hs.cl
 have hn0 := sysE_n (s := s)
 have h75 := c75 s hs
 unfold sysO at h75
 unfold cvsV
 generalize sysE s = e at hn0 h75
 obtain ⟨e1, e2, e3⟩ := e
 have hP : ∀ b : Prop, [Decidable b] → (if b then sysP s else AV.cv CV.nilp).isUndef = false := fun b _ => by split <;> rfl
 have hw : IntKind.i64.wrap ((s.cl.length : Int) - 1) = (s.cl.length : Int) - 1 := wrap_in (by omega)
 by_cases he : e3 = 0
 rotate_left
 ·have hb : (e3 != 0) = true := by simpa using he
  rw [if_pos he]
  simp only [ic42, f_box, cellsOf, evA, if_true, if_false, beq_false, simprocAttr]
  refine h75.call ?_
  simp only [hP, hb, evA, if_true, if_false, beq_false, simprocAttr]
  exact frz
 obtain ⟨⟨hn1, hn12⟩, _, hok⟩ := hn0 he
 have hb : (e3 != 0) = false := by simpa using he
 rw [if_neg (show ¬ (e3 ≠ 0) from fun h => h he)]
 rw [if_pos he] at h75
 have h56 := c56 0 ((s.cl.length : Int) - 1) [c] (by simp)
 rw [outF_one] at h56
 simp only [ic42, f_box, cellsOf, evA, if_true, if_false, beq_false, simprocAttr]
 refine h75.call ?_
 simp only [hb, hw, evA, if_true, if_false, beq_false, simprocAttr]
 refine h56.call frz ?_
 cases hc : inB c 0 ((s.cl.length : Int) - 1) with
 | false =>
  rw [if_pos rfl]
  simp only [Bool.not_false, evA, if_true, if_false, beq_false, simprocAttr]
  exact frz
 | true =>
 rw [if_neg (by decide)]
 rw [inB_iff] at hc
 obtain ⟨k, rfl⟩ : ∃ k : Nat, c = (k : Int) := ⟨c.toNat, by omega⟩
 have hk : k < s.cl.length := by omega
 rw [Int.toNat_natCast]
 simp only [Bool.not_true, ia_rsl hk, Nat.mul_one, covCs_get hk, cov_len, evA, if_true, if_false, beq_false, simprocAttr]
 refine IL_for s.cl.length (fun i s' => ∃ v3 v6 v7 v13 v14 σ, AccAt σ v3 (idxB (covB s k) i) ∧ s' = ⟨[sysV s, .i k, .ptr 0 0, v3, .i e3, sysP s, v6, v7, .b false, .b false, .cv (boolR (cov s k)), .i s.cl.length, .i i, v13, v14], σ⟩) ?_ 0 (Nat.zero_le _) ⟨_, _, _, _, _, _, AccAt.nil _, rfl⟩
 rintro i s' hi ⟨v3, v6, v7, v13, v14, σ, hA, rfl⟩
 by_cases hin : i < s.cl.length
 ·simp only [ic42l0, Int.ofNat_lt, hin, ia_cov hin, Nat.mul_one, cov_get hin, evA, if_true, if_false, beq_false, simprocAttr]
  cases hcv : covB s k i with
  | false =>
   have hst : idxB (covB s k) (i + 1) = idxB (covB s k) i := by rw [idxB, hcv]; simp
   simp only [wrap_succ (show i + 1 < 2 ^ 63 by omega), evA, if_true, if_false, beq_false, simprocAttr]
   exact kFor_go (by first | trivial | omega) ⟨_, _, _, _, _, _, by rw [hst]; exact hA, rfl⟩
  | true =>
   have hlen := idxB_len (covB s k) i
   obtain ⟨v', σ', happ, hA'⟩ := acc_append (i : Int) hA (by omega)
   have hst : idxB (covB s k) (i + 1) = idxB (covB s k) i ++ [(i : Int)] := by rw [idxB, hcv]; rfl
   simp only [happ, wrap_succ (show i + 1 < 2 ^ 63 by omega), evA, if_true, if_false, beq_false, simprocAttr]
   exact kFor_go (by first | trivial | omega) ⟨_, _, _, _, _, _, by rw [hst]; exact hA', rfl⟩
 ·have hin' : i = s.cl.length := by omega
  subst hin'
  have hvu : v3.isUndef = false := by rcases hA with ⟨rfl, _⟩ | ⟨l, rfl, _⟩ <;> rfl
  simp only [ic42l0, Int.ofNat_lt, hin, hvu, evA, if_true, if_false, beq_false, simprocAttr]
  exact .tup (.cons (acc_frz (fun _ => trivial) hA) (.cons (.c (.c _ trivial)) .nil))
end Go.Proofs.YtpnghcaccfnngaaGreatDoor.AM
namespace Go.Proofs.YtpnghcaccfnngaaGreatDoor.Pl
def bit (a : Int) (k : Nat) : Bool := a.toNat.testBit k
def andI (a b : Int) : Int := ((a.toNat &&& b.toNat : Nat) : Int)
def orI (a b : Int) : Int := ((a.toNat ||| b.toNat : Nat) : Int)
def subI (a b : Int) : Int := ((BitVec.ofNat 64 a.toNat &&& ~~~BitVec.ofNat 64 b.toNat).toNat : Int)
theorem bit_and (a b : Int) (k : Nat) : bit (andI a b) k = (bit a k && bit b k) := by simp [bit, andI, Nat.testBit_and]
theorem bit_or (a b : Int) (k : Nat) : bit (orI a b) k = (bit a k || bit b k) := by simp [bit, orI, Nat.testBit_or]
theorem toNat_lt {a : Int} {m : Nat} (h : a < 2 ^ m) : a.toNat < 2 ^ m := by
 rcases Int.lt_or_le a 0 with h0 | h0
 ·have : a.toNat = 0 := by omega
  rw [this]; exact Nat.two_pow_pos m
 ·have e : ((a.toNat : Nat) : Int) = a := Int.toNat_of_nonneg h0
  have : ((a.toNat : Nat) : Int) < ((2 ^ m : Nat) : Int) := by rw [e]; push_cast; exact h
  exact Int.ofNat_lt.1 this
theorem bit_hi {a : Int} {m k : Nat} (h : a < 2 ^ m) (hk : m ≤ k) : bit a k = false := by
 unfold bit
 exact Nat.testBit_lt_two_pow (Nat.lt_of_lt_of_le (toNat_lt h) (Nat.pow_le_pow_right (by omega) hk))
theorem bit_sub {a b : Int} (ha : a < 2 ^ 63) (k : Nat) : bit (subI a b) k = (bit a k && !bit b k) := by
 unfold subI bit
 have ha' := toNat_lt ha
 rw [Int.toNat_natCast, BitVec.testBit_toNat, BitVec.getLsbD_and, BitVec.getLsbD_not, BitVec.getLsbD_ofNat, BitVec.getLsbD_ofNat]
 by_cases hk : k < 64
 ·simp [hk]
 ·have : a.toNat.testBit k = false := Nat.testBit_lt_two_pow (Nat.lt_of_lt_of_le ha' (Nat.pow_le_pow_right (by omega) (by omega)))
  simp [hk, this]
theorem bit_ext {a b : Int} (ha : 0 ≤ a) (hb : 0 ≤ b) (h : ∀ k, bit a k = bit b k) : a = b := by
 have : a.toNat = b.toNat := Nat.eq_of_testBit_eq h
 omega
theorem bit_zero (k : Nat) : bit 0 k = false := by simp [bit]
theorem andI_nn (a b : Int) : 0 ≤ andI a b := Int.natCast_nonneg _
theorem orI_nn (a b : Int) : 0 ≤ orI a b := Int.natCast_nonneg _
theorem subI_nn (a b : Int) : 0 ≤ subI a b := Int.natCast_nonneg _
theorem lt_bits {a : Int} {m : Nat} (h0 : 0 ≤ a) (h : ∀ k, m ≤ k → bit a k = false) : a < 2 ^ m := by
 have : a.toNat < 2 ^ m := Nat.lt_pow_two_of_testBit _ fun k hk => h k hk
 have e : ((a.toNat : Nat) : Int) = a := Int.toNat_of_nonneg h0
 have h2 : ((a.toNat : Nat) : Int) < ((2 ^ m : Nat) : Int) := Int.ofNat_lt.2 this
 rw [e] at h2; push_cast at h2; exact h2
theorem andI_lt {a b : Int} {m : Nat} (h : a < 2 ^ m) : andI a b < 2 ^ m := lt_bits (andI_nn _ _) fun k hk => by rw [bit_and, bit_hi h hk]; rfl
theorem orI_lt {a b : Int} {m : Nat} (h : a < 2 ^ m) (h2 : b < 2 ^ m) : orI a b < 2 ^ m := lt_bits (orI_nn _ _) fun k hk => by rw [bit_or, bit_hi h hk, bit_hi h2 hk]; rfl
theorem subI_lt {a b : Int} {m : Nat} (h63 : a < 2 ^ 63) (h : a < 2 ^ m) : subI a b < 2 ^ m := lt_bits (subI_nn _ _) fun k hk => by rw [bit_sub h63, bit_hi h hk]; rfl
theorem andI_zero {a b : Int} : andI a b = 0 ↔ ∀ k, ¬ (bit a k = true ∧ bit b k = true) := by
 constructor
 ·intro h k ⟨h1, h2⟩
  have := bit_and a b k
  rw [h, h1, h2, bit_zero] at this
  cases this
 ·intro h
  refine bit_ext (andI_nn _ _) (Int.le_refl _) fun k => ?_
  rw [bit_and, bit_zero]
  have := h k
  cases h1 : bit a k <;> cases h2 : bit b k <;> simp_all
theorem bit_div (a : Int) (h : 0 ≤ a) (k : Nat) : ((a.tdiv (2 ^ k)).tmod 2 == 1) = bit a k := by
 obtain ⟨n, rfl⟩ : ∃ n : Nat, a = n := ⟨a.toNat, by omega⟩
 have e : ((2 : Int) ^ k) = ((2 ^ k : Nat) : Int) := by push_cast; rfl
 rw [e, ← Int.ofNat_tdiv, show (2 : Int) = ((2 : Nat) : Int) from rfl, ← Int.ofNat_tmod]
 unfold bit
 rw [Int.toNat_natCast, Nat.testBit_eq_decide_div_mod_eq, Bool.eq_iff_iff]
 simp only [beq_iff_eq, decide_eq_true_eq]
 omega
end Go.Proofs.YtpnghcaccfnngaaGreatDoor.Pl
namespace Go.Proofs.YtpnghcaccfnngaaGreatDoor.AM
variable [Dr]
open Go Pl
abbrev setN (s : Sys) : Int := 2 ^ s.co.length
theorem pow_bd {m : Nat} (h : m ≤ 8) : 1 ≤ (2 : Int) ^ m ∧ (2 : Int) ^ m ≤ 256 := by
 match m, h with
 | 0, _ | 1, _ | 2, _ | 3, _ | 4, _ | 5, _ | 6, _ | 7, _ | 8, _ => decide
theorem c64 (s : Sys) (cov : CV) (hm : s.co.length ≤ 8) : PC Tryz.prog 64 [.cv (.rp [clsR s.cl, strR s.co, cov] 0)] (.i (setN s)) := by
 refine ⟨AC_FE (fok64 true) (Nat.le_of_ble_eq_true rfl) ?_, rfl⟩
 have hb := pow_bd hm
 have hsh : shiftI .shl .i64 1 s.co.length = some (.cv (.int .i64 (setN s))) := by
  unfold shiftI
  rw [if_neg (by omega), Int.toNat_natCast, show min s.co.length IntKind.i64.bits = s.co.length by simp [IntKind.bits]; omega, Int.one_mul, wrap_in (by omega)]
 simp only [ic64, hsh, evA, if_true, if_false, beq_false, simprocAttr]
 exact frz
theorem c49 (m : Nat) (hm : m ≤ 8) : PC Tryz.prog 49 [.i m] (.i (2 ^ m)) := by
 refine ⟨AC_FE (fok49 true) (Nat.le_of_ble_eq_true rfl) ?_, rfl⟩
 simp only [ic49, evA, if_true, if_false, beq_false, simprocAttr]
 refine IL_for m (fun i s' => ∃ v4, s' = ⟨[.i m, .i 0, .i (2 ^ i), .i i, v4], []⟩) ?_ 0 (Nat.zero_le _) ⟨_, rfl⟩
 rintro i s' hi ⟨v4, rfl⟩
 by_cases h : i < m
 ·have hb := pow_bd (show i ≤ 8 by omega)
  have hw : IntKind.i64.wrap (2 * 2 ^ i) = 2 ^ (i + 1) := by rw [wrap_in (by omega), Int.pow_succ, Int.mul_comm]
  simp only [ic49l0, Int.ofNat_lt, h, hw, wrap_succ (show i + 1 < 2 ^ 63 by omega), evA, if_true, if_false, beq_false, simprocAttr]
  exact kFor_go (by first | trivial | omega) ⟨_, rfl⟩
 ·have : i = m := by omega
  subst this
  simp only [ic49l0, Int.ofNat_lt, h, evA, if_true, if_false, beq_false, simprocAttr]
  exact frz
theorem c52 (a : Int) (h0 : 0 ≤ a ∧ a < 9223372036854775808) (k : Nat) (hk : k ≤ 8) : PC Tryz.prog 52 [.i a, .i k] (.b (bit a k)) := by
 refine ⟨AC_FE (fok52 true) (Nat.le_of_ble_eq_true rfl) ?_, rfl⟩
 have hb := pow_bd hk
 have hq : IntKind.i64.wrap (a.tdiv (2 ^ k)) = a.tdiv (2 ^ k) := by
  rw [Int.tdiv_eq_ediv_of_nonneg h0.1]
  have h1 : 0 ≤ a / 2 ^ k := Int.ediv_nonneg h0.1 (by omega)
  have h2 : a / 2 ^ k ≤ a := Int.ediv_le_self _ h0.1
  exact wrap_in (by omega)
 have hd := bit_div a h0.1 k
 have hne : ¬ ((2 : Int) ^ k = 0) := by omega
 simp only [ic52, evA, if_true, if_false, beq_false, simprocAttr]
 refine (c49 k hk).call frz ?_
 generalize (2 : Int) ^ k = p at *
 have hx : binI .quo .i64 a p = some (.cv (.int .i64 (a.tdiv p))) := by
  unfold binI; rw [if_neg hne, hq]
 simp only [hne, hq, hd, evA, if_true, if_false, beq_false, simprocAttr]
 exact frz
def rgErr (s : Sys) (r : Rt) : Int := if inB r.1 0 ((s.cl.length : Int) - 1) = false then 4 else if inB r.2 0 (setN s - 1) = false then 7 else 0
def rgsE (s : Sys) (l : List Rt) : Int := if (l.length : Int) > 40 then 3 else (findE (fun i => rgErr s l[i]!) 0 l.length).2
theorem rg_ld {l : List Rt} {k : Nat} (h : k < l.length) (σ : List AObj) : f_loadN 2 [.cv (.rp (l.flatMap rgC) (k * 2))] σ = some (rgV l[k]!, σ) := by
 have h1 : k * 2 + 2 ≤ (l.flatMap rgC).length := by rw [flat_len rgC_len]; omega
 have h2 := flat_at rgC_len h
 simp only [f_loadN, h1, if_true]
 rw [h2]; rfl
theorem rg_0 {l : List Rt} {k : Nat} (h : k < l.length) : (l.flatMap rgC)[k * 2]? = some (.int .i64 (l[k]!).1) := flat_get rgC_len h (j := 0) (by omega)
theorem rg_1 {l : List Rt} {k : Nat} (h : k < l.length) : (l.flatMap rgC)[k * 2 + 1]? = some (.int .i64 (l[k]!).2) := flat_get rgC_len h (j := 1) (by omega)
theorem ia_rg {l : List Rt} {k : Nat} (h : k < l.length) (σ : List AObj) : f_iaS 2 [rgL l, .cv (.int .i64 k)] σ = some (.cv (.rp (l.flatMap rgC) (k * 2)), σ) := ia_rsl h σ
theorem c113 (s : Sys) (hs : SSz s) (cov : CV) (hm : s.co.length ≤ 8) (i : Int) (r : Rt) : PC Tryz.prog 113 [.i i, rgV r, .cv (.rp [.rp [clsR s.cl, strR s.co, cov] 0] 0)] (.i (rgErr s r)) := by
 refine ⟨AC_FE (fok113 true) (Nat.le_of_ble_eq_true rfl) ?_, rfl⟩
 have hcl := hs.cl
 have hb := pow_bd hm
 have hw : IntKind.i64.wrap ((s.cl.length : Int) - 1) = (s.cl.length : Int) - 1 := wrap_in (by omega)
 have hw2 : IntKind.i64.wrap (setN s - 1) = setN s - 1 := wrap_in (by unfold setN; omega)
 have h1 := c56 0 ((s.cl.length : Int) - 1) [r.1] (by simp)
 have h2 := c56 0 (setN s - 1) [r.2] (by simp)
 rw [outF_one] at h1 h2
 unfold rgErr
 simp only [ic113, f_box, cellsOf, evA, if_true, if_false, beq_false, simprocAttr]
 refine DW_s [10] [(0, 9), (4, 9)] hmix (by kernel_rfl) rfl ?_
 simp only [hw, evA, if_true, if_false, beq_false, simprocAttr]
 refine kK_keep (h1.call frz ⟨rfl, rfl⟩) rfl ?_
 cases g1 : inB r.1 0 ((s.cl.length : Int) - 1) with
 | false =>
  rw [if_pos rfl]
  simp only [Bool.not_false, evA, if_true, if_false, beq_false, simprocAttr]
  exact frz
 | true =>
 rw [if_neg (by decide)]
 simp only [Bool.not_true, evA, if_true, if_false, beq_false, simprocAttr]
 refine DW_s [1, 6] [(0, 5), (1, 5)] hmix (by kernel_rfl) rfl ?_
 simp only [evA, if_true, if_false, beq_false, simprocAttr]
 refine kK_keep ((c64 s cov hm).call frz ⟨rfl, rfl⟩) rfl ?_
 simp only [hw2, evA, if_true, if_false, beq_false, simprocAttr]
 refine kK_keep (h2.call frz ⟨rfl, rfl⟩) rfl ?_
 cases g2 : inB r.2 0 (setN s - 1) with
 | false =>
  rw [if_pos rfl]
  simp only [Bool.not_false, evA, if_true, if_false, beq_false, simprocAttr]
  exact frz
 | true =>
  rw [if_neg (by decide)]
  simp only [Bool.not_true, evA, if_true, if_false, beq_false, simprocAttr]
  exact frz
theorem c112 (l : List Rt) (p : CV) (g : Nat → Int) (hz : l.length < 2 ^ 63) (hf : ∀ i, i < l.length → ∀ σ, AC Tryz.prog 113 [.i i, rgV l[i]!, .cv p] σ fun r τ => r = .i (g i) ∧ τ = σ) :
  PC Tryz.prog 112 [rgL l, .fn (.func 113) [.cv p]] (.tup [.i (findE g 0 l.length).1, .i (findE g 0 l.length).2]) := by
 refine ⟨AC_FE (fok112 true) (Nat.le_of_ble_eq_true rfl) ?_, rfl⟩
 simp only [ic112, evA, if_true, if_false, beq_false, simprocAttr]
 refine IL_for l.length (fun i s => (∀ j, j < i → g j = 0) ∧ ∃ v2 v3 v4 v5 v9 v10, s = ⟨[rgL l, .fn (.func 113) [.cv p], v2, v3, v4, v5, rgL l, .i l.length, .i i, v9, v10], []⟩) ?_ 0 (Nat.zero_le _) ⟨by omega, _, _, _, _, _, _, rfl⟩
 rintro i s hi ⟨hall, v2, v3, v4, v5, v9, v10, rfl⟩
 by_cases h : i < l.length
 ·simp only [ic112l0, Int.ofNat_lt, h, ia_rg h, rg_ld h, evA, if_true, if_false, beq_false, simprocAttr]
  refine (hf i h _).run ?_
  by_cases hg : g i = 0
  ·have hb : (g i != 0) = false := by simpa using hg
   simp only [hb, wrap_succ (show i + 1 < 2 ^ 63 by omega), evA, if_true, if_false, beq_false, simprocAttr]
   refine kFor_clip [] _ rfl (by first | trivial | omega) (Nat.zero_le _) (by simp) ⟨fun j hj => ?_, _, _, _, _, _, _, rfl⟩
   rcases Nat.lt_succ_iff_lt_or_eq.1 hj with hj | rfl
   ·exact hall j hj
   ·exact hg
  ·have hb : (g i != 0) = true := by simpa using hg
   rw [findE_some l.length 0 i (Nat.zero_le _) (by omega) (fun j _ hj => hall j hj) hg]
   simp only [hb, evA, if_true, if_false, beq_false, simprocAttr]
   exact frz
 ·have : i = l.length := by omega
  subst this
  rw [findE_none l.length 0 fun j _ hj => hall j (by omega)]
  simp only [ic112l0, Int.ofNat_lt, h, evA, if_true, if_false, beq_false, simprocAttr]
  exact frz
theorem c90 (s : Sys) (hs : SSz s) (cov : CV) (hm : s.co.length ≤ 8) (l : List Rt) (hl : l.length < 2 ^ 63) : PC Tryz.prog 90 [.cv (.rp [clsR s.cl, strR s.co, cov] 0), rgL l] (.i (rgsE s l)) := by
 refine ⟨AC_FE (fok90 true) (Nat.le_of_ble_eq_true rfl) ?_, rfl⟩
 unfold rgsE
 by_cases h : (l.length : Int) > 40
 ·rw [if_pos h]
  simp only [ic90, f_box, cellsOf, h, evA, if_true, if_false, beq_false, simprocAttr]
  exact frz
 ·rw [if_neg h]
  simp only [ic90, f_box, cellsOf, h, evA, if_true, if_false, beq_false, simprocAttr]
  refine (c112 l (.rp [.rp [clsR s.cl, strR s.co, cov] 0] 0) (fun i => rgErr s l[i]!) hl fun i hi σ => (c113 s hs cov hm i l[i]!).call frz ⟨rfl, rfl⟩).call frz ?_
  simp only [evA, if_true, if_false, beq_false, simprocAttr]
  exact frz
def rdE (s : Sys) (e : Int) (ls : List (List Rt)) : Int := ls.foldl (fun e l => if e = 0 then rgsE s l else e) e
theorem rdE_ne (s : Sys) : ∀ (ls : List (List Rt)) (e : Int), e ≠ 0 → rdE s e ls = e
 | [], _, _ => rfl
 | l :: ls, e, h => by
  show rdE s (if e = 0 then rgsE s l else e) ls = e
  rw [if_neg h]; exact rdE_ne s ls e h
abbrev sysQ (s : Sys) : AV := if (sysE s).2.2 = 0 then sysP s else .cv .nilp
theorem c63 (s : Sys) (hs : SSz s) (ls : List (List Rt)) (hls : ∀ l ∈ ls, l.length < 2 ^ 63) (hn : ls.length < 2 ^ 60) (σ : List AObj) (l0 : Nat) (h0 : rowOf σ l0 = some (ls.map fun l => rgL l)) :
  AC Tryz.prog 63 [sysV s, .sl l0 0 ls.length 1] σ fun r τ => r = .tup [sysQ s, .i (rdE s (sysE s).2.2 ls)] ∧ τ = σ := by
 have hcl : locsIn 0 (.tup [sysQ s, .i (rdE s (sysE s).2.2 ls)]) = true := by unfold sysQ; split <;> rfl
 refine AC.cutF ?_ hcl
 refine AC_FE (fok63 true) (Nat.le_of_ble_eq_true rfl) ?_
 have h75 := c75 s hs
 have hn0 := sysE_n (s := s)
 have hq : sysQ s = .cv .nilp ∨ ((sysE s).2.2 = 0 ∧ sysQ s = sysP s) := by
  unfold sysQ; by_cases h : (sysE s).2.2 = 0
  ·right; exact ⟨h, if_pos h⟩
  ·left; exact if_neg h
 have hqn : (sysE s).2.2 = 0 → sysQ s = sysP s := fun h => if_pos h
 have hQ : (sysQ s).isUndef = false := by rcases hq with h | ⟨_, h⟩ <;> rw [h] <;> rfl
 have ho : sysO s = .tup [sysQ s, .i (sysE s).1, .i (sysE s).2.1, .i (sysE s).2.2] := rfl
 rw [ho] at h75
 generalize sysQ s = Q at *
 generalize sysE s = e at *
 obtain ⟨e1, e2, e3⟩ := e
 have g0 := fun J => rowOf_low h0 J
 have hld : ∀ k, k < ls.length → (ls.map fun l => rgL l)[k]? = some (rgL ls[k]!) := fun k hk => by
  rw [List.getElem?_map, List.getElem?_eq_getElem hk, getElem!_pos ls k hk]; rfl
 simp only [ic63, f_box, cellsOf, rowOf_az, evA, if_true, if_false, beq_false, simprocAttr]
 refine h75.call ?_
 simp only [hQ, evA, if_true, if_false, beq_false, simprocAttr]
 refine IL_for ls.length (fun i s' => ∃ v7 v11 v12, s' = ⟨[sysV s, .sl l0 0 ls.length 1, .ptr σ.length 0, .cv .nilp, .i 0, Q, .i (rdE s e3 (ls.take i)), v7, .sl l0 0 ls.length 1, .i ls.length, .i i, v11, v12], σ ++ [.cells [.cv (clsR s.cl), .cv (strR s.co)]]⟩) ?_ 0 (Nat.zero_le _) ⟨_, _, _, rfl⟩
 rintro i s' hi ⟨v7, v11, v12, rfl⟩
 by_cases hin : i < ls.length
 ·have hsl : ∀ σ', f_iaS 1 [.sl l0 0 ls.length 1, .cv (.int .i64 i)] σ' = some (.ptr l0 (0 + i), σ') := sl_addr hin
  have hst : rdE s e3 (ls.take (i + 1)) = if rdE s e3 (ls.take i) = 0 then rgsE s ls[i]! else rdE s e3 (ls.take i) := by
   rw [List.take_add_one, List.getElem?_eq_getElem hin, getElem!_pos ls i hin]
   unfold rdE
   rw [List.foldl_append]; rfl
  have hE0 : rdE s e3 (ls.take i) = 0 → e3 = 0 := fun h => Decidable.byContradiction fun hne => by rw [rdE_ne s _ _ hne] at h; exact hne h
  generalize rdE s e3 (ls.take i) = E at hst hE0
  simp only [ic63l0, Int.ofNat_lt, hin, hsl, Nat.zero_add, g0, hld i hin, evA, if_true, if_false, beq_false, simprocAttr]
  by_cases hE : E = 0
  ·have hb : (E == 0) = true := by simpa using hE
   have he3 := hE0 hE
   have hQP := hqn he3
   subst hQP
   obtain ⟨_, hm, _⟩ := hn0 he3
   rw [if_pos hE] at hst
   simp only [hb, evA, if_true, if_false, beq_false, simprocAttr]
   refine (c90 s hs (covR s) hm ls[i]! (hls _ (by rw [getElem!_pos ls i hin]; exact List.getElem_mem hin))).call frz ?_
   simp only [wrap_succ (show i + 1 < 2 ^ 63 by omega), evA, if_true, if_false, beq_false, simprocAttr]
   exact kFor_go (by first | trivial | omega) ⟨_, _, _, by rw [hst]⟩
  ·have hb : (E == 0) = false := by simpa using hE
   rw [if_neg hE] at hst
   simp only [hb, wrap_succ (show i + 1 < 2 ^ 63 by omega), evA, if_true, if_false, beq_false, simprocAttr]
   exact kFor_go (by first | trivial | omega) ⟨_, _, _, by rw [hst]⟩
 ·have hin' : i = ls.length := by omega
  subst hin'
  simp only [ic63l0, Int.ofNat_lt, hin, hQ, List.take_length, evA, if_true, if_false, beq_false, simprocAttr]
  exact ⟨_, rfl⟩
theorem c48 (s : Sys) (hs : SSz s) (hm : s.co.length ≤ 8) (l : List Rt) (hl : l.length < 2 ^ 63) : PC Tryz.prog 48 [sysV s, rgL l] (.i (rgsE s l)) := by
 refine ⟨AC_FE (fok48 true) (Nat.le_of_ble_eq_true rfl) ?_, rfl⟩
 have hcl := hs.cl
 have hb := pow_bd hm
 have hw : IntKind.i64.wrap ((s.cl.length : Int) - 1) = (s.cl.length : Int) - 1 := wrap_in (by omega)
 have hw2 : IntKind.i64.wrap (2 ^ s.co.length - 1) = setN s - 1 := wrap_in (by omega)
 unfold rgsE
 by_cases h : (l.length : Int) > 40
 ·rw [if_pos h]
  simp only [ic48, f_box, cellsOf, h, evA, if_true, if_false, beq_false, simprocAttr]
  exact frz
 rw [if_neg h]
 simp only [ic48, f_box, cellsOf, h, evA, if_true, if_false, beq_false, simprocAttr]
 refine IL_for l.length (fun i s' => (∀ j, j < i → rgErr s l[j]! = 0) ∧ ∃ v6 v7 v8, s' = ⟨[sysV s, rgL l, .ptr 0 0, .i 0, .i i, .b false, v6, v7, v8], [.cells [.cv (clsR s.cl), .cv (strR s.co)]]⟩) ?_ 0 (Nat.zero_le _) ⟨by omega, _, _, _, rfl⟩
 rintro i s' hi ⟨hall, v6, v7, v8, rfl⟩
 by_cases hin : i < l.length
 ·have hfe := fun hne => findE_some (g := fun i => rgErr s l[i]!) l.length 0 i (Nat.zero_le _) (by omega) (fun j _ hj => hall j hj) hne
  have h1 := c59i (l[i]!).1 0 ((s.cl.length : Int) - 1)
  have h2 := c59i (l[i]!).2 0 (setN s - 1)
  simp only [ic48l0, Int.ofNat_lt, hin, evA, if_true, if_false, beq_false, simprocAttr]
  refine DW_s [9] [] hmix (by kernel_rfl) rfl ?_
  simp only [ia_rg hin, rg_0 hin, hw, evA, if_true, if_false, beq_false, simprocAttr]
  refine kK_keep (h1.call frz ⟨rfl, rfl⟩) rfl ?_
  cases g1 : inB (l[i]!).1 0 ((s.cl.length : Int) - 1) with
  | false =>
   have hg : rgErr s l[i]! = 4 := by unfold rgErr; rw [g1]; rfl
   have hfe' := hfe (by show rgErr s l[i]! ≠ 0; rw [hg]; decide)
   rw [hfe']
   show _
   rw [hg]
   simp only [evA, if_true, if_false, beq_false, simprocAttr]
   exact frz
  | true =>
  simp only [evA, if_true, if_false, beq_false, simprocAttr]
  refine DW_s [8, 10] [] hmix (by kernel_rfl) rfl ?_
  simp only [ia_rg hin, rg_1 hin, evA, if_true, if_false, beq_false, simprocAttr]
  refine kK_keep ((c49 s.co.length hm).call frz ⟨rfl, rfl⟩) rfl ?_
  simp only [hw2, evA, if_true, if_false, beq_false, simprocAttr]
  refine kK_keep (h2.call frz ⟨rfl, rfl⟩) rfl ?_
  cases g2 : inB (l[i]!).2 0 (setN s - 1) with
  | false =>
   have hg : rgErr s l[i]! = 7 := by unfold rgErr; rw [g1, g2]; rfl
   have hfe' := hfe (by show rgErr s l[i]! ≠ 0; rw [hg]; decide)
   rw [hfe']
   show _
   rw [hg]
   simp only [evA, if_true, if_false, beq_false, simprocAttr]
   exact frz
  | true =>
   have hg : rgErr s l[i]! = 0 := by unfold rgErr; rw [g1, g2]; rfl
   simp only [wrap_succ (show i + 1 < 2 ^ 63 by omega), evA, if_true, if_false, beq_false, simprocAttr]
   refine kFor_go (by first | trivial | omega) ⟨fun j hj => ?_, _, _, _, rfl⟩
   rcases Nat.lt_succ_iff_lt_or_eq.1 hj with hj | rfl
   ·exact hall j hj
   ·exact hg
 ·have hin' : i = l.length := by omega
  subst hin'
  rw [findE_none (g := fun i => rgErr s l[i]!) l.length 0 fun j _ hj => hall j (by omega)]
  simp only [ic48l0, Int.ofNat_lt, hin, evA, if_true, if_false, beq_false, simprocAttr]
  exact frz
theorem c66 (s : Sys) (hs : SSz s) (l : List Rt) (hl : l.length < 2 ^ 63) : PC Tryz.prog 66 [sysV s, rgL l] (.i (rdE s (sysE s).2.2 [l])) := by
 refine ⟨AC_FE (fok66 true) (Nat.le_of_ble_eq_true rfl) ?_, rfl⟩
 have h54 := c54 s hs
 unfold chkV at h54
 have hn0 := sysE_n (s := s)
 have hrd : rdE s (sysE s).2.2 [l] = if (sysE s).2.2 = 0 then rgsE s l else (sysE s).2.2 := rfl
 rw [hrd]
 generalize sysE s = e at *
 obtain ⟨e1, e2, e3⟩ := e
 by_cases he : e3 = 0
 ·have hb : (e3 == 0) = true := by simpa using he
  obtain ⟨_, hm, _⟩ := hn0 he
  rw [if_pos he]
  simp only [ic66, f_box, cellsOf, evA, if_true, if_false, beq_false, simprocAttr]
  refine h54.call frz ?_
  simp only [hb, evA, if_true, if_false, beq_false, simprocAttr]
  refine (c48 s hs hm l hl).call frz ?_
  simp only [evA, if_true, if_false, beq_false, simprocAttr]
  exact frz
 ·have hb : (e3 == 0) = false := by simpa using he
  rw [if_neg he]
  simp only [ic66, f_box, cellsOf, evA, if_true, if_false, beq_false, simprocAttr]
  refine h54.call frz ?_
  simp only [hb, evA, if_true, if_false, beq_false, simprocAttr]
  exact frz
theorem and_wrap {a b : Int} (ha : 0 ≤ a ∧ a < 256) (hb : 0 ≤ b ∧ b < 9223372036854775808) : IntKind.i64.wrap (BitVec.ofInt IntKind.i64.bits a &&& BitVec.ofInt IntKind.i64.bits b).toNat = andI a b := by
 have e1 : (BitVec.ofInt 64 a).toNat = a.toNat := by rw [BitVec.toNat_ofInt]; omega
 have e2 : (BitVec.ofInt 64 b).toNat = b.toNat := by rw [BitVec.toNat_ofInt]; omega
 have e3 : (BitVec.ofInt IntKind.i64.bits a &&& BitVec.ofInt IntKind.i64.bits b).toNat = a.toNat &&& b.toNat := by
  show (BitVec.ofInt 64 a &&& BitVec.ofInt 64 b).toNat = _
  rw [BitVec.toNat_and, e1, e2]
 have h1 := andI_lt (a := a) (b := b) (m := 8) (by omega)
 have h0 := andI_nn a b
 rw [e3]
 have : ((a.toNat &&& b.toNat : Nat) : Int) = andI a b := rfl
 rw [this, wrap_in (by omega)]
theorem or_wrap {a b : Int} (ha : 0 ≤ a ∧ a < 256) (hb : 0 ≤ b ∧ b < 256) : IntKind.i64.wrap (BitVec.ofInt IntKind.i64.bits a ||| BitVec.ofInt IntKind.i64.bits b).toNat = orI a b := by
 have e1 : (BitVec.ofInt 64 a).toNat = a.toNat := by rw [BitVec.toNat_ofInt]; omega
 have e2 : (BitVec.ofInt 64 b).toNat = b.toNat := by rw [BitVec.toNat_ofInt]; omega
 have e3 : (BitVec.ofInt IntKind.i64.bits a ||| BitVec.ofInt IntKind.i64.bits b).toNat = a.toNat ||| b.toNat := by
  show (BitVec.ofInt 64 a ||| BitVec.ofInt 64 b).toNat = _
  rw [BitVec.toNat_or, e1, e2]
 have h1 := orI_lt (a := a) (b := b) (m := 8) (by omega) (by omega)
 have h0 := orI_nn a b
 rw [e3]
 have : ((a.toNat ||| b.toNat : Nat) : Int) = orI a b := rfl
 rw [this, wrap_in (by omega)]
theorem sub_wrap {a b : Int} (ha : 0 ≤ a ∧ a < 256) (hb : 0 ≤ b ∧ b < 9223372036854775808) : IntKind.i64.wrap (BitVec.ofInt IntKind.i64.bits a &&& ~~~BitVec.ofInt IntKind.i64.bits b).toNat = subI a b := by
 have e1 : BitVec.ofInt 64 a = BitVec.ofNat 64 a.toNat := by apply BitVec.eq_of_toNat_eq; rw [BitVec.toNat_ofInt, BitVec.toNat_ofNat]; omega
 have e2 : BitVec.ofInt 64 b = BitVec.ofNat 64 b.toNat := by apply BitVec.eq_of_toNat_eq; rw [BitVec.toNat_ofInt, BitVec.toNat_ofNat]; omega
 have e3 : ((BitVec.ofInt IntKind.i64.bits a &&& ~~~BitVec.ofInt IntKind.i64.bits b).toNat : Int) = subI a b := by
  show ((BitVec.ofInt 64 a &&& ~~~BitVec.ofInt 64 b).toNat : Int) = _
  rw [e1, e2]; rfl
 have h1 := subI_lt (a := a) (b := b) (m := 8) (by omega) (by omega)
 have h0 := subI_nn a b
 rw [e3, wrap_in (by omega)]
def RgOk (s : Sys) (r : Rt) : Prop := (0 ≤ r.1 ∧ r.1 < s.cl.length) ∧ 0 ≤ r.2 ∧ r.2 < setN s
theorem rgErr_iff {s : Sys} {r : Rt} : rgErr s r = 0 ↔ RgOk s r := by
 unfold rgErr RgOk
 cases g1 : inB r.1 0 ((s.cl.length : Int) - 1) with
 | false =>
  rw [if_pos rfl]
  constructor
  ·intro h; cases h
  ·rintro ⟨h, _⟩
   have : inB r.1 0 ((s.cl.length : Int) - 1) = true := inB_iff.2 (by omega)
   rw [g1] at this; cases this
 | true =>
  rw [if_neg (by decide)]
  rw [inB_iff] at g1
  cases g2 : inB r.2 0 (setN s - 1) with
  | false =>
   rw [if_pos rfl]
   constructor
   ·intro h; cases h
   ·rintro ⟨_, h⟩
    have : inB r.2 0 (setN s - 1) = true := inB_iff.2 (by omega)
    rw [g2] at this; cases this
  | true =>
   rw [if_neg (by decide)]
   rw [inB_iff] at g2
   exact ⟨fun _ => ⟨by omega, by omega⟩, fun _ => rfl⟩
theorem rgsE_ok {s : Sys} {l : List Rt} (h : rgsE s l = 0) : l.length ≤ 40 ∧ ∀ r ∈ l, RgOk s r := by
 unfold rgsE at h
 split at h
 ·cases h
 ·rename_i h1
  refine ⟨by omega, fun r hr => ?_⟩
  obtain ⟨i, hi, rfl⟩ := List.mem_iff_getElem.1 hr
  have := findE_all _ _ h i (Nat.zero_le _) (by omega)
  rw [getElem!_pos l i hi] at this
  exact rgErr_iff.1 this
def alw1 (s : Sys) (c f : Int) (r : Rt) : Bool := covB s r.1.toNat c.toNat && (andI r.2 f == 0)
def alwB (s : Sys) (l : List Rt) (c f : Int) : Bool := l.any (alw1 s c f)
theorem alwB_any (s : Sys) (l : List Rt) (c f : Int) : alwB s l c f = anyN (fun i => alw1 s c f l[i]!) l.length := by
 rw [Bool.eq_iff_iff, anyN_true, alwB, List.any_eq_true]
 constructor
 ·rintro ⟨r, hr, h⟩
  obtain ⟨i, hi, rfl⟩ := List.mem_iff_getElem.1 hr
  exact ⟨i, hi, by rw [getElem!_pos l i hi]; exact h⟩
 ·rintro ⟨i, hi, h⟩
  rw [getElem!_pos l i hi] at h
  exact ⟨_, List.getElem_mem hi, h⟩
theorem c93 (l : List Rt) (fv : AV) (p : Nat → Bool) (hz : l.length < 2 ^ 63) (hf : ∀ i, i < l.length → ∀ σ, CallV Tryz.prog fv [rgV l[i]!] σ fun r τ => r = .b (p i) ∧ τ = σ) (σ : List AObj) :
  AC Tryz.prog 93 [rgL l, fv] σ fun r τ => r = .i (idxN p l.length) ∧ τ = σ := by
 refine AC_FE (fok93 true) (Nat.le_of_ble_eq_true rfl) ?_
 simp only [ic93, evA, if_true, if_false, beq_false, simprocAttr]
 refine IL_for l.length (fun i s => (∀ j, j < i → p j = false) ∧ ∃ v3 v6 v7, s = ⟨[rgL l, fv, .i 0, v3, .i l.length, .i i, v6, v7], σ⟩) ?_ 0 (Nat.zero_le _) ⟨by omega, _, _, _, rfl⟩
 rintro i s hi ⟨hall, v3, v6, v7, rfl⟩
 by_cases h : i < l.length
 ·simp only [ic93l0, Int.ofNat_lt, h, ia_rg h, rg_ld h, evA, if_true, if_false, beq_false, simprocAttr]
  refine (hf i h _).run ?_
  cases hp : p i
  ·simp only [wrap_succ (show i + 1 < 2 ^ 63 by omega), evA, if_true, if_false, beq_false, simprocAttr]
   refine kFor_go (by first | trivial | omega) ⟨fun j hj => ?_, _, _, _, rfl⟩
   rcases Nat.lt_succ_iff_lt_or_eq.1 hj with hj | rfl
   ·exact hall j hj
   ·exact hp
  ·simp only [evA, if_true, if_false, beq_false, simprocAttr]
   exact (idxN_some h hall hp).symm
 ·simp only [ic93l0, Int.ofNat_lt, h, evA, if_true, if_false, beq_false, simprocAttr]
  have : i = l.length := by omega
  subst this
  exact (idxN_none hall).symm
theorem c70 (l : List Rt) (fv : AV) (p : Nat → Bool) (hz : l.length < 2 ^ 63) (hf : ∀ i, i < l.length → ∀ σ, CallV Tryz.prog fv [rgV l[i]!] σ fun r τ => r = .b (p i) ∧ τ = σ) : PC Tryz.prog 70 [rgL l, fv] (.b (anyN p l.length)) := by
 refine ⟨AC_FE (fok70 true) (Nat.le_of_ble_eq_true rfl) ?_, rfl⟩
 simp only [ic70, evA, if_true, if_false, beq_false, simprocAttr]
 refine (c93 l fv p hz hf _).run ?_
 simp only [evA, if_true, if_false, beq_false, simprocAttr, idxN_ge]
 exact frz
theorem c91 (s : Sys) (r : Rt) (hm : s.co.length ≤ 8) (hr : RgOk s r) (c : Nat) (hc : c < s.cl.length) (f : Int) (hf : 0 ≤ f ∧ f < 9223372036854775808) : PC Tryz.prog 91 [rgV r, .cv (.rp [.rp (sysR s) 0] 0), .cv (.rp [.int .i64 c] 0), .cv (.rp [.int .i64 f] 0)] (.b (alw1 s c f r)) := by
 refine ⟨AC_FE (fok91 true) (Nat.le_of_ble_eq_true rfl) ?_, rfl⟩
 have hb := pow_bd hm
 obtain ⟨⟨h1, h2⟩, h3, h4⟩ := hr
 have h4' : r.2 < 256 := by unfold setN at h4; omega
 obtain ⟨z, hz⟩ : ∃ z : Nat, r.1 = (z : Int) := ⟨r.1.toNat, by omega⟩
 have hzl : z < s.cl.length := by omega
 unfold alw1
 rw [hz, Int.toNat_natCast, Int.toNat_natCast]
 simp only [ic91, f_box, cellsOf, hz, evA, if_true, if_false, beq_false, simprocAttr]
 refine DW_s [] [] hmix (by kernel_rfl) rfl ?_
 have haw := and_wrap (a := r.2) (b := f) ⟨h3, h4'⟩ hf
 simp only [ia_rsl hzl, Nat.mul_one, covCs_get hzl, ia_cov hc, cov_get hc, evA, if_true, if_false, beq_false, simprocAttr]
 cases h5 : covB s z c with
 | false =>
  simp only [evA, if_true, if_false, beq_false, simprocAttr]
  exact frz
 | true =>
  simp only [haw, evA, if_true, if_false, beq_false, simprocAttr]
  exact frz
theorem c65 (s : Sys) (l : List Rt) (hm : s.co.length ≤ 8) (hl : l.length < 2 ^ 63) (hr : ∀ r ∈ l, RgOk s r) (c : Int) (hc : 0 ≤ c ∧ c < s.cl.length) (f : Int) (hf : 0 ≤ f ∧ f < 9223372036854775808) : PC Tryz.prog 65 [sysP s, rgL l, .i c, .i f] (.b (alwB s l c f)) := by
 refine ⟨AC_FE (fok65 true) (Nat.le_of_ble_eq_true rfl) ?_, rfl⟩
 obtain ⟨k, rfl⟩ : ∃ k : Nat, c = (k : Int) := ⟨c.toNat, by omega⟩
 rw [alwB_any]
 simp only [ic65, f_box, cellsOf, evA, if_true, if_false, beq_false, simprocAttr]
 refine (c70 l (.fn (.func 91) [.cv (.rp [.rp (sysR s) 0] 0), .cv (.rp [.int .i64 k] 0), .cv (.rp [.int .i64 f] 0)]) (fun i => alw1 s k f l[i]!) hl fun i hi σ => (c91 s l[i]! hm (hr _ (by rw [getElem!_pos l i hi]; exact List.getElem_mem hi)) k (by omega) f hf).call frz ⟨rfl, rfl⟩).call frz ?_
 exact frz
theorem free_any {a f : Int} {m : Nat} (ha : a < 2 ^ m) : (andI a f == 0) = !anyN (fun k => bit a k && bit f k) m := by
 rw [Bool.eq_iff_iff]
 rw [beq_iff_eq, andI_zero, Bool.not_eq_true', anyN_false]
 constructor
 ·intro h k hk
  have := h k
  cases h1 : bit a k <;> cases h2 : bit f k <;> simp_all
 ·rintro h k ⟨h1, h2⟩
  rcases Nat.lt_or_ge k m with hk | hk
  ·have := h k hk; rw [h1, h2] at this; cases this
  ·rw [bit_hi ha hk] at h1; cases h1
theorem c50 (s : Sys) (hs : SSz s) (hn12 : s.cl.length ≤ 12) (hok : OkI s) (l : List Rt) (hm : s.co.length ≤ 8) (hl : l.length < 2 ^ 63) (hr : ∀ r ∈ l, RgOk s r) (c : Int) (hc : 0 ≤ c ∧ c < s.cl.length) (f : Int) (hf : 0 ≤ f ∧ f < 9223372036854775808) : PC Tryz.prog 50 [sysV s, rgL l, .i c, .i f] (.b (alwB s l c f)) := by
 refine ⟨AC_FE (fok50 true) (Nat.le_of_ble_eq_true rfl) ?_, rfl⟩
 obtain ⟨q, rfl⟩ : ∃ q : Nat, c = (q : Int) := ⟨c.toNat, by omega⟩
 have hq : q < s.cl.length := by omega
 have hbp := pow_bd hm
 rw [alwB_any]
 simp only [ic50, f_box, cellsOf, evA, if_true, if_false, beq_false, simprocAttr]
 refine IL_for l.length (fun i s' => (∀ j, j < i → alw1 s q f l[j]! = false) ∧ ∃ v7 v8 v9 v10 v11, s' = ⟨[sysV s, rgL l, .i q, .i f, .ptr 0 0, .b false, .i i, v7, v8, v9, v10, v11], [.cells [.cv (clsR s.cl), .cv (strR s.co)]]⟩) ?_ 0 (Nat.zero_le _) ⟨by omega, _, _, _, _, _, rfl⟩
 rintro i s' hi ⟨hall, v7, v8, v9, v10, v11, rfl⟩
 by_cases hin : i < l.length
 ·have hri := hr l[i]! (by rw [getElem!_pos l i hin]; exact List.getElem_mem hin)
  obtain ⟨⟨r1, r2⟩, r3, r4⟩ := hri
  have r4' : (l[i]!).2 < 256 := by unfold setN at r4; omega
  have hfr := free_any (f := f) r4
  obtain ⟨z, hz⟩ : ∃ z : Nat, (l[i]!).1 = (z : Int) := ⟨(l[i]!).1.toNat, by omega⟩
  have ha1 : alw1 s q f l[i]! = (covB s z q && !anyN (fun k => bit (l[i]!).2 k && bit f k) s.co.length) := by unfold alw1; rw [hfr, hz, Int.toNat_natCast, Int.toNat_natCast]
  simp only [ic50l1, Int.ofNat_lt, hin, evA, if_true, if_false, beq_false, simprocAttr]
  refine IL_for s.co.length (fun k s' => ∃ v10, s' = ⟨[sysV s, rgL l, .i q, .i f, .ptr 0 0, .b false, .i i, .b (!anyN (fun k => bit (l[i]!).2 k && bit f k) k), .i k, .b true, v10, v11], [.cells [.cv (clsR s.cl), .cv (strR s.co)]]⟩) ?_ 0 (Nat.zero_le _) ⟨_, rfl⟩
  rintro k s' hk ⟨v10, rfl⟩
  by_cases hkm : k < s.co.length
  ·have hst := anyN_succ (fun k => bit (l[i]!).2 k && bit f k) k
   cases hA : anyN (fun k => bit (l[i]!).2 k && bit f k) k with
   | true =>
    rw [hA, Bool.true_or] at hst
    simp only [ic50l0, Int.ofNat_lt, hkm, wrap_succ (show k + 1 < 2 ^ 63 by omega), Bool.not_true, evA, if_true, if_false, beq_false, simprocAttr]
    exact kFor_go (by first | trivial | omega) ⟨_, by rw [hst]; rfl⟩
   | false =>
    rw [hA, Bool.false_or] at hst
    simp only [ic50l0, Int.ofNat_lt, hkm, ia_rg hin, rg_1 hin, Bool.not_false, evA, if_true, if_false, beq_false, simprocAttr]
    refine (c52 (l[i]!).2 ⟨r3, by omega⟩ k (by omega)).call frz ?_
    cases hb1 : bit (l[i]!).2 k with
    | false =>
     rw [hb1, Bool.false_and] at hst
     simp only [wrap_succ (show k + 1 < 2 ^ 63 by omega), Bool.not_false, evA, if_true, if_false, beq_false, simprocAttr]
     exact kFor_go (by first | trivial | omega) ⟨_, by rw [hst]; rfl⟩
    | true =>
     rw [hb1, Bool.true_and] at hst
     simp only [evA, if_true, if_false, beq_false, simprocAttr]
     refine (c52 f hf k (by omega)).call frz ?_
     simp only [wrap_succ (show k + 1 < 2 ^ 63 by omega), evA, if_true, if_false, beq_false, simprocAttr]
     exact kFor_go (by first | trivial | omega) ⟨_, by rw [hst]⟩
  ·have hkm' : k = s.co.length := by omega
   subst hkm'
   have e40 : (2 : Nat) ^ 40 = 1099511627776 := by decide
   cases hA : anyN (fun k => bit (l[i]!).2 k && bit f k) s.co.length with
   | true =>
    rw [hA] at ha1
    simp only [ic50l0, Int.ofNat_lt, hkm, Bool.not_true, evA, if_true, if_false, beq_false, simprocAttr]
    refine DW_s [8] [] hmix (by kernel_rfl) rfl ?_
    simp only [wrap_succ (show i + 1 < 2 ^ 63 by omega), evA, if_true, if_false, beq_false, simprocAttr]
    refine kFor_go (by first | trivial | omega) ⟨fun j hj => ?_, _, _, _, _, _, rfl⟩
    rcases Nat.lt_succ_iff_lt_or_eq.1 hj with hj | rfl
    ·exact hall j hj
    ·rw [ha1]; simp
   | false =>
    rw [hA] at ha1
    simp only [ic50l0, Int.ofNat_lt, hkm, Bool.not_false, evA, if_true, if_false, beq_false, simprocAttr]
    refine DW_s [8] [] hmix (by kernel_rfl) rfl ?_
    simp only [ia_rg hin, rg_0 hin, hz, evA, if_true, if_false, beq_false, simprocAttr]
    refine kK_keep ((c51 s hs (by omega) hok z (by omega)).call frz ⟨rfl, rfl⟩) rfl ?_
    simp only [ia_cov hq, Nat.mul_one, cov_get hq, evA, if_true, if_false, beq_false, simprocAttr]
    cases hcv : covB s z q with
    | true =>
     rw [hcv] at ha1
     have : anyN (fun i => alw1 s q f l[i]!) l.length = true := anyN_true.2 ⟨i, hin, by rw [ha1]; rfl⟩
     rw [this]
     simp only [evA, if_true, if_false, beq_false, simprocAttr]
     exact frz
    | false =>
     rw [hcv] at ha1
     simp only [wrap_succ (show i + 1 < 2 ^ 63 by omega), evA, if_true, if_false, beq_false, simprocAttr]
     refine kFor_go (by first | trivial | omega) ⟨fun j hj => ?_, _, _, _, _, _, rfl⟩
     rcases Nat.lt_succ_iff_lt_or_eq.1 hj with hj | rfl
     ·exact hall j hj
     ·rw [ha1]; rfl
 ·have hin' : i = l.length := by omega
  subst hin'
  rw [anyN_false.2 hall]
  simp only [ic50l1, Int.ofNat_lt, hin, evA, if_true, if_false, beq_false, simprocAttr]
  exact frz
def mayV (s : Sys) (l : List Rt) (c f : Int) : AV :=
 if rdE s (sysE s).2.2 [l] ≠ 0 then .tup [.b false, .i (rdE s (sysE s).2.2 [l])]
 else if inB c 0 ((s.cl.length : Int) - 1) = false then .tup [.b false, .i 4]
 else if inB f 0 (setN s - 1) = false then .tup [.b false, .i 7]
 else .tup [.b (alwB s l c f), .i 0]
theorem rdE_ok {s : Sys} {l : List Rt} (h : rdE s (sysE s).2.2 [l] = 0) : (sysE s).2.2 = 0 ∧ rgsE s l = 0 := by
 have hrd : rdE s (sysE s).2.2 [l] = if (sysE s).2.2 = 0 then rgsE s l else (sysE s).2.2 := rfl
 rw [hrd] at h
 by_cases h2 : (sysE s).2.2 = 0
 ·rw [if_pos h2] at h; exact ⟨h2, h⟩
 ·rw [if_neg h2] at h; exact absurd h h2
theorem c30 (s : Sys) (hs : SSz s) (l : List Rt) (hl : l.length < 2 ^ 63) (c f : Int) : PC Tryz.prog 30 [sysV s, rgL l, .i c, .i f] (mayV s l c f) := by
 refine ⟨AC_FE (fok30 true) (Nat.le_of_ble_eq_true rfl) ?_, by unfold mayV; repeat (split <;> try rfl)⟩
 have hcl := hs.cl
 have h66 := c66 s hs l hl
 have hdec := rdE_ok (s := s) (l := l)
 have hn0 := sysE_n (s := s)
 unfold mayV
 generalize rdE s (sysE s).2.2 [l] = e at *
 have hw : IntKind.i64.wrap ((s.cl.length : Int) - 1) = (s.cl.length : Int) - 1 := wrap_in (by omega)
 by_cases he : e = 0
 rotate_left
 ·have hb : (e != 0) = true := by simpa using he
  have hb2 : (e == 0) = false := by simpa using he
  rw [if_pos he]
  simp only [ic30, f_box, cellsOf, evA, if_true, if_false, beq_false, simprocAttr]
  refine h66.call frz ?_
  simp only [hb, hb2, evA, if_true, if_false, beq_false, simprocAttr]
  exact frz
 have hb : (e == 0) = true := by simpa using he
 have hb2 : (e != 0) = false := by simpa using he
 obtain ⟨k1, k2⟩ := hdec he
 obtain ⟨⟨hn1, hn12⟩, hm, hok⟩ := hn0 k1
 obtain ⟨hl40, hr⟩ := rgsE_ok k2
 have hbp := pow_bd hm
 have hw2 : IntKind.i64.wrap (2 ^ s.co.length - 1) = setN s - 1 := wrap_in (by omega)
 rw [if_neg (show ¬ (e ≠ 0) from fun h => h he)]
 simp only [ic30, f_box, cellsOf, evA, if_true, if_false, beq_false, simprocAttr]
 refine h66.call frz ?_
 simp only [hb, hw, evA, if_true, if_false, beq_false, simprocAttr]
 refine (c59i c 0 ((s.cl.length : Int) - 1)).call frz ?_
 have b40 : ((4 : Int) == 0) = false := by decide
 have b41 : ((4 : Int) != 0) = true := by decide
 have b71 : ((7 : Int) != 0) = true := by decide
 cases hc : inB c 0 ((s.cl.length : Int) - 1) with
 | false =>
  rw [if_pos rfl]
  simp only [b40, b41, evA, if_true, if_false, beq_false, simprocAttr]
  exact frz
 | true =>
 rw [if_neg (by decide)]
 simp only [hb, evA, if_true, if_false, beq_false, simprocAttr]
 refine (c49 s.co.length hm).call frz ?_
 simp only [hw2, evA, if_true, if_false, beq_false, simprocAttr]
 refine (c59i f 0 (setN s - 1)).call frz ?_
 cases hf : inB f 0 (setN s - 1) with
 | false =>
  rw [if_pos rfl]
  simp only [b71, evA, if_true, if_false, beq_false, simprocAttr]
  exact frz
 | true =>
 rw [if_neg (by decide)]
 rw [inB_iff] at hc hf
 unfold setN at hf
 simp only [hb2, evA, if_true, if_false, beq_false, simprocAttr]
 refine (c50 s hs hn12 hok l hm hl hr c (by omega) f (by omega)).call frz ?_
 simp only [evA, if_true, if_false, beq_false, simprocAttr]
 exact frz
theorem c29 (s : Sys) (hs : SSz s) (l : List Rt) (hl : l.length < 2 ^ 63) (c f : Int) : PC Tryz.prog 29 [sysV s, rgL l, .i c, .i f] (mayV s l c f) := by
 refine ⟨AC_FE (fok29 true) (Nat.le_of_ble_eq_true rfl) ?_, by unfold mayV; repeat (split <;> try rfl)⟩
 have hcl := hs.cl
 have h63 := fun σ l0 h0 => c63 s hs [l] (by simpa using hl) (by simp) σ l0 h0
 have hdec := rdE_ok (s := s) (l := l)
 have hn0 := sysE_n (s := s)
 have hQ : (sysQ s).isUndef = false := by unfold sysQ; split <;> rfl
 have hQP : (sysE s).2.2 = 0 → sysQ s = sysP s := fun h => if_pos h
 unfold mayV
 generalize rdE s (sysE s).2.2 [l] = e at *
 have hw : IntKind.i64.wrap ((s.cl.length : Int) - 1) = (s.cl.length : Int) - 1 := wrap_in (by omega)
 by_cases he : e = 0
 rotate_left
 ·have hb : (e != 0) = true := by simpa using he
  rw [if_pos he]
  simp only [ic29, f_box, cellsOf, evA, if_true, if_false, beq_false, simprocAttr]
  refine (h63 _ 1 rfl).run ?_
  generalize sysQ s = Q at *
  simp only [hQ, hb, evA, if_true, if_false, beq_false, simprocAttr]
  exact frz
 have hb2 : (e != 0) = false := by simpa using he
 obtain ⟨k1, k2⟩ := hdec he
 obtain ⟨⟨hn1, hn12⟩, hm, hok⟩ := hn0 k1
 obtain ⟨hl40, hr⟩ := rgsE_ok k2
 have hbp := pow_bd hm
 have hw2 : IntKind.i64.wrap (setN s - 1) = setN s - 1 := wrap_in (by unfold setN; omega)
 rw [if_neg (show ¬ (e ≠ 0) from fun h => h he)]
 rw [hQP k1] at h63
 have h56 := c56 0 ((s.cl.length : Int) - 1) [c] (by simp)
 have h56f := c56 0 (setN s - 1) [f] (by simp)
 rw [outF_one] at h56 h56f
 simp only [ic29, f_box, cellsOf, evA, if_true, if_false, beq_false, simprocAttr]
 refine (h63 _ 1 rfl).run ?_
 simp only [hb2, hw, evA, if_true, if_false, beq_false, simprocAttr]
 refine h56.call frz ?_
 cases hc : inB c 0 ((s.cl.length : Int) - 1) with
 | false =>
  rw [if_pos rfl]
  simp only [Bool.not_false, evA, if_true, if_false, beq_false, simprocAttr]
  exact frz
 | true =>
 rw [if_neg (by decide)]
 simp only [Bool.not_true, evA, if_true, if_false, beq_false, simprocAttr]
 refine (c64 s (covR s) hm).call frz ?_
 simp only [hw2, evA, if_true, if_false, beq_false, simprocAttr]
 refine h56f.call frz ?_
 cases hf : inB f 0 (setN s - 1) with
 | false =>
  rw [if_pos rfl]
  simp only [Bool.not_false, evA, if_true, if_false, beq_false, simprocAttr]
  exact frz
 | true =>
 rw [if_neg (by decide)]
 rw [inB_iff] at hc hf
 unfold setN at hf
 simp only [Bool.not_true, evA, if_true, if_false, beq_false, simprocAttr]
 refine (c65 s l hm hl hr c (by omega) f (by omega)).call frz ?_
 simp only [evA, if_true, if_false, beq_false, simprocAttr]
 exact frz
abbrev KR : Bool × List KK := (true, [.int .i64, .int .i64])
abbrev RgW (r : Rt) : Prop := (-9223372036854775808 ≤ r.1 ∧ r.1 ≤ 9223372036854775807) ∧ -9223372036854775808 ≤ r.2 ∧ r.2 ≤ 9223372036854775807
theorem wf_int {n : Int} (h : -9223372036854775808 ≤ n ∧ n ≤ 9223372036854775807) : (Lit.int .i64 n).wf = true := by
 simp only [Lit.wf, Bool.and_eq_true, decide_eq_true_eq, IntKind.min, IntKind.max, IntKind.bits, IntKind.signed]
 simp; omega
theorem rg_is {r : Rt} (h : RgW r) : keyIs KR (rgV r) = true := by
 simp [keyIs, keyCells, rgV, kksOk, kkOk, wf_int h.1, wf_int h.2]
theorem rg_eq {a b : Rt} (ha : RgW a) (hb : RgW b) : keyEqK KR (rgV a) (rgV b) = some (decide (a = b)) := by
 simp [keyEqK, keyCells, rgV, kksOk, kkOk, wf_int ha.1, wf_int ha.2, wf_int hb.1, wf_int hb.2, cellsEq, cellEq]
 rw [Bool.eq_iff_iff]
 obtain ⟨a1, a2⟩ := a; obtain ⟨b1, b2⟩ := b
 simp
def putE (es : List (Rt × Int)) (r : Rt) (v : Int) : List (Rt × Int) := if r ∈ keysE es then es.map (fun e => if e.1 = r then (r, v) else e) else es ++ [(r, v)]
def delE (es : List (Rt × Int)) (x : Rt) : List (Rt × Int) := es.filter fun e => !decide (e.1 = x)
theorem find_rg {r : Rt} (hr : RgW r) : ∀ (es : List (Rt × Int)) (s : Nat), (∀ e ∈ es, RgW e.1) →
  (findKey KR (rgV r) (mapE es) s = some none ∧ r ∉ keysE es) ∨ ∃ (j : Nat) (v : Int), es[j]? = some (r, v) ∧ findKey KR (rgV r) (mapE es) s = some (some (s + j, .i v))
 | [], s, _ => .inl ⟨rfl, by simp [keysE]⟩
 | t :: es, s, h => by
  have hk := rg_eq hr (h t (by simp))
  by_cases e : r = t.1
  ·refine .inr ⟨0, t.2, ?_, ?_⟩
   ·obtain ⟨a, n⟩ := t
    cases e; rfl
   ·rw [decide_eq_true e] at hk
    simp only [mapE, List.map_cons, findKey, hk]; rfl
  ·rw [decide_eq_false e] at hk
   rcases find_rg hr es (s + 1) (fun t ht => h t (by simp [ht])) with ⟨g1, g2⟩ | ⟨j, n, g1, g2⟩
   ·refine .inl ⟨?_, ?_⟩
    ·simp only [mapE, List.map_cons, findKey, hk]; exact g1
    ·simp only [keysE, List.map_cons, List.mem_cons, not_or]
     exact ⟨e, g2⟩
   ·refine .inr ⟨j + 1, n, by simpa using g1, ?_⟩
    simp only [mapE, List.map_cons, findKey, hk]
    rw [show s + (j + 1) = s + 1 + j by omega]; exact g2
theorem nodup_at {es : List (Rt × Int)} (hn : (keysE es).Nodup) {j : Nat} {r : Rt} {v : Int} (h : es[j]? = some (r, v)) : ∀ i e, es[i]? = some e → (e.1 = r ↔ i = j) := by
 intro i e he
 constructor
 ·intro h2
  have h1 : (keysE es)[i]? = some r := by simp [keysE, he, h2]
  have h3 : (keysE es)[j]? = some r := by simp [keysE, h]
  obtain ⟨a1, a2⟩ := List.getElem?_eq_some_iff.1 h1
  obtain ⟨b1, b2⟩ := List.getElem?_eq_some_iff.1 h3
  have hp := List.pairwise_iff_getElem.1 hn
  rcases Nat.lt_trichotomy i j with hl | he2 | hl
  ·exact absurd (a2.trans b2.symm) (hp i j a1 b1 hl)
  ·exact he2
  ·exact absurd (b2.trans a2.symm) (hp j i b1 a1 hl)
 ·rintro rfl
  rw [h] at he; cases he; rfl
theorem set_put {es : List (Rt × Int)} (hn : (keysE es).Nodup) {j : Nat} {r : Rt} {v w : Int} (h : es[j]? = some (r, v)) : es.set j (r, w) = putE es r w := by
 have hm : r ∈ keysE es := by
  rw [keysE, List.mem_map]
  exact ⟨_, List.mem_of_getElem? h, rfl⟩
 rw [putE, if_pos hm]
 apply List.ext_getElem?
 intro i
 rw [List.getElem?_set, List.getElem?_map]
 by_cases hij : j = i
 ·subst hij
  have hl := (List.getElem?_eq_some_iff.1 h).1
  rw [if_pos rfl, if_pos hl, h]
  simp
 ·rw [if_neg hij]
  cases he : es[i]? with
  | none => rfl
  | some e =>
   have := nodup_at hn h i e he
   simp only [Option.map_some]
   rw [if_neg (fun h => hij ((this.1 h).symm))]
theorem erase_del : ∀ {es : List (Rt × Int)} (hn : (keysE es).Nodup) {j : Nat} {r : Rt} {v : Int} (h : es[j]? = some (r, v)), es.eraseIdx j = delE es r
 | e :: es, hn, 0, r, v, h => by
  simp only [List.getElem?_cons_zero, Option.some.injEq] at h
  subst h
  simp only [keysE, List.map_cons, List.nodup_cons] at hn
  rw [List.eraseIdx_cons_zero, delE, List.filter_cons, if_neg (by simp)]
  symm
  rw [List.filter_eq_self]
  intro e he
  have : e.1 ≠ r := fun h => hn.1 (by rw [List.mem_map]; exact ⟨e, he, h⟩)
  simp [this]
 | e :: es, hn, j + 1, r, v, h => by
  simp only [List.getElem?_cons_succ] at h
  simp only [keysE, List.map_cons, List.nodup_cons] at hn
  have hne : e.1 ≠ r := fun h2 => hn.1 (by rw [List.mem_map]; exact ⟨(r, v), List.mem_of_getElem? h, h2.symm⟩)
  rw [List.eraseIdx_cons_succ, erase_del hn.2 h, delE, delE, List.filter_cons, if_pos (by simp [hne])]
theorem map_put {es : List (Rt × Int)} {r : Rt} {v : Int} (hn : (keysE es).Nodup) (hw : ∀ e ∈ es, RgW e.1) (hr : RgW r) {σ : List AObj} {l : Nat} (hm : mapOf σ l = some (mapE es)) :
  f_mapset KR [.map l, rgV r, .i v] σ = some (.undef, σ.set l (.map (mapE (putE es r v)))) := by
 rcases find_rg hr es 0 hw with ⟨g1, g2⟩ | ⟨j, n, g1, g2⟩
 ·have : mapE (putE es r v) = mapE es ++ [(rgV r, .i v)] := by rw [putE, if_neg g2]; simp [mapE]
  simp only [f_mapset, hm, Option.bind_some, rg_is hr, g1, this]
  rfl
 ·have : mapE (putE es r v) = (mapE es).set j (rgV r, .i v) := by rw [← set_put hn g1]; simp [mapE, List.map_set]
  simp only [f_mapset, hm, Option.bind_some, rg_is hr, g2, this]
  simp [mapPut]
theorem map_del {es : List (Rt × Int)} {r : Rt} (hn : (keysE es).Nodup) (hw : ∀ e ∈ es, RgW e.1) (hr : RgW r) {σ : List AObj} {l : Nat} (hm : mapOf σ l = some (mapE es)) :
  f_mapdel KR [.map l, rgV r] σ = some (.tup [], σ.set l (.map (mapE (delE es r)))) := by
 rcases find_rg hr es 0 hw with ⟨g1, g2⟩ | ⟨j, n, g1, g2⟩
 ·have : delE es r = es := by
   rw [delE, List.filter_eq_self]
   intro e he
   have : e.1 ≠ r := fun h => g2 (by rw [keysE, List.mem_map]; exact ⟨e, he, h⟩)
   simp [this]
  simp only [f_mapdel, hm, Option.bind_some, rg_is hr, g1, this]
  rfl
 ·have : mapE (delE es r) = (mapE es).eraseIdx j := by
   rw [← erase_del hn g1]
   have : ∀ (L : List (Rt × Int)) (j : Nat), mapE (L.eraseIdx j) = (mapE L).eraseIdx j := by
    intro L
    induction L with
    | nil => intro j; rfl
    | cons a L ih => intro j; cases j with
     | zero => rfl
     | succ j => simp only [mapE, List.eraseIdx_cons_succ, List.map_cons] at ih ⊢; rw [ih]
   exact this es j
  simp only [f_mapdel, hm, Option.bind_some, rg_is hr, g2, this]
  simp [mapDel]
theorem keys_put (es : List (Rt × Int)) (r : Rt) (v : Int) : keysE (putE es r v) = if r ∈ keysE es then keysE es else keysE es ++ [r] := by
 unfold putE
 by_cases h : r ∈ keysE es
 ·rw [if_pos h, if_pos h]
  unfold keysE
  rw [List.map_map]
  apply List.map_congr_left
  intro e _
  simp only [Function.comp]
  split
  ·rename_i h; exact h.symm
  ·rfl
 ·rw [if_neg h, if_neg h]; simp [keysE]
theorem put_nodup {es : List (Rt × Int)} {r : Rt} {v : Int} (h : (keysE es).Nodup) : (keysE (putE es r v)).Nodup := by
 rw [keys_put]
 split
 ·exact h
 ·rename_i hn
  rw [List.nodup_append]
  exact ⟨h, by simp, fun a ha b hb => by simp at hb; subst hb; rintro rfl; exact hn ha⟩
theorem put_mem {es : List (Rt × Int)} {r x : Rt} {v : Int} : x ∈ keysE (putE es r v) ↔ x ∈ keysE es ∨ x = r := by
 rw [keys_put]
 split
 ·rename_i h
  constructor
  ·exact .inl
  ·rintro (h2 | rfl) <;> assumption
 ·simp
theorem keys_filter {p : Rt → Bool} (es : List (Rt × Int)) : keysE (es.filter fun e => p e.1) = (keysE es).filter p := by
 unfold keysE
 induction es with
 | nil => rfl
 | cons e es ih => simp only [List.filter_cons, List.map_cons]; split <;> simp [ih]
theorem key_w {es : List (Rt × Int)} (h : ∀ r ∈ keysE es, RgW r) : ∀ e ∈ es, RgW e.1 := fun e he => h _ (by rw [keysE, List.mem_map]; exact ⟨e, he, rfl⟩)
def AccSF (b e : Nat) (σ : List AObj) (v : AV) (n : Nat) (cs : List CV) : Prop := (v = .cv .nils ∧ n = 0 ∧ cs = []) ∨ ∃ l, b ≤ l ∧ v = .sl l 0 n e ∧ cs.length = n * e ∧ rowOf σ l = some (cs.map .cv)
theorem AccSF.acc {b e n : Nat} {σ : List AObj} {v : AV} {cs : List CV} (h : AccSF b e σ v n cs) : AccS e σ v n cs := h.imp id fun ⟨l, _, h1, h2, h3⟩ => ⟨l, h1, h2, h3⟩
theorem AccSF.nu {b e n : Nat} {σ : List AObj} {v : AV} {cs : List CV} (h : AccSF b e σ v n cs) : v.isUndef = false ∧ v.isSc = true ∧ cellsOf v = [v] := by
 rcases h with ⟨rfl, _⟩ | ⟨l, _, rfl, _⟩ <;> exact ⟨rfl, rfl, rfl⟩
theorem accSF_append {b e by_ n : Nat} {σ : List AObj} {v : AV} {cs x : List CV} (hb0 : b ≤ σ.length) (h : AccSF b e σ v n cs) (hx : x.length = e) (hb : (n + 1) * by_ ≤ 2 ^ 44) (hn : n + 1 ≤ 2 ^ 44) :
  ∃ (v' : AV) (σ' : List AObj), f_append e by_ [v, .sl σ.length 0 1 e] (σ ++ [AObj.cells (x.map .cv)]) = some (v', σ') ∧ AccSF b e σ' v' (n + 1) (cs ++ x) ∧ (∀ i, i < b → σ'[i]? = σ[i]?) ∧ σ.length ≤ σ'.length := by
 have hsrc : srcCells (σ ++ [AObj.cells (x.map .cv)]) e (.sl σ.length 0 1 e) = some (x.map .cv) := by
  have h1 : 0 + 1 * e ≤ (x.map AV.cv).length := by simp [hx]
  simp only [srcCells, if_true, rowOf_last, Option.bind_some]
  rw [if_pos h1, List.drop_zero, List.take_of_length_le (by simp [hx])]
 rcases h with ⟨rfl, rfl, rfl⟩ | ⟨l, hbl, rfl, hl, hr⟩
 ·refine ⟨.sl (σ ++ [AObj.cells (x.map .cv)]).length 0 1 e, (σ ++ [AObj.cells (x.map .cv)]) ++ [AObj.cells (x.map .cv)], ?_, .inr ⟨_, by simp; omega, rfl, by simp [hx], by rw [rowOf_last]; simp⟩, fun i hi => ?_, by simp⟩
  ·have h1 : 1 * e = (x.map AV.cv).length ∧ 1 * by_ ≤ 2 ^ 44 ∧ 1 ≤ 2 ^ 44 ∧ (x.map AV.cv).all AV.isSc = true := ⟨by simp [hx], by omega, by omega, sc_cv x⟩
   simp only [f_append, hsrc, lenF, Option.bind_some]
   rw [if_neg (by omega), if_pos h1]
  ·rw [List.append_assoc, List.getElem?_append_left (by omega)]
 ·have hr' := rowOf_push hr (AObj.cells (x.map .cv))
  refine ⟨.sl (σ ++ [AObj.cells (x.map .cv)]).length 0 (n + 1) e, (σ ++ [AObj.cells (x.map .cv)]).set l AObj.dead ++ [AObj.cells (cs.map .cv ++ x.map .cv)], ?_, .inr ⟨(σ ++ [AObj.cells (x.map .cv)]).length, by simp; omega, rfl, by rw [List.length_append, hl, hx, Nat.succ_mul], ?_⟩, fun i hi => ?_, by simp; omega⟩
  ·have h1 : True ∧ n * e ≤ (cs.map AV.cv).length ∧ 1 * e = (x.map AV.cv).length ∧ (n + 1) * by_ ≤ 2 ^ 44 ∧ n + 1 ≤ 2 ^ 44 ∧ (x.map AV.cv).all AV.isSc = true := ⟨trivial, by simp [hl], by simp [hx], hb, hn, sc_cv x⟩
   simp only [f_append, hr', hsrc, lenF, Option.bind_some]
   rw [if_pos h1, List.take_of_length_le (by simp [hl])]
  ·have : (σ ++ [AObj.cells (x.map .cv)]).length = ((σ ++ [AObj.cells (x.map .cv)]).set l AObj.dead).length := by simp
   rw [this, rowOf_last, List.map_append]
  ·rw [List.getElem?_append_left (by simp; omega), List.getElem?_set_ne (by omega), List.getElem?_append_left (by omega)]
theorem c118 (l : List Rt) (L : Nat) (S : Nat → List AObj → Prop) (σ0 : List AObj) (hl : l.length < 2 ^ 63) (hL : L < σ0.length) (h0 : S 0 σ0)
  (h : ∀ n τ, n < l.length → S n τ → σ0.length ≤ τ.length → YC Tryz.prog L [rgV l[n]!] (τ ++ [.cells [.i (l[n]!).1, .i (l[n]!).2]]) fun r τ' => r = .b true ∧ ∃ τ2 J, τ' = τ2 ++ J ∧ σ0.length ≤ τ2.length ∧ (J = [] ∨ ∀ o ∈ τ2, objIn τ2.length o = true) ∧ S (n + 1) τ2) :
  AC Tryz.prog 118 [.yld L, .cv (.rp [.rsl (l.flatMap rgC) l.length] 0)] σ0 fun r τ => r = .tup [] ∧ S l.length τ := by
 refine AC_FE (fok118 true) (Nat.le_of_ble_eq_true rfl) ?_
 simp only [ic118, evA, if_true, if_false, beq_false, simprocAttr]
 refine IL_for l.length (fun i s => ∃ v2 v6 v7 τ, S i τ ∧ σ0.length ≤ τ.length ∧ s = ⟨[.yld L, .cv (.rp [.rsl (l.flatMap rgC) l.length] 0), v2, rgL l, .i l.length, .i i, v6, v7], τ⟩) ?_ 0 (Nat.zero_le _) ⟨_, _, _, _, h0, Nat.le_refl _, rfl⟩
 rintro i s hi ⟨v2, v6, v7, τ, hS, hτ, rfl⟩
 by_cases hin : i < l.length
 ·simp only [ic118l0, Int.ofNat_lt, hin, ia_rg hin, rg_ld hin, rowOf_az, set_az, evA, if_true, if_false, beq_false, simprocAttr]
  refine (h i τ hin hS hτ).mono ?_
  rintro r τ' ⟨rfl, τ2, J, rfl, hlen, hJ, hS2⟩
  simp only [wrap_succ (show i + 1 < 2 ^ 63 by omega), evA, if_true, if_false, beq_false, simprocAttr]
  rcases hJ with rfl | hJ
  ·rw [List.append_nil]
   exact kFor_go (by first | trivial | omega) ⟨_, _, _, _, hS2, hlen, rfl⟩
  ·refine kFor_clip τ2 J rfl (by first | trivial | omega) hlen hJ ?_
   have hy : locsIn τ2.length (.yld L) = true := by simp [locsIn]; omega
   exact ⟨_, _, _, _, hS2, hlen, by simp only [clip, hy, if_true]; rfl⟩
 ·have hin' : i = l.length := by omega
  subst hin'
  simp only [ic118l0, Int.ofNat_lt, hin, evA, if_true, if_false, beq_false, simprocAttr]
  exact hS
def ia94 : IC := (.region [jw 4 (.alloc [(.cv (.int .i64 0)), (.cv (.int .i64 0))]) [], jq (.store 2) [.v 4, .v 6]])
def ib94 : IC := (.block 1 (.region [jL 2, jN 2 4, jq (.bslice 2 1 [(.cv (.int .i64 0)), (.cv (.int .i64 0))] [(0, 2)]) [.t 1], jq (.append 2 16) [.t 0, .t 2], jq (.store 1) [.v 2, .t 3]]))
theorem ca94 : compC Tryz.prog vs94 13 (nav [1, 0, 1, 0, 2] (Tryz.f94.body.getD .skip)) = some ia94 := by kernel_rfl
theorem cb94 : compC Tryz.prog vs94 13 (nav [1, 0, 1, 0, 3] (Tryz.f94.body.getD .skip)) = some ib94 := by kernel_rfl
theorem ac94 (ks : List Rt) (hl : ks.length < 2 ^ 38) : AC Tryz.prog 94 [.cv .nils, eachV ks] [] fun r τ => AccS 2 τ r ks.length (ks.flatMap rgC) := by
 have hp2 : (2 : Nat) ^ 38 = 274877906944 := by decide
 have hp3 : (2 : Nat) ^ 44 = 17592186044416 := by decide
 refine AC_FE (fok94 true) (Nat.le_of_ble_eq_true rfl) ?_
 simp only [ic94, f_box, cellsOf, evA, if_true, if_false, beq_false, simprocAttr]
 refine RW_s (gf := 118) (cap := [.cv (.rp [.rsl (ks.flatMap rgC) ks.length] 0)]) rfl (Nat.le_of_ble_eq_true rfl) (fun l h => by cases h) ?_
 generalize hRR : newLoop _ _ _ _ _ = R
 simp only [evA, if_true, if_false, beq_false, simprocAttr]
 have e1 : R.vars = vs94 := by rw [← hRR]; rfl
 have e2 : R.ntmps = 13 := by rw [← hRR]; rfl
 have e3 : R.params = [7] := by rw [← hRR]; rfl
 have e4 : R.vals = [.cv .nils, eachV ks, .ptr 0 0, .cv .nils, .undef, eachV ks, .undef] := by rw [← hRR]; rfl
 have e5 : R.state = .ready := by rw [← hRR]; rfl
 have e6 : R.pending = none := by rw [← hRR]; rfl
 have e7 : compC Tryz.prog vs94 13 R.assign = some ia94 := by rw [← hRR]; exact ca94
 have e8 : compC Tryz.prog vs94 13 R.body = some ib94 := by rw [← hRR]; exact cb94
 have e9 : ({ { R with state := .busy, pending := none } with state := .ready, pending := none } : ALoop) = R := by
  clear hRR; cases R; simp_all
 clear hRR
 refine (c118 ks 1 (fun n τ => ∃ acc τ', τ = .cells [acc] :: .loop R :: τ' ∧ AccSF 2 2 τ acc n ((ks.take n).flatMap rgC)) [.cells [.cv .nils], .loop R] (by omega) (by simp) ⟨_, _, rfl, .inl ⟨rfl, rfl, rfl⟩⟩ ?_).mono ?_
 ·rintro n τ hn ⟨acc, τ', rfl, hA⟩ _
  have hnu := hA.nu
  refine YC_IS (r := R) ia94 ib94 rfl e5 (by rw [e3]; rfl) (by rw [e1, e2, e3]; rfl) (by rw [e1, e2]; exact e7) (by rw [e1, e2]; exact e8) ?_
  rw [e1, e2, e3, e4]
  have x7 : vs94.idxOf? 7 = some 6 := by decide
  have hst : (ks.take (n + 1)).flatMap rgC = (ks.take n).flatMap rgC ++ rgC ks[n]! := by
   rw [List.take_add_one, List.getElem?_eq_getElem hn, getElem!_pos ks n hn, List.flatMap_append]; simp
  generalize ks[n]! = kr at hst
  simp only [ia94, putPars, x7, List.append_assoc, List.length_append, rowOf_az, rowOf_as, set_az, set_as, get_az, get_as, get_nz, get_ns, kAsg_n, evA, if_true, if_false, beq_false, simprocAttr]
  refine ⟨R, rfl, e5, ?_⟩
  rw [e6]
  simp only [setLoop, evA, if_true, if_false, beq_false, simprocAttr]
  have hA1 : AccSF 2 2 (.cells [acc] :: .loop { R with state := .busy, pending := none } :: (τ' ++ [AObj.cells [.i kr.1, .i kr.2], AObj.cells [.i kr.1, .i kr.2]])) acc n ((ks.take n).flatMap rgC) := by
   rcases hA with h | ⟨l, h1, h2, h3, h4⟩
   ·exact .inl h
   ·refine .inr ⟨l, h1, h2, h3, ?_⟩
    obtain ⟨m, rfl⟩ : ∃ m, l = m + 2 := ⟨l - 2, by omega⟩
    exact rowOf_low (σ := τ') h4 _
  obtain ⟨v', σ', happ, hA', hfr, hln⟩ := accSF_append (by_ := 16) (x := rgC kr) (by simp) hA1 rfl (by omega) (by omega)
  rw [hst]
  generalize hbz : ({ R with state := .busy, pending := none } : ALoop) = RB at *
  have f0 := hfr 0 (by omega)
  have f1 := hfr 1 (by omega)
  match σ', hln with
  | x0 :: x1 :: σ2, _ =>
  have g0 : x0 = .cells [acc] := by simpa using f0
  have g1 : x1 = .loop RB := by simpa using f1
  subst g0 g1
  have hnu' := hA'.nu
  simp only [List.append_assoc, List.length_append, rowOf_az, rowOf_as, set_az, set_as, get_az, get_as, get_nz, get_ns, List.cons_append, List.nil_append, List.length_cons, List.length_nil, Nat.zero_add, rgC, List.map_cons, List.map_nil] at happ
  simp only [ib94, List.append_assoc, List.length_append, rowOf_az, rowOf_as, set_az, set_as, get_az, get_as, get_nz, get_ns, rowOf_z, rowOf_s, happ, hnu, hnu', kRnd_n, evA, if_true, if_false, beq_false, simprocAttr]
  refine ⟨RB, rfl, ?_⟩
  subst hbz
  simp only [setLoop, evA, if_true, if_false, beq_false, simprocAttr]
  rw [e9]
  refine ⟨_, [], (List.append_nil _).symm, Nat.le_of_ble_eq_true rfl, .inl rfl, v', σ2, rfl, ?_⟩
  rcases hA' with h | ⟨l, h1, h2, h3, h4⟩
  ·exact .inl h
  ·refine .inr ⟨l, h1, h2, h3, ?_⟩
   obtain ⟨m, rfl⟩ : ∃ m, l = m + 2 := ⟨l - 2, by omega⟩
   exact h4
 ·rintro r τ ⟨rfl, acc, τ', rfl, hA⟩
  refine ⟨R, rfl, (by rw [e5]; intro h; cases h), ?_⟩
  rw [e6]
  have hnu := hA.nu
  simp only [setLoop, hnu, evA, if_true, if_false, beq_false, simprocAttr]
  rw [List.take_length] at hA
  rcases hA with h | ⟨l, h1, h2, h3, h4⟩
  ·exact .inl h
  ·refine .inr ⟨l, h2, h3, ?_⟩
   obtain ⟨m, rfl⟩ : ∃ m, l = m + 2 := ⟨l - 2, by omega⟩
   exact h4
theorem c94 (ks : List Rt) (hl : ks.length < 2 ^ 38) : PC Tryz.prog 94 [.cv .nils, eachV ks] (rgL ks) := ⟨(ac94 ks hl).mono fun r τ h => accS_frz h (rgL_scl ks), rfl⟩
theorem ren_cv (g : Nat → Nat) : ∀ cs : List CV, rens g (cs.map .cv) = cs.map .cv
 | [] => rfl
 | c :: cs => by simp only [List.map_cons, rens, ren, ren_cv g cs]
theorem AC.accs {P : Program} {f : FuncId} {args : List AV} {e n : Nat} {cs : List CV} (h : AC P f args [] fun r τ => AccS e τ r n cs) (hcl : locsInAll 0 args = true) (hr : ∀ g, rens g args = args) (σ : List AObj) : AC P f args σ fun r τ => AccS e τ r n cs := by
 have := AC.at (σ := σ) [] h List.nodup_nil hcl trivial
 rw [hr] at this
 refine this.mono ?_
 rintro r τ ⟨r0, τ0, h1, _, rfl, rfl⟩
 rcases h1 with ⟨rfl, h1, h2⟩ | ⟨l, rfl, h1, h2⟩
 ·exact .inl ⟨rfl, h1, h2⟩
 ·refine .inr ⟨σ.length + l, by simp [ren, atF], h1, ?_⟩
  have h3 := rowOf_some h2
  simp only [putL]
  unfold rowOf
  rw [List.getElem?_append_right (by omega), Nat.add_sub_cancel_left, List.getElem?_map, h3]
  simp only [Option.map_some, renO, ren_cv]
theorem AccS.nu {e n : Nat} {σ : List AObj} {v : AV} {cs : List CV} (h : AccS e σ v n cs) : v.isUndef = false ∧ v.isSc = true ∧ cellsOf v = [v] := by
 rcases h with ⟨rfl, _⟩ | ⟨l, rfl, _⟩ <;> exact ⟨rfl, rfl, rfl⟩
theorem ac71 (ks : List Rt) (hl : ks.length < 2 ^ 38) (σ : List AObj) : AC Tryz.prog 71 [eachV ks] σ fun r τ => AccS 2 τ r ks.length (ks.flatMap rgC) := by
 refine AC_FE (fok71 true) (Nat.le_of_ble_eq_true rfl) ?_
 simp only [ic71, evA, if_true, if_false, beq_false, simprocAttr]
 refine ((ac94 ks hl).accs rfl (fun g => rfl) σ).mono ?_
 intro r τ h
 have hnu := h.nu
 simp only [hnu, evA, if_true, if_false, beq_false, simprocAttr]
 exact h
theorem c71 (ks : List Rt) (hl : ks.length < 2 ^ 38) : PA Tryz.prog 71 [eachV ks] (rgL ks) := by
 refine ⟨AC_FE (fok71 true) (Nat.le_of_ble_eq_true rfl) ?_, rfl, rfl⟩
 simp only [ic71, evA, if_true, if_false, beq_false, simprocAttr]
 refine (c94 ks hl).call frz ?_
 simp only [evA, if_true, if_false, beq_false, simprocAttr]
 exact .c (.c _ trivial)
def ia67a : IC := (.region [jw 7 (.alloc [(.cv (.int .i64 0)), (.cv (.int .i64 0))]) [], jq (.store 2) [.v 7, .v 14]])
def ib67b : IC := (.block 5 (.seq (.dr [[], [], [0, 1], [2], [3], [4, 3], [5, 3], [6, 3], [3], [8, 3], [7, 9, 3], [10, 3], [3], [12, 3], [11, 13, 3], [14, 3], [3, 15], [16, 3], [17], [18, 17], [17], [20, 17], [19, 21, 17], [22, 17], [17, 23]] [jN 2 8, jN 2 7, jq (.eqS true (true, [(.int .i64), (.int .i64)])) [.t 0, .t 1], jt 2, jg 3 true .load1 [.v 2], jg 3 true .nilck [.t 4], jg 3 true (.fadd 2) [.t 5], ji 3 true 6, jg 3 true (.fadd 0) [.v 7], ji 3 true 8, jg 3 true (.iaS 1) [.t 7, .t 9], ji 3 true 10, jg 3 true (.fadd 0) [.v 8], ji 3 true 12, jg 3 true (.iaS 1) [.t 11, .t 13], ji 3 true 14, jq .pick [.t 3, .t 15, jB false], jt 16, jg 17 true (.fadd 1) [.v 7], ji 17 true 18, jg 17 true (.fadd 1) [.v 8], ji 17 true 20, jg 17 true (.bin .andNot .int) [.t 19, .t 21], jg 17 true (.bin .eql .int) [.t 22, jn 0], jw 17 .pick [.t 17, .t 23, jB false]])
 (.cond 17 (.region [jL 4, jN 2 8, jq (.mapdel (true, [(.int .i64), (.int .i64)])) [.t 0, .t 1]])
 .skip)))
def ia67b : IC := (.region [jw 8 (.alloc [(.cv (.int .i64 0)), (.cv (.int .i64 0))]) [], jq (.store 2) [.v 8, .v 16]])
def ib67a (b67 : Code) : IC := (.block 3 (.seq (.region [jL 4, jd 15 72 [.t 0]])
 (.block 4 (.rangef (.v 15) #[27] (nav [1, 1, 1, 0, 1, 0, 3, 0, 1, 0, 2] b67) (nav [1, 1, 1, 0, 1, 0, 3, 0, 1, 0, 3] b67) (.region [jw 8 (.alloc [(.cv (.int .i64 0)), (.cv (.int .i64 0))]) [], jq (.store 2) [.v 8, .v 16]])
 (.block 5 (.seq (.dr [[], [], [0, 1], [2], [3], [4, 3], [5, 3], [6, 3], [3], [8, 3], [7, 9, 3], [10, 3], [3], [12, 3], [11, 13, 3], [14, 3], [3, 15], [16, 3], [17], [18, 17], [17], [20, 17], [19, 21, 17], [22, 17], [17, 23]] [jN 2 8, jN 2 7, jq (.eqS true (true, [(.int .i64), (.int .i64)])) [.t 0, .t 1], jt 2, jg 3 true .load1 [.v 2], jg 3 true .nilck [.t 4], jg 3 true (.fadd 2) [.t 5], ji 3 true 6, jg 3 true (.fadd 0) [.v 7], ji 3 true 8, jg 3 true (.iaS 1) [.t 7, .t 9], ji 3 true 10, jg 3 true (.fadd 0) [.v 8], ji 3 true 12, jg 3 true (.iaS 1) [.t 11, .t 13], ji 3 true 14, jq .pick [.t 3, .t 15, jB false], jt 16, jg 17 true (.fadd 1) [.v 7], ji 17 true 18, jg 17 true (.fadd 1) [.v 8], ji 17 true 20, jg 17 true (.bin .andNot .int) [.t 19, .t 21], jg 17 true (.bin .eql .int) [.t 22, jn 0], jw 17 .pick [.t 17, .t 23, jB false]])
 (.cond 17 (.region [jL 4, jN 2 8, jq (.mapdel (true, [(.int .i64), (.int .i64)])) [.t 0, .t 1]])
 .skip)))))))
theorem ca67a : compC Tryz.prog vs67 58 (nav [1, 1, 1, 0, 1, 0, 2] (Tryz.f67.body.getD .skip)) = some ia67a := by kernel_rfl
theorem cb67a : compC Tryz.prog vs67 58 (nav [1, 1, 1, 0, 1, 0, 3] (Tryz.f67.body.getD .skip)) = some (ib67a (Tryz.f67.body.getD .skip)) := by kernel_rfl
theorem ca67b : compC Tryz.prog vs67 58 (nav [1, 1, 1, 0, 1, 0, 3, 0, 1, 0, 2] (Tryz.f67.body.getD .skip)) = some ia67b := by kernel_rfl
theorem cb67b : compC Tryz.prog vs67 58 (nav [1, 1, 1, 0, 1, 0, 3, 0, 1, 0, 3] (Tryz.f67.body.getD .skip)) = some ib67b := by kernel_rfl
def wkB (s : Sys) (x r : Rt) : Bool := !decide (x = r) && (covB s r.1.toNat x.1.toNat && (subI r.2 x.2 == 0))
def esN (l : List Rt) : Nat → List (Rt × Int)
 | 0 => []
 | k + 1 => putE (esN l k) l[k]! k
def ddR (l : List Rt) : List Rt := keysE (esN l l.length)
def leastF (s : Sys) (l : List Rt) : List Rt := (sortR (ddR l)).filter fun x => !(ddR l).any fun r => wkB s x r
theorem esN_nodup (l : List Rt) : ∀ k, (keysE (esN l k)).Nodup
 | 0 => List.nodup_nil
 | k + 1 => put_nodup (esN_nodup l k)
theorem esN_mem (l : List Rt) {x : Rt} : ∀ k, k ≤ l.length → (x ∈ keysE (esN l k) ↔ x ∈ l.take k)
 | 0, _ => by simp [esN, keysE]
 | k + 1, h => by
  have e : l.take (k + 1) = l.take k ++ [l[k]!] := by rw [List.take_add_one, List.getElem?_eq_getElem (by omega), getElem!_pos l k (by omega)]; rfl
  rw [esN, put_mem, esN_mem l k (by omega), e, List.mem_append, List.mem_singleton]
theorem ddR_mem {l : List Rt} {x : Rt} : x ∈ ddR l ↔ x ∈ l := by rw [ddR, esN_mem l l.length (Nat.le_refl _), List.take_length]
theorem esN_len (l : List Rt) : ∀ k, (esN l k).length ≤ k
 | 0 => Nat.le_refl _
 | k + 1 => by
  have := esN_len l k
  rw [esN, putE]
  split <;> simp <;> omega
def wipeE (s : Sys) (es : List (Rt × Int)) (rs : List Rt) : List (Rt × Int) := es.filter fun e => !rs.any fun r => wkB s e.1 r
def wipe1 (s : Sys) (es : List (Rt × Int)) (r : Rt) (xs : List Rt) : List (Rt × Int) := es.filter fun e => !(decide (e.1 ∈ xs) && wkB s e.1 r)
theorem wipe_nil (s : Sys) (es : List (Rt × Int)) : wipeE s es [] = es := by simp [wipeE]
theorem wipe1_nil (s : Sys) (es : List (Rt × Int)) (r : Rt) : wipe1 s es r [] = es := by simp [wipe1]
theorem wipe1_all (s : Sys) (es : List (Rt × Int)) (r : Rt) (rs xs : List Rt) (h : ∀ e ∈ wipeE s es rs, e.1 ∈ xs) : wipe1 s (wipeE s es rs) r xs = wipeE s es (rs ++ [r]) := by
 unfold wipe1
 have : (wipeE s es rs).filter (fun e => !(decide (e.1 ∈ xs) && wkB s e.1 r)) = (wipeE s es rs).filter fun e => !wkB s e.1 r := by
  apply List.filter_congr
  intro e he
  have := h e he
  simp [this]
 rw [this]
 unfold wipeE
 rw [List.filter_filter]
 apply List.filter_congr
 intro e _
 simp [List.any_append, Bool.and_comm]
theorem wipe1_yes (s : Sys) (es : List (Rt × Int)) (r x : Rt) (xs : List Rt) (h : wkB s x r = true) : delE (wipe1 s es r xs) x = wipe1 s es r (xs ++ [x]) := by
 unfold delE wipe1
 rw [List.filter_filter]
 apply List.filter_congr
 intro e _
 by_cases he : e.1 = x
 ·subst he; simp [h]
 ·simp [he]
theorem wipe1_no (s : Sys) (es : List (Rt × Int)) (r x : Rt) (xs : List Rt) (h : wkB s x r = false) : wipe1 s es r xs = wipe1 s es r (xs ++ [x]) := by
 unfold wipe1
 apply List.filter_congr
 intro e _
 by_cases he : e.1 = x
 ·subst he; simp [h]
 ·simp [he]
theorem objIn_mapE (k : Nat) (es : List (Rt × Int)) : objIn k (.map (mapE es)) = true := by
 simp only [objIn, List.all_eq_true, Bool.and_eq_true]
 intro e he
 simp only [mapE, List.mem_map] at he
 obtain ⟨x, _, rfl⟩ := he
 exact ⟨rfl, rfl⟩
theorem RgOk.w {s : Sys} {r : Rt} (h : RgOk s r) (hn : s.cl.length ≤ 12) (hm : s.co.length ≤ 8) : RgW r := by
 have hb := pow_bd hm
 obtain ⟨⟨h1, h2⟩, h3, h4⟩ := h
 unfold setN at h4
 exact ⟨by omega, by omega⟩
theorem ac67 (s : Sys) (hn12 : s.cl.length ≤ 12) (hm : s.co.length ≤ 8) (l : List Rt) (hl : l.length < 2 ^ 38) (hr : ∀ r ∈ l, RgOk s r) : AC Tryz.prog 67 [sysP s, rgL l] [] fun r τ => AccS 2 τ r (leastF s l).length ((leastF s l).flatMap rgC) := by
 have hp2 : (2 : Nat) ^ 38 = 274877906944 := by decide
 have hbp := pow_bd hm
 refine AC_FE (fok67 true) (Nat.le_of_ble_eq_true rfl) ?_
 have hkw : ∀ k, k ≤ l.length → ∀ r ∈ keysE (esN l k), RgOk s r := fun k hk r h => hr r (List.mem_of_mem_take ((esN_mem l k hk).1 h))
 simp only [ic67, f_box, cellsOf, f_mkmap, evA, if_true, if_false, beq_false, simprocAttr]
 refine IL_for l.length (fun i s' => ∃ v5 v12, (∀ k, locsIn k v5 = true) ∧ s' = ⟨[sysP s, rgL l, .ptr 0 0, .cv .nils, .ptr 2 0, v5, .undef, .undef, .undef, rgL l, .i l.length, .i i, v12, .undef, .undef, .undef, .undef, .undef], [.cells [sysP s], .map (mapE (esN l i)), .cells [.map 1]]⟩) ?_ 0 (Nat.zero_le _) ⟨_, _, fun _ => rfl, rfl⟩
 rintro i s' hi ⟨v5, v12, hv5, rfl⟩
 by_cases hin : i < l.length
 ·have hrw : RgW l[i]! := (hr _ (by rw [getElem!_pos l i hin]; exact List.getElem_mem hin)).w hn12 hm
  have hput : ∀ J, f_mapset KR [.map 1, rgV l[i]!, .i i] (AObj.cells [sysP s] :: .map (mapE (esN l i)) :: J) = some (.undef, AObj.cells [sysP s] :: .map (mapE (esN l (i + 1))) :: J) := fun J =>
   map_put (esN_nodup l i) (key_w fun r h => (hkw i (by omega) r h).w hn12 hm) hrw rfl
  simp only [ic67l0, Int.ofNat_lt, hin, ia_rg hin, rg_ld hin, hput, wrap_succ (show i + 1 < 2 ^ 63 by omega), evA, if_true, if_false, beq_false, simprocAttr]
  refine kFor_clip [.cells [sysP s], .map (mapE (esN l (i + 1))), .cells [.map 1]] _ rfl (by first | trivial | omega) (Nat.zero_le _) ?_ ⟨_, _, fun _ => rfl, rfl⟩
  intro o ho
  simp only [List.mem_cons, List.not_mem_nil, or_false] at ho
  rcases ho with rfl | rfl | rfl
  ·rfl
  ·exact objIn_mapE _ _
  ·rfl
 have hin' : i = l.length := by omega
 subst hin'
 have hlen := esN_len l l.length
 have hnd := esN_nodup l l.length
 have hkw2 := hkw l.length (Nat.le_refl _)
 have hdd : keysE (esN l l.length) = ddR l := rfl
 generalize esN l l.length = es at *
 simp only [ic67l0, Int.ofNat_lt, hin, evA, if_true, if_false, beq_false, simprocAttr]
 refine (c72 (es := es) (by omega) rfl).run ?_
 simp only [evA, if_true, if_false, beq_false, simprocAttr]
 obtain ⟨K, hK⟩ : ∃ K, K = sortR (keysE es) := ⟨_, rfl⟩
 rw [← hK]
 have hKl : K.length = es.length := by rw [hK, sortR_len]; simp [keysE]
 have hKok : ∀ r ∈ K, RgOk s r := fun r h => hkw2 r (by rw [hK] at h; exact mem_sortR.1 h)
 refine RW_s (gf := 118) (cap := [.cv (.rp [.rsl (K.flatMap rgC) K.length] 0)]) rfl (Nat.le_of_ble_eq_true rfl) (fun l h => by cases h) ?_
 generalize hRR : newLoop _ _ _ _ _ = R
 simp only [evA, if_true, if_false, beq_false, simprocAttr]
 have e1 : R.vars = vs67 := by rw [← hRR]; rfl
 have e2 : R.ntmps = 58 := by rw [← hRR]; rfl
 have e3 : R.params = [24] := by rw [← hRR]; rfl
 have e4 : R.vals = [sysP s, rgL l, .ptr 0 0, .cv .nils, .ptr 2 0, v5, .undef, .undef, .undef, rgL l, .i l.length, .i l.length, .b false, eachV K, .undef, .undef, .undef, .undef] := by rw [← hRR]; rfl
 have e5 : R.state = .ready := by rw [← hRR]; rfl
 have e6 : R.pending = none := by rw [← hRR]; rfl
 have e7 : compC Tryz.prog vs67 58 R.assign = some ia67a := by rw [← hRR]; exact ca67a
 have e8 : compC Tryz.prog vs67 58 R.body = some (ib67a (Tryz.f67.body.getD .skip)) := by rw [← hRR]; exact cb67a
 have e9 : ({ { R with state := .busy, pending := none } with state := .ready, pending := none } : ALoop) = R := by
  clear hRR; cases R; simp_all
 have eo : ∀ k st p, 3 ≤ k → objIn k (.loop { R with state := st, pending := p }) = true := fun k st p hk => by
  have h1 : decide (0 < k) = true := decide_eq_true (by omega)
  have h2 : decide (2 < k) = true := decide_eq_true (by omega)
  show locsInAll k R.vals = true
  rw [e4]
  simp [locsInAll, locsIn, hv5]
  omega
 clear hRR
 have hwk : ∀ rs, ∀ e ∈ wipeE s es rs, e.1 ∈ K := fun rs e he => by
  rw [hK, mem_sortR, keysE, List.mem_map]
  exact ⟨e, (List.mem_filter.1 he).1, rfl⟩
 refine (c118 K 3 (fun n τ => τ = [.cells [sysP s], .map (mapE (wipeE s es (K.take n))), .cells [.map 1], .loop R]) [.cells [sysP s], .map (mapE es), .cells [.map 1], .loop R] (by omega) (by simp) (by rw [List.take_zero, wipe_nil]) ?_).mono ?_
 ·rintro n τ hn rfl _
  have hst : K.take (n + 1) = K.take n ++ [K[n]!] := by rw [List.take_add_one, List.getElem?_eq_getElem hn, getElem!_pos K n hn]; rfl
  have hkr := hKok K[n]! (by rw [getElem!_pos K n hn]; exact List.getElem_mem hn)
  rw [hst]
  generalize K[n]! = kr at *
  obtain ⟨ez, hez⟩ : ∃ ez, ez = wipeE s es (K.take n) := ⟨_, rfl⟩
  have hzl : ez.length ≤ es.length := by rw [hez]; exact List.length_filter_le _ _
  have hzk : keysE ez = (keysE es).filter fun x => !(K.take n).any fun r => wkB s x r := by rw [hez]; exact keys_filter (p := fun x => !(K.take n).any fun r => wkB s x r) es
  have hznd : (keysE ez).Nodup := by rw [hzk]; exact hnd.filter _
  have hzok : ∀ r ∈ keysE ez, RgOk s r := fun r h => hkw2 r (by rw [hzk] at h; exact (List.mem_filter.1 h).1)
  refine YC_IS (r := R) ia67a (ib67a (Tryz.f67.body.getD .skip)) rfl e5 (by rw [e3]; rfl) (by rw [e1, e2, e3]; rfl) (by rw [e1, e2]; exact e7) (by rw [e1, e2]; exact e8) ?_
  rw [e1, e2, e3, e4, ← hez]
  have x24 : vs67.idxOf? 24 = some 14 := by decide
  simp only [ia67a, putPars, x24, kAsg_n, evA, if_true, if_false, beq_false, simprocAttr]
  refine ⟨R, rfl, e5, ?_⟩
  rw [e6]
  simp only [ib67a, setLoop, evA, if_true, if_false, beq_false, simprocAttr]
  refine (c72 (es := ez) (by omega) rfl).run ?_
  simp only [evA, if_true, if_false, beq_false, simprocAttr]
  obtain ⟨K2, hK2⟩ : ∃ K2, K2 = sortR (keysE ez) := ⟨_, rfl⟩
  rw [← hK2]
  have hK2l : K2.length = ez.length := by rw [hK2, sortR_len]; simp [keysE]
  have hK2ok : ∀ r ∈ K2, RgOk s r := fun r h => hzok r (by rw [hK2] at h; exact mem_sortR.1 h)
  refine RW_s (gf := 118) (cap := [.cv (.rp [.rsl (K2.flatMap rgC) K2.length] 0)]) rfl (Nat.le_of_ble_eq_true rfl) (fun l h => by cases h; exact ⟨_, rfl⟩) ?_
  generalize hRR2 : newLoop _ _ _ _ _ = R2
  simp only [evA, if_true, if_false, beq_false, simprocAttr]
  have d1 : R2.vars = vs67 := by rw [← hRR2]; rfl
  have d2 : R2.ntmps = 58 := by rw [← hRR2]; rfl
  have d3 : R2.params = [27] := by rw [← hRR2]; rfl
  have d4 : R2.vals = [sysP s, rgL l, .ptr 0 0, .cv .nils, .ptr 2 0, v5, .undef, .ptr 5 0, .undef, rgL l, .i l.length, .i l.length, .b false, eachV K, rgV kr, eachV K2, .undef, .undef] := by rw [← hRR2]; rfl
  have d5 : R2.state = .ready := by rw [← hRR2]; rfl
  have d6 : R2.pending = none := by rw [← hRR2]; rfl
  have d7 : compC Tryz.prog vs67 58 R2.assign = some ia67b := by rw [← hRR2]; exact ca67b
  have d8 : compC Tryz.prog vs67 58 R2.body = some ib67b := by rw [← hRR2]; exact cb67b
  have d9 : ({ { R2 with state := .busy, pending := none } with state := .ready, pending := none } : ALoop) = R2 := by
   clear hRR2; cases R2; simp_all
  have dO : ∀ k, 6 ≤ k → objIn k (.loop R2) = true := fun k hk => by
   show locsInAll k R2.vals = true
   rw [d4]
   simp [locsInAll, locsIn, hv5]
   omega
  clear hRR2
  obtain ⟨RB, hRB⟩ : ∃ RB : ALoop, RB = { R with state := .busy, pending := none } := ⟨_, rfl⟩
  have hBo : ∀ k, 6 ≤ k → objIn k (.loop RB) = true := fun k hk => by rw [hRB]; exact eo k _ _ (by omega)
  rw [← hRB]
  have hall2 : ∀ e ∈ ez, e.1 ∈ K2 := fun e he => by
   rw [hK2, mem_sortR, keysE, List.mem_map]
   exact ⟨e, he, rfl⟩
  refine (c118 K2 6 (fun m τ => τ = [.cells [sysP s], .map (mapE (wipe1 s ez kr (K2.take m))), .cells [.map 1], .loop RB, .cells [.i kr.1, .i kr.2], .cells [.i kr.1, .i kr.2], .loop R2]) [.cells [sysP s], .map (mapE ez), .cells [.map 1], .loop RB, .cells [.i kr.1, .i kr.2], .cells [.i kr.1, .i kr.2], .loop R2] (by omega) (by simp) (by rw [List.take_zero, wipe1_nil]) ?_).mono ?_
  ·rintro m τ hm2 rfl _
   have hst2 : K2.take (m + 1) = K2.take m ++ [K2[m]!] := by rw [List.take_add_one, List.getElem?_eq_getElem hm2, getElem!_pos K2 m hm2]; rfl
   have hkx := hK2ok K2[m]! (by rw [getElem!_pos K2 m hm2]; exact List.getElem_mem hm2)
   rw [hst2]
   generalize K2[m]! = kx at *
   have hwy := wipe1_yes s ez kr kx (K2.take m)
   have hwn := wipe1_no s ez kr kx (K2.take m)
   have hwnd : (keysE (wipe1 s ez kr (K2.take m))).Nodup := by
    have : keysE (wipe1 s ez kr (K2.take m)) = (keysE ez).filter fun x => !(decide (x ∈ K2.take m) && wkB s x kr) := keys_filter (p := fun x => !(decide (x ∈ K2.take m) && wkB s x kr)) ez
    rw [this]; exact hznd.filter _
   have hwok : ∀ r ∈ keysE (wipe1 s ez kr (K2.take m)), RgOk s r := fun r h => hzok r (by
    have : keysE (wipe1 s ez kr (K2.take m)) = (keysE ez).filter fun x => !(decide (x ∈ K2.take m) && wkB s x kr) := keys_filter (p := fun x => !(decide (x ∈ K2.take m) && wkB s x kr)) ez
    rw [this] at h; exact (List.mem_filter.1 h).1)
   generalize wipe1 s ez kr (K2.take m) = em at *
   have hxw := hkx.w hn12 hm
   have hrw := hkr.w hn12 hm
   have hdel : ∀ J, f_mapdel KR [.map 1, rgV kx] (AObj.cells [sysP s] :: .map (mapE em) :: J) = some (.tup [], AObj.cells [sysP s] :: .map (mapE (delE em kx)) :: J) := fun J =>
    map_del hwnd (key_w fun r h => (hwok r h).w hn12 hm) hxw rfl
   have heq : ∀ σ, f_eqS true KR [rgV kx, rgV kr] σ = some (.b (!decide (kx = kr)), σ) := fun σ => by
    simp only [f_eqS, rg_eq hxw hrw, Option.map_some, if_true]
   refine YC_IS (r := R2) ia67b ib67b rfl d5 (by rw [d3]; rfl) (by rw [d1, d2, d3]; rfl) (by rw [d1, d2]; exact d7) (by rw [d1, d2]; exact d8) ?_
   rw [d1, d2, d3, d4]
   have x27 : vs67.idxOf? 27 = some 16 := by decide
   simp only [ia67b, putPars, x27, kAsg_n, evA, if_true, if_false, beq_false, simprocAttr]
   refine ⟨R2, rfl, d5, ?_⟩
   rw [d6]
   simp only [ib67b, setLoop, evA, if_true, if_false, beq_false, simprocAttr]
   refine DW_s [] [] hmix (by kernel_rfl) rfl ?_
   obtain ⟨⟨x1, x2⟩, x3, x4⟩ := hkx
   obtain ⟨⟨r1, r2⟩, r3, r4⟩ := hkr
   have x4' : kx.2 < 256 := by unfold setN at x4; omega
   have r4' : kr.2 < 256 := by unfold setN at r4; omega
   obtain ⟨c, hc⟩ : ∃ c : Nat, kr.1 = (c : Int) := ⟨kr.1.toNat, by omega⟩
   obtain ⟨d, hd⟩ : ∃ d : Nat, kx.1 = (d : Int) := ⟨kx.1.toNat, by omega⟩
   have hcl : c < s.cl.length := by omega
   have hdl : d < s.cl.length := by omega
   have hsub := sub_wrap (a := kr.2) (b := kx.2) ⟨r3, r4'⟩ ⟨x3, by omega⟩
   have hwk1 : wkB s kx kr = (!decide (kx = kr) && (covB s c d && (subI kr.2 kx.2 == 0))) := by unfold wkB; rw [hc, hd, Int.toNat_natCast, Int.toNat_natCast]
   have clo : ∀ em' : List (Rt × Int), ∀ o ∈ [AObj.cells [sysP s], .map (mapE em'), .cells [.map 1], .loop RB, .cells [.i kr.1, .i kr.2], .cells [.i kr.1, .i kr.2], .loop R2], objIn 7 o = true := fun em' o ho => by
    simp only [List.mem_cons, List.not_mem_nil, or_false] at ho
    rcases ho with rfl | rfl | rfl | rfl | rfl | rfl | rfl
    ·rfl
    ·exact objIn_mapE _ _
    ·rfl
    ·exact hBo 7 (by omega)
    ·rfl
    ·rfl
    ·exact dO 7 (by omega)
   simp only [heq, evA, if_true, if_false, beq_false, simprocAttr]
   cases hdc : decide (kx = kr) with
   | true =>
    rw [hdc] at hwk1
    have hw0 := hwn hwk1
    simp only [Bool.not_true, kRnd_n, evA, if_true, if_false, beq_false, simprocAttr]
    refine ⟨_, rfl, ?_⟩
    simp only [setLoop, evA, if_true, if_false, beq_false, simprocAttr]
    rw [d9]
    exact ⟨[.cells [sysP s], .map (mapE em), .cells [.map 1], .loop RB, .cells [.i kr.1, .i kr.2], .cells [.i kr.1, .i kr.2], .loop R2], _, rfl, Nat.le_of_ble_eq_true rfl, .inr (clo em), by rw [← hw0]⟩
   | false =>
   rw [hdc] at hwk1
   simp only [Bool.not_false, hc, hd, ia_rsl hcl, Nat.mul_one, covCs_get hcl, ia_cov hdl, cov_get hdl, evA, if_true, if_false, beq_false, simprocAttr]
   cases hcv : covB s c d with
   | false =>
    rw [hcv] at hwk1
    have hw0 := hwn hwk1
    simp only [kRnd_n, evA, if_true, if_false, beq_false, simprocAttr]
    refine ⟨_, rfl, ?_⟩
    simp only [setLoop, evA, if_true, if_false, beq_false, simprocAttr]
    rw [d9]
    exact ⟨[.cells [sysP s], .map (mapE em), .cells [.map 1], .loop RB, .cells [.i kr.1, .i kr.2], .cells [.i kr.1, .i kr.2], .loop R2], _, by rw [hc]; rfl, Nat.le_of_ble_eq_true rfl, .inr (clo em), by rw [← hw0]⟩
   | true =>
   rw [hcv] at hwk1
   simp only [hsub, evA, if_true, if_false, beq_false, simprocAttr]
   cases hsb : (subI kr.2 kx.2 == 0) with
   | false =>
    rw [hsb] at hwk1
    have hw0 := hwn hwk1
    simp only [kRnd_n, evA, if_true, if_false, beq_false, simprocAttr]
    refine ⟨_, rfl, ?_⟩
    simp only [setLoop, evA, if_true, if_false, beq_false, simprocAttr]
    rw [d9]
    exact ⟨[.cells [sysP s], .map (mapE em), .cells [.map 1], .loop RB, .cells [.i kr.1, .i kr.2], .cells [.i kr.1, .i kr.2], .loop R2], _, by rw [hc]; rfl, Nat.le_of_ble_eq_true rfl, .inr (clo em), by rw [← hw0]⟩
   | true =>
    rw [hsb] at hwk1
    have hw0 := hwy hwk1
    have hdel' : ∀ J, f_mapdel KR [.map 1, .agg [.i d, .i kx.2]] (AObj.cells [sysP s] :: .map (mapE em) :: J) = some (.tup [], AObj.cells [sysP s] :: .map (mapE (delE em kx)) :: J) := fun J => by rw [← hd]; exact hdel J
    simp only [hdel', kRnd_n, evA, if_true, if_false, beq_false, simprocAttr]
    refine ⟨_, rfl, ?_⟩
    simp only [setLoop, evA, if_true, if_false, beq_false, simprocAttr]
    rw [d9]
    exact ⟨[.cells [sysP s], .map (mapE (delE em kx)), .cells [.map 1], .loop RB, .cells [.i kr.1, .i kr.2], .cells [.i kr.1, .i kr.2], .loop R2], _, by rw [hc]; rfl, Nat.le_of_ble_eq_true rfl, .inr (clo _), by rw [← hw0]⟩
  ·rintro r τ ⟨rfl, rfl⟩
   refine ⟨R2, rfl, (by rw [d5]; intro h; cases h), ?_⟩
   rw [d6]
   simp only [setLoop, kRnd_n, evA, if_true, if_false, beq_false, simprocAttr]
   refine ⟨RB, rfl, ?_⟩
   rw [hRB]
   simp only [evA, if_true, if_false, beq_false, simprocAttr]
   rw [e9]
   have hw1 : wipe1 s ez kr (K2.take K2.length) = wipeE s es (K.take n ++ [kr]) := by
    rw [List.take_length, hez]
    exact wipe1_all s es kr (K.take n) K2 (by rw [← hez]; exact hall2)
   refine ⟨[.cells [sysP s], .map (mapE (wipe1 s ez kr (K2.take K2.length))), .cells [.map 1], .loop R], _, rfl, Nat.le_of_ble_eq_true rfl, .inr ?_, by rw [hw1]⟩
   intro o ho
   simp only [List.mem_cons, List.not_mem_nil, or_false] at ho
   rcases ho with rfl | rfl | rfl | rfl
   ·rfl
   ·exact objIn_mapE _ _
   ·rfl
   ·rw [← e9]; exact eo 4 _ _ (by omega)
 ·rintro r τ ⟨rfl, rfl⟩
  refine ⟨R, rfl, (by rw [e5]; intro h; cases h), ?_⟩
  rw [e6, List.take_length]
  have hwl : (wipeE s es K).length ≤ es.length := List.length_filter_le _ _
  have hfin : sortR (keysE (wipeE s es K)) = leastF s l := by
   have h1 : keysE (wipeE s es K) = (ddR l).filter fun x => !(ddR l).any fun r => wkB s x r := by
    have : keysE (wipeE s es K) = (keysE es).filter fun x => !K.any fun r => wkB s x r := keys_filter (p := fun x => !K.any fun r => wkB s x r) es
    rw [this, hdd]
    apply List.filter_congr
    intro x _
    congr 1
    rw [Bool.eq_iff_iff, List.any_eq_true, List.any_eq_true]
    constructor <;> rintro ⟨r, h1, h2⟩ <;> refine ⟨r, ?_, h2⟩
    ·rw [hK, mem_sortR, hdd] at h1; exact h1
    ·rw [hK, mem_sortR, hdd]; exact h1
   rw [h1]
   exact (sortR_eq ((sortR_perm _).filter _) ((sortR_sorted _).filter _)).symm
  simp only [setLoop, evA, if_true, if_false, beq_false, simprocAttr]
  refine (c72 (es := wipeE s es K) (by omega) rfl).run ?_
  rw [hfin]
  have hfl : (leastF s l).length < 2 ^ 38 := by
   rw [← hfin, sortR_len]
   show ((wipeE s es K).map (·.1)).length < _
   rw [List.length_map]; omega
  simp only [evA, if_true, if_false, beq_false, simprocAttr]
  refine (ac71 (leastF s l) hfl _).mono ?_
  intro r τ hA
  have hnu := hA.nu
  simp only [hnu, evA, if_true, if_false, beq_false, simprocAttr]
  exact hA
def lstV (s : Sys) (l : List Rt) : AV :=
 if rdE s (sysE s).2.2 [l] ≠ 0 then .tup [rgL [], .i (rdE s (sysE s).2.2 [l])] else .tup [rgL (leastF s l), .i 0]
theorem p31 (s : Sys) (hs : SSz s) (l : List Rt) (hl : l.length < 2 ^ 63) : PC Tryz.prog 31 [sysV s, rgL l] (lstV s l) := by
 refine ⟨AC_FE (fok31 true) (Nat.le_of_ble_eq_true rfl) ?_, by unfold lstV; repeat (split <;> try rfl)⟩
 have h63 := fun σ l0 h0 => c63 s hs [l] (by simpa using hl) (by simp) σ l0 h0
 have hdec := rdE_ok (s := s) (l := l)
 have hn0 := sysE_n (s := s)
 have hQ : (sysQ s).isUndef = false := by unfold sysQ; split <;> rfl
 have hQP : (sysE s).2.2 = 0 → sysQ s = sysP s := fun h => if_pos h
 unfold lstV
 generalize rdE s (sysE s).2.2 [l] = e at *
 by_cases he : e = 0
 rotate_left
 ·have hb : (e != 0) = true := by simpa using he
  rw [if_pos he]
  simp only [ic31, f_box, cellsOf, evA, if_true, if_false, beq_false, simprocAttr]
  refine (h63 _ 1 rfl).run ?_
  generalize sysQ s = Q at *
  simp only [hQ, hb, evA, if_true, if_false, beq_false, simprocAttr]
  exact .tup (.cons (.c .nl) (.cons (.c (.c _ trivial)) .nil))
 have hb2 : (e != 0) = false := by simpa using he
 obtain ⟨k1, k2⟩ := hdec he
 obtain ⟨⟨hn1, hn12⟩, hm, hok⟩ := hn0 k1
 obtain ⟨hl40, hr⟩ := rgsE_ok k2
 rw [if_neg (show ¬ (e ≠ 0) from fun h => h he)]
 rw [hQP k1] at h63
 simp only [ic31, f_box, cellsOf, evA, if_true, if_false, beq_false, simprocAttr]
 refine (h63 _ 1 rfl).run ?_
 simp only [hb2, evA, if_true, if_false, beq_false, simprocAttr]
 refine ((ac67 s hn12 hm l (by omega) hr).accs rfl (fun g => rfl) _).mono ?_
 intro r τ hA
 have hnu := hA.nu
 simp only [hnu, evA, if_true, if_false, beq_false, simprocAttr]
 exact .tup (.cons (accS_frz hA (rgL_scl _)) (.cons (.c (.c _ trivial)) .nil))
section
variable {p q : CV → Prop} {σ : List AObj}
end
def allB (s : Sys) (a b : List Rt) : Bool := !b.any fun r => !alwB s a r.1 (subI (setN s - 1) r.2)
def alsV (s : Sys) (a b : List Rt) : AV :=
 if rdE s (sysE s).2.2 [a, b] ≠ 0 then .tup [.b false, .i (rdE s (sysE s).2.2 [a, b])] else .tup [.b (allB s a b), .i 0]
theorem rdE_ok2 {s : Sys} {a b : List Rt} (h : rdE s (sysE s).2.2 [a, b] = 0) : (sysE s).2.2 = 0 ∧ rgsE s a = 0 ∧ rgsE s b = 0 := by
 have hrd : rdE s (sysE s).2.2 [a, b] = rdE s (rdE s (sysE s).2.2 [a]) [b] := rfl
 rw [hrd] at h
 have h1 : rdE s (sysE s).2.2 [a] = 0 := Decidable.byContradiction fun hne => by rw [rdE_ne s _ _ hne] at h; exact hne h
 rw [h1] at h
 obtain ⟨g1, g2⟩ := rdE_ok h1
 exact ⟨g1, g2, h⟩
theorem c69 (s : Sys) (hm : s.co.length ≤ 8) (a : List Rt) (ha : a.length < 2 ^ 63) (hra : ∀ r ∈ a, RgOk s r) (r : Rt) (hr : RgOk s r) : PC Tryz.prog 69 [rgV r, .cv (.rp [.rp (sysR s) 0] 0), .cv (.rp [.rsl (a.flatMap rgC) a.length] 0)] (.b (!alwB s a r.1 (subI (setN s - 1) r.2))) := by
 refine ⟨AC_FE (fok69 true) (Nat.le_of_ble_eq_true rfl) ?_, rfl⟩
 have hb := pow_bd hm
 obtain ⟨⟨h1, h2⟩, h3, h4⟩ := hr
 have h4' : r.2 < 256 := by unfold setN at h4; omega
 have hw2 : IntKind.i64.wrap (setN s - 1) = setN s - 1 := wrap_in (by unfold setN; omega)
 have hsub := sub_wrap (a := setN s - 1) (b := r.2) ⟨by unfold setN; omega, by unfold setN; omega⟩ ⟨h3, by omega⟩
 have hsl := subI_lt (a := setN s - 1) (b := r.2) (m := 8) (by unfold setN; omega) (by unfold setN; omega)
 have hsn := subI_nn (setN s - 1) r.2
 simp only [ic69, f_box, cellsOf, evA, if_true, if_false, beq_false, simprocAttr]
 refine DW_s [5, 10] [] hmix (by kernel_rfl) rfl ?_
 simp only [evA, if_true, if_false, beq_false, simprocAttr]
 refine kK_keep ((c64 s (covR s) hm).call frz ⟨rfl, rfl⟩) rfl ?_
 simp only [hw2, hsub, evA, if_true, if_false, beq_false, simprocAttr]
 refine kK_keep ((c65 s a hm ha hra r.1 ⟨h1, h2⟩ (subI (setN s - 1) r.2) ⟨hsn, by omega⟩).call frz ⟨rfl, rfl⟩) rfl ?_
 simp only [evA, if_true, if_false, beq_false, simprocAttr]
 exact frz
theorem c34 (s : Sys) (hs : SSz s) (a b : List Rt) (ha : a.length < 2 ^ 63) (hb : b.length < 2 ^ 63) : PC Tryz.prog 34 [sysV s, rgL a, rgL b] (alsV s a b) := by
 refine ⟨AC_FE (fok34 true) (Nat.le_of_ble_eq_true rfl) ?_, by unfold alsV; repeat (split <;> try rfl)⟩
 have h63 := fun σ l0 h0 => c63 s hs [a, b] (by simpa using ⟨ha, hb⟩) (by simp) σ l0 h0
 have hdec := rdE_ok2 (s := s) (a := a) (b := b)
 have hn0 := sysE_n (s := s)
 have hQ : (sysQ s).isUndef = false ∧ cellsOf (sysQ s) = [sysQ s] ∧ (sysQ s).isSc = true := by unfold sysQ; split <;> exact ⟨rfl, rfl, rfl⟩
 have hQP : (sysE s).2.2 = 0 → sysQ s = sysP s := fun h => if_pos h
 unfold alsV
 generalize rdE s (sysE s).2.2 [a, b] = e at *
 by_cases he : e = 0
 rotate_left
 ·have hb : (e != 0) = true := by simpa using he
  rw [if_pos he]
  simp only [ic34, f_box, cellsOf, evA, if_true, if_false, beq_false, simprocAttr]
  refine (h63 _ 2 rfl).run ?_
  generalize sysQ s = Q at *
  simp only [hQ, hb, evA, if_true, if_false, beq_false, simprocAttr]
  exact frz
 have hb2 : (e != 0) = false := by simpa using he
 obtain ⟨k1, k2, k3⟩ := hdec he
 obtain ⟨⟨hn1, hn12⟩, hm, hok⟩ := hn0 k1
 obtain ⟨hla, hra⟩ := rgsE_ok k2
 obtain ⟨hlb, hrb⟩ := rgsE_ok k3
 rw [if_neg (show ¬ (e ≠ 0) from fun h => h he)]
 rw [hQP k1] at h63
 simp only [ic34, f_box, cellsOf, evA, if_true, if_false, beq_false, simprocAttr]
 refine (h63 _ 2 rfl).run ?_
 simp only [hb2, evA, if_true, if_false, beq_false, simprocAttr]
 have hany : anyN (fun i => !alwB s a (b[i]!).1 (subI (setN s - 1) (b[i]!).2)) b.length = b.any fun r => !alwB s a r.1 (subI (setN s - 1) r.2) := by
  rw [Bool.eq_iff_iff, anyN_true, List.any_eq_true]
  constructor
  ·rintro ⟨i, hi, h⟩
   rw [getElem!_pos b i hi] at h
   exact ⟨_, List.getElem_mem hi, h⟩
  ·rintro ⟨r, hr, h⟩
   obtain ⟨i, hi, rfl⟩ := List.mem_iff_getElem.1 hr
   exact ⟨i, hi, by rw [getElem!_pos b i hi]; exact h⟩
 refine (c70 b (.fn (.func 69) [.cv (.rp [.rp (sysR s) 0] 0), .cv (.rp [.rsl (a.flatMap rgC) a.length] 0)]) (fun i => !alwB s a (b[i]!).1 (subI (setN s - 1) (b[i]!).2)) hb fun i hi σ => (c69 s hm a ha hra b[i]! (hrb _ (by rw [getElem!_pos b i hi]; exact List.getElem_mem hi))).call frz ⟨rfl, rfl⟩).call frz ?_
 rw [hany]
 unfold allB
 simp only [evA, if_true, if_false, beq_false, simprocAttr]
 exact frz
end Go.Proofs.YtpnghcaccfnngaaGreatDoor.AM
namespace Go.Proofs.YtpnghcaccfnngaaGreatDoor.AM
variable [Dr]
open Go
abbrev vs36 : List Nat := [0, 1, 2, 3, 6, 7, 8, 9, 10, 12, 14, 15, 16, 26, 29, 30, 31, 32, 35, 36, 37, 38, 46, 47, 48, 73, 96]
def ic36l0 : IC := (.seq (.region [jw 24 (.bin .lss .int) [.v 23, .v 22]])
 (.seq (.cond 24 .skip
 (.exit 4))
 (.seq (.block 5 (.seq (.region [jv 23, jm 11 0])
 (.seq (.dr [[], [0], [1], [2], [], [4], [3, 5], [6], [], [7, 8], [9], [10], [11], [12, 11], [13, 11], [14, 11], [11], [16, 11], [15, 17, 11], [18, 11], [11], [19, 20, 11], [21, 11], [11, 22]] [jv 6, jc 0, jG 2 1, jl 2, jF 0 9, jl 4, ja 1 3 5, jl 6, jv 11, ja 1 7 8, jl 9, jt 10, jh 11 true 6, jg 11 true .nilck [.t 12], jg 11 true (.fadd 2) [.t 13], ji 11 true 14, jg 11 true (.fadd 0) [.v 10], ji 11 true 16, jg 11 true (.iaS 1) [.t 15, .t 17], ji 11 true 18, jh 11 true 11, jg 11 true (.iaS 1) [.t 19, .t 20], ji 11 true 21, jw 25 .pick [.t 11, .t 22, jB false]])
 (.cond 25 (.dr [[], [], [], [2], [], [4], [3, 5], [1, 6], [0, 7], [8], [0, 7, 0, 1, 2, 3, 4, 5, 6, 7], [10], [0, 11, 9, 10, 0, 1, 2, 3, 4, 5, 6, 7, 8, 9, 10, 11]] [jv 8, jv 11, jF 1 9, jl 2, jF 1 10, jl 4, jq (.bin .or .int) [.t 3, .t 5], jq (.build [(.cv (.int .i64 0)), (.cv (.int .i64 0))] [(0, 1), (1, 1)]) [.t 1, .t 6], jq (.lookup (true, [(.int .i64), (.int .i64)]) (.cv (.int .i64 0)) false) [.t 0, .t 7], jq (.bin .add .int) [.t 8, jn 1], jq (.mapent (true, [(.int .i64), (.int .i64)]) (.cv (.int .i64 0))) [.t 0, .t 7], jx 1 10, jq .entst [.t 0, .t 11, .t 9]])
 .skip))))
 (.region [jq (.bin .add .int) [.v 23, jn 1], jm 23 0]))))
def ic36l1 : IC := (.seq (.region [jw 21 (.bin .lss .int) [.v 20, .v 19]])
 (.seq (.cond 21 .skip
 (.exit 2))
 (.seq (.block 3 (.seq (.region [jq (.iaS 2) [.v 18, .v 20], jq (.loadN 2) [.t 0], jw 10 (.alloc [(.cv (.int .i64 0)), (.cv (.int .i64 0))]) [], jq (.store 2) [.v 10, .t 1]])
 (.seq (.region [jv 6, jc 0, jG 0 1, jG 0 2, jl 3, jw 22 (.len false) [.t 4], jz 23 0])
 (.block 4 (.loop ic36l0)))))
 (.region [jq (.bin .add .int) [.v 20, jn 1], jm 20 0]))))
def ic36l2 : IC := (.seq (.region [jw 17 (.bin .lss .int) [.v 16, .v 15]])
 (.seq (.cond 17 .skip
 (.exit 0))
 (.seq (.block 1 (.seq (.region [jq (.iaS 2) [.v 14, .v 16], jq (.loadN 2) [.t 0], jw 9 (.alloc [(.cv (.int .i64 0)), (.cv (.int .i64 0))]) [], jq (.store 2) [.v 9, .t 1]])
 (.seq (.region [jw 18 .mv [.v 2], jw 19 (.len false) [.v 18], jz 20 0])
 (.block 2 (.loop ic36l1)))))
 (.region [jq (.bin .add .int) [.v 16, jn 1], jm 16 0]))))
def ic36 : IC := (.seq (.region [jb 3 0, jw 4 .mv [jS], jz 5 0])
 (.seq (.region [jN 2 3, jv 1, jv 2, jq (.bslice 1 2 [(.cv .nils), (.cv .nils)] [(0, 1), (1, 1)]) [.t 1, .t 2], jk 63 [.t 0, .t 3], jt 4, jx 0 5, jx 1 5, jm 6 6, jm 7 7])
 (.seq (.seq (.region [jv 7, jw 13 (.bin .neq .int) [.t 0, jn 0]])
 (.cond 13 (.seq (.region [jv 7, jw 4 .mv [jS], jm 5 0])
 .ret)
 .skip))
 (.seq (.region [jq .mkmap [], jm 8 0])
 (.seq (.seq (.region [jw 14 .mv [.v 1], jw 15 (.len false) [.v 14], jz 16 0])
 (.block 0 (.loop ic36l2)))
 (.seq (.region [jv 6, jv 8, jk 72 [.t 1], jk 71 [.t 2], jk 67 [.t 0, .t 3], jm 12 4])
 (.seq (.seq (.region [jv 12, je 0, jw 26 (.bin .gtr .int) [.t 1, jn 40]])
 (.cond 26 (.seq (.region [jw 4 .mv [jS], jz 5 3])
 .ret)
 .skip))
 (.seq (.region [jv 12, jm 4 0, jz 5 0])
 .ret))))))))
abbrev rs36 : List RC := [(.v 4), (.v 5)]
theorem fok36 (p : Bool) : FnOk Tryz.prog 36 ⟨ic36, vs36, 98, rs36, p⟩ := .mk2 Tryz.func36 (by kernel_rfl) (by kernel_rfl) (by kernel_rfl) (by kernel_rfl) (by kernel_rfl)
end Go.Proofs.YtpnghcaccfnngaaGreatDoor.AM
namespace Go.Proofs.YtpnghcaccfnngaaGreatDoor.AM
variable [Dr]
open Go Pl
theorem nodup_perm {l m : List Rt} (hl : l.Nodup) (hm : m.Nodup) (h : ∀ x, x ∈ l ↔ x ∈ m) : l.Perm m := (List.perm_ext_iff_of_nodup hl hm).2 h
theorem leastF_keys {s : Sys} {l : List Rt} {ks : List Rt} (hn : ks.Nodup) (h : ∀ x, x ∈ ks ↔ x ∈ l) : leastF s l = (sortR ks).filter fun x => !l.any fun r => wkB s x r := by
 have hp : (ddR l).Perm ks := nodup_perm (esN_nodup _ _) hn fun x => by rw [ddR_mem, h]
 unfold leastF
 rw [sortR_congr hp]
 apply List.filter_congr
 intro x _
 congr 1
 rw [Bool.eq_iff_iff, List.any_eq_true, List.any_eq_true]
 constructor <;> rintro ⟨r, h1, h2⟩ <;> refine ⟨r, ?_, h2⟩
 ·exact ddR_mem.1 h1
 ·exact ddR_mem.2 h1
theorem leastF_congr {s : Sys} {l m : List Rt} (h : ∀ x, x ∈ l ↔ x ∈ m) : leastF s l = leastF s m := by
 rw [leastF_keys (ks := ddR m) (esN_nodup _ _) (fun x => by rw [ddR_mem, h]), leastF_keys (ks := ddR m) (esN_nodup _ _) (fun x => ddR_mem)]
 apply List.filter_congr
 intro x _
 congr 1
 rw [Bool.eq_iff_iff, List.any_eq_true, List.any_eq_true]
 constructor <;> rintro ⟨r, h1, h2⟩ <;> refine ⟨r, ?_, h2⟩
 ·exact (h r).1 h1
 ·exact (h r).2 h1
def comI (s : Sys) (x y : Rt) (i : Nat) : List Rt := if covB s x.1.toNat i && covB s y.1.toNat i then [((i : Int), orI x.2 y.2)] else []
def comXY (s : Sys) (x y : Rt) (k : Nat) : List Rt := (List.range k).flatMap (comI s x y)
def comX (s : Sys) (b : List Rt) (x : Rt) (k : Nat) : List Rt := (b.take k).flatMap fun y => comXY s x y s.cl.length
def comT (s : Sys) (a b : List Rt) (k : Nat) : List Rt := (a.take k).flatMap fun x => comX s b x b.length
def comL (s : Sys) (a b : List Rt) : List Rt := comT s a b a.length
theorem comXY_s (s : Sys) (x y : Rt) (k : Nat) : comXY s x y (k + 1) = comXY s x y k ++ comI s x y k := by simp [comXY, List.range_succ]
theorem comX_s (s : Sys) (b : List Rt) (x : Rt) {k : Nat} (h : k < b.length) : comX s b x (k + 1) = comX s b x k ++ comXY s x b[k]! s.cl.length := by
 unfold comX
 rw [List.take_add_one, List.getElem?_eq_getElem h, getElem!_pos b k h, List.flatMap_append]; simp
theorem comT_s (s : Sys) (a b : List Rt) {k : Nat} (h : k < a.length) : comT s a b (k + 1) = comT s a b k ++ comX s b a[k]! b.length := by
 unfold comT
 rw [List.take_add_one, List.getElem?_eq_getElem h, getElem!_pos a k h, List.flatMap_append]; simp
structure MapOf (s : Sys) (es : List (Rt × Int)) (L : List Rt) : Prop where
 nd : (keysE es).Nodup
 mem : ∀ x, x ∈ keysE es ↔ x ∈ L
 ok : ∀ x ∈ L, RgOk s x
theorem MapOf.put {s : Sys} {es : List (Rt × Int)} {L : List Rt} (h : MapOf s es L) {r : Rt} (hr : RgOk s r) (v : Int) : MapOf s (putE es r v) (L ++ [r]) :=
 ⟨put_nodup h.nd, fun x => by rw [put_mem, h.mem, List.mem_append, List.mem_singleton], fun x hx => by
  rcases List.mem_append.1 hx with hx | hx
  ·exact h.ok x hx
  ·rw [List.mem_singleton.1 hx]; exact hr⟩
theorem MapOf.len {s : Sys} {es : List (Rt × Int)} {L : List Rt} (h : MapOf s es L) : es.length ≤ L.length := by
 have h1 := h.nd.length_le_of_subset (l₂ := L) fun x hx => (h.mem x).1 hx
 have : (keysE es).length = es.length := by simp [keysE]
 omega
theorem put_find {es : List (Rt × Int)} {r : Rt} (hn : (keysE es).Nodup) (hw : ∀ e ∈ es, RgW e.1) (hr : RgW r) :
  ∃ res, findKey KR (rgV r) (mapE es) 0 = some res ∧ (∀ v, mapPut (mapE es) (rgV r) (.i v) res = mapE (putE es r v)) ∧ ∃ w, (res.map (·.2)).getD (.i 0) = AV.i w := by
 rcases find_rg hr es 0 hw with ⟨g1, g2⟩ | ⟨j, n, g1, g2⟩
 ·exact ⟨none, g1, fun v => by rw [putE, if_neg g2]; simp [mapE, mapPut], 0, rfl⟩
 ·refine ⟨_, g2, fun v => ?_, n, rfl⟩
  rw [← set_put hn g1]; simp [mapE, List.map_set, mapPut]
def bthV (s : Sys) (a b : List Rt) : AV :=
 if rdE s (sysE s).2.2 [a, b] ≠ 0 then .tup [rgL [], .i (rdE s (sysE s).2.2 [a, b])]
 else if ((leastF s (comL s a b)).length : Int) > 40 then .tup [rgL [], .i 3]
 else .tup [rgL (leastF s (comL s a b)), .i 0]
theorem comL_len (s : Sys) (a b : List Rt) : (comL s a b).length ≤ a.length * (b.length * s.cl.length) := by
 have h0 : ∀ x y k, (comI s x y k).length ≤ 1 := fun x y k => by
  unfold comI
  split <;> simp
 have h1 : ∀ (x y : Rt) (k : Nat), (comXY s x y k).length ≤ k := fun x y k => by
  induction k with
  | zero => simp [comXY]
  | succ k ih =>
   rw [comXY_s, List.length_append]
   have := h0 x y k
   omega
 have h2 : ∀ x k, k ≤ b.length → (comX s b x k).length ≤ k * s.cl.length := fun x k => by
  induction k with
  | zero => intro _; simp [comX]
  | succ k ih => intro hk; rw [comX_s s b x (by omega), List.length_append, Nat.succ_mul]; have := ih (by omega); have := h1 x b[k]! s.cl.length; omega
 have h3 : ∀ k, k ≤ a.length → (comT s a b k).length ≤ k * (b.length * s.cl.length) := fun k => by
  induction k with
  | zero => intro _; simp [comT]
  | succ k ih => intro hk; rw [comT_s s a b (by omega), List.length_append, Nat.succ_mul]; have := ih (by omega); have := h2 a[k]! b.length (Nat.le_refl _); omega
 exact h3 a.length (Nat.le_refl _)
theorem p36 (s : Sys) (hs : SSz s) (a b : List Rt) (ha : a.length < 2 ^ 63) (hb : b.length < 2 ^ 63) : PC Tryz.prog 36 [sysV s, rgL a, rgL b] (bthV s a b) := by
 refine ⟨AC_FE (fok36 true) (Nat.le_of_ble_eq_true rfl) ?_, by unfold bthV; repeat (split <;> try rfl)⟩
 have h63 := fun σ l0 h0 => c63 s hs [a, b] (by simpa using ⟨ha, hb⟩) (by simp) σ l0 h0
 have hdec := rdE_ok2 (s := s) (a := a) (b := b)
 have hn0 := sysE_n (s := s)
 have hQ : (sysQ s).isUndef = false := by unfold sysQ; split <;> rfl
 have hQP : (sysE s).2.2 = 0 → sysQ s = sysP s := fun h => if_pos h
 unfold bthV
 generalize rdE s (sysE s).2.2 [a, b] = e at *
 by_cases he : e = 0
 rotate_left
 ·have hb : (e != 0) = true := by simpa using he
  rw [if_pos he]
  simp only [ic36, f_box, cellsOf, evA, if_true, if_false, beq_false, simprocAttr]
  refine (h63 _ 1 rfl).run ?_
  generalize sysQ s = Q at *
  simp only [hQ, hb, evA, if_true, if_false, beq_false, simprocAttr]
  exact .tup (.cons (.c .nl) (.cons (.c (.c _ trivial)) .nil))
 have hb2 : (e != 0) = false := by simpa using he
 obtain ⟨k1, k2, k3⟩ := hdec he
 obtain ⟨⟨hn1, hn12⟩, hm, hok⟩ := hn0 k1
 obtain ⟨hla, hra⟩ := rgsE_ok k2
 obtain ⟨hlb, hrb⟩ := rgsE_ok k3
 have hbp := pow_bd hm
 rw [if_neg (show ¬ (e ≠ 0) from fun h => h he)]
 rw [hQP k1] at h63
 simp only [ic36, f_box, cellsOf, f_mkmap, evA, if_true, if_false, beq_false, simprocAttr]
 refine (h63 _ 1 rfl).run ?_
 simp only [hb2, evA, if_true, if_false, beq_false, simprocAttr]
 have clo3 : ∀ es, ∀ o ∈ [AObj.cells [.cv (clsR s.cl), .cv (strR s.co)], .cells [rgL a, rgL b], .map (mapE es)], objIn 3 o = true := fun es o ho => by
  simp only [List.mem_cons, List.not_mem_nil, or_false] at ho
  rcases ho with rfl | rfl | rfl
  ·rfl
  ·rfl
  ·exact objIn_mapE _ _
 have clo4 : ∀ es (x : Rt), ∀ o ∈ [AObj.cells [.cv (clsR s.cl), .cv (strR s.co)], .cells [rgL a, rgL b], .map (mapE es), .cells [.i x.1, .i x.2]], objIn 4 o = true := fun es x o ho => by
  simp only [List.mem_cons, List.not_mem_nil, or_false] at ho
  rcases ho with rfl | rfl | rfl | rfl
  ·rfl
  ·rfl
  ·exact objIn_mapE _ _
  ·rfl
 refine IL_for a.length (fun ix s' => ∃ es v9 v10 v11 v17 v18 v19 v20 v21 v22 v23 v24 v25, MapOf s es (comT s a b ix) ∧ s' = ⟨[sysV s, rgL a, rgL b, .ptr 0 0, .cv .nils, .i 0, sysP s, .i e, .map 2, v9, v10, v11, .undef, .b false, rgL a, .i a.length, .i ix, v17, v18, v19, v20, v21, v22, v23, v24, v25, .undef], [.cells [.cv (clsR s.cl), .cv (strR s.co)], .cells [rgL a, rgL b], .map (mapE es)]⟩) ?_ 0 (Nat.zero_le _) ⟨[], _, _, _, _, _, _, _, _, _, _, _, _, ⟨List.nodup_nil, by simp [keysE, comT], by simp [comT]⟩, rfl⟩
 rintro ix s' hix ⟨es, v9, v10, v11, v17, v18, v19, v20, v21, v22, v23, v24, v25, hM, rfl⟩
 by_cases hixa : ix < a.length
 ·have hx := hra a[ix]! (by rw [getElem!_pos a ix hixa]; exact List.getElem_mem hixa)
  have hTs := comT_s s a b hixa
  simp only [ic36l2, Int.ofNat_lt, hixa, ia_rg hixa, rg_ld hixa, evA, if_true, if_false, beq_false, simprocAttr]
  generalize a[ix]! = x at *
  obtain ⟨⟨x1, x2⟩, x3, x4⟩ := hx
  have x4' : x.2 < 256 := by unfold setN at x4; omega
  obtain ⟨cx, hcx⟩ : ∃ c : Nat, x.1 = (c : Int) := ⟨x.1.toNat, by omega⟩
  have hcxl : cx < s.cl.length := by omega
  rw [hcx]
  refine IL_for b.length (fun iy s' => ∃ es v10 v11 v21 v22 v23 v24 v25, MapOf s es (comT s a b ix ++ comX s b x iy) ∧ s' = ⟨[sysV s, rgL a, rgL b, .ptr 0 0, .cv .nils, .i 0, sysP s, .i e, .map 2, .ptr 3 0, v10, v11, .undef, .b false, rgL a, .i a.length, .i ix, .b true, rgL b, .i b.length, .i iy, v21, v22, v23, v24, v25, .undef], [.cells [.cv (clsR s.cl), .cv (strR s.co)], .cells [rgL a, rgL b], .map (mapE es), .cells [.i cx, .i x.2]]⟩) ?_ 0 (Nat.zero_le _) ⟨es, _, _, _, _, _, _, _, by simpa [comX] using hM, rfl⟩
  rintro iy s' hiy ⟨es, v10, v11, v21, v22, v23, v24, v25, hM, rfl⟩
  by_cases hiyb : iy < b.length
  ·have hy := hrb b[iy]! (by rw [getElem!_pos b iy hiyb]; exact List.getElem_mem hiyb)
   have hXs := comX_s s b x hiyb
   simp only [ic36l1, Int.ofNat_lt, hiyb, ia_rg hiyb, rg_ld hiyb, evA, if_true, if_false, beq_false, simprocAttr]
   generalize b[iy]! = y at *
   obtain ⟨⟨y1, y2⟩, y3, y4⟩ := hy
   have y4' : y.2 < 256 := by unfold setN at y4; omega
   obtain ⟨cy, hcy⟩ : ∃ c : Nat, y.1 = (c : Int) := ⟨y.1.toNat, by omega⟩
   have hcyl : cy < s.cl.length := by omega
   rw [hcy]
   refine IL_for s.cl.length (fun i s' => ∃ es v11 v24 v25, MapOf s es (comT s a b ix ++ comX s b x iy ++ comXY s x y i) ∧ s' = ⟨[sysV s, rgL a, rgL b, .ptr 0 0, .cv .nils, .i 0, sysP s, .i e, .map 2, .ptr 3 0, .ptr 4 0, v11, .undef, .b false, rgL a, .i a.length, .i ix, .b true, rgL b, .i b.length, .i iy, .b true, .i s.cl.length, .i i, v24, v25, .undef], [.cells [.cv (clsR s.cl), .cv (strR s.co)], .cells [rgL a, rgL b], .map (mapE es), .cells [.i cx, .i x.2], .cells [.i cy, .i y.2]]⟩) ?_ 0 (Nat.zero_le _) ⟨es, _, _, _, by simpa [comXY] using hM, rfl⟩
   rintro i s' hi ⟨es, v11, v24, v25, hM, rfl⟩
   by_cases hin : i < s.cl.length
   ·have hcs := comXY_s s x y i
    have hcI : comI s x y i = if covB s cx i && covB s cy i then [((i : Int), orI x.2 y.2)] else [] := by unfold comI; rw [hcx, hcy, Int.toNat_natCast, Int.toNat_natCast]
    simp only [ic36l0, Int.ofNat_lt, hin, evA, if_true, if_false, beq_false, simprocAttr]
    refine DW_s [] [] hmix (by kernel_rfl) rfl ?_
    simp only [ia_rsl hcxl, ia_rsl hcyl, Nat.mul_one, covCs_get hcxl, covCs_get hcyl, ia_cov hin, cov_get hin, evA, if_true, if_false, beq_false, simprocAttr]
    have fin0 : (covB s cx i && covB s cy i) = false → MapOf s es (comT s a b ix ++ comX s b x iy ++ comXY s x y (i + 1)) := fun h => by
     rw [hcs, hcI, h]; simpa using hM
    cases h1 : covB s cx i with
    | false =>
     rw [h1] at fin0
     simp only [wrap_succ (show i + 1 < 2 ^ 63 by omega), evA, if_true, if_false, beq_false, simprocAttr]
     exact kFor_go (by first | trivial | omega) ⟨es, _, _, _, fin0 rfl, rfl⟩
    | true =>
    simp only [ia_rsl hcyl, Nat.mul_one, covCs_get hcyl, ia_cov hin, cov_get hin, evA, if_true, if_false, beq_false, simprocAttr]
    cases h2 : covB s cy i with
    | false =>
     rw [h1, h2] at fin0
     simp only [wrap_succ (show i + 1 < 2 ^ 63 by omega), evA, if_true, if_false, beq_false, simprocAttr]
     exact kFor_go (by first | trivial | omega) ⟨es, _, _, _, fin0 rfl, rfl⟩
    | true =>
    have hor := or_wrap (a := x.2) (b := y.2) ⟨x3, x4'⟩ ⟨y3, y4'⟩
    have horl : orI x.2 y.2 < setN s := orI_lt x4 y4
    have hrk : RgOk s ((i : Int), orI x.2 y.2) := ⟨⟨by omega, by omega⟩, orI_nn _ _, horl⟩
    have hkw : ∀ e ∈ es, RgW e.1 := key_w fun r h => (hM.ok r ((hM.mem r).1 h)).w hn12 hm
    obtain ⟨res, hres, hput, w, hw⟩ := put_find hM.nd hkw (hrk.w hn12 hm)
    have hfin1 : MapOf s (putE es ((i : Int), orI x.2 y.2) (IntKind.i64.wrap (w + 1))) (comT s a b ix ++ comX s b x iy ++ comXY s x y (i + 1)) := by
     have hh := hM.put hrk (IntKind.i64.wrap (w + 1))
     rw [hcs, hcI, h1, h2]
     simpa using hh
    simp only [evA, if_true, if_false, beq_false, simprocAttr]
    refine DW_incr (lm := 2) (es := mapE es) (k := rgV ((i : Int), orI x.2 y.2)) (res := res) (fun j => ([.map 2, .i i, .ptr 3 1, .i x.2, .ptr 4 1, .i y.2, .i (orI x.2 y.2), rgV ((i : Int), orI x.2 y.2), .i w, .i (IntKind.i64.wrap (w + 1)), .undef, .undef, .undef] : List AV).getD j .undef) hmix rfl (by decide) rfl rfl rfl rfl (by decide) (by decide) (by decide) (by decide) ?_ rfl rfl rfl hw.symm PF_int rfl (mapE_pf es) PF_int ?_ (rg_is (hrk.w hn12 hm)) (by rw [rg_eq (hrk.w hn12 hm) (hrk.w hn12 hm)]; simp) hres ?_
    ·rintro j (hj | rfl)
     ·match j, hj with
      | 0, _ => exact ⟨_, _, rfl, by simp, rfl⟩
      | 1, _ => exact ⟨_, _, rfl, by simp, rfl⟩
      | 2, _ => exact ⟨_, _, rfl, by simp, rfl⟩
      | 3, _ => exact ⟨_, _, rfl, by simp, rfl⟩
      | 4, _ => exact ⟨_, _, rfl, by simp, rfl⟩
      | 5, _ => exact ⟨_, _, rfl, by simp, rfl⟩
      | 6, _ => exact ⟨_, _, rfl, by intro e he; simp at he; rcases he with rfl | rfl <;> simp, by
        show stepF (.bin .or .int) [.i x.2, .i y.2] _ = some (.i (orI x.2 y.2), _)
        simp only [hor, evA, if_true, if_false, beq_false, simprocAttr]⟩
      | 7, _ => exact ⟨_, _, rfl, by intro e he; simp at he; rcases he with rfl | rfl <;> simp, rfl⟩
     ·exact ⟨_, _, rfl, by simp, rfl⟩
    ·exact PF_ints (zs := [(i : Int), orI x.2 y.2])
    ·simp only [List.getD_eq_getElem?_getD, List.getElem?_cons_succ, List.getElem?_cons_zero, Option.getD_some, hput]
     simp only [wrap_succ (show i + 1 < 2 ^ 63 by omega), evA, if_true, if_false, beq_false, simprocAttr]
     exact kFor_go (by first | trivial | omega) ⟨_, _, _, _, hfin1, rfl⟩
   ·have hin' : i = s.cl.length := by omega
    subst hin'
    simp only [ic36l0, Int.ofNat_lt, hin, wrap_succ (show iy + 1 < 2 ^ 63 by omega), evA, if_true, if_false, beq_false, simprocAttr]
    refine kFor_clip [.cells [.cv (clsR s.cl), .cv (strR s.co)], .cells [rgL a, rgL b], .map (mapE es), .cells [.i cx, .i x.2]] _ rfl (by first | trivial | omega) (Nat.zero_le _) (by have := clo4 es x; rw [hcx] at this; exact this) ⟨es, _, _, _, _, _, _, _, by rw [hXs, ← List.append_assoc]; exact hM, rfl⟩
  ·have hiy' : iy = b.length := by omega
   subst hiy'
   simp only [ic36l1, Int.ofNat_lt, hiyb, wrap_succ (show ix + 1 < 2 ^ 63 by omega), evA, if_true, if_false, beq_false, simprocAttr]
   exact kFor_clip [.cells [.cv (clsR s.cl), .cv (strR s.co)], .cells [rgL a, rgL b], .map (mapE es)] _ rfl (by first | trivial | omega) (Nat.zero_le _) (clo3 es) ⟨es, _, _, _, _, _, _, _, _, _, _, _, _, by rw [hTs]; exact hM, rfl⟩
 ·have hix' : ix = a.length := by omega
  subst hix'
  have hML : MapOf s es (comL s a b) := hM
  have hcl := comL_len s a b
  have hel := hML.len
  have hbig : a.length * (b.length * s.cl.length) ≤ 40 * (40 * 12) := Nat.mul_le_mul hla (Nat.mul_le_mul hlb hn12)
  have hlf : leastF s (sortR (keysE es)) = leastF s (comL s a b) := leastF_congr fun x => by rw [mem_sortR, hML.mem]
  have hks : (sortR (keysE es)).length < 2 ^ 38 := by rw [sortR_len]; show (es.map (·.1)).length < _; rw [List.length_map]; omega
  simp only [ic36l2, Int.ofNat_lt, hixa, evA, if_true, if_false, beq_false, simprocAttr]
  refine (c72 (es := es) (by omega) rfl).run ?_
  simp only [evA, if_true, if_false, beq_false, simprocAttr]
  refine (c71 (sortR (keysE es)) hks).call ?_
  simp only [evA, if_true, if_false, beq_false, simprocAttr]
  refine ((ac67 s hn12 hm (sortR (keysE es)) hks (fun r hr => hML.ok r ((hML.mem r).1 (mem_sortR.1 hr)))).accs rfl (fun g => rfl) _).mono ?_
  intro r τ hA
  rw [hlf] at hA
  have hnu := hA.nu
  have hvl : ∀ σ, f_len false [r] σ = some (.i (leastF s (comL s a b)).length, σ) := fun σ => by
   rcases hA with ⟨rfl, h, _⟩ | ⟨p, rfl, _⟩
   ·rw [h]; rfl
   ·rfl
  by_cases h40 : ((leastF s (comL s a b)).length : Int) > 40
  ·rw [if_pos h40]
   simp only [hnu, hvl, h40, evA, if_true, if_false, beq_false, simprocAttr]
   exact .tup (.cons (.c .nl) (.cons (.c (.c _ trivial)) .nil))
  ·rw [if_neg h40]
   simp only [hnu, hvl, h40, evA, if_true, if_false, beq_false, simprocAttr]
   exact .tup (.cons (accS_frz hA (rgL_scl _)) (.cons (.c (.c _ trivial)) .nil))
theorem RgOk.nat {s : Sys} {r : Rt} (h : RgOk s r) : r.1.toNat < s.cl.length := by have := h.1; omega
end Go.Proofs.YtpnghcaccfnngaaGreatDoor.AM

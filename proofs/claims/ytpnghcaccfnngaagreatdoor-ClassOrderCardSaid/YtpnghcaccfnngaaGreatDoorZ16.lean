/- Parts of the proof, joined: ClsN8 to ClsW5. -/
import Derived.Test.YtpnghcaccfnngaaGreatDoorZ15
set_option linter.unusedVariables false
set_option linter.unusedSimpArgs false
set_option linter.unusedSectionVars false
namespace Go.Proofs.YtpnghcaccfnngaaGreatDoor.AM
variable [Dr]
open Go Pl
theorem list_eq_iff {α : Type} [DecidableEq α] [Inhabited α] {a b : List α} (h : a.length = b.length) : a = b ↔ ∀ i, i < a.length → a[i]! = b[i]! := by
 constructor
 ·rintro rfl i _; rfl
 ·intro hh
  apply List.ext_getElem h
  intro i h1 h2
  have := hh i h1
  rwa [getElem!_pos a i h1, getElem!_pos b i h2] at this
theorem c33 (a b : List Rt) (ha : a.length < 2 ^ 63) (hb : b.length < 2 ^ 63) (hwa : ∀ r ∈ a, RgW r) (hwb : ∀ r ∈ b, RgW r) : PC Tryz.prog 33 [rgL a, rgL b] (.b (decide (a = b))) := by
 refine ⟨AC_FE (fok33 true) (Nat.le_of_ble_eq_true rfl) ?_, rfl⟩
 by_cases hlen : a.length = b.length
 rotate_left
 ·have hd : decide (a = b) = false := decide_eq_false fun h => hlen (by rw [h])
  have hb1 : ((a.length : Int) != (b.length : Int)) = true := by simp; omega
  rw [hd]
  simp only [ic33, hb1, evA, if_true, if_false, beq_false, simprocAttr]
  exact frz
 have hb1 : ((a.length : Int) != (b.length : Int)) = false := by simp; omega
 simp only [ic33, hb1, evA, if_true, if_false, beq_false, simprocAttr]
 refine IL_for a.length (fun i s' => (∀ j, j < i → a[j]! = b[j]!) ∧ ∃ v5 v6, s' = ⟨[rgL a, rgL b, .b false, .i i, .b false, v5, v6], []⟩) ?_ 0 (Nat.zero_le _) ⟨by omega, _, _, rfl⟩
 rintro i s' hi ⟨hall, v5, v6, rfl⟩
 by_cases h : i < a.length
 ·have h' : i < b.length := by omega
  have hai : RgW a[i]! := hwa a[i]! (by rw [getElem!_pos a i h]; exact List.getElem_mem h)
  have hbi : RgW b[i]! := hwb b[i]! (by rw [getElem!_pos b i h']; exact List.getElem_mem h')
  have hq : ∀ σ, f_eqS true KR [rgV a[i]!, rgV b[i]!] σ = some (.b (!decide (a[i]! = b[i]!)), σ) := fun σ => by
   simp only [f_eqS, rg_eq hai hbi, Option.map_some, if_true]
  simp only [ic33l0, Int.ofNat_lt, h, evA, if_true, if_false, beq_false, simprocAttr]
  refine DW_s [] [] hmix (by kernel_rfl) rfl ?_
  simp only [ia_rg h, ia_rg h', rg_ld h, rg_ld h', hq, evA, if_true, if_false, beq_false, simprocAttr]
  cases he : decide (a[i]! = b[i]!) with
  | false =>
   have hd : decide (a = b) = false := decide_eq_false fun hh => of_decide_eq_false he (by rw [hh])
   rw [hd]
   simp only [Bool.not_false, evA, if_true, if_false, beq_false, simprocAttr]
   exact frz
  | true =>
   simp only [Bool.not_true, wrap_succ (show i + 1 < 2 ^ 63 by omega), evA, if_true, if_false, beq_false, simprocAttr]
   refine kFor_go (by first | trivial | omega) ⟨fun j hj => ?_, _, _, rfl⟩
   rcases Nat.lt_succ_iff_lt_or_eq.1 hj with hj | rfl
   ·exact hall j hj
   ·exact of_decide_eq_true he
 ·have hd : decide (a = b) = true := decide_eq_true ((list_eq_iff hlen).2 fun j hj => hall j (by omega))
  rw [hd]
  simp only [ic33l0, Int.ofNat_lt, h, evA, if_true, if_false, beq_false, simprocAttr]
  exact frz
theorem c45 (a b : List Int) (ha : a.length < 2 ^ 63) (hb : b.length < 2 ^ 63) : PC Tryz.prog 45 [ints a, ints b] (.b (decide (a = b))) := by
 refine ⟨AC_FE (fok45 true) (Nat.le_of_ble_eq_true rfl) ?_, rfl⟩
 by_cases hlen : a.length = b.length
 rotate_left
 ·have hd : decide (a = b) = false := decide_eq_false fun h => hlen (by rw [h])
  have hb1 : ((a.length : Int) != (b.length : Int)) = true := by simp; omega
  rw [hd]
  simp only [ic45, hb1, evA, if_true, if_false, beq_false, simprocAttr]
  exact frz
 have hb1 : ((a.length : Int) != (b.length : Int)) = false := by simp; omega
 simp only [ic45, hb1, evA, if_true, if_false, beq_false, simprocAttr]
 refine IL_for a.length (fun i s' => (∀ j, j < i → a[j]?.getD 0 = b[j]?.getD 0) ∧ ∃ v5 v6, s' = ⟨[ints a, ints b, .b false, .i i, .b false, v5, v6], []⟩) ?_ 0 (Nat.zero_le _) ⟨by omega, _, _, rfl⟩
 rintro i s' hi ⟨hall, v5, v6, rfl⟩
 by_cases h : i < a.length
 ·have h' : i < b.length := by omega
  simp only [ic45l0, Int.ofNat_lt, h, evA, if_true, if_false, beq_false, simprocAttr]
  refine DW_s [] [] hmix (by kernel_rfl) rfl ?_
  simp only [h, h', evA, if_true, if_false, beq_false, simprocAttr]
  cases he : (a[i]?.getD 0 != b[i]?.getD 0) with
  | true =>
   have hd : decide (a = b) = false := decide_eq_false fun hh => by rw [hh] at he; simp at he
   rw [hd]
   simp only [evA, if_true, if_false, beq_false, simprocAttr]
   exact frz
  | false =>
   simp only [wrap_succ (show i + 1 < 2 ^ 63 by omega), evA, if_true, if_false, beq_false, simprocAttr]
   refine kFor_go (by first | trivial | omega) ⟨fun j hj => ?_, _, _, rfl⟩
   rcases Nat.lt_succ_iff_lt_or_eq.1 hj with hj | rfl
   ·exact hall j hj
   ·simpa using he
 ·have hd : decide (a = b) = true := decide_eq_true (by
   apply List.ext_getElem hlen
   intro j h1 h2
   have := hall j (by omega)
   rwa [List.getElem?_eq_getElem h1, List.getElem?_eq_getElem h2] at this)
  rw [hd]
  simp only [ic45l0, Int.ofNat_lt, h, evA, if_true, if_false, beq_false, simprocAttr]
  exact frz
def exS : Sys := ⟨[⟨bts [97, 109], [], -1, 16, 0⟩, ⟨bts [98], [0], -1, 18, 15⟩, ⟨bts [98, 101], [1], 1, 18, 15⟩, ⟨bts [99], [1], 1, 21, 5⟩], [bts [109, 97, 110, 117, 97, 108], bts [110, 105, 103, 104, 116]]⟩
def exR : List Rt := [(1, 1), (2, 3), (0, 0)]
theorem c44 : PC Tryz.prog 44 [] (rgL exR) := by
 refine ⟨AC_FE (fok44 true) (Nat.le_of_ble_eq_true rfl) ?_, rfl⟩
 simp only [ic44, evA, if_true, if_false, beq_false, simprocAttr]
 exact .c (.sl _ _ _ _ _ _ rfl (Nat.le_of_ble_eq_true rfl) (.cons (.c _ trivial) (.cons (.c _ trivial) (.cons (.c _ trivial) (.cons (.c _ trivial) (.cons (.c _ trivial) (.cons (.c _ trivial) .nil)))))))
theorem c43 : PC Tryz.prog 43 [] (sysV exS) := by
 refine ⟨AC_FE (fok43 true) (Nat.le_of_ble_eq_true rfl) ?_, rfl⟩
 simp only [ic43, evA, if_true, if_false, beq_false, simprocAttr]
 have C : ∀ {σ : List AObj} {c : CV}, scl c → FrzC scl σ (.cv c) c := fun h => .c _ h
 refine .agg (.cons (.c (.sl 4 0 4 5 _ _ rfl (Nat.le_of_ble_eq_true rfl) ?_)) (.cons (.c (.sl 5 0 2 1 _ _ rfl (Nat.le_of_ble_eq_true rfl) ?_)) .nil))
 ·refine .cons (C trivial) (.cons .nl (.cons (C trivial) (.cons (C trivial) (.cons (C trivial) (.cons (C trivial) (.cons (.sl 1 0 1 1 _ _ rfl (Nat.le_of_ble_eq_true rfl) (.cons (C trivial) .nil)) (.cons (C trivial) (.cons (C trivial) (.cons (C trivial) (.cons (C trivial) (.cons (.sl 2 0 1 1 _ _ rfl (Nat.le_of_ble_eq_true rfl) (.cons (C trivial) .nil)) (.cons (C trivial) (.cons (C trivial) (.cons (C trivial) (.cons (C trivial) (.cons (.sl 3 0 1 1 _ _ rfl (Nat.le_of_ble_eq_true rfl) (.cons (C trivial) .nil)) (.cons (C trivial) (.cons (C trivial) (.cons (C trivial) .nil)))))))))))))))))))
 ·exact .cons (C trivial) (.cons (C trivial) .nil)
structure NmOk (s : Sys) : Prop where
 cl : ∀ i, i < s.cl.length → nameOk (s.cl[i]!).nm = true
 co : ∀ i, i < s.co.length → nameOk s.co[i]! = true
theorem sysE_nm {s : Sys} (h : (sysE s).2.2 = 0) : NmOk s := by
 unfold sysE at h
 split at h; · cases h
 split at h; · exact absurd h (by assumption)
 rename_i h2
 split at h; · exact absurd h (by assumption)
 rename_i h3
 have h2' : (findE (clsErr s) 0 s.cl.length).2 = 0 := Decidable.byContradiction fun hh => h2 hh
 have h3' : (findE (codErr s) 0 s.co.length).2 = 0 := Decidable.byContradiction fun hh => h3 hh
 refine ⟨fun i hi => ?_, fun i hi => ?_⟩
 ·have := findE_all _ _ h2' i (Nat.zero_le _) (by omega)
  unfold clsErr at this
  split at this; · cases this
  rename_i hn
  simpa using hn
 ·have := findE_all _ _ h3' i (Nat.zero_le _) (by omega)
  unfold codErr at this
  split at this; · cases this
  rename_i hn
  simpa using hn
theorem nameOk_size {x : ByteArray} (h : nameOk x = true) : x.size ≤ 16 := ((nameOk_iff x).1 h).1.2
def tailC (s : Sys) (b : ByteArray) (r : Rt) : Nat → ByteArray
 | 0 => b
 | k + 1 => if bit r.2 k then (tailC s b r k ++ bts [46]) ++ s.co[k]! else tailC s b r k
def wordF (s : Sys) (r : Rt) : ByteArray := tailC s (s.cl[r.1.toNat]!).nm r s.co.length
def textN (s : Sys) (l : List Rt) : Nat → ByteArray
 | 0 => bts []
 | i + 1 => tailC s ((if i = 0 then textN s l i else textN s l i ++ bts [32]) ++ (s.cl[(l[i]!).1.toNat]!).nm) l[i]! s.co.length
def textF (s : Sys) (l : List Rt) : ByteArray := if l.length = 0 then bts [45] else textN s l l.length
theorem tailC_size {s : Sys} (hs : NmOk s) (b : ByteArray) (r : Rt) : ∀ k, k ≤ s.co.length → (tailC s b r k).size ≤ b.size + k * 17
 | 0, _ => by simp [tailC]
 | k + 1, h => by
  have := tailC_size hs b r k (by omega)
  have hc := nameOk_size (hs.co k (by omega))
  rw [tailC]
  split
  ·rw [ByteArray.size_append, ByteArray.size_append]
   have : (bts [46]).size = 1 := rfl
   omega
  ·omega
theorem textN_size {s : Sys} (hs : NmOk s) (hm : s.co.length ≤ 8) {l : List Rt} (hr : ∀ r ∈ l, RgOk s r) : ∀ i, i ≤ l.length → (textN s l i).size ≤ i * 200
 | 0, _ => by simp [textN]; rfl
 | i + 1, h => by
  have := textN_size hs hm hr i (by omega)
  have h1 := nameOk_size (hs.cl (l[i]!).1.toNat (hr l[i]! (by rw [getElem!_pos l i (by omega)]; exact List.getElem_mem _)).nat)
  have h3 : (bts [32]).size = 1 := rfl
  have h2 := tailC_size hs ((if i = 0 then textN s l i else textN s l i ++ bts [32]) ++ (s.cl[(l[i]!).1.toNat]!).nm) l[i]! s.co.length (Nat.le_refl _)
  have h4 : (if i = 0 then textN s l i else textN s l i ++ bts [32]).size ≤ (textN s l i).size + 1 := by
   split
   ·omega
   ·rw [ByteArray.size_append, h3]; omega
  rw [ByteArray.size_append] at h2
  rw [textN]
  omega
def wrtV (s : Sys) (l : List Rt) : AV :=
 if rdE s (sysE s).2.2 [l] ≠ 0 then .tup [.cv (.str (bts [])), .i (rdE s (sysE s).2.2 [l])] else .tup [.cv (.str (textF s l)), .i 0]
def splN (x : ByteArray) (by_ : UInt8) : Nat → List ByteArray × Nat
 | 0 => ([], 0)
 | i + 1 => if x.data[i]?.getD 0 = by_ then ((splN x by_ i).1 ++ [x.extract (splN x by_ i).2 i], i + 1) else splN x by_ i
def splitF (x : ByteArray) (by_ : UInt8) : List ByteArray := (splN x by_ x.size).1 ++ [x.extract (splN x by_ x.size).2 x.size]
theorem splN_le (x : ByteArray) (by_ : UInt8) : ∀ i, (splN x by_ i).2 ≤ i ∧ (splN x by_ i).1.length ≤ i
 | 0 => ⟨Nat.le_refl _, Nat.le_refl _⟩
 | i + 1 => by
  have := splN_le x by_ i
  rw [splN]
  split
  ·exact ⟨Nat.le_refl _, by rw [List.length_append]; simp; omega⟩
  ·omega
theorem sl_str0 {x : ByteArray} {a : Nat} (h : a ≤ x.size) (σ : List AObj) : f_slStr true false [.cv (.str x), .cv (.int .i64 a)] σ = some (.cv (.str (x.extract a x.size)), σ) := by
 simp [f_slStr, bnds, bnd, h]
theorem add_bit {c : Int} {k m : Nat} (h0 : 0 ≤ c) (hc : c < 2 ^ m) (hk : k < m) (hm : m ≤ 8) (hb : bit c k = false) : c + 2 ^ k = orI c (2 ^ k) := by
 have hp := pow_bd hm
 have hpk := pow_bd (show k ≤ 8 by omega)
 obtain ⟨n, rfl⟩ : ∃ n : Nat, c = n := ⟨c.toNat, by omega⟩
 have e : ((2 : Int) ^ k) = ((2 ^ k : Nat) : Int) := by push_cast; rfl
 have hk2 : 2 ^ k ≤ 256 := by rw [e] at hpk; omega
 unfold bit at hb
 unfold orI
 rw [e, Int.toNat_natCast, Int.toNat_natCast]
 rw [Int.toNat_natCast] at hb
 have hn : n < 256 := by omega
 have hor : n + 2 ^ k = n ||| 2 ^ k := by
  have h1 := BitVec.add_eq_or_of_and_eq_zero (BitVec.ofNat 64 n) (BitVec.ofNat 64 (2 ^ k)) (by
   apply BitVec.eq_of_toNat_eq
   rw [BitVec.toNat_and, BitVec.toNat_ofNat, BitVec.toNat_ofNat, Nat.mod_eq_of_lt (by omega), Nat.mod_eq_of_lt (by omega)]
   apply Nat.eq_of_testBit_eq
   intro j
   rw [Nat.testBit_and, Nat.testBit_two_pow]
   by_cases hj : k = j
   ·subst hj; simp [hb]
   ·simp [hj])
  have h2 := congrArg BitVec.toNat h1
  rw [BitVec.toNat_add, BitVec.toNat_or, BitVec.toNat_ofNat, BitVec.toNat_ofNat, Nat.mod_eq_of_lt (show n < 2 ^ 64 by omega), Nat.mod_eq_of_lt (show 2 ^ k < 2 ^ 64 by omega), Nat.mod_eq_of_lt (by omega)] at h2
  exact h2
 rw [← hor]; push_cast; rfl
def clsIx (s : Sys) (nm : ByteArray) : Nat → Int
 | 0 => -1
 | c + 1 => if (s.cl[c]!).nm = nm then c else clsIx s nm c
def rtN (s : Sys) (ps : List ByteArray) : Nat → Int × Bool
 | 0 => (0, true)
 | i + 1 => if (rtN s ps i).2 = false then rtN s ps i else if strIdx s.co ps[i + 1]! < 0 then ((rtN s ps i).1, false) else if bit (rtN s ps i).1 (strIdx s.co ps[i + 1]!).toNat then ((rtN s ps i).1, false) else ((rtN s ps i).1 + 2 ^ (strIdx s.co ps[i + 1]!).toNat, true)
theorem strIdx_lt (co : List ByteArray) (x : ByteArray) : -1 ≤ strIdx co x ∧ strIdx co x < co.length := by
 unfold strIdx idxN
 split
 ·rename_i i h
  have := List.mem_of_find?_eq_some h
  rw [List.mem_range] at this
  omega
 ·omega
theorem rtN_ran {s : Sys} (hm : s.co.length ≤ 8) (ps : List ByteArray) : ∀ i, 0 ≤ (rtN s ps i).1 ∧ (rtN s ps i).1 < 2 ^ s.co.length
 | 0 => ⟨Int.le_refl _, by have := pow_bd hm; show (0 : Int) < _; omega⟩
 | i + 1 => by
  have ih := rtN_ran hm ps i
  have hx := strIdx_lt s.co ps[i + 1]!
  rw [rtN]
  split
  ·exact ih
  ·split
   ·exact ih
   ·rename_i h1 h2
    split
    ·exact ih
    ·rename_i h3
     have hkm : (strIdx s.co ps[i + 1]!).toNat < s.co.length := by omega
     show 0 ≤ (rtN s ps i).1 + 2 ^ (strIdx s.co ps[i + 1]!).toNat ∧ (rtN s ps i).1 + 2 ^ (strIdx s.co ps[i + 1]!).toNat < 2 ^ s.co.length
     rw [add_bit ih.1 ih.2 hkm hm (by simpa using h3)]
     refine ⟨orI_nn _ _, orI_lt ih.2 ?_⟩
     have h4 := Nat.pow_lt_pow_right (a := 2) (by omega) hkm
     have h5 : ((2 ^ (strIdx s.co ps[i + 1]!).toNat : Nat) : Int) < ((2 ^ s.co.length : Nat) : Int) := Int.ofNat_lt.2 h4
     push_cast at h5; exact h5
theorem splitF_pos (x : ByteArray) (b : UInt8) : 0 < (splitF x b).length := by unfold splitF; rw [List.length_append]; simp
def rightF (s : Sys) (w : ByteArray) : Rt × Bool :=
 ((clsIx s (splitF w 46)[0]! s.cl.length, (rtN s (splitF w 46) ((splitF w 46).length - 1)).1), (rtN s (splitF w 46) ((splitF w 46).length - 1)).2 && decide (clsIx s (splitF w 46)[0]! s.cl.length ≥ 0))
def rdL (s : Sys) (ws : List ByteArray) : Nat → Option (List Rt)
 | 0 => some []
 | i + 1 => match rdL s ws i with
  | none => none
  | some l => if (!(rightF s ws[i]!).2 || decide (l.length = 40)) = true then none else some (l ++ [(rightF s ws[i]!).1])
def rdV (s : Sys) (x : ByteArray) : AV :=
 if (sysE s).2.2 ≠ 0 then .tup [rgL [], .i (sysE s).2.2]
 else if x.size > 7000 then .tup [rgL [], .i 3]
 else if x = bts [45] then .tup [rgL [], .i 0]
 else match rdL s (splitF x 32) (splitF x 32).length with
  | none => .tup [rgL [], .i 6]
  | some l => if textF s l = x then .tup [rgL l, .i 0] else .tup [rgL [], .i 6]
theorem clsIx_ran (s : Sys) (nm : ByteArray) : ∀ c, -1 ≤ clsIx s nm c ∧ clsIx s nm c < c
 | 0 => by simp [clsIx]
 | c + 1 => by
  have := clsIx_ran s nm c
  rw [clsIx]
  split <;> omega
theorem rightF_ok {s : Sys} (hm : s.co.length ≤ 8) {w : ByteArray} (h : (rightF s w).2 = true) : RgOk s (rightF s w).1 := by
 unfold rightF at h ⊢
 simp only [Bool.and_eq_true, decide_eq_true_eq] at h
 have h1 := clsIx_ran s (splitF w 46)[0]! s.cl.length
 exact ⟨⟨h.2, h1.2⟩, rtN_ran hm _ _⟩
theorem rdL_ok {s : Sys} (hm : s.co.length ≤ 8) (ws : List ByteArray) : ∀ i l, rdL s ws i = some l → l.length ≤ 40 ∧ ∀ r ∈ l, RgOk s r
 | 0, l, h => by cases h; simp
 | i + 1, l, h => by
  rw [rdL] at h
  split at h
  ·cases h
  ·rename_i l0 h0
   obtain ⟨g1, g2⟩ := rdL_ok hm ws i l0 h0
   split at h
   ·cases h
   ·rename_i hc
    cases h
    simp only [Bool.or_eq_true, Bool.not_eq_true', decide_eq_true_eq, not_or] at hc
    refine ⟨by rw [List.length_append]; simp; omega, fun r hr => ?_⟩
    rcases List.mem_append.1 hr with hr | hr
    ·exact g2 r hr
    ·rw [List.mem_singleton.1 hr]
     exact rightF_ok hm (by simpa using hc.1)
theorem splN_size (x : ByteArray) (b : UInt8) : ∀ i, ∀ y ∈ (splN x b i).1, y.size ≤ x.size
 | 0, y, h => by simp [splN] at h
 | i + 1, y, h => by
  rw [splN] at h
  split at h
  ·rcases List.mem_append.1 h with h | h
   ·exact splN_size x b i y h
   ·rw [List.mem_singleton.1 h, ByteArray.size_extract]; omega
  ·exact splN_size x b i y h
theorem splitF_size {x : ByteArray} {b : UInt8} {y : ByteArray} (h : y ∈ splitF x b) : y.size ≤ x.size := by
 unfold splitF at h
 rcases List.mem_append.1 h with h | h
 ·exact splN_size x b _ y h
 ·rw [List.mem_singleton.1 h, ByteArray.size_extract]; omega
theorem tailC_app (s : Sys) (b x : ByteArray) (r : Rt) : ∀ k, tailC s (b ++ x) r k = b ++ tailC s x r k
 | 0 => rfl
 | k + 1 => by
  rw [tailC, tailC, tailC_app s b x r k]
  split
  ·rw [ByteArray.append_assoc, ByteArray.append_assoc, ByteArray.append_assoc]
  ·rfl
theorem tailC_dot (s : Sys) (b : ByteArray) (r : Rt) (k : Nat) : tailC s b r (k + 1) = if bit r.2 k then tailC s b r k ++ (bts [46] ++ s.co[k]!) else tailC s b r k := by
 rw [tailC, ByteArray.append_assoc]
theorem textN_word (s : Sys) (l : List Rt) (i : Nat) : textN s l (i + 1) = (if i = 0 then textN s l i else textN s l i ++ bts [32]) ++ wordF s l[i]! := by
 rw [textN, tailC_app]; rfl
end Go.Proofs.YtpnghcaccfnngaaGreatDoor.AM

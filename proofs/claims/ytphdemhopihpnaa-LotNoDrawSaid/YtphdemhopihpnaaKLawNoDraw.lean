/- The law LotNoDraw, by the contracts. -/
import Derived.Test.YtphdemhopihpnaaKLotN2
import Derived.Test.YtphdemhopihpnaaZ49
import Derived.Test.YtphdemhopihpnaaZ46
import Derived.Test.YtphdemhopihpnaaKLotI13
namespace Go.Proofs.Ytphdemhopihpnaa.AM
open Go
set_option linter.unusedVariables false
set_option linter.unusedSimpArgs false
set_option maxRecDepth 20000

theorem c13_bad (ts ks : List Int) (b : Nat) (ht : ts.length < 2 ^ 63) (hk : ks.length < 2 ^ 63) (h38 : PC Try.prog 38 [drw ts ks] (.b false)) {x y e : Int} (hv : checkV ts ks = tup3 x y e) (he : e ≠ 0) : AC Try.prog 13 [drw ts ks, .cv (.int .u8 b)] [] fun r _ => r = .b true := by
  refine AC_FE (fok13 true) (Nat.le_of_ble_eq_true rfl) ?_
  have hi2 : ∀ e : Int, (e == e) = true := fun e => by simp
  have hbe : (e != 0) = true := by simpa using he
  simp only [ic13, f_box, cellsOf, evA, if_true, if_false, beq_false, simprocAttr]
  refine (c32_err ts ks ht hk hv he).call ?_
  simp only [evA, if_true, if_false, beq_false, simprocAttr]
  refine (c26_err ts ks ht hk hv he).call frz ?_
  simp only [evA, if_true, if_false, beq_false, simprocAttr]
  refine h38.call frz ?_
  simp only [hbe, hi2, List.length_nil, evA, if_true, if_false, beq_false, simprocAttr]
  refine (awake _).run ?_
  simp only [evA, if_true, if_false, beq_false, simprocAttr]

theorem c13_ways (ts ks : List Int) (b : Nat) (hb : b ≤ 255) (ht : ts.length < 2 ^ 63) (hk : ks.length < 2 ^ 63) (h38 : PC Try.prog 38 [drw ts ks] (.b true)) (hv : checkV ts ks = tup3 0 0 0) (hok : DrawOk ts ks) (hw : waysF ks ks.length ts ≠ 0) : AC Try.prog 13 [drw ts ks, .cv (.int .u8 b)] [] fun r _ => r = .b true := by
  have hkl := hok.kl
  have hp8 : (2 : Nat) ^ ks.length ≤ 2 ^ 8 := Nat.pow_le_pow_right (by omega) hkl
  have hp0 : 0 < (2 : Nat) ^ ks.length := Nat.pow_pos (by omega)
  have h44 := c44 ks.length (by omega)
  have hw0 := (waysF_bounds ks ks.length ts hok.tl.2).1
  have hlk := (ways_lack hok).1 hw
  have hsq : shortQ ts ks = [] := by unfold shortQ; rw [if_neg hw]
  have h32 := c32_ok ts ks ht hk hv hok
  have h26 := c26_ok ts ks ht hk hv hok
  rw [hsq] at h32
  generalize waysF ks ks.length ts = nw at hw hw0 h26
  have hgt : decide (nw > 0) = true := decide_eq_true (by omega)
  have he0 : (nw == 0) = false := by simpa using hw
  obtain ⟨N, hN⟩ : ∃ N : Nat, N = 2 ^ ks.length := ⟨_, rfl⟩
  rw [← hN] at h44 hp8 hp0 hlk
  have hcv : IntKind.i64.wrap (b : Int) = (b : Int) := wrap_in (by omega)
  have hne : ¬ ((N : Int) = 0) := by omega
  have hml := Nat.mod_lt b hp0
  have hmod : IntKind.i64.wrap (Int.tmod (b : Int) (N : Int)) = ((b % N : Nat) : Int) := by
    have : Int.tmod (b : Int) (N : Int) = ((b % N : Nat) : Int) := by
      rw [Int.tmod_eq_emod_of_nonneg (by omega)]; rfl
    rw [this]
    exact wrap_in (by omega)
  have h43 := c43 hok (b % N) (by omega)
  have hl0 := hlk (b % N) hml
  rw [lack_eq] at hl0
  rw [hl0] at h43
  refine AC_FE (fok13 true) (Nat.le_of_ble_eq_true rfl) ?_
  simp only [ic13, f_box, cellsOf, evA, if_true, if_false, beq_false, simprocAttr]
  refine h32.call ?_
  simp only [evA, if_true, if_false, beq_false, simprocAttr]
  refine h26.call frz ?_
  simp only [evA, if_true, if_false, beq_false, simprocAttr]
  refine h38.call frz ?_
  simp only [hgt, he0, List.length_nil, evA, if_true, if_false, beq_false, simprocAttr]
  refine DW_s [6, 8, 11] [] hmix (by kernel_rfl) rfl ?_
  simp only [hcv, evA, if_true, if_false, beq_false, simprocAttr]
  refine kK_keep (h44.call frz ⟨rfl, rfl⟩) rfl ?_
  simp only [hne, hmod, evA, if_true, if_false, beq_false, simprocAttr]
  refine kK_keep (h43.call frz ⟨rfl, rfl⟩) rfl ?_
  simp only [evA, if_true, if_false, beq_false, simprocAttr]
  refine kK_keep ((awake _).run ⟨rfl, rfl⟩) rfl ?_
  simp only [evA, if_true, if_false, beq_false, simprocAttr]

theorem c13_none (ts ks : List Int) (b s : Nat) (ht : ts.length < 2 ^ 63) (hk : ks.length < 2 ^ 63) (h38 : PC Try.prog 38 [drw ts ks] (.b true)) (hv : checkV ts ks = tup3 0 0 0) (hok : DrawOk ts ks) (hw : waysF ks ks.length ts = 0)
    (hs : s < 2 ^ ks.length) (hsq : shortQ ts ks = setL ks.length s) (hls : lackB ts ks s = true) (hmin : ∀ t, t < ks.length → s.testBit t = true → 2 ^ t ≤ s ∧ lackB ts ks (s - 2 ^ t) = false) : AC Try.prog 13 [drw ts ks, .cv (.int .u8 b)] [] fun r _ => r = .b true := by
  have hkl := hok.kl
  have hp8 : (2 : Nat) ^ ks.length ≤ 2 ^ 8 := Nat.pow_le_pow_right (by omega) hkl
  have h32 := c32_ok ts ks ht hk hv hok
  have h26 := c26_ok ts ks ht hk hv hok
  rw [hsq] at h32
  rw [hw] at h26
  have hsl := setL_len ks.length s
  have hne := lack_ne s hls
  have hln : 0 < (setL ks.length s).length := List.length_pos_iff.2 hne
  have hgt : decide (((setL ks.length s).length : Int) > 0) = true := decide_eq_true (by omega)
  have hfull := sumT_set hs
  have hsle := fun i => sumT_le (setL ks.length s) i
  rw [hfull] at hsle
  have hget : ∀ i, i < (setL ks.length s).length → ∃ t : Nat, (setL ks.length s)[i]?.getD 0 = (t : Int) ∧ t < ks.length ∧ s.testBit t = true := fun i hi => by
    have hm : (setL ks.length s)[i] ∈ setL ks.length s := List.getElem_mem hi
    obtain ⟨t, h1, h2, h3⟩ := setL_mem.1 hm
    exact ⟨t, by rw [List.getElem?_eq_getElem hi]; exact h3, h1, h2⟩
  have hlt := fun i j (hj : j < i) (hi : i < (setL ks.length s).length) => setL_less hj hi
  have hsucc := fun i (hi : i < (setL ks.length s).length) => sumT_succ hi
  have hs0 : sumT (setL ks.length s) 0 = 0 := by simp [sumT]
  generalize setL ks.length s = zs at *
  refine AC_FE (fok13 true) (Nat.le_of_ble_eq_true rfl) ?_
  simp only [ic13, f_box, cellsOf, evA, if_true, if_false, beq_false, simprocAttr]
  refine h32.call ?_
  simp only [evA, if_true, if_false, beq_false, simprocAttr]
  refine h26.call frz ?_
  simp only [evA, if_true, if_false, beq_false, simprocAttr]
  refine h38.call frz ?_
  simp only [hgt, evA, if_true, if_false, beq_false, simprocAttr]
  refine IL_for zs.length (fun i st => ∃ v14 v15, st = ⟨[drw ts ks, .cv (.int .u8 b), .ptr 0 0, .b false, ints zs, .i 0, .i 0, .i 0, .i (sumT zs i), .i i, .undef, .b false, .b false, .b false, v14, v15, .undef, .undef], [.cells [ints ts, ints ks]]⟩) ?_ 0 (Nat.zero_le _) ⟨_, _, by rw [hs0]; rfl⟩
  rintro i st hi ⟨v14, v15, rfl⟩
  by_cases h : i < zs.length
  · obtain ⟨t, hz, htk, htb⟩ := hget i h
    have hws : IntKind.i64.wrap ((i : Int) + 1) = ((i + 1 : Nat) : Int) := wrap_succ (by omega)
    have hst := hsucc i h
    rw [hz, Int.toNat_natCast] at hst
    have hle1 := hsle (i + 1)
    have hadd : IntKind.i64.wrap ((sumT zs i : Int) + ((2 ^ t : Nat) : Int)) = ((sumT zs (i + 1) : Nat) : Int) := by
      rw [hst]
      generalize 2 ^ t = p at *
      rw [wrap_in (by omega)]; rfl
    have ht0 : ¬ ((t : Int) < 0) := by omega
    have htg : decide ((t : Int) ≥ (ks.length : Int)) = false := decide_eq_false (by omega)
    simp only [ic13l1, Int.ofNat_lt, h, evA, if_true, if_false, beq_false, simprocAttr]
    refine DW_s [] [] hmix (by kernel_rfl) rfl ?_
    by_cases hi0 : i = 0
    · have hg0 : decide ((i : Int) > 0) = false := decide_eq_false (by omega)
      simp only [Int.ofNat_lt, h, hz, ht0, htg, hg0, evA, if_true, if_false, beq_false, simprocAttr]
      refine (c44 t (by omega)).call frz ?_
      simp only [hadd, hws, evA, if_true, if_false, beq_false, simprocAttr]
      exact kFor_go (by first | trivial | omega) ⟨_, _, rfl⟩
    · have hg0 : decide ((i : Int) > 0) = true := decide_eq_true (by omega)
      obtain ⟨u, hu, _, _⟩ := hget (i - 1) (by omega)
      have hul := hlt i (i - 1) (by omega) h
      rw [hz, hu] at hul
      have hle : decide ((t : Int) ≤ (u : Int)) = false := decide_eq_false (by omega)
      have hwm : IntKind.i64.wrap ((i : Int) - 1) = ((i - 1 : Nat) : Int) := by rw [wrap_in (by omega)]; omega
      have h' : i - 1 < zs.length := by omega
      simp only [Int.ofNat_lt, h, h', hz, hu, hle, hwm, ht0, htg, hg0, evA, if_true, if_false, beq_false, simprocAttr]
      refine (c44 t (by omega)).call frz ?_
      simp only [hadd, hws, evA, if_true, if_false, beq_false, simprocAttr]
      exact kFor_go (by first | trivial | omega) ⟨_, _, rfl⟩
  have : i = zs.length := by omega
  subst this
  simp only [ic13l1, Int.ofNat_lt, h, hfull, evA, if_true, if_false, beq_false, simprocAttr]
  have h43 := c43 hok s (by omega)
  rw [lack_eq] at hls
  rw [hls] at h43
  refine IL_for zs.length (fun i st => ∃ v16 v17, st = ⟨[drw ts ks, .cv (.int .u8 b), .ptr 0 0, .b false, ints zs, .i 0, .i 0, .i 0, .i s, .i zs.length, .i i, .b false, .b false, .b false, .b false, v15, v16, v17], [.cells [ints ts, ints ks]]⟩) ?_ 0 (Nat.zero_le _) ⟨_, _, rfl⟩
  rintro i st hi ⟨v16, v17, rfl⟩
  by_cases h2 : i < zs.length
  · obtain ⟨t, hz, htk, htb⟩ := hget i h2
    obtain ⟨hm1, hm2⟩ := hmin t htk htb
    have hws : IntKind.i64.wrap ((i : Int) + 1) = ((i + 1 : Nat) : Int) := wrap_succ (by omega)
    have hsub : IntKind.i64.wrap ((s : Int) - ((2 ^ t : Nat) : Int)) = ((s - 2 ^ t : Nat) : Int) := by
      generalize 2 ^ t = p at *
      rw [wrap_in (by omega)]; omega
    have h43t := c43 hok (s - 2 ^ t) (Nat.lt_of_le_of_lt (Nat.sub_le _ _) (by omega))
    rw [lack_eq] at hm2
    rw [hm2] at h43t
    simp only [ic13l0, Int.ofNat_lt, h2, evA, if_true, if_false, beq_false, simprocAttr]
    refine DW_s [6, 8] [] hmix (by kernel_rfl) rfl ?_
    simp only [Int.ofNat_lt, h2, hz, evA, if_true, if_false, beq_false, simprocAttr]
    refine kK_keep ((c44 t (by omega)).call frz ⟨rfl, rfl⟩) rfl ?_
    simp only [hsub, evA, if_true, if_false, beq_false, simprocAttr]
    refine kK_keep (h43t.call frz ⟨rfl, rfl⟩) rfl ?_
    simp only [hws, evA, if_true, if_false, beq_false, simprocAttr]
    exact kFor_go (by first | trivial | omega) ⟨_, _, rfl⟩
  have : i = zs.length := by omega
  subst this
  simp only [ic13l0, Int.ofNat_lt, h2, evA, if_true, if_false, beq_false, simprocAttr]
  refine h43.call frz ?_
  simp only [evA, if_true, if_false, beq_false, simprocAttr]
  refine (awake _).run ?_
  simp only [evA, if_true, if_false, beq_false, simprocAttr]

theorem c13 (ts ks : List Int) (b : Nat) (hb : b ≤ 255) (ht : ts.length < 2 ^ 63) (hk : ks.length < 2 ^ 63) : AC Try.prog 13 [drw ts ks, .cv (.int .u8 b)] [] fun r _ => r = .b true := by
  obtain ⟨vb, h38, h38t, h38f⟩ := c38 ts ks ht hk
  cases vb with
  | false =>
    obtain ⟨x, y, e, hv, he⟩ := h38f rfl
    exact c13_bad ts ks b ht hk h38 hv he
  | true =>
    obtain ⟨hok, hv⟩ := h38t rfl
    by_cases hw : waysF ks ks.length ts = 0
    · obtain ⟨s, hs, hsq, hls, hmin⟩ := short_min hok hw
      exact c13_none ts ks b s ht hk h38 hv hok hw hs hsq hls hmin
    · exact c13_ways ts ks b hb ht hk h38 hv hok hw

theorem law_LotNoDraw (avs : List AV) (h : Args Try.prog Try.f13.params.toList avs) : AC Try.prog 13 avs [] fun r _ => r = .b true := by
  have h : Args Try.prog [34, 5] avs := h
  obtain ⟨cs1, avs, rfl, h1, h⟩ := args_cons h
  obtain ⟨cs2, avs, rfl, h2, h⟩ := args_cons h
  cases args_nil h
  obtain ⟨ts, ks, he, ht, hk, _, _⟩ := typed_draw h1
  obtain ⟨w, rfl, hw⟩ := typed_int Try.underlying5 h2
  have hw8 := wf_u8 hw
  obtain ⟨b, rfl⟩ : ∃ b : Nat, w = b := ⟨w.toNat, by omega⟩
  rw [he]
  exact c13 ts ks b (by omega) ht hk

end Go.Proofs.Ytphdemhopihpnaa.AM

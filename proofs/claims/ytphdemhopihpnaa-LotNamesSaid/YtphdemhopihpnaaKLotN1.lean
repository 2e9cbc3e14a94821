/- When there is no allowed assignment, in plain Lean: just if some tests are short of examiners. -/
import Derived.Test.YtphdemhopihpnaaZ49
namespace Go.Proofs.Ytphdemhopihpnaa.AM
open Go Go.Proofs.Ytphdemhopihpnaa.Pl
set_option linter.unusedVariables false
set_option linter.unusedSimpArgs false

abbrev kN (us : List Int) (i : Nat) : Nat := (us[i]?.getD 0).toNat
abbrev lastN (n r : Nat) : Nat → Bool := fun t => decide (n - r ≤ t)

theorem kN_less {us : List Int} {i : Nat} (hi : i < us.length) : kN (lessF us i) i = kN us i - 1 := by
  unfold kN lessF
  rw [List.getElem?_set_self hi]
  simp only [Option.getD_some]
  omega
theorem kN_less_ne {us : List Int} {i j : Nat} (h : i ≠ j) : kN (lessF us i) j = kN us j := by
  unfold kN lessF
  rw [List.getElem?_set_ne h]

theorem allow_serves {ks : List Int} : ∀ (r : Nat) (us l : List Int), r ≤ ks.length → AllowA ks r us l → Serves ks.length us.length (canT ks) (lastN ks.length r) (kN us) fun t => (l[t - (ks.length - r)]?.getD 0).toNat
  | 0, us, l, hr, h => by
    refine ⟨fun t ht h2 => ?_, fun i hi => ?_⟩
    · simp only [lastN, decide_eq_true_eq] at h2; omega
    · rw [cnt_zero fun t ht => ?_]
      · exact Nat.zero_le _
      · have : lastN ks.length 0 t = false := decide_eq_false (by omega)
        rw [this, Bool.false_and]
  | r + 1, us, l, hr, h => by
    obtain ⟨i, l', rfl, hi, hc, h⟩ := h
    have ih := allow_serves r (lessF us i) l' (by omega) h
    have hl : (lessF us i).length = us.length := by simp [lessF]
    rw [hl] at ih
    simp only [canB, Bool.and_eq_true, decide_eq_true_eq] at hc
    have hf0 : ∀ t, t = ks.length - (r + 1) → (((i : Int) :: l')[t - (ks.length - (r + 1))]?.getD 0).toNat = i := fun t ht => by
      subst ht; simp
    have hf1 : ∀ t, ks.length - r ≤ t → (((i : Int) :: l')[t - (ks.length - (r + 1))]?.getD 0).toNat = (l'[t - (ks.length - r)]?.getD 0).toNat := fun t ht => by
      rw [show t - (ks.length - (r + 1)) = (t - (ks.length - r)) + 1 by omega, List.getElem?_cons_succ]
    refine ⟨fun t ht h2 => ?_, fun j hj => ?_⟩
    · dsimp only
      simp only [lastN, decide_eq_true_eq] at h2
      by_cases e : t = ks.length - (r + 1)
      · rw [hf0 t e]
        refine ⟨hi, ?_⟩
        unfold canT
        rw [e]; exact hc.2
      · have h3 : ks.length - r ≤ t := by omega
        rw [hf1 t h3]
        exact ih.1 t ht (decide_eq_true h3)
    · have h1 := ih.2 j hj
      dsimp only at h1 ⊢
      by_cases e : i = j
      · subst e
        rw [kN_less hi] at h1
        have h2 : 0 < kN us i := by unfold kN; omega
        refine Nat.le_trans (cnt_one (P := fun t => lastN ks.length r t && (l'[t - (ks.length - r)]?.getD 0).toNat == i) fun a b ha hb p1 q1 p2 q2 => ?_) (by omega)
        have key : ∀ t, (lastN ks.length r t && (l'[t - (ks.length - r)]?.getD 0).toNat == i) = false → (lastN ks.length (r + 1) t && (((i : Int) :: l')[t - (ks.length - (r + 1))]?.getD 0).toNat == i) = true → t = ks.length - (r + 1) := by
          intro t p q
          rw [Bool.and_eq_true] at q
          have q1 := of_decide_eq_true q.1
          by_cases e : t = ks.length - (r + 1)
          · exact e
          · have h3 : ks.length - r ≤ t := by omega
            have q2 := q.2
            rw [hf1 t h3] at q2
            have h4 : lastN ks.length r t = true := decide_eq_true h3
            rw [h4, q2] at p
            cases p
        rw [key a p1 q1, key b p2 q2]
      · rw [kN_less_ne e] at h1
        refine Nat.le_trans (cnt_mono fun t ht h2 => ?_) h1
        rw [Bool.and_eq_true] at h2 ⊢
        have q1 := of_decide_eq_true h2.1
        have q2 := h2.2
        by_cases e2 : t = ks.length - (r + 1)
        · rw [hf0 t e2] at q2
          exact absurd (by simpa using q2) e
        · have h3 : ks.length - r ≤ t := by omega
          rw [hf1 t h3] at q2
          exact ⟨decide_eq_true h3, q2⟩

theorem serves_allow {ks : List Int} {f : Nat → Nat} : ∀ (r : Nat) (us : List Int), r ≤ ks.length → Serves ks.length us.length (canT ks) (lastN ks.length r) (kN us) f → ∃ l, AllowA ks r us l
  | 0, us, hr, h => ⟨[], rfl⟩
  | r + 1, us, hr, h => by
    have ht0 : ks.length - (r + 1) < ks.length := by omega
    obtain ⟨hi, hc⟩ := h.1 (ks.length - (r + 1)) ht0 (decide_eq_true (Nat.le_refl _))
    generalize hif : f (ks.length - (r + 1)) = i at hi hc
    have hpos := cnt_pos_of (P := fun t => lastN ks.length (r + 1) t && f t == i) ht0 (by simp [hif])
    have hk := h.2 i hi
    have hl : (lessF us i).length = us.length := by simp [lessF]
    have hS : Serves ks.length (lessF us i).length (canT ks) (lastN ks.length r) (kN (lessF us i)) f := by
      rw [hl]
      refine ⟨fun t ht h2 => h.1 t ht ?_, fun j hj => ?_⟩
      · have := of_decide_eq_true h2
        exact decide_eq_true (by omega)
      · by_cases e : i = j
        · subst e
          have h3 := cnt_lt (P := fun t => lastN ks.length r t && f t == i) (Q := fun t => lastN ks.length (r + 1) t && f t == i) (n := ks.length) (k := ks.length - (r + 1)) (fun t ht h2 => by
            rw [Bool.and_eq_true] at h2 ⊢
            have := of_decide_eq_true h2.1
            exact ⟨decide_eq_true (by omega), h2.2⟩) ht0 (by
            have : lastN ks.length r (ks.length - (r + 1)) = false := decide_eq_false (by omega)
            rw [this, Bool.false_and]) (by simp [hif])
          rw [kN_less hi]; omega
        · rw [kN_less_ne e]
          refine Nat.le_trans (cnt_mono fun t ht h2 => ?_) (h.2 j hj)
          rw [Bool.and_eq_true] at h2 ⊢
          have := of_decide_eq_true h2.1
          exact ⟨decide_eq_true (by omega), h2.2⟩
    obtain ⟨l, hA⟩ := serves_allow r (lessF us i) (by omega) hS
    refine ⟨(i : Int) :: l, i, l, rfl, hi, ?_, hA⟩
    simp only [canB, Bool.and_eq_true, decide_eq_true_eq]
    refine ⟨?_, hc⟩
    have : 0 < kN us i := by omega
    unfold kN at this
    omega

/-- sets by bits -/
def ofB : Nat → (Nat → Bool) → Nat
  | 0, _ => 0
  | n + 1, S => (if S n then 2 ^ n else 0) + ofB n S
theorem ofB_lt (S : Nat → Bool) : ∀ n, ofB n S < 2 ^ n
  | 0 => by simp [ofB]
  | n + 1 => by
    have := ofB_lt S n
    unfold ofB
    rw [Nat.pow_succ]
    split <;> omega
theorem ofB_bit (S : Nat → Bool) : ∀ n j, j < n → (ofB n S).testBit j = S j
  | 0, j, h => by omega
  | n + 1, j, h => by
    have hlt := ofB_lt S n
    unfold ofB
    by_cases e : j = n
    · subst e
      by_cases hs : S j = true
      · rw [if_pos hs, Nat.testBit_two_pow_add_eq, Nat.testBit_lt_two_pow hlt, hs]; rfl
      · rw [if_neg hs, Nat.zero_add, Nat.testBit_lt_two_pow hlt]
        simpa using hs
    · by_cases hs : S n = true
      · rw [if_pos hs, Nat.testBit_two_pow_add_gt (by omega)]; exact ofB_bit S n j (by omega)
      · rw [if_neg hs, Nat.zero_add]; exact ofB_bit S n j (by omega)
theorem ofB_congr {S T : Nat → Bool} : ∀ n, (∀ j, j < n → S j = T j) → ofB n S = ofB n T
  | 0, _ => rfl
  | n + 1, h => by
    unfold ofB
    rw [h n (by omega), ofB_congr n fun j hj => h j (by omega)]
theorem ofB_self {n s : Nat} (h : s < 2 ^ n) : ofB n s.testBit = s := by
  refine Nat.eq_of_testBit_eq fun j => ?_
  by_cases hj : j < n
  · exact ofB_bit _ n j hj
  · have hp : 2 ^ n ≤ 2 ^ j := Nat.pow_le_pow_right (by omega) (by omega)
    rw [Nat.testBit_lt_two_pow (Nat.lt_of_lt_of_le (ofB_lt _ n) hp), Nat.testBit_lt_two_pow (Nat.lt_of_lt_of_le h hp)]
theorem ofB_less (S : Nat → Bool) : ∀ n t, t < n → S t = true → ofB n S = ofB n (fun j => S j && j != t) + 2 ^ t
  | 0, t, h, _ => by omega
  | n + 1, t, h, hs => by
    unfold ofB
    by_cases e : t = n
    · subst e
      rw [if_pos hs, if_neg (by simp), ofB_congr (S := S) (T := fun j => S j && j != t) t fun j hj => by
        have : (j != t) = true := by simpa using (by omega : j ≠ t)
        rw [this, Bool.and_true]]
      omega
    · have : (n != t) = true := by simpa using (Ne.symm e)
      simp only [this, Bool.and_true]
      rw [ofB_less S n t (by omega) hs]
      omega

theorem setL_cnt (s : Nat) : ∀ n, (setL n s).length = cnt n s.testBit
  | 0 => rfl
  | n + 1 => by
    rw [setL_succ, List.length_append, setL_cnt s n]
    simp only [cnt]
    split <;> rfl
theorem any_nb {ks : List Int} {s i : Nat} : anyN (fun t => s.testBit t && canT ks t i) ks.length = nb ks.length (canT ks) s.testBit i := by
  rw [Bool.eq_iff_iff, anyN_true, nb_iff]
  constructor
  · rintro ⟨t, h1, h2⟩
    rw [Bool.and_eq_true] at h2
    exact ⟨t, h1, h2.1, h2.2⟩
  · rintro ⟨t, h1, h2, h3⟩
    exact ⟨t, h1, by rw [h2, h3]; rfl⟩
theorem times_cap {ts ks : List Int} (h0 : ∀ j, j < ts.length → 0 ≤ ts[j]?.getD 0) (s : Nat) : ∀ i, i ≤ ts.length → timesD ts ks s i = (capOf i (kN ts) (nb ks.length (canT ks) s.testBit) : Nat)
  | 0, _ => rfl
  | i + 1, h => by
    have ih := times_cap (ks := ks) h0 s i (by omega)
    have := h0 i (by omega)
    unfold capOf at ih
    unfold timesD capOf
    simp only [sumTo]
    rw [ih, any_nb]
    split
    · unfold kN; omega
    · omega

theorem lack_iff {ts ks : List Int} (hok : DrawOk ts ks) (s : Nat) : lackB ts ks s = true ↔ capOf ts.length (kN ts) (nb ks.length (canT ks) s.testBit) < cnt ks.length s.testBit := by
  rw [lack_eq]
  unfold lackD
  rw [times_cap (fun j hj => (hok.tr j hj).1) s ts.length (Nat.le_refl _), setL_cnt, decide_eq_true_eq]
  omega

theorem capOf_congr {E : Nat} {k : Nat → Nat} {A B : Nat → Bool} (h : ∀ i, A i = B i) : capOf E k A = capOf E k B := by
  have : A = B := funext h
  rw [this]
theorem nb_congr {n : Nat} {can : Nat → Nat → Bool} {S T : Nat → Bool} (h : ∀ t, t < n → S t = T t) (i : Nat) : nb n can S i = nb n can T i := by
  unfold nb
  rw [cnt_congr fun t ht => by rw [h t ht]]

/-- there is an allowed assignment just if no tests are short of examiners -/
theorem ways_lack {ts ks : List Int} (hok : DrawOk ts ks) : waysF ks ks.length ts ≠ 0 ↔ ∀ s, s < 2 ^ ks.length → lackB ts ks s = false := by
  have hall1 : ∀ t, lastN ks.length ks.length t = true := fun t => decide_eq_true (by omega)
  constructor
  · intro hw s hs
    have h0 := (waysF_bounds ks ks.length ts hok.tl.2).1
    obtain ⟨hA, _⟩ := pick_A (ks := ks) ks.length ts 0 (Int.le_refl _) (by omega)
    have hS := allow_serves _ _ _ (Nat.le_refl _) hA
    have := Pl.served hS (S := s.testBit) fun t _ _ => hall1 t
    cases hl : lackB ts ks s with
    | false => rfl
    | true => have := (lack_iff hok s).1 hl; omega
  · intro h hz
    have hc : ∀ S : Nat → Bool, (∀ t, t < ks.length → S t = true → lastN ks.length ks.length t = true) → cnt ks.length S ≤ capOf ts.length (kN ts) (nb ks.length (canT ks) S) := by
      intro S _
      have h1 := h (ofB ks.length S) (ofB_lt S _)
      have hb := fun t ht => ofB_bit S ks.length t ht
      rw [← cnt_congr hb, ← capOf_congr (A := nb ks.length (canT ks) (ofB ks.length S).testBit) fun i => nb_congr hb i]
      by_cases hh : capOf ts.length (kN ts) (nb ks.length (canT ks) (ofB ks.length S).testBit) < cnt ks.length (ofB ks.length S).testBit
      · have := (lack_iff hok _).2 hh
        rw [h1] at this; cases this
      · omega
    obtain ⟨f, hf⟩ := hall ks.length (lastN ks.length ks.length) (kN ts) cnt_le hc
    obtain ⟨l, hl⟩ := serves_allow _ _ (Nat.le_refl _) hf
    have := index_in _ _ _ hl
    omega

/-- the least tests that are short: without one of them they are not -/
theorem short_min {ts ks : List Int} (hok : DrawOk ts ks) (hw : waysF ks ks.length ts = 0) : ∃ s, s < 2 ^ ks.length ∧ shortQ ts ks = setL ks.length s ∧ lackB ts ks s = true ∧ ∀ t, t < ks.length → s.testBit t = true → 2 ^ t ≤ s ∧ lackB ts ks (s - 2 ^ t) = false := by
  unfold shortQ
  rw [if_pos hw]
  rcases bestF_is (n := ks.length) (lack_ne (ts := ts) (ks := ks)) (2 ^ ks.length) with ⟨_, h⟩ | ⟨s, h1, h2, h3, h4⟩
  · exfalso
    refine (ways_lack hok).2 (fun s hs => ?_) hw
    rcases Nat.eq_zero_or_pos s with rfl | hp
    · exact lack_0 ts ks
    · exact h s hp hs
  · refine ⟨s, h1, h3, h2, fun t ht hb => ?_⟩
    have he := ofB_less s.testBit ks.length t ht hb
    rw [ofB_self h1] at he
    have hsub : s - 2 ^ t = ofB ks.length fun j => s.testBit j && j != t := by omega
    refine ⟨by omega, ?_⟩
    cases hl : lackB ts ks (s - 2 ^ t) with
    | false => rfl
    | true =>
      exfalso
      have hne : 1 ≤ s - 2 ^ t := by
        rcases Nat.eq_zero_or_pos (s - 2 ^ t) with e | e
        · rw [e, lack_0] at hl; cases hl
        · exact e
      refine h4 (s - 2 ^ t) hne (Nat.lt_of_le_of_lt (Nat.sub_le _ _) h1) hl ?_
      have hlt : (setL ks.length (s - 2 ^ t)).length < (setL ks.length s).length := by
        rw [setL_cnt, setL_cnt]
        have := cnt_lt (P := (s - 2 ^ t).testBit) (Q := s.testBit) (n := ks.length) (k := t) (fun j hj h => by
          rw [hsub, ofB_bit _ _ j hj, Bool.and_eq_true] at h; exact h.1) ht (by rw [hsub, ofB_bit _ _ t ht]; simp) hb
        omega
      unfold cmpS
      have hn : cmpN ((setL ks.length (s - 2 ^ t)).length : Int) (setL ks.length s).length < 0 := cmpN_lt.2 (by omega)
      rw [if_pos (by omega)]
      exact hn

end Go.Proofs.Ytphdemhopihpnaa.AM

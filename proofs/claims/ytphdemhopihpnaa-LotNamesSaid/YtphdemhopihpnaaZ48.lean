/- Parts of the proof, joined: LotSh to LotSh. -/
import Derived.Sort.Statements
import Derived.Test.YtphdemhopihpnaaZ47

namespace Go.Proofs.Ytphdemhopihpnaa.AM
open Go
set_option linter.unusedVariables false

/-- a set as a list -/
def setL (n s : Nat) : List Int := ((List.range n).filter fun t => s.testBit t).map fun t => ((t : Nat) : Int)

theorem setL_succ (n s : Nat) : setL (n + 1) s = setL n s ++ if s.testBit n = true then [(n : Int)] else [] := by
  unfold setL
  rw [List.range_succ, List.filter_append, List.map_append]
  congr 1
  by_cases h : s.testBit n = true <;> simp [h]
theorem setL_len (n s : Nat) : (setL n s).length ≤ n := by
  unfold setL
  rw [List.length_map]
  have := List.length_filter_le (fun t => s.testBit t) (List.range n)
  simpa using this
theorem setL_mem {n s : Nat} {x : Int} : x ∈ setL n s ↔ ∃ t : Nat, t < n ∧ s.testBit t = true ∧ x = (t : Int) := by
  unfold setL
  rw [List.mem_map]
  constructor
  · rintro ⟨t, ht, rfl⟩
    rw [List.mem_filter, List.mem_range] at ht
    exact ⟨t, ht.1, ht.2, rfl⟩
  · rintro ⟨t, h1, h2, rfl⟩
    exact ⟨t, by rw [List.mem_filter, List.mem_range]; exact ⟨h1, h2⟩, rfl⟩
theorem setL_zero (n : Nat) : setL n 0 = [] := by
  unfold setL
  have : (List.range n).filter (fun t => (0 : Nat).testBit t) = [] := by
    rw [List.filter_eq_nil_iff]; intro t _; simp
  rw [this]; rfl

def cmpN (x y : Int) : Int := if x < y then -1 else if x > y then 1 else 0
/-- two lists compared, number by number -/
def cmpLx : List Int → List Int → Int
  | [], [] => 0
  | [], _ :: _ => -1
  | _ :: _, [] => 1
  | x :: xs, y :: ys => if cmpN x y ≠ 0 then cmpN x y else cmpLx xs ys
/-- two lists compared: the shorter one first -/
def cmpS (a b : List Int) : Int := if cmpN a.length b.length ≠ 0 then cmpN a.length b.length else cmpLx a b

theorem cmpN_self (x : Int) : cmpN x x = 0 := by unfold cmpN; rw [if_neg (by omega), if_neg (by omega)]
theorem cmpN_eq {x y : Int} (h : cmpN x y = 0) : x = y := by
  unfold cmpN at h
  by_cases h1 : x < y
  · rw [if_pos h1] at h; omega
  · rw [if_neg h1] at h
    by_cases h2 : x > y
    · rw [if_pos h2] at h; omega
    · omega
theorem cmpN_swap (x y : Int) : cmpN y x = - cmpN x y := by
  unfold cmpN
  rcases Int.lt_trichotomy x y with h | h | h
  · rw [if_neg (show ¬ y < x by omega), if_pos (show y > x by omega), if_pos h]; rfl
  · subst h; simp
  · rw [if_pos h, if_neg (show ¬ x < y by omega), if_pos (show x > y by omega)]
theorem cmpN_lt {x y : Int} : cmpN x y < 0 ↔ x < y := by
  unfold cmpN
  by_cases h1 : x < y
  · rw [if_pos h1]; simp [h1]
  · rw [if_neg h1]
    by_cases h2 : x > y
    · rw [if_pos h2]; simp; omega
    · rw [if_neg h2]; simp; omega

theorem cmpLx_self : ∀ a, cmpLx a a = 0
  | [] => rfl
  | x :: a => by unfold cmpLx; rw [cmpN_self, if_neg (by simp), cmpLx_self a]
theorem cmpLx_eq : ∀ {a b}, cmpLx a b = 0 → a = b
  | [], [], _ => rfl
  | [], _ :: _, h => by unfold cmpLx at h; omega
  | _ :: _, [], h => by unfold cmpLx at h; omega
  | x :: a, y :: b, h => by
    unfold cmpLx at h
    by_cases h1 : cmpN x y ≠ 0
    · rw [if_pos h1] at h; exact absurd h h1
    · rw [if_neg h1] at h
      rw [cmpN_eq (x := x) (y := y) (by omega), cmpLx_eq h]
theorem cmpLx_swap : ∀ a b, cmpLx b a = - cmpLx a b
  | [], [] => rfl
  | [], _ :: _ => rfl
  | _ :: _, [] => rfl
  | x :: a, y :: b => by
    unfold cmpLx
    have h := cmpN_swap x y
    by_cases h1 : cmpN x y ≠ 0
    · rw [if_pos h1, if_pos (by omega), h]
    · rw [if_neg h1, if_neg (by omega), cmpLx_swap a b]
theorem cmpLx_trans : ∀ {a b c}, cmpLx a b < 0 → cmpLx b c < 0 → cmpLx a c < 0
  | [], [], _, h, _ => by unfold cmpLx at h; omega
  | [], _ :: _, [], _, h => by unfold cmpLx at h; omega
  | [], _ :: _, _ :: _, _, _ => by unfold cmpLx; omega
  | _ :: _, [], _, h, _ => by unfold cmpLx at h; omega
  | _ :: _, _ :: _, [], _, h => by unfold cmpLx at h; omega
  | x :: a, y :: b, z :: c, h, k => by
    unfold cmpLx at h k ⊢
    by_cases h1 : cmpN x y ≠ 0
    · rw [if_pos h1] at h
      have hxy := cmpN_lt.1 h
      by_cases h2 : cmpN y z ≠ 0
      · rw [if_pos h2] at k
        have hyz := cmpN_lt.1 k
        have : cmpN x z < 0 := cmpN_lt.2 (by omega)
        rw [if_pos (by omega)]; exact this
      · have := cmpN_eq (x := y) (y := z) (by omega)
        subst this
        rw [if_pos h1]; exact h
    · rw [if_neg h1] at h
      have := cmpN_eq (x := x) (y := y) (by omega)
      subst this
      by_cases h2 : cmpN x z ≠ 0
      · rw [if_pos h2] at k ⊢; exact k
      · rw [if_neg h2] at k ⊢; exact cmpLx_trans h k

theorem cmpS_self (a : List Int) : cmpS a a = 0 := by unfold cmpS; rw [cmpN_self, if_neg (by simp), cmpLx_self]
theorem cmpS_eq {a b : List Int} (h : cmpS a b = 0) : a = b := by
  unfold cmpS at h
  by_cases h1 : cmpN a.length b.length ≠ 0
  · rw [if_pos h1] at h; exact absurd h h1
  · rw [if_neg h1] at h; exact cmpLx_eq h
theorem cmpS_swap (a b : List Int) : cmpS b a = - cmpS a b := by
  unfold cmpS
  have h := cmpN_swap a.length b.length
  by_cases h1 : cmpN a.length b.length ≠ 0
  · rw [if_pos h1, if_pos (by omega), h]
  · rw [if_neg h1, if_neg (by omega), cmpLx_swap]
theorem cmpS_trans {a b c : List Int} (h : cmpS a b < 0) (k : cmpS b c < 0) : cmpS a c < 0 := by
  unfold cmpS at h k ⊢
  by_cases h1 : cmpN a.length b.length ≠ 0
  · rw [if_pos h1] at h
    have hxy := cmpN_lt.1 h
    by_cases h2 : cmpN b.length c.length ≠ 0
    · rw [if_pos h2] at k
      have hyz := cmpN_lt.1 k
      have : cmpN a.length c.length < 0 := cmpN_lt.2 (by omega)
      rw [if_pos (by omega)]; exact this
    · have := cmpN_eq (x := b.length) (y := c.length) (by omega)
      rw [← this, if_pos h1]; exact h
  · rw [if_neg h1] at h
    have := cmpN_eq (x := a.length) (y := b.length) (by omega)
    rw [this]
    by_cases h2 : cmpN b.length c.length ≠ 0
    · rw [if_pos h2] at k ⊢; exact k
    · rw [if_neg h2] at k ⊢; exact cmpLx_trans h k
theorem cmpS_tri {a b : List Int} (h1 : ¬ cmpS a b < 0) (h2 : ¬ cmpS b a < 0) : a = b := by
  rw [cmpS_swap a b] at h2
  exact cmpS_eq (by omega)

theorem swoS {α : Type} (f : α → List Int) : Go.Sort.SWO fun x y => decide (cmpS (f x) (f y) < 0) := by
  refine ⟨fun x => ?_, fun x y z h k => ?_, fun x y z h k => ?_⟩
  · rw [cmpS_self]; rfl
  · exact decide_eq_true (cmpS_trans (of_decide_eq_true h) (of_decide_eq_true k))
  · have h := of_decide_eq_false h
    have k := of_decide_eq_false k
    refine decide_eq_false fun hz => ?_
    by_cases e : cmpS (f y) (f x) < 0
    · exact k (cmpS_trans e hz)
    · rw [cmpS_tri h e] at hz
      exact k hz

/-- the least list of a kind, of those of so many first sets -/
def bestF (n : Nat) (L : Nat → Bool) : Nat → List Int
  | 0 => []
  | k + 1 => if (1 ≤ k ∧ L k = true) ∧ (bestF n L k = [] ∨ cmpS (setL n k) (bestF n L k) < 0) then setL n k else bestF n L k

theorem bestF_is {n : Nat} {L : Nat → Bool} (hL : ∀ s, L s = true → setL n s ≠ []) : ∀ k, (bestF n L k = [] ∧ ∀ s, 1 ≤ s → s < k → L s = false) ∨ ∃ s, s < k ∧ L s = true ∧ bestF n L k = setL n s ∧ ∀ s', 1 ≤ s' → s' < k → L s' = true → ¬ cmpS (setL n s') (setL n s) < 0
  | 0 => .inl ⟨rfl, fun s _ h => by omega⟩
  | k + 1 => by
    have ih := bestF_is (n := n) hL k
    unfold bestF
    by_cases h1 : 1 ≤ k ∧ L k = true
    · by_cases h2 : bestF n L k = [] ∨ cmpS (setL n k) (bestF n L k) < 0
      · rw [if_pos ⟨h1, h2⟩]
        refine .inr ⟨k, by omega, h1.2, rfl, fun s' a b c => ?_⟩
        by_cases e : s' = k
        · subst e; rw [cmpS_self]; omega
        · rcases ih with ⟨i1, i2⟩ | ⟨s, j1, j2, j3, j4⟩
          · have := i2 s' a (by omega); rw [c] at this; cases this
          · rcases h2 with h2 | h2
            · rw [j3] at h2; exact absurd h2 (hL s j2)
            · rw [j3] at h2
              intro hlt
              exact j4 s' a (by omega) c (cmpS_trans hlt h2)
      · rw [if_neg (by intro h; exact h2 h.2)]
        rcases ih with ⟨i1, i2⟩ | ⟨s, j1, j2, j3, j4⟩
        · exact absurd (.inl i1) h2
        · refine .inr ⟨s, by omega, j2, j3, fun s' a b c => ?_⟩
          by_cases e : s' = k
          · subst e; rw [j3] at h2; intro hh; exact h2 (.inr hh)
          · exact j4 s' a (by omega) c
    · rw [if_neg (by intro h; exact h1 h.1)]
      rcases ih with ⟨i1, i2⟩ | ⟨s, j1, j2, j3, j4⟩
      · refine .inl ⟨i1, fun s a b => ?_⟩
        by_cases e : s = k
        · subst e
          cases hl : L s with
          | false => rfl
          | true => exact absurd ⟨a, hl⟩ h1
        · exact i2 s a (by omega)
      · refine .inr ⟨s, by omega, j2, j3, fun s' a b c => ?_⟩
        by_cases e : s' = k
        · subst e; exact absurd ⟨a, c⟩ h1
        · exact j4 s' a (by omega) c

/-- the first of a sorted row for which something holds is the least -/
theorem first_best {n N : Nat} {L : Nat → Bool} (hL : ∀ s, L s = true → setL n s ≠ []) (h0 : L 0 = false) {p : List Nat} (hp : p.Perm (List.range N)) (hs : p.Pairwise fun i j => ¬ cmpS (setL n j) (setL n i) < 0) :
    ((p.find? L).map (setL n)).getD [] = bestF n L N := by
  have hb := bestF_is hL N
  have hmem : ∀ s, s ∈ p ↔ s < N := fun s => by rw [hp.mem_iff]; simp
  cases hf : p.find? L with
  | none =>
    rw [List.find?_eq_none] at hf
    rcases hb with ⟨i1, _⟩ | ⟨s, j1, j2, _, _⟩
    · rw [i1]; rfl
    · exact absurd j2 (hf s ((hmem s).2 j1))
  | some s0 =>
    obtain ⟨h1, a, b, rfl, h2⟩ := List.find?_eq_some_iff_append.1 hf
    have hN : s0 < N := (hmem s0).1 (by simp)
    have h00 : 1 ≤ s0 := by
      rcases Nat.eq_zero_or_pos s0 with e | e
      · subst e; rw [h0] at h1; cases h1
      · exact e
    rcases hb with ⟨_, i2⟩ | ⟨s, j1, j2, j3, j4⟩
    · have := i2 s0 h00 hN; rw [h1] at this; cases this
    · rw [j3]
      show setL n s0 = setL n s
      have k1 := j4 s0 h00 hN h1
      have k2 : ¬ cmpS (setL n s) (setL n s0) < 0 := by
        have hm := (hmem s).2 j1
        rw [List.mem_append] at hm
        rcases hm with hm | hm
        · have := h2 s hm; rw [j2] at this; cases this
        · rcases List.mem_cons.1 hm with rfl | hm
          · rw [cmpS_self]; omega
          · rw [List.pairwise_append] at hs
            have := (List.pairwise_cons.1 hs.2.1).1 s hm
            exact this
      exact cmpS_tri k1 k2

end Go.Proofs.Ytphdemhopihpnaa.AM


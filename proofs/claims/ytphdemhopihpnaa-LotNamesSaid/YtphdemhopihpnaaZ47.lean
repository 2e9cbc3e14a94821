/- Parts of the proof, joined: LotP1 to LotQ7. -/
import Derived.Test.YtphdemhopihpnaaZ46

namespace Go.Proofs.Ytphdemhopihpnaa.AM
open Go
set_option linter.unusedVariables false
set_option linter.unusedSimpArgs false

theorem sum_mono {l : List Nat} {f g : Nat → Int} (h : ∀ i ∈ l, f i ≤ g i) : (l.map f).sum ≤ (l.map g).sum := by
  induction l with
  | nil => simp
  | cons a l ih =>
    have h1 := h a (by simp)
    have h2 := ih fun i hi => h i (by simp [hi])
    simp only [List.map_cons, List.sum_cons]; omega

theorem sum_congr {l : List Nat} {f g : Nat → Int} (h : ∀ i ∈ l, f i = g i) : (l.map f).sum = (l.map g).sum := by
  rw [List.map_congr_left h]

theorem sum_nonneg {l : List Nat} {f : Nat → Int} (h : ∀ i ∈ l, 0 ≤ f i) : 0 ≤ (l.map f).sum := by
  induction l with
  | nil => simp
  | cons a l ih =>
    have h1 := h a (by simp)
    have h2 := ih fun i hi => h i (by simp [hi])
    simp only [List.map_cons, List.sum_cons]; omega

theorem waysF_nonneg (ks : List Int) : ∀ (r : Nat) (ts : List Int), 0 ≤ waysF ks r ts
  | 0, _ => by simp [waysF]
  | r + 1, ts => by
    simp only [waysF]
    refine sum_nonneg fun i _ => ?_
    split
    · exact waysF_nonneg ks r _
    · exact Int.le_refl _

def LeT (ts us : List Int) : Prop := ts.length = us.length ∧ ∀ j, j < ts.length → ts[j]?.getD 0 ≤ us[j]?.getD 0

theorem LeT.less {ts us : List Int} (h : LeT ts us) (i : Nat) : LeT (ts.set i (ts[i]?.getD 0 - 1)) (us.set i (us[i]?.getD 0 - 1)) := by
  refine ⟨by simpa using h.1, fun j hj => ?_⟩
  simp only [List.length_set] at hj
  have hju : j < us.length := by rw [← h.1]; exact hj
  have := h.2 j hj
  by_cases hij : i = j
  · subst hij
    rw [List.getElem?_set_self hj, List.getElem?_set_self hju]
    simp only [Option.getD_some]; omega
  · rw [List.getElem?_set_ne hij, List.getElem?_set_ne hij]; exact this

/-- more times left, and no more known: no fewer ways -/
theorem waysF_mono {ks ls : List Int} (hl : ks.length = ls.length) (hk : ∀ t i : Nat, ((ls[t]?.getD (0 : Int)).toNat.testBit i) = true → ((ks[t]?.getD (0 : Int)).toNat.testBit i) = true) : ∀ (r : Nat) (ts us : List Int), LeT ts us → waysF ks r ts ≤ waysF ls r us
  | 0, _, _, _ => by simp [waysF]
  | r + 1, ts, us, h => by
    simp only [waysF]
    rw [h.1]
    refine sum_mono fun i hi => ?_
    have hi : i < us.length := by simpa using hi
    by_cases hc : canB ks ts (ks.length - (r + 1)) i = true
    · have hc' : canB ls us (ls.length - (r + 1)) i = true := by
        rw [← hl]
        simp only [canB, Bool.and_eq_true, decide_eq_true_eq, Bool.not_eq_true'] at hc ⊢
        refine ⟨by have := h.2 i (by rw [h.1]; exact hi); omega, ?_⟩
        cases hb : ((ls[ks.length - (r + 1)]?.getD 0).toNat.testBit i) with
        | false => rfl
        | true => rw [hk _ _ hb] at hc; exact absurd hc.2 (by simp)
      rw [if_pos hc, if_pos hc']
      exact waysF_mono hl hk r _ _ (h.less i)
    · rw [if_neg hc]
      split
      · exact waysF_nonneg _ _ _
      · exact Int.le_refl _

theorem sum_const_le (n : Nat) (f : Nat → Int) (M : Int) (h : ∀ i, i < n → f i ≤ M) : ((List.range n).map f).sum ≤ n * M := by
  induction n with
  | zero => simp
  | succ n ih =>
    rw [List.range_succ, List.map_append, List.sum_append]
    have h1 := ih fun i hi => h i (by omega)
    have h2 := h n (by omega)
    have h3 : ((n + 1 : Nat) : Int) * M = n * M + M := by rw [Int.natCast_add, Int.add_mul]; simp
    simp only [List.map_cons, List.map_nil, List.sum_cons, List.sum_nil]
    omega

theorem sum_mul (l : List Nat) (f : Nat → Int) (M : Int) : (l.map f).sum * M = (l.map fun i => f i * M).sum := by
  induction l with
  | nil => simp
  | cons a l ih => simp only [List.map_cons, List.sum_cons, Int.add_mul, ih]

/-- a test more -/
theorem waysF_long {ks : List Int} (k : Int) : ∀ (r : Nat) (ts : List Int), r ≤ ks.length → waysF (ks ++ [k]) (r + 1) ts ≤ waysF ks r ts * ts.length
  | 0, ts, _ => by
    have := sum_const_le ts.length (fun i => if canB (ks ++ [k]) ts ((ks ++ [k]).length - (0 + 1)) i then waysF (ks ++ [k]) 0 (ts.set i (ts[i]?.getD 0 - 1)) else 0) 1 (fun i _ => by
      split
      · simp [waysF]
      · omega)
    simp only [waysF] at this ⊢
    omega
  | r + 1, ts, hr => by
    rw [waysF, waysF, sum_mul]
    refine sum_mono fun i hi => ?_
    have e : canB (ks ++ [k]) ts ((ks ++ [k]).length - (r + 1 + 1)) i = canB ks ts (ks.length - (r + 1)) i := by
      have hlt : ks.length - (r + 1) < ks.length := by omega
      simp only [canB, List.length_append, List.length_cons, List.length_nil]
      rw [show ks.length + (0 + 1) - (r + 1 + 1) = ks.length - (r + 1) by omega, List.getElem?_append_left hlt]
    rw [e]
    split
    · have := waysF_long (ks := ks) k r (ts.set i (ts[i]?.getD 0 - 1)) (by omega)
      rw [List.length_set] at this
      exact this
    · simp

theorem checkV_ok {ts ks : List Int} (h : DrawOk ts ks) : checkV ts ks = tup3 0 0 0 := by
  have h1 : inB ts.length 1 6 = true := inB_iff.2 (by have := h.tl; omega)
  have h2 : firstBad 0 4 ts = none := firstBad_none fun j hj => inB_iff.2 (h.tr j hj)
  have h3 : firstBad 0 (capF ts.length) ks = none := firstBad_none fun j hj => inB_iff.2 (h.kr j hj)
  simp [checkV, h1, h2, h3, h.kl]

theorem set_leT {ts : List Int} {i : Nat} {m : Int} (h : ts[i]?.getD 0 ≤ m) : LeT ts (ts.set i m) := by
  refine ⟨by simp, fun j hj => ?_⟩
  by_cases hij : i = j
  · subst hij; rw [List.getElem?_set_self hj]; exact h
  · rw [List.getElem?_set_ne hij]; exact Int.le_refl _

theorem sub_bits {S i : Nat} (h : S.testBit i = true) : ∀ j, (S - 2 ^ i).testBit j = true → S.testBit j = true := by
  intro j hj
  obtain ⟨q, hq⟩ : ∃ q, q = S / 2 ^ i := ⟨_, rfl⟩
  obtain ⟨lo, hlo⟩ : ∃ lo, lo = S % 2 ^ i := ⟨_, rfl⟩
  have hp : 0 < 2 ^ i := Nat.pow_pos (by omega)
  have hlt : lo < 2 ^ i := by rw [hlo]; exact Nat.mod_lt _ hp
  have hS : S = 2 ^ i * q + lo := by rw [hq, hlo]; exact (Nat.div_add_mod S (2 ^ i)).symm
  have hodd : q % 2 = 1 := by
    rw [Nat.testBit_eq_decide_div_mod_eq, ← hq] at h
    simpa using h
  obtain ⟨a, ha⟩ : ∃ a, q = 2 * a + 1 := ⟨q / 2, by omega⟩
  have hS2 : S - 2 ^ i = 2 ^ i * (2 * a) + lo := by
    rw [hS, ha, Nat.mul_add, Nat.mul_one]; omega
  rw [hS2, Nat.testBit_two_pow_mul_add _ hlt] at hj
  rw [hS, Nat.testBit_two_pow_mul_add _ hlt]
  by_cases hji : j < i
  · rw [if_pos hji] at hj ⊢; exact hj
  · rw [if_neg hji] at hj ⊢
    rw [ha]
    cases hk : j - i with
    | zero => rw [hk] at hj; simp at hj
    | succ k =>
      rw [hk, Nat.testBit_succ] at hj
      rw [Nat.testBit_succ, show (2 * a + 1) / 2 = a by omega]
      rwa [show 2 * a / 2 = a by omega] at hj

end Go.Proofs.Ytphdemhopihpnaa.AM

namespace Go.Proofs.Ytphdemhopihpnaa.AM
open Go
set_option linter.unusedVariables false
set_option linter.unusedSimpArgs false

abbrev lessF (us : List Int) (i : Nat) : List Int := us.set i (us[i]?.getD 0 - 1)

/-- the ways by the examiners before i -/
def preF (ks : List Int) (r : Nat) (us : List Int) (i : Nat) : Int :=
  ((List.range i).map fun i => if canB ks us (ks.length - (r + 1)) i then waysF ks r (us.set i (us[i]?.getD 0 - 1)) else 0).sum
theorem preF_succ (ks : List Int) (r : Nat) (us : List Int) (i : Nat) : preF ks r us (i + 1) = preF ks r us i + if canB ks us (ks.length - (r + 1)) i then waysF ks r (lessF us i) else 0 := by
  unfold preF
  rw [List.range_succ, List.map_append, List.sum_append]
  simp
theorem preF_zero (ks : List Int) (r : Nat) (us : List Int) : preF ks r us 0 = 0 := rfl
theorem preF_full (ks : List Int) (r : Nat) (us : List Int) : waysF ks (r + 1) us = preF ks r us us.length := rfl
theorem preF_nonneg (ks : List Int) (r : Nat) (us : List Int) (i : Nat) : 0 ≤ preF ks r us i := by
  unfold preF
  refine sum_nonneg fun i _ => ?_
  split
  · exact waysF_nonneg _ _ _
  · exact Int.le_refl _
theorem preF_mono (ks : List Int) (r : Nat) (us : List Int) {i j : Nat} (h : i ≤ j) : preF ks r us i ≤ preF ks r us j := by
  induction j with
  | zero => have : i = 0 := by omega
            subst this; exact Int.le_refl _
  | succ j ih =>
    by_cases hij : i ≤ j
    · rw [preF_succ]
      have h1 := ih hij
      have : 0 ≤ if canB ks us (ks.length - (r + 1)) j then waysF ks r (lessF us j) else 0 := by
        split
        · exact waysF_nonneg _ _ _
        · exact Int.le_refl _
      omega
    · have : i = j + 1 := by omega
      subst this; exact Int.le_refl _

theorem waysQL_pre {ks : List Int} {n r : Nat} {us : List Int} {K : Memo} (hr : r + 1 ≤ ks.length) (hd : Dig n us) (hR : RightQ ks n K) : ∀ i, i ≤ us.length → (waysQL ks r us K i).1 = preF ks r us i ∧ RightQ ks n (waysQL ks r us K i).2 := by
  intro i
  induction i with
  | zero => intro _; exact ⟨rfl, hR⟩
  | succ i ih =>
    intro hi
    obtain ⟨h1, h2⟩ := ih (by omega)
    rw [waysQL_succ, preF_succ]
    by_cases hc : canB ks us (ks.length - (r + 1)) i = true
    · obtain ⟨g1, g2⟩ := waysQ_right r (us.set i (us[i]?.getD 0 - 1)) (waysQL ks r us K i).2 (by omega) (dig_less hd (by omega) hc) h2
      rw [if_pos hc, if_pos hc]
      exact ⟨by simp only [h1, g1, lessF], g2⟩
    · rw [if_neg hc, if_neg hc]
      exact ⟨by rw [h1]; simp, h2⟩

/-- the assignment with index x, with r tests left -/
def pickF (ks : List Int) : (r : Nat) → (us : List Int) → (x : Int) → List Int
  | 0, _, _ => []
  | r + 1, us, x => match (List.range us.length).find? (fun i => canB ks us (ks.length - (r + 1)) i && decide (x < preF ks r us (i + 1))) with
    | some i => (i : Int) :: pickF ks r (lessF us i) (x - preF ks r us i)
    | none => []

theorem pick_step {ks : List Int} {r : Nat} {us : List Int} {x : Int} {j : Nat} (hj : j < us.length) (hc : canB ks us (ks.length - (r + 1)) j = true) (hx : x < preF ks r us (j + 1))
    (hb : ∀ k, k < j → canB ks us (ks.length - (r + 1)) k = true → preF ks r us (k + 1) ≤ x) : pickF ks (r + 1) us x = (j : Int) :: pickF ks r (lessF us j) (x - preF ks r us j) := by
  have : (List.range us.length).find? (fun i => canB ks us (ks.length - (r + 1)) i && decide (x < preF ks r us (i + 1))) = some j := by
    rw [List.find?_range_eq_some]
    refine ⟨by simp [hc, hx], by simpa using hj, fun k hk => ?_⟩
    simp only [Bool.not_eq_true', Bool.and_eq_false_iff, decide_eq_false_iff_not]
    cases hck : canB ks us (ks.length - (r + 1)) k with
    | false => exact .inl rfl
    | true => exact .inr (by have := hb k hk hck; omega)
  simp only [pickF, this]

theorem pre_le {ks : List Int} {r : Nat} {us : List Int} {x : Int} (hx : 0 ≤ x) : ∀ (j : Nat), (∀ k, k < j → canB ks us (ks.length - (r + 1)) k = true → preF ks r us (k + 1) ≤ x) → preF ks r us j ≤ x
  | 0, _ => hx
  | j + 1, h => by
    by_cases hc : canB ks us (ks.length - (r + 1)) j = true
    · exact h j (by omega) hc
    · rw [preF_succ, if_neg hc]
      have := pre_le hx j fun k hk => h k (by omega)
      omega

theorem pickF_length {ks : List Int} : ∀ (r : Nat) (us : List Int) (x : Int), r ≤ ks.length → 0 ≤ x → x < waysF ks r us → (pickF ks r us x).length = r
  | 0, _, _, _, _, _ => rfl
  | r + 1, us, x, hr, h0, h1 => by
    rw [preF_full] at h1
    have hex : ∃ j, j < us.length ∧ canB ks us (ks.length - (r + 1)) j = true ∧ x < preF ks r us (j + 1) ∧ ∀ k, k < j → canB ks us (ks.length - (r + 1)) k = true → preF ks r us (k + 1) ≤ x := by
      cases hf : (List.range us.length).find? (fun i => canB ks us (ks.length - (r + 1)) i && decide (x < preF ks r us (i + 1))) with
      | some j =>
        rw [List.find?_range_eq_some] at hf
        obtain ⟨h2, h3, h4⟩ := hf
        simp only [Bool.and_eq_true, decide_eq_true_eq] at h2
        refine ⟨j, by simpa using h3, h2.1, h2.2, fun k hk hck => ?_⟩
        have := h4 k hk
        simp only [hck, Bool.true_and, Bool.not_eq_true', decide_eq_false_iff_not] at this
        omega
      | none =>
        exfalso
        simp only [List.find?_eq_none, List.mem_range, Bool.and_eq_true, decide_eq_true_eq, not_and] at hf
        have := pre_le (ks := ks) (r := r) (us := us) h0 us.length fun k hk hck => by have := hf k hk hck; omega
        omega
    obtain ⟨j, hj, hc, hx, hb⟩ := hex
    rw [pick_step hj hc hx hb, List.length_cons]
    have hpj := pre_le (ks := ks) (r := r) (us := us) h0 j hb
    have hs := preF_succ ks r us j
    rw [if_pos hc] at hs
    rw [pickF_length r _ _ (by omega) (by omega) (by omega)]

end Go.Proofs.Ytphdemhopihpnaa.AM

namespace Go.Proofs.Ytphdemhopihpnaa.AM
open Go
set_option linter.unusedVariables false
set_option linter.unusedSimpArgs false

theorem Weak.undef {fx : Fx} {vals vals' : List AV} {τ : List AObj} (hv : Subs vals vals') : Weak fx ⟨vals, τ⟩ ⟨vals', τ⟩ := by
  intro m X en ac w hs
  refine ⟨m, ⟨hs.size, fun i t hi => ?_, hs.defs, hs.heap, hs.base, hs.entry⟩, Step.refl _ _ _ _⟩
  have hrel := hs.vars i t hi
  rcases hv.get i with h1 | h1
  · dsimp only at h1 ⊢; rw [h1]; exact hrel
  · dsimp only at h1 ⊢; rw [h1]; simp [VRel]

theorem Cl.mem {σ : List AObj} (h : Cl σ) : ∀ o ∈ σ, objIn σ.length o = true := fun o ho => by
  obtain ⟨j, hj⟩ := List.getElem?_of_mem ho
  exact h j o hj

/-- what append leaves of the slice that it was given -/
def killF (v : AV) (σ : List AObj) : List AObj := match v with | .sl p _ _ _ => σ.set p .dead | _ => σ
theorem killF_len (v : AV) (σ : List AObj) : (killF v σ).length = σ.length := by cases v <;> simp [killF]
theorem killF_cl {v : AV} {σ : List AObj} (h : Cl σ) : Cl (killF v σ) := by
  cases v with
  | sl p _ _ _ => exact h.set p rfl
  | _ => exact h
theorem acc_kill {b : Nat} {σ : List AObj} {v : AV} {zs : List Int} (z : Int) (h : AccFrom b σ v zs) (hl : zs.length < 2 ^ 40) {τ : List AObj} {q : Nat} (hq : rowOf τ q = some [.i z]) (hτ : ∀ l cs, b ≤ l → rowOf σ l = some cs → rowOf τ l = some cs) :
    f_append 1 8 [v, .sl q 0 1 1] τ = some (.sl τ.length 0 (zs.length + 1) 1, killF v τ ++ [.cells ((zs ++ [z]).map .i)]) := by
  rcases h.2 with ⟨rfl, rfl⟩ | ⟨l, hbl, rfl, hr⟩
  · have hsrc : srcCells τ 1 (.sl q 0 1 1) = some [.i z] := by simp [srcCells, hq]
    simp only [f_append, hsrc, lenF, Option.bind_some]
    rfl
  · have hr' := hτ l _ hbl hr
    rw [append_O, hr', hq]
    exact apO_ints hl l τ z []
theorem killF_get {b : Nat} {σ : List AObj} {v : AV} {zs : List Int} (h : AccFrom b σ v zs) (τ : List AObj) {l : Nat} (hl : l < b ∨ ∀ cs, rowOf σ l ≠ some cs) : (killF v τ)[l]? = τ[l]? := by
  rcases h.2 with ⟨rfl, rfl⟩ | ⟨p, hbl, rfl, hr⟩
  · rfl
  · simp only [killF]
    refine List.getElem?_set_ne ?_
    rintro rfl
    rcases hl with hl | hl
    · omega
    · exact hl _ hr

def ia58 : IC := (.seq (.region [jw 6 .mv [.v 13]])
 (.region [jw 7 (.alloc [(.cv (.int .i64 0)), (.cv (.int .i64 0)), (.cv (.int .i64 0)), (.cv (.int .i64 0)), (.cv (.int .i64 0)), (.cv (.int .i64 0)), (.cv (.int .i64 0))]) [], jq (.store 7) [.v 7, .v 14]]))
def ib58 : IC := (.block 3 (.seq (.seq (.region [jL 2, jN 7 7, jk 54 [.t 0, .t 1], jm 8 2])
 (.seq (.region [jL 3, jv 8, jw 15 (.bin .geq .int) [.t 0, .t 1]])
 (.cond 15 (.seq (.region [jL 3, jv 8, jq (.bin .sub .int) [.t 0, .t 1], jq (.store 1) [.v 3, .t 2]])
 (.exit 3))
 .skip)))
 (.seq (.dr [[], [], [1], [0, 2], [], [3, 3, 0, 1, 2, 3], [4, 5, 0, 1, 2, 3, 4, 5]] [jL 4, jv 6, jq (.bslice 1 1 [(.cv (.int .i64 0))] [(0, 1)]) [.t 1], jq (.append 1 8) [.t 0, .t 2], jN 7 7, jq (.store 1) [.v 4, .t 3], jq (.store 7) [.v 5, .t 4]])
 (.exit 1))))
theorem ca58 : compC Try.prog vs58 40 (nav [1, 0, 1, 1, 0, 1, 0, 0, 1, 1, 0, 0, 1, 0, 2] (Try.f58.body.getD .skip)) = some ia58 := by kernel_rfl
theorem cb58 : compC Try.prog vs58 40 (nav [1, 0, 1, 1, 0, 1, 0, 0, 1, 1, 0, 0, 1, 0, 3] (Try.f58.body.getD .skip)) = some ib58 := by kernel_rfl

structure PSt (ts0 ks : List Int) (x : Int) (t : Nat) (σ : List AObj) (K : Memo) (us zs : List Int) (x' : Int) (v : AV) : Prop where
  o0 : σ[0]? = some (.cells [ints ts0, ints ks, .map 1])
  o1 : σ[1]? = some (.map (rendK K))
  o2 : σ[2]? = some (.cells [.ptr 0 0])
  o3 : σ[3]? = some (.cells [.i x'])
  o4 : σ[4]? = some (.cells [v])
  o5 : σ[5]? = some (.cells (keyCs t us))
  acc : AccFrom 6 σ v zs
  cl : Cl σ
  kr : RightQ ks ts0.length K
  ud : Dig ts0.length us
  xb : 0 ≤ x' ∧ x' < waysF ks (ks.length - t) us
  eq : zs ++ pickF ks (ks.length - t) us x' = pickF ks ks.length ts0 x
  zl : zs.length = t

theorem rowOf_get {σ : List AObj} {l : Nat} {cs : List AV} (h : σ[l]? = some (.cells cs)) : rowOf σ l = some cs := by unfold rowOf; rw [h]

theorem c58 (ts0 ks : List Int) (hok : DrawOk ts0 ks) (K : Memo) (hR : RightQ ks ts0.length K) (x : Int) (hx : 0 ≤ x ∧ x < waysF ks ks.length ts0) :
    AC Try.prog 58 [.ptr 0 0, .i x] (hp2 ts0 ks K) fun v τ => ∃ K', RightQ ks ts0.length K' ∧ τ[0]? = some (.cells [ints ts0, ints ks, .map 1]) ∧ τ[1]? = some (.map (rendK K')) ∧ AccFrom 2 τ v (pickF ks ks.length ts0 x) := by
  refine AC_FE (fok58 true) (Nat.le_of_ble_eq_true rfl) ?_
  have h6 := hok.tl
  have hk8 := hok.kl
  simp only [ic58, f_box, cellsOf, evA, if_true, if_false, beq_false, simprocAttr]
  refine AC.run (c55 0 ts0 [ints ks, .map 1] _ rfl h6.2) ?_
  have hp6 := pad6_len h6.2
  have hsr : ∀ x : AV, setRange [x, .cv (.int .i64 0), .cv (.int .i64 0), .cv (.int .i64 0), .cv (.int .i64 0), .cv (.int .i64 0), .cv (.int .i64 0)] 1 ((pad6 ts0).map AV.i) = x :: (pad6 ts0).map AV.i := fun x => setRange_1 (by simp [hp6])
  simp only [cellsOf, hp6, isSc_ints, hsr, evA, if_true, if_false, beq_false, simprocAttr]
  refine IL_for ks.length (fun t s => ∃ σ K us zs x' v, PSt ts0 ks x t σ K us zs x' v ∧ s = ⟨[.ptr 0 0, .i x, .ptr 2 0, .ptr 3 0, .ptr 4 0, .ptr 5 0, .undef, .undef, .undef, .i ks.length, .i t, .undef, .undef, .undef, .undef, .undef], σ⟩) ?_ 0 (Nat.zero_le _) ⟨_, K, ts0, [], x, .cv .nils, ⟨rfl, rfl, rfl, rfl, rfl, rfl, AccFrom.nil (by simp), ?_, hR, ⟨rfl, hok.tr⟩, hx, rfl, rfl⟩, rfl⟩
  rotate_left
  · intro l o ho
    match l, ho with
    | 0, ho | 2, ho | 3, ho | 4, ho => cases ho; rfl
    | 1, ho => cases ho; exact objIn_rend _ _
    | 5, ho => cases ho; exact objIn_key _ 0 ts0
  rintro t s htl ⟨σ, K, us, zs, x', v, hP, rfl⟩
  by_cases h : t < ks.length
  rotate_left
  · have hte : t = ks.length := by omega
    subst hte
    have r4 := rowOf_get hP.o4
    have heq : zs = pickF ks ks.length ts0 x := by
      have := hP.eq
      rw [Nat.sub_self] at this
      simpa [pickF] using this
    have hst := set_same hP.o4
    have hac := hP.acc
    rw [heq] at hac
    have hfin : ∃ K', RightQ ks ts0.length K' ∧ σ[0]? = some (.cells [ints ts0, ints ks, .map 1]) ∧ σ[1]? = some (.map (rendK K')) ∧ AccFrom 2 σ v (pickF ks ks.length ts0 x) :=
      ⟨K, hP.kr, hP.o0, hP.o1, by have := hac.1; omega, hac.2.imp id fun ⟨l, h1, h2⟩ => ⟨l, by omega, h2⟩⟩
    rcases hac.2 with ⟨hv, _⟩ | ⟨l, _, hv, _⟩
    · subst hv
      simp only [ic58l0, Int.ofNat_lt, h, r4, cellsOf, hst, evA, if_true, if_false, beq_false, simprocAttr]
      exact hfin
    · subst hv
      simp only [ic58l0, Int.ofNat_lt, h, r4, cellsOf, hst, evA, if_true, if_false, beq_false, simprocAttr]
      exact hfin
  obtain ⟨r, hr⟩ : ∃ r, ks.length - t = r + 1 := ⟨ks.length - t - 1, by omega⟩
  have hrt : ks.length - (r + 1) = t := by omega
  have hu6 : us.length ≤ 6 := by rw [hP.ud.1]; exact h6.2
  have hup6 := pad6_len hu6
  have hutk : ((pad6 us).map AV.i).take 6 = (pad6 us).map AV.i := List.take_of_length_le (by simp [hup6])
  have r2 := rowOf_get hP.o2
  have r5 := rowOf_get hP.o5
  simp only [ic58l0, Int.ofNat_lt, h, r2, r5, hup6, hutk, evA, if_true, if_false, beq_false, simprocAttr]
  refine AC.run (c60 0 t us σ hu6) ?_
  simp only [evA, if_true, if_false, beq_false, simprocAttr]
  refine RW_s (gf := 75) (cap := [.ptr σ.length 0, .ptr (σ.length + 1) 0]) rfl (Nat.le_of_ble_eq_true rfl) (fun l h => by cases h) ?_
  generalize hRR : newLoop _ _ _ _ _ = R
  have e1 : R.vars = vs58 := by rw [← hRR]; rfl
  have e2 : R.ntmps = 40 := by rw [← hRR]; rfl
  have e3 : R.params = [22, 23] := by rw [← hRR]; rfl
  have e4 : R.vals = [.ptr 0 0, .i x, .ptr 2 0, .ptr 3 0, .ptr 4 0, .ptr 5 0, .undef, .undef, .undef, .i ks.length, .i t, .b true, .fn (.func 75) [.ptr σ.length 0, .ptr (σ.length + 1) 0], .undef, .undef, .undef] := by rw [← hRR]; rfl
  have e5 : R.state = .ready := by rw [← hRR]; rfl
  have e6 : R.pending = none := by rw [← hRR]; rfl
  have e7 : compC Try.prog vs58 40 R.assign = some ia58 := by rw [← hRR]; exact ca58
  have e8 : compC Try.prog vs58 40 R.body = some ib58 := by rw [← hRR]; exact cb58
  have e9 : ({ { R with state := .busy, pending := none } with state := .ready, pending := none } : ALoop) = R := by
    clear hRR; cases R; simp_all
  clear hRR
  have hN6 : 6 ≤ σ.length := hP.acc.1
  have hlen2 : (σ ++ [AObj.cells [.ptr 0 0], AObj.cells (keyCs t us)]).length = σ.length + 2 := by simp
  have hrk : r + 1 ≤ ks.length := by omega
  have hQL := waysQL_pre (ks := ks) (r := r) (us := us) (K := K) hrk hP.ud hP.kr
  obtain ⟨X, hX⟩ : ∃ X : Nat → AObj, ∀ i, X i = .cells (keyCs (t + 1) (lessF us i)) := ⟨_, fun _ => rfl⟩
  obtain ⟨G, hG⟩ : ∃ G : Nat → List AObj, ∀ i, G i = (σ.set 1 (.map (rendK (waysQL ks r us K i).2))).set 3 (.cells [.i (x' - preF ks r us i)]) := ⟨_, fun _ => rfl⟩
  obtain ⟨H, hH⟩ : ∃ H : Nat → List AObj, ∀ i, H i = G i ++ [AObj.cells [.ptr 0 0], .cells (keyCs t us), .loop R] := ⟨_, fun _ => rfl⟩
  have hG0 : G 0 = σ := by
    rw [hG, preF_zero, Int.sub_zero]
    have : (waysQL ks r us K 0).2 = K := rfl
    rw [this, set_same hP.o1, set_same hP.o3]
  have hGl : ∀ i, (G i).length = σ.length := fun i => by rw [hG]; simp
  have hHl : ∀ i, (H i).length = σ.length + 3 := fun i => by rw [hH]; simp [hGl]
  have hGn : ∀ i l, l ≠ 1 → l ≠ 3 → (G i)[l]? = σ[l]? := fun i l h1 h3 => by
    rw [hG, List.getElem?_set_ne (by omega), List.getElem?_set_ne (by omega)]
  have hHlo : ∀ i l, l < σ.length → (H i)[l]? = (G i)[l]? := fun i l hl => by rw [hH, List.getElem?_append_left (by rw [hGl]; exact hl)]
  have hHhi : ∀ i k, (H i)[σ.length + k]? = [AObj.cells [.ptr 0 0], .cells (keyCs t us), .loop R][k]? := fun i k => by
    rw [hH, List.getElem?_append_right (by rw [hGl]; omega), hGl, Nat.add_sub_cancel_left]
  have hap2 : ∀ (n : Nat) (L : List AObj) (k : Nat), σ.length + 3 ≤ k → (H n ++ L)[k]? = L[k - (σ.length + 3)]? := fun n L k h => by rw [List.getElem?_append_right (by rw [hHl]; exact h), hHl]
  have hG1 : ∀ i, (G i)[1]? = some (.map (rendK (waysQL ks r us K i).2)) := fun i => by
    rw [hG, List.getElem?_set_ne (by omega), List.getElem?_set_self (by omega)]
  have hG3 : ∀ i, (G i)[3]? = some (.cells [.i (x' - preF ks r us i)]) := fun i => by
    rw [hG, List.getElem?_set_self (by simp; omega)]
  have hRin : ∀ n, σ.length + 3 ≤ n → objIn n (.loop R) = true := fun n hn => by
    simp [objIn, e4, locsInAll, locsIn]
    omega
  have hGcl : ∀ i, Cl (G i) := fun i => by
    rw [hG]
    exact (hP.cl.set 1 (objIn_rend _ _)).set 3 rfl
  have hHcl : ∀ i, Cl (H i) := fun i => by
    rw [hH, show [AObj.cells [.ptr 0 0], .cells (keyCs t us), .loop R] = [AObj.cells [.ptr 0 0]] ++ [AObj.cells (keyCs t us)] ++ [AObj.loop R] from rfl, ← List.append_assoc, ← List.append_assoc]
    refine (((hGcl i).push ?_).push (objIn_key _ _ _)).push (hRin _ (by simp [hGl]))
    simp [objIn, locsInAll, locsIn]
  have hG0' : (σ ++ [AObj.cells [.ptr 0 0], AObj.cells (keyCs t us)]) ++ [AObj.loop R] = H 0 := by rw [hH, hG0]; simp
  rw [hG0', hlen2]
  obtain ⟨go, hgo⟩ : ∃ go : Nat → Bool, ∀ i, go i = decide (x' - preF ks r us i ≥ waysF ks r (lessF us i)) := ⟨_, fun _ => rfl⟩
  obtain ⟨T2, hT2⟩ : ∃ T2 : Nat → List AObj, ∀ i, T2 i = (((H i ++ [X i]) ++ [X i]).set (σ.length + 2) (.loop { R with state := .busy, pending := none })).set 1 (.map (rendK (waysQL ks r us K (i + 1)).2)) := ⟨_, fun _ => rfl⟩
  obtain ⟨F, hF⟩ : ∃ F : Nat → List AObj, ∀ i, F i = ((((killF v (T2 i ++ [AObj.cells [.i i]])) ++ [AObj.cells ((zs ++ [(i : Int)]).map .i)]).set 4 (.cells [.sl (σ.length + 6) 0 (zs.length + 1) 1])).set 5 (X i)).set (σ.length + 2) (.loop { R with state := .done, pending := some (.exit 1) }) := ⟨_, fun _ => rfl⟩
  have hT2l : ∀ i, (T2 i).length = σ.length + 5 := fun i => by rw [hT2]; simp [hHl]
  have hT2cl : ∀ i, Cl (T2 i) := fun i => by
    rw [hT2]
    refine Cl.set (Cl.set (Cl.push (Cl.push (hHcl i) ?_) ?_) (σ.length + 2) ?_) 1 (objIn_rend _ _)
    · rw [hX]; exact objIn_key _ _ _
    · rw [hX]; exact objIn_key _ _ _
    · simp only [List.length_append, List.length_cons, List.length_nil, hHl]
      exact hRin _ (by omega)
  have hFcl : ∀ i, Cl (F i) := fun i => by
    rw [hF]
    refine Cl.set (Cl.set (Cl.set (Cl.push (killF_cl (Cl.push (hT2cl i) (show objIn _ (AObj.cells [.i i]) = true from rfl))) (objIn_ints _ _)) 4 ?_) 5 ?_) (σ.length + 2) ?_
    · simp [objIn, locsInAll, locsIn, killF_len, hT2l]
    · rw [hX]; exact objIn_key _ _ _
    · simp only [List.length_set, List.length_append, List.length_cons, List.length_nil, killF_len, hT2l]
      exact hRin _ (by omega)
  have hFl : ∀ i, (F i).length = σ.length + 7 := fun i => by rw [hF]; simp [killF_len, hT2l]
  refine (c75 ts0 ks us (.map 1) σ.length (σ.length + 1) 0 (σ.length + 2) t H F go hok hP.ud.1 hP.ud.2 (by omega) (fun i hi => ?_) (by rw [hHl]; omega) (fun i hi hc => ?_) (fun i hi hc hb => ?_) (fun i hi hc hb hg => ?_)).mono ?_
  · refine ⟨by rw [hHl, hHl], rowOf_get (hHhi i 0), rowOf_get ?_, rowOf_get (hHhi i 1), fun o ho => ?_⟩
    · rw [hHlo i 0 (by omega), hGn i 0 (by omega) (by omega)]; exact hP.o0
    · have := (hHcl i).mem o ho
      rwa [hHl i, ← hHl 0] at this
  · rw [hH, hH, hG, hG, waysQL_succ, preF_succ, hrt, hc]
    simp
  · have hdi := dig_less hP.ud hi hc
    have hQi := hQL i (by omega)
    have h54 := fun (τ : List AObj) h1 h2 => c54f ts0 ks hok r (lessF us i) (waysQL ks r us K i).2 (by omega) hdi hQi.2 (σ := τ) 0 1 (by omega) h1 h2
    have hsucc := waysQL_succ ks r us K i
    rw [hrt, hc, if_pos rfl] at hsucc
    have hK' : (waysQ ks r (lessF us i) (waysQL ks r us K i).2).2 = (waysQL ks r us K (i + 1)).2 := by rw [hsucc]
    rw [hK', show ks.length - r = t + 1 by omega] at h54
    have hgi := hgo i
    have hXi := hX i
    have hT2i := hT2 i
    have hps := preF_succ ks r us i
    rw [hrt, hc, if_pos rfl] at hps
    have hHn : H (i + 1) = G (i + 1) ++ [AObj.cells [.ptr 0 0], .cells (keyCs t us), .loop R] := hH _
    have hGn1 := hG (i + 1)
    have hFi := hF i
    have hwb := waysF_bounds ks r (lessF us i) (by simpa using hu6)
    have hk68 : 6 ^ r ≤ 6 ^ 8 := Nat.pow_le_pow_right (by omega) (by omega)
    rw [hXi] at hT2i hFi
    show YC _ _ [.i i, keyV (t + 1) (lessF us i)] (H i ++ [.cells (keyCs (t + 1) (lessF us i))]) fun v τ => v = .b (go i) ∧ τ = if go i then H (i + 1) ++ [AObj.cells (keyCs (t + 1) (lessF us i))] else F i
    have hp62 : (pad6 (lessF us i)).length = 6 := pad6_len (by simpa using hu6)
    generalize lessF us i = us' at *
    have body : ∀ Q : AV → List AObj → Prop, (go i = true → Q (.b true) (H (i + 1) ++ [AObj.cells (keyCs (t + 1) us')] ++ [AObj.cells (keyCs (t + 1) us')])) → (go i = false → Q (.b false) (F i)) → YC Try.prog (σ.length + 2) [.i i, keyV (t + 1) us'] (H i ++ [AObj.cells (keyCs (t + 1) us')]) Q := by
      intro Q q1 q2
      have x22 : vs58.idxOf? 22 = some 13 := by decide
      have x23 : vs58.idxOf? 23 = some 14 := by decide
      have htk2 : ((pad6 us').map AV.i).take 6 = (pad6 us').map AV.i := List.take_of_length_le (by simp [hp62])
      have hsr2 : ∀ x : AV, setRange [x, .cv (.int .i64 0), .cv (.int .i64 0), .cv (.int .i64 0), .cv (.int .i64 0), .cv (.int .i64 0), .cv (.int .i64 0)] 1 ((pad6 us').map AV.i) = x :: (pad6 us').map AV.i := fun x => setRange_1 (by simp [hp62])
      have hsr3 : ∀ x y : AV, ∀ zs' : List Int, zs'.length = 6 → setRange (x :: zs'.map AV.i) 0 (y :: (pad6 us').map AV.i) = y :: (pad6 us').map AV.i := fun x y zs' hz => setRange_0 (by simp [hp62, hz])
      obtain ⟨B, hB⟩ : ∃ B, B = H i ++ [AObj.cells (keyCs (t + 1) us')] := ⟨_, rfl⟩
      have hBl : B.length = σ.length + 4 := by rw [hB]; simp [hHl]
      have hBH : ∀ l, l < σ.length + 3 → B[l]? = (H i)[l]? := fun l hl => by rw [hB, List.getElem?_append_left (by rw [hHl]; exact hl)]
      have hBr : B[σ.length + 2]? = some (.loop R) := by rw [hBH _ (by omega), hHhi i 2]; rfl
      rw [← hB]
      refine YC_IS (r := R) ia58 ib58 hBr e5 (by rw [e3]; rfl) (by rw [e1, e2, e3]; rfl) (by rw [e1, e2]; exact e7) (by rw [e1, e2]; exact e8) ?_
      rw [e1, e2, e3, e4]
      have ql := fun cs => rowOf_last B cs
      simp only [ia58, putPars, x22, x23, cellsOf, hp62, isSc_ints, hsr2, ql, set_end, kAsg_n, evA, if_true, if_false, beq_false, simprocAttr]
      refine ⟨R, by rw [List.getElem?_append_left (by omega)]; exact hBr, e5, ?_⟩
      rw [e6]
      obtain ⟨T1, hT1⟩ : ∃ T1, T1 = setLoop (B ++ [AObj.cells (keyCs (t + 1) us')]) (σ.length + 2) R .busy none := ⟨_, rfl⟩
      have hT1' : T1 = (B ++ [AObj.cells (keyCs (t + 1) us')]).set (σ.length + 2) (.loop { R with state := .busy, pending := none }) := hT1
      have tlo : ∀ l, l < σ.length → T1[l]? = (G i)[l]? := fun l hl => by
        rw [hT1', List.getElem?_set_ne (by omega), List.getElem?_append_left (by omega), hBH l (by omega), hHlo i l hl]
      have ty : T1[σ.length + 4]? = some (.cells (keyCs (t + 1) us')) := by
        rw [hT1', List.getElem?_set_ne (by omega), List.getElem?_append_right (by omega), hBl, Nat.sub_self]; rfl
      have tr : T1[σ.length + 2]? = some (.loop { R with state := .busy, pending := none }) := by
        rw [hT1', List.getElem?_set_self (by simp [hBl])]
      have t2 := rowOf_get ((tlo 2 (by omega)).trans ((hGn i 2 (by omega) (by omega)).trans hP.o2))
      have ty' := rowOf_get ty
      rw [← hT1]
      simp only [ib58, t2, ty', hBl, hp62, htk2, evA, if_true, if_false, beq_false, simprocAttr]
      refine AC.run (h54 T1 ((tlo 0 (by omega)).trans ((hGn i 0 (by omega) (by omega)).trans hP.o0)) ((tlo 1 (by omega)).trans (hG1 i))) ?_
      have hT2e : T1.set 1 (.map (rendK (waysQL ks r us K (i + 1)).2)) = T2 i := by rw [hT2i, hT1', hB]
      rw [hT2e]
      have slo : ∀ l, l ≠ 1 → (T2 i)[l]? = T1[l]? := fun l hl => by rw [← hT2e, List.getElem?_set_ne (by omega)]
      have s3 := rowOf_get ((slo 3 (by omega)).trans ((tlo 3 (by omega)).trans (hG3 i)))
      have s4 := rowOf_get ((slo 4 (by omega)).trans ((tlo 4 (by omega)).trans ((hGn i 4 (by omega) (by omega)).trans hP.o4)))
      have sy := rowOf_get ((slo (σ.length + 4) (by omega)).trans ty)
      have sr := (slo (σ.length + 2) (by omega)).trans tr
      simp only [s3, evA, if_true, if_false, beq_false, simprocAttr]
      cases hgi2 : go i
      · rw [hgi2] at hgi
        have hge : ¬ (x' - preF ks r us i ≥ waysF ks r us') := by simpa using hgi.symm
        have q2 := q2 hgi2
        simp only [hge, evA, if_true, if_false, beq_false, simprocAttr]
        refine DW_s [] [(0, 2), (4, 2), (4, 3), (4, 5)] hmix (by kernel_rfl) rfl ?_
        have hτl : (T2 i ++ [AObj.cells [AV.i i]]).length = σ.length + 6 := by simp [hT2l]
        have hap := acc_kill (i : Int) hP.acc (by rw [hP.zl]; omega) (τ := T2 i ++ [AObj.cells [AV.i i]]) (q := (T2 i).length) (rowOf_last _ _) (fun l cs hl hcs => by
          have hln := (List.getElem?_eq_some_iff.1 (rowOf_some hcs)).1
          refine rowOf_get ?_
          rw [List.getElem?_append_left (by rw [hT2l]; omega), slo l (by omega), tlo l hln, hGn i l (by omega) (by omega)]
          exact rowOf_some hcs)
        rw [hτl] at hap
        simp only [s4, hap, evA, if_true, if_false, beq_false, simprocAttr]
        obtain ⟨Z, hZ⟩ : ∃ Z, Z = killF v (T2 i ++ [AObj.cells [AV.i i]]) ++ [AObj.cells ((zs ++ [(i : Int)]).map .i)] := ⟨_, rfl⟩
        have hZl : Z.length = σ.length + 7 := by rw [hZ]; simp [killF_len, hT2l]
        have hZg : ∀ l, l < σ.length + 6 → (l < 6 ∨ σ.length ≤ l) → Z[l]? = (T2 i ++ [AObj.cells [AV.i i]])[l]? := fun l hl hc => by
          rw [hZ, List.getElem?_append_left (by rw [killF_len, hτl]; exact hl)]
          refine killF_get hP.acc _ (hc.imp id fun h cs hcs => ?_)
          have := (List.getElem?_eq_some_iff.1 (rowOf_some hcs)).1
          omega
        have hZ2 : ∀ l, l < σ.length + 5 → (l < 6 ∨ σ.length ≤ l) → Z[l]? = (T2 i)[l]? := fun l hl hc => by
          rw [hZg l (by omega) hc, List.getElem?_append_left (by rw [hT2l]; exact hl)]
        have zy := rowOf_get ((hZ2 (σ.length + 4) (by omega) (by omega)).trans (rowOf_some sy))
        have z4 := rowOf_get ((hZ2 4 (by omega) (by omega)).trans (rowOf_some s4))
        have z5 := rowOf_get ((hZ2 5 (by omega) (by omega)).trans ((slo 5 (by omega)).trans ((tlo 5 (by omega)).trans ((hGn i 5 (by omega) (by omega)).trans hP.o5))))
        have z5' : ∀ y, rowOf (Z.set 4 y) 5 = some (keyCs t us) := fun y => by rw [rowOf_set_ne (by omega)]; exact z5
        have hsr5 : setRange (.i ((t + 1 : Nat) : Int) :: (pad6 us).map AV.i) 1 ((pad6 us').map AV.i) = .i ((t + 1 : Nat) : Int) :: (pad6 us').map AV.i := setRange_1 (by simp [hp62, hup6])
        rw [← hZ]
        simp only [zy, z4, z5', hp62, htk2, cellsOf, isSc_ints, hsr5, hup6, evA, if_true, if_false, beq_false, simprocAttr]
        have zr : ((Z.set 4 (AObj.cells [AV.sl (σ.length + 6) 0 (zs.length + 1) 1])).set 5 (AObj.cells (.i ((t + 1 : Nat) : Int) :: (pad6 us').map AV.i)))[σ.length + 2]? = some (.loop { R with state := .busy, pending := none }) := by
          rw [List.getElem?_set_ne (by omega), List.getElem?_set_ne (by omega), hZ2 _ (by omega) (by omega)]; exact sr
        refine ⟨⟨?_, ?_, ?_, ?_⟩, ?_⟩
        · rw [List.getElem?_append_left (by rw [hT2l]; omega)]
        · rw [List.getElem?_append_left (by rw [hT2l]; omega)]
        · exact hZg _ (by omega) (by omega)
        · rw [List.getElem?_set_ne (by omega)]
        · rw [kRnd_x]
          refine ⟨_, zr, ?_⟩
          rw [hFi, ← hZ] at q2
          exact q2
      · rw [hgi2] at hgi
        have hge : x' - preF ks r us i ≥ waysF ks r us' := by simpa using hgi.symm
        have q1 := q1 hgi2
        have hwr : IntKind.i64.wrap (x' - preF ks r us i - waysF ks r us') = x' - preF ks r us (i + 1) := by
          have h1 := preF_nonneg ks r us i
          have h2 := hP.xb
          have h3 := waysF_bounds ks (ks.length - t) us hu6
          have h4 : 6 ^ (ks.length - t) ≤ 6 ^ 8 := Nat.pow_le_pow_right (by omega) (by omega)
          rw [hps]
          generalize 6 ^ (ks.length - t) = p1 at *
          generalize 6 ^ r = p2 at *
          rw [wrap_in (by omega)]; omega
        simp only [hge, s3, hwr, evA, if_true, if_false, beq_false, simprocAttr]
        rw [kRnd_n]
        refine ⟨_, by rw [List.getElem?_set_ne (by omega)]; exact sr, ?_⟩
        have hend : setLoop ((T2 i).set 3 (AObj.cells [.i (x' - preF ks r us (i + 1))])) (σ.length + 2) { R with state := .busy, pending := none } .ready none = H (i + 1) ++ [AObj.cells (keyCs (t + 1) us')] ++ [AObj.cells (keyCs (t + 1) us')] := by
          have e9' : ({ { R with state := .busy, pending := none } with state := .ready, pending := none } : ALoop) = R := e9
          show ((T2 i).set 3 _).set (σ.length + 2) (.loop { { R with state := .busy, pending := none } with state := .ready, pending := none }) = _
          rw [e9']
          apply List.ext_getElem?
          intro k
          rcases Nat.lt_trichotomy k (σ.length + 2) with hk | rfl | hk
          · rw [List.getElem?_set_ne (by omega), List.getElem?_append_left (by simp [hHl]; omega), List.getElem?_append_left (by simp [hHl]; omega)]
            rcases Nat.lt_or_ge k σ.length with hk2 | hk2
            · rw [hHlo _ k hk2]
              by_cases k3 : k = 3
              · subst k3; rw [List.getElem?_set_self (by rw [hT2l]; omega), hG3]
              · rw [List.getElem?_set_ne (by omega)]
                by_cases k1 : k = 1
                · subst k1; rw [← hT2e, List.getElem?_set_self (by rw [hT1']; simp; omega), hG1]
                · rw [slo k k1, tlo k hk2, hGn _ k k1 k3, hGn _ k k1 k3]
            · rw [List.getElem?_set_ne (by omega), slo k (by omega), hT1', List.getElem?_set_ne (by omega), List.getElem?_append_left (by omega), hBH k (by omega)]
              obtain ⟨k', rfl⟩ : ∃ k', k = σ.length + k' := ⟨k - σ.length, by omega⟩
              rw [hHhi, hHhi]
          · rw [List.getElem?_set_self (by simp [hT2l]), List.getElem?_append_left (by simp [hHl]), List.getElem?_append_left (by simp [hHl]), hHhi]; rfl
          · rw [List.getElem?_set_ne (by omega), List.getElem?_set_ne (by omega), slo k (by omega), hT1', List.getElem?_set_ne (by omega), hB, List.append_assoc, List.append_assoc, hap2 _ _ k (by omega), hap2 _ _ k (by omega)]
        rw [hend]
        exact q1
    cases hgi2 : go i
    · simp only [Bool.false_eq_true, if_false]
      exact body _ (fun h => by rw [hgi2] at h; cases h) (fun _ => ⟨rfl, rfl⟩)
    · simp only [if_true]
      refine YC.cut (body _ (fun _ => ⟨rfl, _, rfl⟩) (fun h => by rw [hgi2] at h; cases h)) (by simp [hHl]) rfl (fun l o ho => ?_)
      refine .inr ?_
      have hcl2 : Cl (H (i + 1) ++ [AObj.cells (keyCs (t + 1) us')]) := Cl.push (hHcl _) (objIn_key _ _ _)
      have := hcl2 l o ho
      simpa [hHl] using this
  · -- the round that stops
    refine ⟨rfl, by rw [hFl]; simp [hHl], fun l o ho _ => ⟨hFcl i l o ho, fun hl => ?_⟩⟩
    simp only [List.length_append, List.length_cons, List.length_nil, hHl] at hl
    have hlt := (List.getElem?_eq_some_iff.1 ho).1
    rw [hFl] at hlt
    rw [hF, List.getElem?_set_ne (by omega), List.getElem?_set_ne (by omega), List.getElem?_set_ne (by omega)] at ho
    rcases Nat.lt_or_ge l (σ.length + 6) with h1 | h1
    · rw [List.getElem?_append_left (by simp [killF_len, hT2l]; omega), killF_get hP.acc _ (.inr fun cs hcs => by
        have := (List.getElem?_eq_some_iff.1 (rowOf_some hcs)).1; omega)] at ho
      rcases Nat.lt_or_ge l (σ.length + 5) with h2 | h2
      · rw [List.getElem?_append_left (by rw [hT2l]; omega), hT2, List.getElem?_set_ne (by omega), List.getElem?_set_ne (by omega), hX, List.append_assoc, hap2 _ _ l (by omega)] at ho
        have : l = σ.length + 3 + 1 := by omega
        subst this
        rw [Nat.add_sub_cancel_left] at ho
        cases ho; trivial
      · have : l = (T2 i).length := by rw [hT2l]; omega
        subst this
        simp at ho; subst ho; trivial
    · rw [List.getElem?_append_right (by simp [killF_len, hT2l]; omega)] at ho
      have := List.mem_of_getElem? ho
      simp at this; subst this; trivial
  · rintro vv τ (⟨J, rfl, hall⟩ | ⟨j, rfl, hj, hcj, hgj, hbj⟩)
    · exfalso
      have := pre_le (ks := ks) (r := r) (us := us) hP.xb.1 us.length fun k hk hck => by
        rw [hrt] at hck
        have h1 := hall k hk hck
        have h2 := hgo k
        rw [h1] at h2
        have h3 := preF_succ ks r us k
        rw [hrt, if_pos hck] at h3
        have h4 : x' - preF ks r us k ≥ waysF ks r (lessF us k) := by simpa using h2.symm
        omega
      have h5 := hP.xb.2
      rw [hr, preF_full] at h5
      omega
    · have hFlo : ∀ l, l < 4 → (F j)[l]? = (T2 j)[l]? := fun l hl => by
        rw [hF, List.getElem?_set_ne (by omega), List.getElem?_set_ne (by omega), List.getElem?_set_ne (by omega), List.getElem?_append_left (by simp [killF_len, hT2l]; omega), killF_get hP.acc _ (.inl (by omega)), List.getElem?_append_left (by rw [hT2l]; omega)]
      have hT2lo : ∀ l, l < σ.length → l ≠ 1 → (T2 j)[l]? = (G j)[l]? := fun l hl h1 => by
        rw [hT2, List.getElem?_set_ne (by omega), List.getElem?_set_ne (by omega), List.append_assoc, List.getElem?_append_left (by rw [hHl]; omega), hHlo j l hl]
      have hT21 : (T2 j)[1]? = some (.map (rendK (waysQL ks r us K (j + 1)).2)) := by
        rw [hT2, List.getElem?_set_self (by simp [hHl])]
      have hFr : (F j)[σ.length + 2]? = some (.loop { R with state := .done, pending := some (.exit 1) }) := by
        rw [hF, List.getElem?_set_self (by simp [killF_len, hT2l])]
      have hF4 : (F j)[4]? = some (.cells [.sl (σ.length + 6) 0 (zs.length + 1) 1]) := by
        rw [hF, List.getElem?_set_ne (by omega), List.getElem?_set_ne (by omega), List.getElem?_set_self (by simp [killF_len, hT2l])]
      have hF5 : (F j)[5]? = some (X j) := by
        rw [hF, List.getElem?_set_ne (by omega), List.getElem?_set_self (by simp [killF_len, hT2l])]
      have hFa : (F j)[σ.length + 6]? = some (.cells ((zs ++ [(j : Int)]).map .i)) := by
        rw [hF, List.getElem?_set_ne (by omega), List.getElem?_set_ne (by omega), List.getElem?_set_ne (by omega), List.getElem?_append_right (by simp [killF_len, hT2l])]
        simp [killF_len, hT2l]
      refine ⟨_, hFr, by simp, ?_⟩
      show W _ _ (.exit 1) _ _
      refine W_exit ?_
      have hwt : IntKind.i64.wrap ((t : Int) + 1) = ((t + 1 : Nat) : Int) := by rw [wrap_in (by omega)]; rfl
      simp only [hwt, evA, if_true, if_false, beq_false, simprocAttr]
      have hgx : x' - preF ks r us j < waysF ks r (lessF us j) := by
        have h2 := hgo j
        rw [hgj] at h2
        have : ¬ (x' - preF ks r us j ≥ waysF ks r (lessF us j)) := by simpa using h2.symm
        omega
      have hps := preF_succ ks r us j
      rw [hrt, if_pos hcj] at hps
      have hbk : ∀ k, k < j → canB ks us (ks.length - (r + 1)) k = true → preF ks r us (k + 1) ≤ x' := fun k hk hck => by
        rw [hrt] at hck
        have h2 := hgo k
        rw [hbj k hk hck] at h2
        have h3 := preF_succ ks r us k
        rw [hrt, if_pos hck] at h3
        have h4 : x' - preF ks r us k ≥ waysF ks r (lessF us k) := by simpa using h2.symm
        omega
      have hpj := pre_le (ks := ks) (r := r) (us := us) hP.xb.1 j hbk
      refine kFor_weak (by first | trivial | omega) (Weak.undef (vals' := [.ptr 0 0, .i x, .ptr 2 0, .ptr 3 0, .ptr 4 0, .ptr 5 0, .undef, .undef, .undef, .i ks.length, .i ((t + 1 : Nat) : Int), .undef, .undef, .undef, .undef, .undef]) ⟨.inl rfl, .inl rfl, .inl rfl, .inl rfl, .inl rfl, .inl rfl, .inr rfl, .inr rfl, .inr rfl, .inl rfl, .inl rfl, .inr rfl, .inr rfl, .inr rfl, .inr rfl, .inr rfl, trivial⟩)
        ⟨_, (waysQL ks r us K (j + 1)).2, lessF us j, zs ++ [(j : Int)], x' - preF ks r us j, .sl (σ.length + 6) 0 (zs.length + 1) 1, ⟨?_, ?_, ?_, ?_, ?_, ?_, ⟨?_, .inr ⟨σ.length + 6, by omega, by simp, ?_⟩⟩, ?_, (hQL (j + 1) (by omega)).2, dig_less hP.ud hj hcj, ?_, ?_, ?_⟩, rfl⟩
      · simp only [setLoop]; rw [List.getElem?_set_ne (by omega), hFlo 0 (by omega), hT2lo 0 (by omega) (by omega), hGn j 0 (by omega) (by omega)]; exact hP.o0
      · simp only [setLoop]; rw [List.getElem?_set_ne (by omega), hFlo 1 (by omega)]; exact hT21
      · simp only [setLoop]; rw [List.getElem?_set_ne (by omega), hFlo 2 (by omega), hT2lo 2 (by omega) (by omega), hGn j 2 (by omega) (by omega)]; exact hP.o2
      · simp only [setLoop]; rw [List.getElem?_set_ne (by omega), hFlo 3 (by omega), hT2lo 3 (by omega) (by omega)]; exact hG3 j
      · simp only [setLoop]; rw [List.getElem?_set_ne (by omega)]; exact hF4
      · simp only [setLoop]; rw [List.getElem?_set_ne (by omega), ← hX]; exact hF5
      · simp only [setLoop, List.length_set, hFl]; omega
      · refine rowOf_get ?_
        simp only [setLoop]; rw [List.getElem?_set_ne (by omega)]; exact hFa
      · refine Cl.set (hFcl j) _ ?_
        rw [hFl]
        exact hRin _ (by omega)
      · rw [show ks.length - (t + 1) = r by omega]
        exact ⟨by omega, hgx⟩
      · rw [show ks.length - (t + 1) = r by omega, ← hP.eq, hr, pick_step hj (by rw [hrt]; exact hcj) (by omega) hbk]
        simp
      · simp [hP.zl]

end Go.Proofs.Ytphdemhopihpnaa.AM

namespace Go.Proofs.Ytphdemhopihpnaa.AM
open Go
set_option linter.unusedVariables false
set_option linter.unusedSimpArgs false

theorem c58f (ts0 ks : List Int) (hok : DrawOk ts0 ks) (K : Memo) (hR : RightQ ks ts0.length K) (x : Int) (hx : 0 ≤ x ∧ x < waysF ks ks.length ts0) {σ : List AObj} (d c : Nat) (hne : d ≠ c)
    (h0 : σ[d]? = some (.cells [ints ts0, ints ks, .map c])) (h1 : σ[c]? = some (.map (rendK K))) :
    AC Try.prog 58 [.ptr d 0, .i x] σ fun v τ => AccFrom σ.length τ v (pickF ks ks.length ts0 x) := by
  have hr := AC.at (σ := σ) [d, c] (c58 ts0 ks hok K hR x hx) (by simpa using hne) rfl (by
    refine ⟨⟨trivial, rfl, ?_⟩, ⟨trivial, objIn_rend _ _, ?_⟩, trivial⟩
    · rw [h0]; rfl
    · rw [h1]; simp only [renO, ren_rend])
  refine AC.mono (show AC Try.prog 58 [.ptr d 0, .i x] σ _ from hr) ?_
  rintro v τ ⟨r0, τ0, ⟨K', _, _, _, hl0, hacc⟩, hle, rfl, rfl⟩
  have hlt : ∀ l ∈ [d, c], l < σ.length := by
    intro l hl
    simp only [List.mem_cons, List.not_mem_nil, or_false] at hl
    rcases hl with rfl | rfl
    · exact (List.getElem?_eq_some_iff.1 h0).1
    · exact (List.getElem?_eq_some_iff.1 h1).1
  obtain ⟨p1, p2, p3, p4⟩ := putL_get [d, c] (τ0.map (renO (atF [d, c] σ.length))) σ (by simpa using hne) hlt (by simpa using hle)
  refine ⟨by rw [p1]; omega, ?_⟩
  rcases hacc with ⟨rfl, hz⟩ | ⟨l, hl, rfl, hrow⟩
  · exact .inl ⟨rfl, hz⟩
  · refine .inr ⟨σ.length + (l - 2), by omega, ?_, ?_⟩
    · simp only [ren, atF, List.length_cons, List.length_nil]
      rw [if_neg (by omega)]
    · refine rowOf_get ?_
      rw [p4, List.getElem?_map, show [d, c].length + (l - 2) = l by simp; omega, rowOf_some hrow]
      simp only [Option.map_some, renO, rens_ints]

/-- what Pick answers, of a valid draw -/
def pickV (ts ks : List Int) (n : Int) : AV :=
  if n < 0 ∨ n > 2147483646 then .tup [ints [], .i 7]
  else if waysF ks ks.length ts = 0 then .tup [ints [], .i 9]
  else .tup [ints (pickF ks ks.length ts (n % waysF ks ks.length ts)), .i 0]

theorem pickV_cl (ts ks : List Int) (n : Int) : locsIn 0 (pickV ts ks n) = true := by
  unfold pickV; split
  · rfl
  · split <;> rfl

theorem mod_in {n m : Int} (hn : 0 ≤ n) (hm : 0 < m) : n.tmod m = n % m ∧ 0 ≤ n % m ∧ n % m < m :=
  ⟨Int.tmod_eq_emod_of_nonneg hn, Int.emod_nonneg _ (by omega), Int.emod_lt_of_pos _ hm⟩

theorem c28_ok (ts ks : List Int) (n : Int) (ht : ts.length < 2 ^ 63) (hk : ks.length < 2 ^ 63) (hok : DrawOk ts ks) : PC Try.prog 28 [drw ts ks, .i n] (pickV ts ks n) := by
  refine ⟨AC_FE (fok28 true) (Nat.le_of_ble_eq_true rfl) ?_, pickV_cl ts ks n⟩
  simp only [ic28, f_box, cellsOf, evA, if_true, if_false, beq_false, simprocAttr]
  refine AC.run (c53f ts ks ht hk (checkV_ok hok) _) ?_
  simp only [evA, if_true, if_false, beq_false, simprocAttr]
  refine (c47 0 2147483646 [n] (by simp)).call frz ?_
  rw [outF_one]
  by_cases hb : n < 0 ∨ n > 2147483646
  · have hbb : inB n 0 2147483646 = false := by
      cases hi : inB n 0 2147483646 with
      | false => rfl
      | true => have := inB_iff.1 hi; omega
    simp only [pickV, hb, hbb, evA, if_true, if_false, beq_false, simprocAttr]
    exact frz
  · have hbb : inB n 0 2147483646 = true := inB_iff.2 (by omega)
    simp only [pickV, hb, hbb, evA, if_true, if_false, beq_false, simprocAttr]
    refine AC.run (c55 3 ts [ints ks, .map 2] [AObj.cells [ints ts, ints ks], AObj.cells [ints ts, ints ks], AObj.map [], AObj.cells [ints ts, ints ks, .map 2], AObj.cells [.i n]] rfl hok.tl.2) ?_
    have h := c54f ts ks hok ks.length ts [] (Nat.le_refl _) ⟨rfl, hok.tr⟩ (right_nil _ _) (σ := [AObj.cells [ints ts, ints ks], AObj.cells [ints ts, ints ks], AObj.map [], AObj.cells [ints ts, ints ks, .map 2], AObj.cells [.i n]]) 3 2 (by decide) rfl rfl
    have hKr := (waysQ_right (ks := ks) ks.length ts [] (Nat.le_refl _) ⟨rfl, hok.tr⟩ (right_nil _ _)).2
    have hwn := waysF_nonneg ks ks.length ts
    have h58 := c58f ts ks hok _ hKr
    rw [Nat.sub_self] at h
    generalize (waysQ ks ks.length ts []).2 = K' at h h58
    generalize hm : waysF ks ks.length ts = m at h hwn h58 ⊢
    simp only [evA, if_true, if_false, beq_false, simprocAttr]
    refine AC.run h ?_
    by_cases hm0 : m = 0
    · have he : (m == 0) = true := by simpa using hm0
      simp only [he, hm0, evA, if_true, if_false, beq_false, simprocAttr]
      exact frz
    · have he : (m == 0) = false := by simpa using hm0
      obtain ⟨g1, g2, g3⟩ := mod_in (n := n) (m := m) (by omega) (by omega)
      simp only [he, hm0, g1, evA, if_true, if_false, beq_false, simprocAttr]
      refine AC.mono (h58 (n % m) ⟨g2, g3⟩ 3 2 (by decide) rfl rfl) fun v τ hacc => ?_
      simp only [evA, if_true, if_false, beq_false, simprocAttr]
      exact .tup (.cons (acc_frz (fun _ => trivial) hacc.acc) (.cons (.c (.c _ trivial)) .nil))

theorem c28_err (ts ks : List Int) (n : Int) (ht : ts.length < 2 ^ 63) (hk : ks.length < 2 ^ 63) {x y e : Int} (hv : checkV ts ks = tup3 x y e) (he : e ≠ 0) : PC Try.prog 28 [drw ts ks, .i n] (.tup [ints [], .i e]) := by
  refine ⟨AC_FE (fok28 true) (Nat.le_of_ble_eq_true rfl) ?_, rfl⟩
  have hb : (e != 0) = true := by simpa using he
  simp only [ic28, f_box, cellsOf, evA, if_true, if_false, beq_false, simprocAttr]
  refine AC.run (c53f ts ks ht hk hv _) ?_
  simp only [hb, evA, if_true, if_false, beq_false, simprocAttr]
  exact frz

end Go.Proofs.Ytphdemhopihpnaa.AM

namespace Go.Proofs.Ytphdemhopihpnaa.AM
open Go
set_option linter.unusedVariables false
set_option linter.unusedSimpArgs false

/-- the table with its memo, right -/
structure TabR (ts0 ks : List Int) (σ : List AObj) (b : Nat) (K : List (List Int)) : Prop where
  tab : TabAt σ b ks.length (5 ^ ts0.length) K
  mem : MemoB ks.length (5 ^ ts0.length) K
  rgt : Right ks ts0.length K

theorem TabR.call {ts0 ks : List Int} (hok : DrawOk ts0 ks) {σ : List AObj} {b : Nat} {K : List (List Int)} (h : TabR ts0 ks σ b K) (r : Nat) (us : List Int) (hr : r ≤ ks.length) (hd : Dig ts0.length us) :
    ∃ K', AC Try.prog 56 [drw ts0 ks, .sl b 0 ks.length 1, .i ((ks.length - r : Nat) : Int), ints us] σ (fun v τ => v = .i (waysF ks r us) ∧ τ = putTab σ b K') ∧ TabR ts0 ks (putTab σ b K') b K' ∧ K'.length = ks.length := by
  have hac := c56 ts0 ks hok r us K σ b hr hd.1 hd.2 h.mem h.tab
  obtain ⟨h1, h2⟩ := waysM_right hok.tl.2 r us K hr hd h.mem h.rgt
  have hb := waysM_bounds (ks := ks) (size := 5 ^ ts0.length) r us K hr (by rw [hd.1]; exact hok.tl.2) h.mem
  refine ⟨_, by rw [h1] at hac; exact hac, ⟨h.tab.put hb.2.2.kl hb.2.2.rl, hb.2.2, h2⟩, hb.2.2.kl⟩

theorem TabAt.rows_of {σ τ : List AObj} {b T size : Nat} {K : List (List Int)} (h : TabAt σ b T size K) (hr : ∀ l, l < b + 1 + T → rowOf τ l = rowOf σ l) : TabAt τ b T size K :=
  ⟨by rw [hr b (by omega)]; exact h.out, h.kl, fun j hj => ⟨by rw [hr _ (by omega)]; exact (h.rows j hj).1, (h.rows j hj).2⟩⟩

theorem AccFrom.put {σ : List AObj} {b b' : Nat} {v : AV} {zs : List Int} {K : List (List Int)} (h : AccFrom b' σ v zs) (hb : b + 1 + K.length ≤ b') : AccFrom b' (putTab σ b K) v zs := by
  refine ⟨by rw [putTab_length]; exact h.1, h.2.imp id fun ⟨l, h1, h2, h3⟩ => ⟨l, h1, h2, ?_⟩⟩
  refine rowOf_get ?_
  rw [putTab_get, rowOf_some h3]
  simp only [Option.map_some]
  rw [if_neg (by omega)]

theorem putTab_lo {σ : List AObj} {b : Nat} {K : List (List Int)} {l : Nat} (hl : l < b + 1) : rowOf (putTab σ b K) l = rowOf σ l := by
  unfold rowOf
  rw [putTab_get]
  cases σ[l]? with
  | none => rfl
  | some o =>
    simp only [Option.map_some]
    rw [if_neg (by omega)]

theorem K0_tabR {ts0 ks : List Int} {σ : List AObj} {b : Nat} (h : TabAt σ b ks.length (5 ^ ts0.length) (K0 ks.length (5 ^ ts0.length))) : TabR ts0 ks σ b (K0 ks.length (5 ^ ts0.length)) := ⟨h, K0_memo _ _, K0_right _ _⟩

theorem bits_ok {ts0 ks : List Int} (hok : DrawOk ts0 ks) {t : Nat} (ht : t < ks.length) : ∃ S : Nat, ks[t]?.getD 0 = (S : Int) ∧ S < 2 ^ 62 ∧ (ks[t]?.getD 0).toNat = S := by
  have hkt := hok.kr t ht
  refine ⟨(ks[t]?.getD 0).toNat, (Int.toNat_of_nonneg hkt.1).symm, ?_, rfl⟩
  have h2 := hkt.2
  unfold capF at h2
  have hp : (2 : Nat) ^ ts0.length ≤ 2 ^ 6 := Nat.pow_le_pow_right (by omega) (by have := hok.tl; omega)
  generalize 2 ^ ts0.length = q at *
  omega

/-- the document's picked -/
theorem c59 (ts0 ks : List Int) (hok : DrawOk ts0 ks) (x : Int) (hx : 0 ≤ x ∧ x < waysF ks ks.length ts0) : PC Try.prog 59 [drw ts0 ks, .i x] (ints (pickF ks ks.length ts0 x)) := by
  refine ⟨AC_FE (fok59 true) (Nat.le_of_ble_eq_true rfl) ?_, rfl⟩
  have h6 := hok.tl
  have hk8 := hok.kl
  simp only [ic59, f_box, cellsOf, evA, if_true, if_false, beq_false, simprocAttr]
  obtain ⟨τ, hac, htab, _⟩ := c57f ts0 ks hok [AObj.cells [ints ts0, ints ks]]
  refine AC.run hac ?_
  have hb2 : ([AObj.cells [ints ts0, ints ks]] : List AObj).length + 1 = 2 := rfl
  rw [hb2] at htab ⊢
  have hlt := htab.lt
  have r0 : rowOf ([AObj.cells [ints ts0, ints ks]] ++ τ) 0 = some [ints ts0, ints ks] := rfl
  obtain ⟨σ0, hσ0⟩ : ∃ σ0, σ0 = [AObj.cells [ints ts0, ints ks]] ++ τ := ⟨_, rfl⟩
  rw [← hσ0] at htab hlt r0 ⊢
  simp only [r0, evA, if_true, if_false, beq_false, simprocAttr]
  refine IL_for ks.length (fun t s => ∃ σ K us zs x' v v8 v9 v10 v11 v12 v13, (TabR ts0 ks σ 2 K ∧ rowOf σ 0 = some [ints ts0, ints ks] ∧ AccFrom (3 + ks.length) σ v zs ∧ Dig ts0.length us ∧ (0 ≤ x' ∧ x' < waysF ks (ks.length - t) us) ∧ zs ++ pickF ks (ks.length - t) us x' = pickF ks ks.length ts0 x ∧ zs.length = t) ∧
    s = ⟨[drw ts0 ks, .i x', .ptr 0 0, .cv .nils, .sl 2 0 ks.length 1, ints us, v, .i t, v8, v9, v10, v11, v12, v13], σ⟩) ?_ 0 (Nat.zero_le _) ⟨σ0, _, ts0, [], x, .cv .nils, _, _, _, _, _, _, ⟨K0_tabR htab, r0, AccFrom.nil (by omega), ⟨rfl, hok.tr⟩, hx, rfl, rfl⟩, rfl⟩
  rintro t s htl ⟨σ, K, us, zs, x', v, v8, v9, v10, v11, v12, v13, ⟨hT, hr0, hA, hd, hxb, heq, hzl⟩, rfl⟩
  by_cases h : t < ks.length
  rotate_left
  · have hte : t = ks.length := by omega
    subst hte
    rw [Nat.sub_self] at heq
    have heq : zs = pickF ks ks.length ts0 x := by simpa [pickF] using heq
    rw [heq] at hA
    simp only [ic59l1, Int.ofNat_lt, h, hr0, evA, if_true, if_false, beq_false, simprocAttr]
    exact acc_frz (fun _ => trivial) hA.acc
  obtain ⟨r, hr⟩ : ∃ r, ks.length - t = r + 1 := ⟨ks.length - t - 1, by omega⟩
  have hrt : ks.length - (r + 1) = t := by omega
  simp only [ic59l1, Int.ofNat_lt, h, hr0, evA, if_true, if_false, beq_false, simprocAttr]
  refine IL_for us.length (fun i s => ∃ σ K v9 v11 v12 v13, (TabR ts0 ks σ 2 K ∧ rowOf σ 0 = some [ints ts0, ints ks] ∧ AccFrom (3 + ks.length) σ v zs ∧ ∀ k, k < i → canB ks us t k = true → preF ks r us (k + 1) ≤ x') ∧
    s = ⟨[drw ts0 ks, .i (x' - preF ks r us i), .ptr 0 0, .cv .nils, .sl 2 0 ks.length 1, ints us, v, .i t, .i i, v9, .b true, v11, v12, v13], σ⟩) ?_ 0 (Nat.zero_le _) ⟨σ, K, _, _, _, _, ⟨hT, hr0, hA, fun k hk => absurd hk (Nat.not_lt_zero _)⟩, by rw [preF_zero, Int.sub_zero]; rfl⟩
  clear hT hr0 hA
  rintro i s hi ⟨σ, K, v9, v11, v12, v13, ⟨hT, hr0, hA, hbk⟩, rfl⟩
  by_cases hil : i < us.length
  rotate_left
  · exfalso
    have : i = us.length := by omega
    subst this
    have := pre_le (ks := ks) (r := r) (us := us) hxb.1 us.length fun k hk hck => hbk k hk (by rw [← hrt]; exact hck)
    have h2 := hxb.2
    rw [hr, preF_full] at h2
    omega
  obtain ⟨S, hS, hS62, hSn⟩ := bits_ok hok h
  have hcan : canB ks us t i = (decide (us[i]?.getD 0 > 0) && !S.testBit i) := by unfold canB; rw [hSn]
  have hdi := hd.2 i hil
  have hps := preF_succ ks r us i
  rw [hrt] at hps
  have hwi : IntKind.i64.wrap ((i : Int) + 1) = ((i + 1 : Nat) : Int) := by rw [wrap_in (by have := hd.1; omega)]; rfl
  have next : canB ks us t i = false → preF ks r us (i + 1) = preF ks r us i ∧ ∀ k, k < i + 1 → canB ks us t k = true → preF ks r us (k + 1) ≤ x' := fun hc => by
    rw [hc] at hps
    refine ⟨by simpa using hps, fun k hk hck => ?_⟩
    rcases Nat.lt_succ_iff_lt_or_eq.1 hk with hk | rfl
    · exact hbk k hk hck
    · rw [hc] at hck; cases hck
  have hu6 : us.length ≤ 6 := by rw [hd.1]; exact h6.2
  by_cases h0 : us[i]?.getD 0 = 0
  · have hz : (us[i]?.getD 0 == 0) = true := by simpa using h0
    have hc : canB ks us t i = false := by rw [hcan, h0]; rfl
    simp only [ic59l0, Int.ofNat_lt, hil, hz, hwi, evA, if_true, if_false, beq_false, simprocAttr]
    exact kFor_go (by first | trivial | omega) ⟨σ, K, _, _, _, _, ⟨hT, hr0, hA, (next hc).2⟩, by rw [(next hc).1]⟩
  · have hz : (us[i]?.getD 0 == 0) = false := by simpa using h0
    simp only [ic59l0, Int.ofNat_lt, hil, hz, hr0, h, hS, evA, if_true, if_false, beq_false, simprocAttr]
    refine (c45 S i hS62 (by omega)).call frz ?_
    cases hbt : S.testBit i
    rotate_left
    · have hc : canB ks us t i = false := by rw [hcan, hbt]; simp
      simp only [hwi, evA, if_true, if_false, beq_false, simprocAttr]
      exact kFor_go (by first | trivial | omega) ⟨σ, K, _, _, _, _, ⟨hT, hr0, hA, (next hc).2⟩, by rw [(next hc).1]⟩
    have hc : canB ks us t i = true := by rw [hcan, hbt]; simp; omega
    rw [hc, if_pos rfl] at hps
    have hdl := dig_less hd hil hc
    obtain ⟨K', h56, hT', hKl⟩ := hT.call hok r (lessF us i) (by omega) hdl
    have h61 := c61 us i (by omega) hil (by omega)
    rw [show ks.length - r = t + 1 by omega] at h56
    have hco := callOk_put (σ := σ) (b := 2) (K := K') (waysF ks r (lessF us i))
    have hwt : IntKind.i64.wrap ((t : Int) + 1) = ((t + 1 : Nat) : Int) := by rw [wrap_in (by omega)]; rfl
    have hA' := hA.put (b := 2) (K := K') (by omega)
    have hr0' : rowOf (putTab σ 2 K') 0 = some [ints ts0, ints ks] := by rw [putTab_lo (by omega)]; exact hr0
    have hwb := waysF_bounds ks r (lessF us i) (by simpa using hu6)
    have hwb2 := waysF_bounds ks (ks.length - t) us hu6
    have hk68 : 6 ^ r ≤ 6 ^ 8 := Nat.pow_le_pow_right (by omega) (by omega)
    have hk69 : 6 ^ (ks.length - t) ≤ 6 ^ 8 := Nat.pow_le_pow_right (by omega) (by omega)
    have hpn := preF_nonneg ks r us i
    simp only [hbt, evA, if_true, if_false, beq_false, simprocAttr]
    refine DW_s [6] [] hmix (by kernel_rfl) rfl ?_
    simp only [hr0, hwt, evA, if_true, if_false, beq_false, simprocAttr]
    refine kK_keep (h61.call frz ⟨rfl, rfl⟩) rfl ?_
    simp only [evA, if_true, if_false, beq_false, simprocAttr]
    refine kK_turn h56 hco ?_
    by_cases hlt2 : x' - preF ks r us i < waysF ks r (lessF us i)
    · obtain ⟨v', σ', hap, hacc, hrow⟩ := accFrom_append (i : Int) hA' (by omega)
      simp only [hlt2, hap, evA, if_true, if_false, beq_false, simprocAttr]
      refine (h61).call frz ?_
      have hpj := pre_le (ks := ks) (r := r) (us := us) hxb.1 i fun k hk hck => hbk k hk (by rw [← hrt]; exact hck)
      simp only [hwt, evA, if_true, if_false, beq_false, simprocAttr]
      refine kFor_go (by first | trivial | omega) ⟨σ', K', lessF us i, zs ++ [(i : Int)], x' - preF ks r us i, v', _, _, _, _, _, _, ⟨⟨hT'.tab.rows_of fun l hl => hrow l (by omega), hT'.mem, hT'.rgt⟩, by rw [hrow 0 (by omega)]; exact hr0', hacc, hdl, ?_, ?_, by simp [hzl]⟩, rfl⟩
      · rw [show ks.length - (t + 1) = r by omega]
        exact ⟨by omega, hlt2⟩
      · rw [show ks.length - (t + 1) = r by omega, ← heq, hr, pick_step hil (by rw [hrt]; exact hc) (by omega) (fun k hk hck => hbk k hk (by rw [← hrt]; exact hck))]
        simp
    · have hwr : IntKind.i64.wrap (x' - preF ks r us i - waysF ks r (lessF us i)) = x' - preF ks r us (i + 1) := by
        rw [hps]
        generalize 6 ^ (ks.length - t) = p1 at *
        generalize 6 ^ r = p2 at *
        rw [wrap_in (by omega)]; omega
      simp only [hlt2, hwr, hwi, evA, if_true, if_false, beq_false, simprocAttr]
      refine kFor_go (by first | trivial | omega) ⟨_, K', _, _, _, _, ⟨hT', hr0', hA', fun k hk hck => ?_⟩, rfl⟩
      rcases Nat.lt_succ_iff_lt_or_eq.1 hk with hk | rfl
      · exact hbk k hk hck
      · omega

theorem c29_ok (ts ks : List Int) (n : Int) (ht : ts.length < 2 ^ 63) (hk : ks.length < 2 ^ 63) (hok : DrawOk ts ks) : PA Try.prog 29 [drw ts ks, .i n] (pickV ts ks n) := by
  refine ⟨AC_FE (fok29 true) (Nat.le_of_ble_eq_true rfl) ?_, pickV_cl ts ks n, rfl⟩
  have h27 := c27_ok ts ks ht hk (checkV_ok hok) hok
  rw [countM_eq hok] at h27
  have hwn := waysF_nonneg ks ks.length ts
  have h59 := c59 ts ks hok
  unfold pickV
  generalize waysF ks ks.length ts = m at h27 hwn h59 ⊢
  simp only [ic29, f_box, cellsOf, evA, if_true, if_false, beq_false, simprocAttr]
  refine h27.call frz ?_
  simp only [evA, if_true, if_false, beq_false, simprocAttr]
  refine (c48 n 0 2147483646).call frz ?_
  by_cases hb : n < 0 ∨ n > 2147483646
  · have hbb : (decide (n ≥ 0) && decide (n ≤ 2147483646)) = false := by
      cases hi : (decide (n ≥ 0) && decide (n ≤ 2147483646)) with
      | false => rfl
      | true => simp at hi; omega
    simp only [hb, hbb, evA, if_true, if_false, beq_false, simprocAttr]
    exact frz
  · have hbb : (decide (n ≥ 0) && decide (n ≤ 2147483646)) = true := by simp; omega
    by_cases hm0 : m = 0
    · have he : (m == 0) = true := by simpa using hm0
      simp only [hb, hbb, he, hm0, evA, if_true, if_false, beq_false, simprocAttr]
      exact frz
    · have he : (m == 0) = false := by simpa using hm0
      obtain ⟨g1, g2, g3⟩ := mod_in (n := n) (m := m) (by omega) (by omega)
      simp only [hb, hbb, he, hm0, evA, if_true, if_false, beq_false, simprocAttr]
      refine DW_s [4] [] hmix (by kernel_rfl) rfl ?_
      simp only [hm0, g1, evA, if_true, if_false, beq_false, simprocAttr]
      refine kK_keep ((h59 (n % m) ⟨g2, g3⟩).call frz ⟨rfl, rfl⟩) rfl ?_
      simp only [evA, if_true, if_false, beq_false, simprocAttr]
      exact frz

theorem c29_err (ts ks : List Int) (n : Int) (ht : ts.length < 2 ^ 63) (hk : ks.length < 2 ^ 63) {x y e : Int} (hv : checkV ts ks = tup3 x y e) (he : e ≠ 0) : PA Try.prog 29 [drw ts ks, .i n] (.tup [ints [], .i e]) := by
  refine ⟨AC_FE (fok29 true) (Nat.le_of_ble_eq_true rfl) ?_, rfl, rfl⟩
  have hb : (e != 0) = true := by simpa using he
  have hb2 : (e == 0) = false := by simpa using he
  simp only [ic29, f_box, cellsOf, evA, if_true, if_false, beq_false, simprocAttr]
  refine (c27_err ts ks ht hk hv he).call frz ?_
  simp only [hb, hb2, evA, if_true, if_false, beq_false, simprocAttr]
  exact frz

end Go.Proofs.Ytphdemhopihpnaa.AM


/- Parts of the proof, joined: AmP to AmP. -/
import Derived.Test.YtphdemhopihpnaaZ16

namespace Go.Proofs.Ytphdemhopihpnaa.AM
open Go
set_option linter.unusedVariables false
set_option linter.unusedSimpArgs false

variable {P : Program} {fx : Fx} {m : LM} {X : Nat → Prop} {en : Nat} {w : World}

/-! ### Schedules -/

/-- an order of the operations that are left: each one behind those that must come first -/
inductive Sched (dir : Nat → List Nat) (n : Nat) : List Nat → List Nat → Prop
  | nil {D : List Nat} : (∀ i, i < n → i ∈ D) → Sched dir n D []
  | cons {D : List Nat} {i : Nat} {l : List Nat} : i < n → i ∉ D → (∀ e ∈ dir i, e ∈ D) → Sched dir n (i :: D) l → Sched dir n D (i :: l)

def dirOf (ops : Array Oper) (i : Nat) : List Nat :=
  match ops[i]? with
  | some o => (o.after.toList.filter (Region.binds .any)).map (·.on)
  | none => []

theorem dirOf_all {ops : Array Oper} {i : Nat} {o : Oper} (h : ops[i]? = some o) (listed : Array Bool) :
    (o.after.all fun e => !Region.binds .any e || listed.getD e.on false) = true ↔ ∀ e ∈ dirOf ops i, listed.getD e false = true := by
  simp only [dirOf, h, Array.all_eq_true', List.mem_map, List.mem_filter]
  constructor
  · rintro hall e ⟨x, ⟨hx, hb⟩, rfl⟩
    have := hall x (by simpa using hx)
    simpa [hb] using this
  · intro hall x hx
    by_cases hb : Region.binds .any x = true
    · have := hall x.on ⟨x, ⟨by simpa using hx, hb⟩, rfl⟩
      simp [this]
    · simp [hb]

theorem filter_length_lt {α : Type} (p q : α → Bool) (l : List α) (h : ∀ x, q x = true → p x = true) (a : α) (ha : a ∈ l) (hp : p a = true) (hq : q a = false) : (l.filter q).length < (l.filter p).length := by
  induction l with
  | nil => simp at ha
  | cons x l ih =>
    have hle : (l.filter q).length ≤ (l.filter p).length := by
      clear ih ha
      induction l with
      | nil => simp
      | cons y l ih =>
        simp only [List.filter_cons]
        by_cases hy : q y = true
        · simp [hy, h y hy, ih]
        · simp only [hy, if_false, Bool.false_eq_true]
          split <;> (try simp only [List.length_cons]) <;> omega
    simp only [List.filter_cons]
    rcases List.mem_cons.1 ha with rfl | ha'
    · simp [hp, hq]; omega
    · have := ih ha'
      by_cases hx : q x = true
      · simp [hx, h x hx]; omega
      · rw [if_neg hx]
        split <;> (try simp only [List.length_cons]) <;> omega

theorem sched_go {ops : Array Oper} (hback : ∀ i, i < ops.size → ∀ e ∈ dirOf ops i, e < i) : ∀ (fuel t : Nat) (listed : Array Bool) (acc D : List Nat), listed.size = ops.size →
    (∀ i, i < ops.size → (listed.getD i false = true ↔ i ∈ D)) → ((List.range ops.size).filter fun i => !listed.getD i false).length ≤ fuel →
    ∃ l, Region.linearise.go .any ops fuel t listed acc = acc.reverse ++ l ∧ Sched (dirOf ops) ops.size D l
  | 0, t, listed, acc, D, hsz, hl, hf => by
    refine ⟨[], by simp [Region.linearise.go], .nil fun i hi => ?_⟩
    rw [← hl i hi]
    have h0 : ((List.range ops.size).filter fun i => !listed.getD i false) = [] := List.eq_nil_of_length_eq_zero (by omega)
    rw [List.filter_eq_nil_iff] at h0
    have := h0 i (by simpa using hi)
    simpa using this
  | fuel + 1, t, listed, acc, D, hsz, hl, hf => by
    simp only [Region.linearise.go]
    generalize hrs : ((List.range ops.size).filter fun i => !listed.getD i true && ((ops[i]?).map (fun o : Oper => o.after.all fun e => !Region.binds .any e || listed.getD e.on false)).getD false) = rs
    have hmem : ∀ i, i ∈ rs ↔ i < ops.size ∧ i ∉ D ∧ ∀ e ∈ dirOf ops i, e ∈ D := by
      intro i
      rw [← hrs]
      simp only [List.mem_filter, List.mem_range, Bool.and_eq_true, Bool.not_eq_true']
      constructor
      · rintro ⟨hi, h1, h2⟩
        have hio : ops[i]? = some ops[i] := Array.getElem?_eq_getElem hi
        have e1 : listed.getD i false = listed.getD i true := by simp [Array.getD_eq_getD_getElem?, Array.getElem?_eq_getElem (show i < listed.size by omega)]
        rw [hio] at h2
        simp only [Option.map_some, Option.getD_some] at h2
        rw [dirOf_all hio] at h2
        refine ⟨hi, fun hD => ?_, fun e he => (hl e (Nat.lt_trans (hback i hi e he) hi)).1 (h2 e he)⟩
        have := (hl i hi).2 hD; rw [e1, h1] at this; cases this
      · rintro ⟨hi, h1, h2⟩
        have hio : ops[i]? = some ops[i] := Array.getElem?_eq_getElem hi
        have e1 : listed.getD i false = listed.getD i true := by simp [Array.getD_eq_getD_getElem?, Array.getElem?_eq_getElem (show i < listed.size by omega)]
        refine ⟨hi, ?_, ?_⟩
        · rw [← e1]
          cases hq : listed.getD i false with
          | false => rfl
          | true => exact absurd ((hl i hi).1 hq) h1
        · rw [hio]; simp only [Option.map_some, Option.getD_some]
          rw [dirOf_all hio]
          exact fun e he => (hl e (Nat.lt_trans (hback i hi e he) hi)).2 (h2 e he)
    by_cases hall : ∀ i, i < ops.size → i ∈ D
    · have : rs = [] := by
        apply List.eq_nil_iff_forall_not_mem.2
        intro i hi
        have := (hmem i).1 hi
        exact this.2.1 (hall i this.1)
      rw [this]
      exact ⟨[], by simp, .nil hall⟩
    · -- THE FIRST ONE THAT IS LEFT
      have hne : rs ≠ [] := by
        intro hnil
        apply hall
        intro i
        induction i using Nat.strongRecOn with
        | _ i ih =>
          intro hi
          by_cases hD : i ∈ D
          · exact hD
          · exfalso
            have : i ∈ rs := (hmem i).2 ⟨hi, hD, fun e he => ih e (hback i hi e he) (Nat.lt_trans (hback i hi e he) hi)⟩
            rw [hnil] at this; simp at this
      have hlen : 0 < rs.length := List.length_pos_iff.2 hne
      have hidx : t % rs.length < rs.length := Nat.mod_lt _ hlen
      rw [List.getElem?_eq_getElem hidx]
      have hin : rs[t % rs.length] ∈ rs := List.getElem_mem hidx
      generalize rs[t % rs.length] = i at hin ⊢
      obtain ⟨hi, hiD, hdir⟩ := (hmem i).1 hin
      obtain ⟨l, h1, h2⟩ := sched_go hback fuel (t / rs.length) (listed.setIfInBounds i true) (i :: acc) (i :: D) (by simp [hsz]) (by
        intro j hj
        by_cases hji : j = i
        · subst hji; simp [Array.getD_eq_getD_getElem?, hsz, hj]
        · have : (listed.setIfInBounds i true).getD j false = listed.getD j false := by
            simp only [Array.getD_eq_getD_getElem?]; rw [Array.getElem?_setIfInBounds_ne (fun h => hji h.symm)]
          rw [this, hl j hj]; simp [hji]) (by
        have : ((List.range ops.size).filter fun j => !(listed.setIfInBounds i true).getD j false).length < ((List.range ops.size).filter fun j => !listed.getD j false).length := by
          refine filter_length_lt _ _ _ ?_ i (by simpa using hi) ?_ ?_
          · intro j hj
            by_cases hji : j = i
            · subst hji; simp [Array.getD_eq_getD_getElem?, hsz, hi] at hj
            · have : (listed.setIfInBounds i true).getD j false = listed.getD j false := by
                simp only [Array.getD_eq_getD_getElem?]; rw [Array.getElem?_setIfInBounds_ne (fun h => hji h.symm)]
              rwa [this] at hj
          · cases hq : listed.getD i false with
            | false => rfl
            | true => exact absurd ((hl i hi).1 hq) hiD
          · simp [Array.getD_eq_getD_getElem?, hsz, hi]
        omega)
      exact ⟨i :: l, by simp [h1], .cons hi hiD hdir h2⟩

theorem sched_of_linearise {ops : Array Oper} (hback : ∀ i, i < ops.size → ∀ e ∈ dirOf ops i, e < i) (t : Nat) : Sched (dirOf ops) ops.size [] (Region.linearise .any ops t) := by
  obtain ⟨l, h1, h2⟩ := sched_go hback ops.size t (Array.replicate ops.size false) [] [] (by simp) (by
    intro i hi; simp [Array.getD_eq_getD_getElem?, hi]) (by
    refine Nat.le_trans (List.length_filter_le _ _) (by simp))
  unfold Region.linearise
  rw [h1]; simpa using h2

end Go.Proofs.Ytphdemhopihpnaa.AM


/- Moves are to what the learner prefers, in plain Lean; numbers that are given; wishes by numbers. -/
import Derived.Test.YtjgolcbpgmlilaaZ44
import Derived.Test.YtjgolcbpgmlilaaZ42
namespace Go.Proofs.Ytjgolcbpgmlilaa.AM
open Go Go.Proofs.Ytjgolcbpgmlilaa.Qu Pl
set_option linter.unusedVariables false

theorem movs_mem {b a : Nat → Int} : ∀ {n : Nat} {m : Nat × Int × Int}, m ∈ movs b a n → ∃ j, j < n ∧ m = (j, b j, a j) ∧ a j ≠ b j
  | 0, m, h => by simp [movs] at h
  | n + 1, m, h => by
    unfold movs at h
    rcases List.mem_append.1 h with h | h
    · obtain ⟨j, h1, h2, h3⟩ := movs_mem h
      exact ⟨j, by omega, h2, h3⟩
    · by_cases e : a n = b n
      · rw [if_pos e] at h; simp at h
      · rw [if_neg e] at h
        rw [List.mem_singleton] at h
        exact ⟨n, by omega, h, e⟩

theorem place_inj {w : List Int} {c d : Int} (hc : c = -1 ∨ c ∈ w) (hd : d = -1 ∨ d ∈ w) (h0 : (-1 : Int) ∉ w) (e : place w c = place w d) : c = d := by
  by_cases h1 : c ∈ w
  · have g1 := place_get (place_mem h1)
    by_cases h2 : d ∈ w
    · have g2 := place_get (place_mem h2)
      rw [e, g2] at g1
      simpa using g1.symm
    · have := place_mem h1
      have := place_none h2
      omega
  · have hc : c = -1 := by rcases hc with h | h; exact h; exact absurd h h1
    by_cases h2 : d ∈ w
    · have := place_mem h2
      have := place_none h1
      omega
    · rcases hd with h | h
      · rw [hc, h]
      · exact absurd h h2

section
variable {q : QL} (he : eQ q = 0)
include he

theorem give_ran {i : Nat} (hi : i < q.ls.length) : -1 ≤ (giveQ q)[i]! ∧ (giveQ q)[i]! < 5 := by
  obtain ⟨h5, h8, hL, hC⟩ := val_of he
  rcases (give_ok hL).2 i hi with e | e
  · rw [e]; decide
  · have := (hL i hi).wi _ e
    omega

theorem no_neg {i : Nat} (hi : i < q.ls.length) : (-1 : Int) ∉ (q.ls[i]!).wi := fun h => by
  obtain ⟨h5, h8, hL, hC⟩ := val_of he
  have := (hL i hi).wi _ h
  omega

/-- a move to what a learner prefers, and whose it is -/
def Btr (q : QL) (m : Nat × Int × Int) : Prop := m.1 < q.ls.length ∧ m.2.1 = (giveQ q)[m.1]! ∧ place (q.ls[m.1]!).wi m.2.2 < place (q.ls[m.1]!).wi m.2.1 ∧ MvOk m

theorem mv_ok {j : Nat} {x y : Int} (hj : j < q.ls.length) (hx : -1 ≤ x ∧ x < 5) (hy : -1 ≤ y ∧ y < 5) : MvOk (j, x, y) := by
  have h8 := (val_of he).2.1
  have hp : (2 : Int) ^ 62 = 4611686018427387904 := by decide
  exact ⟨by show j < _; omega, ⟨by show -(2 ^ 62 : Int) ≤ x; omega, by show x < _; omega⟩, ⟨by show -(2 ^ 62 : Int) ≤ y; omega, by show y < _; omega⟩⟩

theorem canc_btr {i : Nat} (hi : i < q.ls.length) : ∀ m ∈ cancM q i, Btr q m ∧ m.1 ≠ i := by
  intro m hm
  obtain ⟨h5, h8, hL, hC⟩ := val_of he
  obtain ⟨j, hj, rfl, hne⟩ := movs_mem hm
  have hl := wo_len q hi
  have hL2 := leaOk_wo hL hi
  have hji : j ≠ i := fun e => by
    subst e
    apply hne
    unfold leftA
    rw [if_pos rfl]
  refine ⟨?_, hji⟩
  obtain ⟨k, hk, hup, hla⟩ : ∃ k, k < (woQ q i).ls.length ∧ upI i k = j ∧ leftA q i j = (giveQ (woQ q i))[k]! := by
    unfold leftA upI
    rw [if_neg hji]
    by_cases hlt : j < i
    · exact ⟨j, by omega, by rw [if_pos hlt], by rw [if_pos hlt]⟩
    · exact ⟨j - 1, by omega, by rw [if_neg (by omega)]; omega, by rw [if_neg hlt]⟩
  have hw := wo_get q hk
  rw [hup] at hw
  have hu : ∀ k, k < (woQ q i).ls.length → upI i k < q.ls.length := fun k hk => by unfold upI; split <;> omega
  have hle := give_sub hL hL2 (σ := upI i) hu (fun a b ha hb e => by unfold upI at e; split at e <;> split at e <;> omega) (fun k hk => wo_get q hk) (fun c => Nat.le_refl _) (fun c => rfl) hk
  rw [hup] at hle
  have hok2 : (giveQ (woQ q i))[k]! = -1 ∨ (giveQ (woQ q i))[k]! ∈ (q.ls[j]!).wi := by rw [← hw]; exact (give_ok hL2).2 k hk
  have hok1 := (give_ok hL).2 j hj
  have hne2 : place (q.ls[j]!).wi ((giveQ (woQ q i))[k]!) ≠ place (q.ls[j]!).wi ((giveQ q)[j]!) := fun e => hne (by rw [hla]; exact place_inj hok2 hok1 (no_neg he hj) e)
  refine ⟨hj, rfl, ?_, ?_⟩
  · show place (q.ls[j]!).wi (leftA q i j) < place (q.ls[j]!).wi ((giveQ q)[j]!)
    rw [hla]; omega
  · refine mv_ok he hj (give_ran he hj) ?_
    rw [hla]
    rcases hok2 with e | e
    · rw [e]; decide
    · have := (hL j hj).wi _ e; omega

theorem open_btr {c : Nat} (hc : c < q.cs.length) (h6 : (q.cs[c]!).pl ≠ 6) : ∀ m ∈ openM q c, Btr q m := by
  intro m hm
  obtain ⟨h5, h8, hL, hC⟩ := val_of he
  obtain ⟨j, hj, rfl, hne⟩ := movs_mem hm
  have hL2 := leaOk_more hL c
  have hle := give_sub hL hL2 (σ := id) (fun k hk => hk) (fun a b _ _ e => e) (fun k hk => rfl) (fun d => by
    rw [more_get q hc]
    split
    · rename_i e; subst e; show (q.cs[d]!).pl.toNat ≤ ((q.cs[d]!).pl + 1).toNat; omega
    · exact Nat.le_refl _) (fun d => by
    rw [more_get q hc]
    split
    · rename_i e; subst e; rfl
    · rfl) (k := j) hj
  have hok2 : (giveQ (moreQ q c))[j]! = -1 ∨ (giveQ (moreQ q c))[j]! ∈ (q.ls[j]!).wi := (give_ok hL2).2 j hj
  have hok1 := (give_ok hL).2 j hj
  have hne2 : place (q.ls[j]!).wi ((giveQ (moreQ q c))[j]!) ≠ place (q.ls[j]!).wi ((giveQ q)[j]!) := fun e => hne (place_inj hok2 hok1 (no_neg he hj) e)
  refine ⟨hj, rfl, ?_, ?_⟩
  · show place (q.ls[j]!).wi ((giveQ (moreQ q c))[j]!) < place (q.ls[j]!).wi ((giveQ q)[j]!)
    have : place (q.ls[id j]!).wi ((giveQ (moreQ q c))[j]!) ≤ place (q.ls[id j]!).wi ((giveQ q)[id j]!) := hle
    simp only [id] at this
    omega
  · refine mv_ok he hj (give_ran he hj) ?_
    rcases hok2 with e | e
    · rw [e]; decide
    · have := (hL j hj).wi _ e; omega
end

/-- what Cancel answers -/
theorem cancV_at (q : QL) (x : Int) : ∃ (ms : List (Nat × Int × Int)) (e : Int), cancV q x = .tup [movL ms, .i e] ∧ (e ≠ 0 → ms = []) ∧ (eQ q ≠ 0 → ms = [] ∧ e = eQ q) ∧ ms.length < 2 ^ 62 ∧ ∀ m ∈ ms, Btr q m ∧ (m.1 : Int) ≠ x := by
  unfold cancV
  by_cases he : eQ q = 0
  · rw [if_pos he]
    have h8 := (val_of he).2.1
    have hp : (2 : Nat) ^ 62 = 4611686018427387904 := by decide
    by_cases hx : inB x 0 ((q.ls.length : Int) - 1) = true
    · rw [if_pos hx]
      rw [inB_iff] at hx
      have hb := canc_btr he (i := x.toNat) (by omega)
      refine ⟨_, _, rfl, fun h => absurd rfl h, fun h => absurd he h, by have := movs_len (b := fun k => (giveQ q)[k]!) (a := leftA q x.toNat) q.ls.length; show (cancM q x.toNat).length < _; unfold cancM; omega, fun m hm => ⟨(hb m hm).1, fun e => (hb m hm).2 (by omega)⟩⟩
    · rw [if_neg hx]
      exact ⟨[], 4, rfl, fun _ => rfl, fun h => absurd he h, by decide, by simp⟩
  · rw [if_neg he]
    exact ⟨[], _, rfl, fun _ => rfl, fun _ => ⟨rfl, rfl⟩, by decide, by simp⟩
/-- what Open answers -/
theorem openV_at (q : QL) (x : Int) : ∃ (ms : List (Nat × Int × Int)) (e : Int), openQV q x = .tup [movL ms, .i e] ∧ (e ≠ 0 → ms = []) ∧ (eQ q ≠ 0 → ms = [] ∧ e = eQ q) ∧ ms.length < 2 ^ 62 ∧ ∀ m ∈ ms, Btr q m := by
  unfold openQV
  by_cases he : eQ q = 0
  · rw [if_pos he]
    have h8 := (val_of he).2.1
    have hp : (2 : Nat) ^ 62 = 4611686018427387904 := by decide
    by_cases hx : inB x 0 ((q.cs.length : Int) - 1) = true
    · rw [if_pos hx]
      rw [inB_iff] at hx
      by_cases h6 : (q.cs[x.toNat]!).pl = 6
      · rw [if_pos h6]
        exact ⟨[], 7, rfl, fun _ => rfl, fun h => absurd he h, by decide, by simp⟩
      · rw [if_neg h6]
        refine ⟨_, _, rfl, fun h => absurd rfl h, fun h => absurd he h, by have := movs_len (b := fun k => (giveQ q)[k]!) (a := fun k => (giveQ (moreQ q x.toNat))[k]!) q.ls.length; show (openM q x.toNat).length < _; unfold openM; omega, open_btr he (by omega) h6⟩
    · rw [if_neg hx]
      exact ⟨[], 4, rfl, fun _ => rfl, fun h => absurd he h, by decide, by simp⟩
  · rw [if_neg he]
    exact ⟨[], _, rfl, fun _ => rfl, fun _ => ⟨rfl, rfl⟩, by decide, by simp⟩

theorem btr_ok {q : QL} {ms : List (Nat × Int × Int)} (h : ∀ m ∈ ms, Btr q m) : ∀ k, k < ms.length → MvOk ms[k]! := fun k hk => by
  rw [getElem!_pos ms k hk]
  exact (h _ (List.getElem_mem hk)).2.2.2

end Go.Proofs.Ytjgolcbpgmlilaa.AM

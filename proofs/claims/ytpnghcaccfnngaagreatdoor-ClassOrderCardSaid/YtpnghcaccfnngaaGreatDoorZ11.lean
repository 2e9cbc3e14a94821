/- Parts of the proof, joined: LibB to LibC. -/
import Derived.Lib.Strings
import Derived.Test.YtpnghcaccfnngaaGreatDoorZ10
set_option linter.unusedVariables false
set_option linter.unusedSimpArgs false
set_option linter.unusedSectionVars false
namespace Go.Proofs.YtpnghcaccfnngaaGreatDoor.AM
variable [Dr]
open Go
section
variable {α : Type} [Inhabited α] {f : α → List CV} {e : Nat}
theorem flat_len (hf : ∀ x, (f x).length = e) : ∀ xs : List α, (xs.flatMap f).length = xs.length * e
 | [] => by simp
 | x :: xs => by simp [flat_len hf xs, hf, Nat.succ_mul]; omega
theorem flat_take (hf : ∀ x, (f x).length = e) : ∀ (xs : List α) (k : Nat), (xs.flatMap f).take (k * e) = (xs.take k).flatMap f
 | [], k => by simp
 | x :: xs, 0 => by simp
 | x :: xs, k + 1 => by
  have h := flat_take hf xs k
  rw [List.flatMap_cons, List.take_succ_cons, List.flatMap_cons, Nat.succ_mul, List.take_append, hf, Nat.add_sub_cancel, h]
  rw [List.take_of_length_le (by rw [hf]; omega)]
theorem flat_drop (hf : ∀ x, (f x).length = e) : ∀ (xs : List α) (k : Nat), (xs.flatMap f).drop (k * e) = (xs.drop k).flatMap f
 | [], k => by simp
 | x :: xs, 0 => by simp
 | x :: xs, k + 1 => by
  have h := flat_drop hf xs k
  rw [List.flatMap_cons, List.drop_succ_cons, Nat.succ_mul, List.drop_append, hf, Nat.add_sub_cancel, h]
  rw [List.drop_of_length_le (by rw [hf]; omega), List.nil_append]
theorem flat_at (hf : ∀ x, (f x).length = e) {xs : List α} {k : Nat} (hk : k < xs.length) : ((xs.flatMap f).drop (k * e)).take e = f xs[k]! := by
 rw [flat_drop hf]
 have : xs.drop k = xs[k]! :: xs.drop (k + 1) := by rw [List.drop_eq_getElem_cons hk]; simp [hk]
 rw [this, List.flatMap_cons, List.take_append, hf, Nat.sub_self, List.take_zero, List.append_nil, List.take_of_length_le (by rw [hf]; omega)]
theorem flat_get (hf : ∀ x, (f x).length = e) {xs : List α} {k : Nat} (hk : k < xs.length) {j : Nat} (hj : j < e) : (xs.flatMap f)[k * e + j]? = (f xs[k]!)[j]? := by
 rw [← flat_at hf hk, List.getElem?_take, if_pos hj, List.getElem?_drop]
end
theorem ia_rsl {e n k : Nat} {cs : List CV} (h : k < n) (σ : List AObj) : f_iaS e [.cv (.rsl cs n), .cv (.int .i64 k)] σ = some (.cv (.rp cs (k * e)), σ) := by
 simp [f_iaS, h]
theorem sl_rsl {e n k : Nat} {cs : List CV} (h : k ≤ n) (hl : cs.length = n * e) (σ : List AObj) : f_slS e false true [.cv (.rsl cs n), .cv (.int .i64 k)] σ = some (.cv (.rsl (cs.take (k * e)) k), σ) := by
 simp [f_slS, bnds, bnd, h, hl]
theorem sr_rsl {e n k : Nat} {cs : List CV} (h : k ≤ n) (hl : cs.length = n * e) (σ : List AObj) : f_slS e true false [.cv (.rsl cs n), .cv (.int .i64 k)] σ = some (.cv (.rsl (cs.drop (k * e)) (n - k)), σ) := by
 simp only [f_slS, bnds, bnd, Option.map_some, Option.bind_some]
 have : (n - k) * e = (cs.drop (k * e)).length := by rw [List.length_drop, hl, Nat.sub_mul]
 simp [h, hl, Nat.sub_mul, List.take_of_length_le, ← this]
theorem rowOf_az (σ J : List AObj) : rowOf (σ ++ J) σ.length = rowOf J 0 := by
 unfold rowOf; rw [List.getElem?_append_right (Nat.le_refl _), Nat.sub_self]
theorem rowOf_as (σ J : List AObj) (k : Nat) : rowOf (σ ++ J) (σ.length + k) = rowOf J k := by
 unfold rowOf; rw [List.getElem?_append_right (by omega), Nat.add_sub_cancel_left]
theorem set_az (σ J : List AObj) (v : AObj) : (σ ++ J).set σ.length v = σ ++ J.set 0 v := by
 rw [List.set_append_right _ _ (Nat.le_refl _), Nat.sub_self]
theorem set_as (σ J : List AObj) (k : Nat) (v : AObj) : (σ ++ J).set (σ.length + k) v = σ ++ J.set k v := by
 rw [List.set_append_right _ _ (by omega), Nat.add_sub_cancel_left]
theorem get_az (σ J : List AObj) : (σ ++ J)[σ.length]? = J[0]? := by rw [List.getElem?_append_right (Nat.le_refl _), Nat.sub_self]
theorem get_as (σ J : List AObj) (k : Nat) : (σ ++ J)[σ.length + k]? = J[k]? := by rw [List.getElem?_append_right (by omega), Nat.add_sub_cancel_left]
theorem get_nz (σ : List AObj) : σ[σ.length]? = none := List.getElem?_eq_none (Nat.le_refl _)
theorem get_ns (σ : List AObj) (k : Nat) : σ[σ.length + k]? = none := List.getElem?_eq_none (by omega)
theorem rowOf_low {σ : List AObj} {l : Nat} {cs : List AV} (h : rowOf σ l = some cs) (J : List AObj) : rowOf (σ ++ J) l = some cs := by
 have h := rowOf_some h
 unfold rowOf; rw [List.getElem?_append_left (List.getElem?_eq_some_iff.1 h).1, h]
theorem get_low {σ : List AObj} {l : Nat} {cs : List AV} (h : rowOf σ l = some cs) (J : List AObj) : (σ ++ J)[l]? = some (.cells cs) := by
 have h := rowOf_some h
 rw [List.getElem?_append_left (List.getElem?_eq_some_iff.1 h).1, h]
theorem str_eq (x y : ByteArray) : (x.toList == y.toList) = decide (x = y) := by
 rw [Bool.eq_iff_iff]; simp
 constructor
 ·intro h
  rw [Lib.toList_data, Lib.toList_data] at h
  cases x; cases y
  simp only at h
  congr
  exact Array.toList_inj.1 h
 ·rintro rfl; rfl
theorem wrap_succ {n : Nat} (h : n + 1 < 2 ^ 63) : IntKind.i64.wrap ((n : Int) + 1) = ((n + 1 : Nat) : Int) := by rw [wrap_in (by omega)]; rfl
theorem sc_cv (cs : List CV) : (cs.map AV.cv).all AV.isSc = true := by simp [AV.isSc]
def AccS (e : Nat) (σ : List AObj) (v : AV) (n : Nat) (cs : List CV) : Prop := (v = .cv .nils ∧ n = 0 ∧ cs = []) ∨ ∃ l, v = .sl l 0 n e ∧ cs.length = n * e ∧ rowOf σ l = some (cs.map .cv)
theorem AccS.nil (e : Nat) (σ : List AObj) : AccS e σ (.cv .nils) 0 [] := .inl ⟨rfl, rfl, rfl⟩
theorem accS_append {e by_ n : Nat} {σ : List AObj} {v : AV} {cs x : List CV} (h : AccS e σ v n cs) (hx : x.length = e) (hb : (n + 1) * by_ ≤ 2 ^ 44) (hn : n + 1 ≤ 2 ^ 44) :
  ∃ (v' : AV) (σ' : List AObj), f_append e by_ [v, .sl σ.length 0 1 e] (σ ++ [AObj.cells (x.map .cv)]) = some (v', σ') ∧ AccS e σ' v' (n + 1) (cs ++ x) := by
 have hsrc : srcCells (σ ++ [AObj.cells (x.map .cv)]) e (.sl σ.length 0 1 e) = some (x.map .cv) := by
  have h1 : 0 + 1 * e ≤ (x.map AV.cv).length := by simp [hx]
  simp only [srcCells, if_true, rowOf_last, Option.bind_some]
  rw [if_pos h1, List.drop_zero, List.take_of_length_le (by simp [hx])]
 rcases h with ⟨rfl, rfl, rfl⟩ | ⟨l, rfl, hl, hr⟩
 ·refine ⟨.sl (σ ++ [AObj.cells (x.map .cv)]).length 0 1 e, (σ ++ [AObj.cells (x.map .cv)]) ++ [AObj.cells (x.map .cv)], ?_, .inr ⟨_, rfl, by simp [hx], by rw [rowOf_last]; simp⟩⟩
  have h1 : 1 * e = (x.map AV.cv).length ∧ 1 * by_ ≤ 2 ^ 44 ∧ 1 ≤ 2 ^ 44 ∧ (x.map AV.cv).all AV.isSc = true := ⟨by simp [hx], by omega, by omega, sc_cv x⟩
  simp only [f_append, hsrc, lenF, Option.bind_some]
  rw [if_neg (by omega), if_pos h1]
 ·have hr' := rowOf_push hr (AObj.cells (x.map .cv))
  refine ⟨.sl (σ ++ [AObj.cells (x.map .cv)]).length 0 (n + 1) e, (σ ++ [AObj.cells (x.map .cv)]).set l AObj.dead ++ [AObj.cells (cs.map .cv ++ x.map .cv)], ?_, .inr ⟨(σ ++ [AObj.cells (x.map .cv)]).length, rfl, by rw [List.length_append, hl, hx, Nat.succ_mul], ?_⟩⟩
  ·have h1 : True ∧ n * e ≤ (cs.map AV.cv).length ∧ 1 * e = (x.map AV.cv).length ∧ (n + 1) * by_ ≤ 2 ^ 44 ∧ n + 1 ≤ 2 ^ 44 ∧ (x.map AV.cv).all AV.isSc = true := ⟨trivial, by simp [hl], by simp [hx], hb, hn, sc_cv x⟩
   simp only [f_append, hr', hsrc, lenF, Option.bind_some]
   rw [if_pos h1, List.take_of_length_le (by simp [hl])]
  ·have : (σ ++ [AObj.cells (x.map .cv)]).length = ((σ ++ [AObj.cells (x.map .cv)]).set l AObj.dead).length := by simp
   rw [this, rowOf_last, List.map_append]
theorem frzCs_cv {p : CV → Prop} {σ : List AObj} : ∀ {cs : List CV}, (∀ c ∈ cs, p c) → FrzCs p σ (cs.map .cv) cs
 | [], _ => .nil
 | c :: cs, h => .cons (.c _ (h c (by simp))) (frzCs_cv fun c' hc => h c' (by simp [hc]))
theorem accS_frz {p : CV → Prop} {e n : Nat} {σ : List AObj} {v : AV} {cs : List CV} (h : AccS e σ v n cs) (hp : ∀ c ∈ cs, p c) : FrzV p σ v (.cv (.rsl cs n)) := by
 rcases h with ⟨rfl, rfl, rfl⟩ | ⟨l, rfl, hl, hr⟩
 ·exact .c .nl
 ·refine .c (.sl l 0 n e _ _ hr (by simp [hl]) ?_)
  rw [List.drop_zero, List.take_of_length_le (by simp [hl])]
  exact frzCs_cv hp
theorem sl_frz {p : CV → Prop} {l n e : Nat} {σ : List AObj} {cs : List CV} {rest : List AV} (hr : rowOf σ l = some (cs.map .cv ++ rest)) (hl : cs.length = n * e) (hp : ∀ c ∈ cs, p c) : FrzV p σ (.sl l 0 n e) (.cv (.rsl cs n)) := by
 refine .c (.sl l 0 n e _ _ hr (by simp [hl]) ?_)
 rw [List.drop_zero, List.take_left' (by simp [hl])]
 exact frzCs_cv hp
end Go.Proofs.YtpnghcaccfnngaaGreatDoor.AM

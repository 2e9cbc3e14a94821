/- Parts of the proof, joined: LibB to LibB. -/
import Derived.Lib.Strings
import Derived.Test.YtphdemhopihpnaaZ42

namespace Go.Proofs.Ytphdemhopihpnaa.AM
open Go
set_option linter.unusedVariables false
set_option linter.unusedSimpArgs false
set_option linter.unusedSectionVars false

section
variable {α : Type} [Inhabited α] {f : α → List CV} {e : Nat}

theorem flat_len (hf : ∀ x, (f x).length = e) : ∀ xs : List α, (xs.flatMap f).length = xs.length * e
  | [] => by simp
  | x :: xs => by simp [flat_len hf xs, hf, Nat.succ_mul]; omega
theorem flat_take (hf : ∀ x, (f x).length = e) : ∀ (xs : List α) (k : Nat), (xs.flatMap f).take (k * e) = (xs.take k).flatMap f
  | [], k => by simp
  | x :: xs, 0 => by simp
  | x :: xs, k + 1 => by
    have h := flat_take hf xs k
    rw [List.flatMap_cons, List.take_succ_cons, List.flatMap_cons, Nat.succ_mul, List.take_append, hf, Nat.add_sub_cancel, h]
    rw [List.take_of_length_le (by rw [hf]; omega)]
theorem flat_drop (hf : ∀ x, (f x).length = e) : ∀ (xs : List α) (k : Nat), (xs.flatMap f).drop (k * e) = (xs.drop k).flatMap f
  | [], k => by simp
  | x :: xs, 0 => by simp
  | x :: xs, k + 1 => by
    have h := flat_drop hf xs k
    rw [List.flatMap_cons, List.drop_succ_cons, Nat.succ_mul, List.drop_append, hf, Nat.add_sub_cancel, h]
    rw [List.drop_of_length_le (by rw [hf]; omega), List.nil_append]
theorem flat_at (hf : ∀ x, (f x).length = e) {xs : List α} {k : Nat} (hk : k < xs.length) : ((xs.flatMap f).drop (k * e)).take e = f xs[k]! := by
  rw [flat_drop hf]
  have : xs.drop k = xs[k]! :: xs.drop (k + 1) := by rw [List.drop_eq_getElem_cons hk]; simp [hk]
  rw [this, List.flatMap_cons, List.take_append, hf, Nat.sub_self, List.take_zero, List.append_nil, List.take_of_length_le (by rw [hf]; omega)]
theorem flat_get (hf : ∀ x, (f x).length = e) {xs : List α} {k : Nat} (hk : k < xs.length) {j : Nat} (hj : j < e) : (xs.flatMap f)[k * e + j]? = (f xs[k]!)[j]? := by
  rw [← flat_at hf hk, List.getElem?_take, if_pos hj, List.getElem?_drop]
theorem flat_get0 (hf : ∀ x, (f x).length = e) {xs : List α} {k : Nat} (hk : k < xs.length) (hj : 0 < e) : (xs.flatMap f)[k * e]? = (f xs[k]!)[0]? := flat_get hf hk (j := 0) hj
end

theorem ia_rsl {e n k : Nat} {cs : List CV} (h : k < n) (σ : List AObj) : f_iaS e [.cv (.rsl cs n), .cv (.int .i64 k)] σ = some (.cv (.rp cs (k * e)), σ) := by
  simp [f_iaS, h]
theorem sl_rsl {e n k : Nat} {cs : List CV} (h : k ≤ n) (hl : cs.length = n * e) (σ : List AObj) : f_slS e false true [.cv (.rsl cs n), .cv (.int .i64 k)] σ = some (.cv (.rsl (cs.take (k * e)) k), σ) := by
  simp [f_slS, bnds, bnd, h, hl]
theorem sl_ints {k : Nat} {kd : IntKind} {zs : List Int} (h : k ≤ zs.length) (σ : List AObj) : f_slS 1 false true [.cv (.rsl (zs.map (.int kd)) zs.length), .cv (.int .i64 k)] σ = some (.cv (.rsl ((zs.take k).map (.int kd)) k), σ) := by
  rw [sl_rsl h (by simp)]; simp [List.map_take]
theorem sr_rsl {e n k : Nat} {cs : List CV} (h : k ≤ n) (hl : cs.length = n * e) (σ : List AObj) : f_slS e true false [.cv (.rsl cs n), .cv (.int .i64 k)] σ = some (.cv (.rsl (cs.drop (k * e)) (n - k)), σ) := by
  simp only [f_slS, bnds, bnd, Option.map_some, Option.bind_some]
  have : (n - k) * e = (cs.drop (k * e)).length := by rw [List.length_drop, hl, Nat.sub_mul]
  simp [h, hl, Nat.sub_mul, List.take_of_length_le, ← this]

theorem mk_ints {n : Nat} (h : n < 2 ^ 40) (σ : List AObj) : f_mkslice 1 8 [.i 0] [.i n, .i n] σ = some (.sl σ.length 0 n 1, σ ++ [.cells ((List.replicate n (0 : Int)).map AV.i)]) := by
  have e : (2 : Int) ^ 46 = 70368744177664 := by decide
  have e2 : (2 : Nat) ^ 40 = 1099511627776 := by decide
  have h1 : 0 ≤ (n : Int) ∧ True ∧ (n : Int) * (8 : Nat) ≤ 2 ^ 46 ∧ (n : Int) ≤ 2 ^ 46 ∧ [AV.i 0].length = 1 := by
    refine ⟨by omega, trivial, by omega, by omega, rfl⟩
  simp only [f_mkslice]
  rw [if_pos h1]
  simp [zcells]

theorem slo_open {l n w : Nat} (h : w < n) (σ : List AObj) : f_slS 1 true false [.sl l 0 n 1, .cv (.int .i64 w)] σ = some (.sl l w (n - w) 1, σ) := by
  have h2 : ¬ (w = n ∧ 0 < w) := by omega
  simp [f_slS, bnds, bnd, Nat.le_of_lt h, h2]
theorem shi_open {l n w : Nat} (h : w ≤ n) (σ : List AObj) : f_slS 1 false true [.sl l 0 n 1, .cv (.int .i64 w)] σ = some (.sl l 0 w 1, σ) := by
  have h2 : ¬ (0 = w ∧ 0 < 0) := by omega
  simp [f_slS, bnds, bnd, h]

/-! A heap that has grown: what lies above, what lies below. -/
theorem rowOf_az (σ J : List AObj) : rowOf (σ ++ J) σ.length = rowOf J 0 := by
  unfold rowOf; rw [List.getElem?_append_right (Nat.le_refl _), Nat.sub_self]
theorem rowOf_as (σ J : List AObj) (k : Nat) : rowOf (σ ++ J) (σ.length + k) = rowOf J k := by
  unfold rowOf; rw [List.getElem?_append_right (by omega), Nat.add_sub_cancel_left]
theorem set_az (σ J : List AObj) (v : AObj) : (σ ++ J).set σ.length v = σ ++ J.set 0 v := by
  rw [List.set_append_right _ _ (Nat.le_refl _), Nat.sub_self]
theorem set_as (σ J : List AObj) (k : Nat) (v : AObj) : (σ ++ J).set (σ.length + k) v = σ ++ J.set k v := by
  rw [List.set_append_right _ _ (by omega), Nat.add_sub_cancel_left]
theorem get_az (σ J : List AObj) : (σ ++ J)[σ.length]? = J[0]? := by rw [List.getElem?_append_right (Nat.le_refl _), Nat.sub_self]
theorem get_as (σ J : List AObj) (k : Nat) : (σ ++ J)[σ.length + k]? = J[k]? := by rw [List.getElem?_append_right (by omega), Nat.add_sub_cancel_left]
theorem get_nz (σ : List AObj) : σ[σ.length]? = none := List.getElem?_eq_none (Nat.le_refl _)
theorem get_ns (σ : List AObj) (k : Nat) : σ[σ.length + k]? = none := List.getElem?_eq_none (by omega)
theorem rowOf_low {σ : List AObj} {l : Nat} {cs : List AV} (h : rowOf σ l = some cs) (J : List AObj) : rowOf (σ ++ J) l = some cs := by
  have h := rowOf_some h
  unfold rowOf; rw [List.getElem?_append_left (List.getElem?_eq_some_iff.1 h).1, h]
theorem get_low {σ : List AObj} {l : Nat} {cs : List AV} (h : rowOf σ l = some cs) (J : List AObj) : (σ ++ J)[l]? = some (.cells cs) := by
  have h := rowOf_some h
  rw [List.getElem?_append_left (List.getElem?_eq_some_iff.1 h).1, h]

theorem str_eq (x y : ByteArray) : (x.toList == y.toList) = decide (x = y) := by
  rw [Bool.eq_iff_iff]; simp
  constructor
  · intro h
    rw [Lib.toList_data, Lib.toList_data] at h
    cases x; cases y
    simp only at h
    congr
    exact Array.toList_inj.1 h
  · rintro rfl; rfl

theorem wrap_nat {n : Nat} (h : n < 2 ^ 63) : IntKind.i64.wrap (n : Int) = n := wrap_in (by omega)
theorem wrap_succ {n : Nat} (h : n + 1 < 2 ^ 63) : IntKind.i64.wrap ((n : Int) + 1) = ((n + 1 : Nat) : Int) := by rw [wrap_in (by omega)]; rfl

end Go.Proofs.Ytphdemhopihpnaa.AM


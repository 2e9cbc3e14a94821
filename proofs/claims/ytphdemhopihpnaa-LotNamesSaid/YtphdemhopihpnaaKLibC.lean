/- Slices of a known capacity: helps. For any program. -/
import Derived.Test.YtphdemhopihpnaaZ43
import Derived.Test.YtphdemhopihpnaaZ38
namespace Go.Proofs.Ytphdemhopihpnaa.AM
open Go
set_option linter.unusedVariables false
set_option linter.unusedSimpArgs false

theorem mkC_ints {n : Nat} (h : n < 2 ^ 40) (σ : List AObj) : f_mksliceC 1 8 [.i 0] [.i n, .i n] σ = some (.slc σ.length 0 n n 1, σ ++ [.cells ((List.replicate n (0 : Int)).map AV.i)]) := by
  have e : (2 : Int) ^ 46 = 70368744177664 := by decide
  have e2 : (2 : Nat) ^ 40 = 1099511627776 := by decide
  have h1 : 0 ≤ (n : Int) ∧ True ∧ (n : Int) * (8 : Nat) ≤ 2 ^ 46 ∧ (n : Int) ≤ 2 ^ 46 ∧ [AV.i 0].length = 1 := by
    refine ⟨by omega, trivial, by omega, by omega, rfl⟩
  simp only [f_mksliceC]
  rw [if_pos h1]
  simp [zcells]
theorem mkC_nils {n : Nat} (h : n < 2 ^ 40) (σ : List AObj) : f_mksliceC 1 24 [.cv .nils] [.i n, .i n] σ = some (.slc σ.length 0 n n 1, σ ++ [.cells (List.replicate n (.cv .nils))]) := by
  have e : (2 : Int) ^ 46 = 70368744177664 := by decide
  have e2 : (2 : Nat) ^ 40 = 1099511627776 := by decide
  have h1 : 0 ≤ (n : Int) ∧ True ∧ (n : Int) * (24 : Nat) ≤ 2 ^ 46 ∧ (n : Int) ≤ 2 ^ 46 ∧ [AV.cv .nils].length = 1 := by
    refine ⟨by omega, trivial, by omega, by omega, rfl⟩
  simp only [f_mksliceC]
  rw [if_pos h1]
  simp [zcells]

/-- the front of a slice -/
theorem slc_hi {l n cap e k : Nat} (h : k ≤ cap) (σ : List AObj) : f_slS e false true [.slc l 0 n cap e, .cv (.int .i64 k)] σ = some (.slc l 0 k cap e, σ) := by
  have h2 : ¬ (0 = cap ∧ 0 < 0) := by omega
  simp [f_slS, bnds, bnd, h]
/-- the end of a slice -/
theorem slc_lo {l n cap e k : Nat} (h : k ≤ n) (hc : n ≤ cap) (hk : k < cap) (σ : List AObj) : f_slS e true false [.slc l 0 n cap e, .cv (.int .i64 k)] σ = some (.slc l (k * e) (n - k) (cap - k) e, σ) := by
  have h2 : ¬ (k = cap ∧ 0 < k) := by omega
  simp [f_slS, bnds, bnd, h, hc, h2]
theorem slc_lo0 {l n cap e k : Nat} (h : k = n) (hc : k = cap) (hk : 0 < k) (σ : List AObj) : f_slS e true false [.slc l 0 n cap e, .cv (.int .i64 k)] σ = some (.cv (.rsl [] 0), σ) := by
  subst h; subst hc
  simp [f_slS, bnds, bnd, hk]
theorem slc_mid {l n cap e a b : Nat} (h : a ≤ b) (hc : b ≤ cap) (hk : a < cap) (σ : List AObj) : f_slS e true true [.slc l 0 n cap e, .cv (.int .i64 a), .cv (.int .i64 b)] σ = some (.slc l (a * e) (b - a) (cap - a) e, σ) := by
  have h2 : ¬ (a = cap ∧ 0 < a) := by omega
  simp [f_slS, bnds, bnd, h, hc, h2]
theorem slc_3 {l n cap e a b c : Nat} (h : a ≤ b) (h2 : b ≤ c) (h3 : c ≤ n) (σ : List AObj) : f_slS3 [.slc l 0 n cap e, .cv (.int .i64 a), .cv (.int .i64 b), .cv (.int .i64 c)] σ = some (.undef, σ) := by
  simp [f_slS3, bnd, h, h2, h3]

theorem setRange_front {α : Type} {xs ys zs vs : List α} (h : vs.length ≤ ys.length) : setRange (xs ++ ys ++ zs) xs.length vs = xs ++ vs ++ ys.drop vs.length ++ zs := by
  rw [setRange_eq _ _ _ (by simp; omega), List.append_assoc xs ys zs, List.take_left' rfl]
  rw [List.drop_append, List.drop_of_length_le (by omega), List.nil_append, Nat.add_sub_cancel_left, List.drop_append_of_le_length h]
  simp
theorem sc_cv (cs : List CV) : (cs.map AV.cv).all AV.isSc = true := by simp [AV.isSc]
theorem sc_ints (zs : List Int) : (zs.map AV.i).all AV.isSc = true := by simp [AV.isSc]

/-- an element is taken out: what is behind it moves up, the last place is cleared -/
theorem append_out {σ : List AObj} {l n cap e by_ i : Nat} {as_ bs cs : List AV} (hr : rowOf σ l = some (as_ ++ bs ++ cs)) (ha : as_.length = i * e) (hb : bs.length = e) (hc : cs.length = (n - (i + 1)) * e) (hi : i < n) (hn : n ≤ cap) (hsc : cs.all AV.isSc = true) {src : AV}
    (hs : srcCells σ e src = some cs) (hl : lenF src = some (n - (i + 1))) :
    f_append e by_ [.slc l 0 i cap e, src] σ = some (.slc l 0 (n - 1) cap e, σ.set l (.cells (as_ ++ cs ++ (bs ++ cs).drop cs.length))) := by
  have h1 : i + (n - (i + 1)) = n - 1 := by omega
  have h2 : i + (n - (i + 1)) ≤ cap := by omega
  have h3 : True ∧ 0 + (i + (n - (i + 1))) * e ≤ (as_ ++ bs ++ cs).length ∧ (n - (i + 1)) * e = cs.length ∧ cs.all AV.isSc = true := by
    refine ⟨trivial, ?_, hc.symm, hsc⟩
    simp only [List.length_append, ha, hb, hc, Nat.add_mul]; omega
  simp only [f_append, hr, hs, hl, Option.bind_some, h2, if_true]
  rw [if_pos h3, h1]
  congr 4
  have := setRange_front (xs := as_) (ys := bs ++ cs) (zs := []) (vs := cs) (by simp)
  rw [List.append_nil, List.append_nil, ha] at this
  rw [Nat.zero_add, List.append_assoc]; exact this

/-! A list of structs that is being built by append -/
def AccS (e : Nat) (σ : List AObj) (v : AV) (n : Nat) (cs : List CV) : Prop := (v = .cv .nils ∧ n = 0 ∧ cs = []) ∨ ∃ l, v = .sl l 0 n e ∧ cs.length = n * e ∧ rowOf σ l = some (cs.map .cv)
theorem AccS.nil (e : Nat) (σ : List AObj) : AccS e σ (.cv .nils) 0 [] := .inl ⟨rfl, rfl, rfl⟩
theorem accS_append {e by_ n : Nat} {σ : List AObj} {v : AV} {cs x : List CV} (h : AccS e σ v n cs) (hx : x.length = e) (hb : (n + 1) * by_ ≤ 2 ^ 44) (hn : n + 1 ≤ 2 ^ 44) :
    ∃ (v' : AV) (σ' : List AObj), f_append e by_ [v, .sl σ.length 0 1 e] (σ ++ [AObj.cells (x.map .cv)]) = some (v', σ') ∧ AccS e σ' v' (n + 1) (cs ++ x) := by
  have hsrc : srcCells (σ ++ [AObj.cells (x.map .cv)]) e (.sl σ.length 0 1 e) = some (x.map .cv) := by
    have h1 : 0 + 1 * e ≤ (x.map AV.cv).length := by simp [hx]
    simp only [srcCells, if_true, rowOf_last, Option.bind_some]
    rw [if_pos h1, List.drop_zero, List.take_of_length_le (by simp [hx])]
  rcases h with ⟨rfl, rfl, rfl⟩ | ⟨l, rfl, hl, hr⟩
  · refine ⟨.sl (σ ++ [AObj.cells (x.map .cv)]).length 0 1 e, (σ ++ [AObj.cells (x.map .cv)]) ++ [AObj.cells (x.map .cv)], ?_, .inr ⟨_, rfl, by simp [hx], by rw [rowOf_last]; simp⟩⟩
    have h1 : 1 * e = (x.map AV.cv).length ∧ 1 * by_ ≤ 2 ^ 44 ∧ 1 ≤ 2 ^ 44 ∧ (x.map AV.cv).all AV.isSc = true := ⟨by simp [hx], by omega, by omega, sc_cv x⟩
    simp only [f_append, hsrc, lenF, Option.bind_some]
    rw [if_neg (by omega), if_pos h1]
  · have hr' := rowOf_push hr (AObj.cells (x.map .cv))
    refine ⟨.sl (σ ++ [AObj.cells (x.map .cv)]).length 0 (n + 1) e, (σ ++ [AObj.cells (x.map .cv)]).set l AObj.dead ++ [AObj.cells (cs.map .cv ++ x.map .cv)], ?_, .inr ⟨(σ ++ [AObj.cells (x.map .cv)]).length, rfl, by rw [List.length_append, hl, hx, Nat.succ_mul], ?_⟩⟩
    · have h1 : True ∧ n * e ≤ (cs.map AV.cv).length ∧ 1 * e = (x.map AV.cv).length ∧ (n + 1) * by_ ≤ 2 ^ 44 ∧ n + 1 ≤ 2 ^ 44 ∧ (x.map AV.cv).all AV.isSc = true := ⟨trivial, by simp [hl], by simp [hx], hb, hn, sc_cv x⟩
      simp only [f_append, hr', hsrc, lenF, Option.bind_some]
      rw [if_pos h1, List.take_of_length_le (by simp [hl])]
    · have : (σ ++ [AObj.cells (x.map .cv)]).length = ((σ ++ [AObj.cells (x.map .cv)]).set l AObj.dead).length := by simp
      rw [this, rowOf_last, List.map_append]
theorem frzCs_cv {p : CV → Prop} {σ : List AObj} : ∀ {cs : List CV}, (∀ c ∈ cs, p c) → FrzCs p σ (cs.map .cv) cs
  | [], _ => .nil
  | c :: cs, h => .cons (.c _ (h c (by simp))) (frzCs_cv fun c' hc => h c' (by simp [hc]))
theorem accS_frz {p : CV → Prop} {e n : Nat} {σ : List AObj} {v : AV} {cs : List CV} (h : AccS e σ v n cs) (hp : ∀ c ∈ cs, p c) : FrzV p σ v (.cv (.rsl cs n)) := by
  rcases h with ⟨rfl, rfl, rfl⟩ | ⟨l, rfl, hl, hr⟩
  · exact .c .nl
  · refine .c (.sl l 0 n e _ _ hr (by simp [hl]) ?_)
    rw [List.drop_zero, List.take_of_length_le (by simp [hl])]
    exact frzCs_cv hp
/-- a slice of structs that lies at the front of a row -/
theorem sl_frz {p : CV → Prop} {l n e : Nat} {σ : List AObj} {cs : List CV} {rest : List AV} (hr : rowOf σ l = some (cs.map .cv ++ rest)) (hl : cs.length = n * e) (hp : ∀ c ∈ cs, p c) : FrzV p σ (.sl l 0 n e) (.cv (.rsl cs n)) := by
  refine .c (.sl l 0 n e _ _ hr (by simp [hl]) ?_)
  rw [List.drop_zero, List.take_left' (by simp [hl])]
  exact frzCs_cv hp
theorem slc_frz {p : CV → Prop} {l n c e : Nat} {σ : List AObj} {cs : List CV} {rest : List AV} (hr : rowOf σ l = some (cs.map .cv ++ rest)) (hl : cs.length = n * e) (hp : ∀ c ∈ cs, p c) : FrzV p σ (.slc l 0 n c e) (.cv (.rsl cs n)) := by
  refine .c (.slc l 0 n c e _ _ hr (by simp [hl]) ?_)
  rw [List.drop_zero, List.take_left' (by simp [hl])]
  exact frzCs_cv hp

end Go.Proofs.Ytphdemhopihpnaa.AM

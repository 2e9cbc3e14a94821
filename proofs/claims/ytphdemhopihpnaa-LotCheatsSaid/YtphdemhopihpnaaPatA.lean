/- Lists of numbers as closed values; small helps for contracts. -/
import Derived.Test.YtphdemhopihpnaaAmYs
namespace Go.Proofs.Ytphdemhopihpnaa.AM
open Go
set_option linter.unusedVariables false
set_option linter.unusedSimpArgs false

abbrev ints (zs : List Int) : AV := .cv (.rsl (zs.map (.int .i64)) zs.length)

theorem ints_addr {kd : IntKind} {zs : List Int} {n : Nat} {k : Nat} (h : k < n) (σ : List AObj) : f_iaS 1 [.cv (.rsl (zs.map (.int kd)) n), .cv (.int .i64 k)] σ = some (.cv (.rp (zs.map (.int kd)) k), σ) := by
  simp [f_iaS, h]

theorem ints_load {kd : IntKind} {zs : List Int} {k : Nat} (h : k < zs.length) : (zs.map (CV.int kd))[k]? = some (.int kd (zs.getD k 0)) := by
  simp [List.getD, h]

theorem wrap_in {n : Int} (h : -9223372036854775808 ≤ n ∧ n ≤ 9223372036854775807) : IntKind.i64.wrap n = n := by
  simp [IntKind.wrap, IntKind.bits, IntKind.signed, Int.bmod]
  omega

theorem AC.run {P : Program} {f : FuncId} {args : List AV} {v : AV} {σ τ : List AObj} {K : AV → List AObj → Prop} (h : AC P f args σ fun r τ' => r = v ∧ τ' = τ) (hk : K v τ) : AC P f args σ K := h.mono fun r τ ⟨h1, h2⟩ => by rw [h1, h2]; exact hk

theorem CallV.run {P : Program} {fv : AV} {args : List AV} {v : AV} {σ τ : List AObj} {K : AV → List AObj → Prop} (h : CallV P fv args σ fun r τ' => r = v ∧ τ' = τ) (hk : K v τ) : CallV P fv args σ K := h.mono fun r τ ⟨h1, h2⟩ => by rw [h1, h2]; exact hk

theorem frzCs_ints {p : CV → Prop} {σ : List AObj} (hp : ∀ z, p (.int .i64 z)) : ∀ zs : List Int, FrzCs p σ (zs.map AV.i) (zs.map (.int .i64))
  | [] => .nil
  | z :: zs => .cons (.c _ (hp z)) (frzCs_ints hp zs)
/-- a slice of numbers that was made here -/
theorem frz_ints {p : CV → Prop} (hp : ∀ z, p (.int .i64 z)) {σ : List AObj} {zs : List Int} {l : Nat} (hr : rowOf σ l = some (zs.map AV.i)) : FrzV p σ (.sl l 0 zs.length 1) (ints zs) := by
  refine .c (.sl l 0 zs.length 1 _ _ hr (by simp) ?_)
  have : ((zs.map AV.i).drop 0).take (zs.length * 1) = zs.map AV.i := by rw [List.drop_zero]; exact List.take_of_length_le (by simp)
  rw [this]
  exact frzCs_ints hp zs
theorem frz_ints' {p : CV → Prop} (hp : ∀ z, p (.int .i64 z)) {σ : List AObj} {zs : List Int} {l n : Nat} (hn : n = zs.length) (hr : rowOf σ l = some (zs.map AV.i)) : FrzV p σ (.sl l 0 n 1) (ints zs) := by subst hn; exact frz_ints hp hr
theorem sl_addr {l off n k : Nat} (h : k < n) (σ : List AObj) : f_iaS 1 [.sl l off n 1, .cv (.int .i64 k)] σ = some (.ptr l (off + k), σ) := by
  simp [f_iaS, h]
theorem av_load {zs : List Int} {k : Nat} (h : k < zs.length) : (zs.map AV.i)[k]? = some (.i (zs[k]?.getD 0)) := by simp [h]
theorem set_ints {zs : List Int} {k : Nat} {o : Int} : (zs.map AV.i).set k (.cv (.int .i64 o)) = (zs.set k o).map AV.i := List.map_set.symm
theorem frz_ints_nl {p : CV → Prop} {σ : List AObj} : FrzV p σ (.cv .nils) (ints []) := .c .nl

theorem rowOf_z {cs : List AV} {σ : List AObj} : rowOf (AObj.cells cs :: σ) 0 = some cs := rfl
theorem rowOf_s {o : AObj} {σ : List AObj} {n : Nat} : rowOf (o :: σ) (n + 1) = rowOf σ n := rfl
theorem setRange_z {cs : List AV} {n : Nat} : setRange cs n [] = cs := rfl
theorem setRange_s {cs : List AV} {n : Nat} {v : AV} {vs : List AV} : setRange cs n (v :: vs) = setRange (cs.set n v) (n + 1) vs := rfl

/-- a list of numbers that is being built by append -/
def AccAt (σ : List AObj) (v : AV) (zs : List Int) : Prop := (v = .cv .nils ∧ zs = []) ∨ ∃ l, v = .sl l 0 zs.length 1 ∧ rowOf σ l = some (zs.map AV.i)

theorem rowOf_push {σ : List AObj} {l : Nat} {cs : List AV} (h : rowOf σ l = some cs) (x : AObj) : rowOf (σ ++ [x]) l = some cs := by
  have h := rowOf_some h
  unfold rowOf; rw [List.getElem?_append_left (List.getElem?_eq_some_iff.1 h).1, h]

theorem rowOf_last (σ : List AObj) (cs : List AV) : rowOf (σ ++ [.cells cs]) σ.length = some cs := by simp [rowOf]

theorem AccAt.nil (σ : List AObj) : AccAt σ (.cv .nils) [] := .inl ⟨rfl, rfl⟩

theorem acc_append {σ : List AObj} {v : AV} {zs : List Int} (z : Int) (h : AccAt σ v zs) (hl : zs.length < 2 ^ 40) :
    ∃ (v' : AV) (σ' : List AObj), f_append 1 8 [v, .sl σ.length 0 1 1] (σ ++ [AObj.cells [.i z]]) = some (v', σ') ∧ AccAt σ' v' (zs ++ [z]) := by
  have hsrc : srcCells (σ ++ [AObj.cells [.i z]]) 1 (.sl σ.length 0 1 1) = some [.i z] := by simp [srcCells, rowOf]
  rcases h with ⟨rfl, rfl⟩ | ⟨l, rfl, hr⟩
  · refine ⟨.sl (σ ++ [AObj.cells [.i z]]).length 0 1 1, (σ ++ [AObj.cells [.i z]]) ++ [AObj.cells [.i z]], ?_, .inr ⟨_, rfl, ?_⟩⟩
    · simp only [f_append, hsrc, lenF, Option.bind_some]
      rfl
    · rw [rowOf_last]; rfl
  · have hr' := rowOf_push hr (AObj.cells [.i z])
    refine ⟨.sl (σ ++ [AObj.cells [.i z]]).length 0 (zs.length + 1) 1, (σ ++ [AObj.cells [.i z]]).set l AObj.dead ++ [AObj.cells (zs.map AV.i ++ [.i z])], ?_, .inr ⟨(σ ++ [AObj.cells [.i z]]).length, by simp, ?_⟩⟩
    · simp only [f_append, hr', hsrc, lenF, Option.bind_some]
      have hp : (2 : Nat) ^ 40 = 1099511627776 := by decide
      have hp2 : (2 : Nat) ^ 44 = 17592186044416 := by decide
      have hc : (True ∧ zs.length * 1 ≤ (zs.map AV.i).length ∧ 1 * 1 = [AV.i z].length ∧ (zs.length + 1) * 8 ≤ 2 ^ 44 ∧ zs.length + 1 ≤ 2 ^ 44 ∧ [AV.i z].all AV.isSc = true) := by
        refine ⟨trivial, by simp, rfl, by omega, by omega, rfl⟩
      rw [if_pos hc, Nat.mul_one, List.take_of_length_le (by simp)]
    · have : (σ ++ [AObj.cells [.i z]]).length = ((σ ++ [AObj.cells [.i z]]).set l AObj.dead).length := by simp
      rw [this, rowOf_last]; simp

/-- a list that is built at a place from b on -/
def AccFrom (b : Nat) (σ : List AObj) (v : AV) (zs : List Int) : Prop := b ≤ σ.length ∧ ((v = .cv .nils ∧ zs = []) ∨ ∃ l, b ≤ l ∧ v = .sl l 0 zs.length 1 ∧ rowOf σ l = some (zs.map AV.i))
theorem AccFrom.acc {b : Nat} {σ : List AObj} {v : AV} {zs : List Int} (h : AccFrom b σ v zs) : AccAt σ v zs := h.2.imp id fun ⟨l, _, h1, h2⟩ => ⟨l, h1, h2⟩
theorem AccFrom.nil {b : Nat} {σ : List AObj} (h : b ≤ σ.length) : AccFrom b σ (.cv .nils) [] := ⟨h, .inl ⟨rfl, rfl⟩⟩
theorem rowOf_set_ne {σ : List AObj} {l l' : Nat} (h : l ≠ l') (x : AObj) : rowOf (σ.set l x) l' = rowOf σ l' := by unfold rowOf; rw [List.getElem?_set_ne h]
theorem rowOf_set_self {σ : List AObj} {l : Nat} {cs cs' : List AV} (h : rowOf σ l = some cs) : rowOf (σ.set l (AObj.cells cs')) l = some cs' := by
  have h := (List.getElem?_eq_some_iff.1 (rowOf_some h)).1
  unfold rowOf; rw [List.getElem?_set_self h]
theorem AccFrom.store {b : Nat} {σ : List AObj} {v : AV} {zs : List Int} (h : AccFrom b σ v zs) {l : Nat} (hl : l < b) (x : AObj) : AccFrom b (σ.set l x) v zs := by
  refine ⟨by simpa using h.1, h.2.imp id fun ⟨l', h1, h2, h3⟩ => ⟨l', h1, h2, ?_⟩⟩
  rw [rowOf_set_ne (by omega)]; exact h3
theorem accFrom_append {b : Nat} {σ : List AObj} {v : AV} {zs : List Int} (z : Int) (h : AccFrom b σ v zs) (hl : zs.length < 2 ^ 40) :
    ∃ (v' : AV) (σ' : List AObj), f_append 1 8 [v, .sl σ.length 0 1 1] (σ ++ [AObj.cells [.i z]]) = some (v', σ') ∧ AccFrom b σ' v' (zs ++ [z]) ∧ ∀ l, l < b → rowOf σ' l = rowOf σ l := by
  have hsrc : srcCells (σ ++ [AObj.cells [.i z]]) 1 (.sl σ.length 0 1 1) = some [.i z] := by simp [srcCells, rowOf]
  have low : ∀ l, l < b → rowOf (σ ++ [AObj.cells [.i z]]) l = rowOf σ l := fun l hl => by
    unfold rowOf; rw [List.getElem?_append_left (by have := h.1; omega)]
  have hb := h.1
  rcases h.2 with ⟨rfl, rfl⟩ | ⟨l, hbl, rfl, hr⟩
  · refine ⟨.sl (σ ++ [AObj.cells [.i z]]).length 0 1 1, (σ ++ [AObj.cells [.i z]]) ++ [AObj.cells [.i z]], ?_, ⟨by simp; omega, .inr ⟨(σ ++ [AObj.cells [.i z]]).length, by simp; omega, rfl, ?_⟩⟩, fun l hl => ?_⟩
    · simp only [f_append, hsrc, lenF, Option.bind_some]
      rfl
    · rw [rowOf_last]; rfl
    · rw [← low l hl]; unfold rowOf; rw [List.getElem?_append_left (by simp; omega)]
  · have hr' := rowOf_push hr (AObj.cells [.i z])
    refine ⟨.sl (σ ++ [AObj.cells [.i z]]).length 0 (zs.length + 1) 1, (σ ++ [AObj.cells [.i z]]).set l AObj.dead ++ [AObj.cells (zs.map AV.i ++ [.i z])], ?_, ⟨by simp; omega, .inr ⟨(σ ++ [AObj.cells [.i z]]).length, by simp; omega, by simp, ?_⟩⟩, fun l' hl' => ?_⟩
    · simp only [f_append, hr', hsrc, lenF, Option.bind_some]
      have hp : (2 : Nat) ^ 40 = 1099511627776 := by decide
      have hp2 : (2 : Nat) ^ 44 = 17592186044416 := by decide
      have hc : (True ∧ zs.length * 1 ≤ (zs.map AV.i).length ∧ 1 * 1 = [AV.i z].length ∧ (zs.length + 1) * 8 ≤ 2 ^ 44 ∧ zs.length + 1 ≤ 2 ^ 44 ∧ [AV.i z].all AV.isSc = true) := by
        refine ⟨trivial, by simp, rfl, by omega, by omega, rfl⟩
      rw [if_pos hc, Nat.mul_one, List.take_of_length_le (by simp)]
    · have : (σ ++ [AObj.cells [.i z]]).length = ((σ ++ [AObj.cells [.i z]]).set l AObj.dead).length := by simp
      rw [this, rowOf_last]; simp
    · rw [← low l' hl']
      have : rowOf ((σ ++ [AObj.cells [.i z]]).set l AObj.dead) l' = rowOf (σ ++ [AObj.cells [.i z]]) l' := rowOf_set_ne (by omega) _
      rw [← this]; unfold rowOf; rw [List.getElem?_append_left (by simp; omega)]

theorem acc_frz {p : CV → Prop} (hp : ∀ z, p (.int .i64 z)) {σ : List AObj} {v : AV} {zs : List Int} (h : AccAt σ v zs) : FrzV p σ v (ints zs) := by
  rcases h with ⟨rfl, rfl⟩ | ⟨l, rfl, hr⟩
  · exact frz_ints_nl
  · exact frz_ints hp hr

theorem bTF : (true == false) = false := rfl
theorem bFT : (false == true) = false := rfl
theorem bTT : (true == true) = true := rfl
theorem bFF : (false == false) = true := rfl

end Go.Proofs.Ytphdemhopihpnaa.AM

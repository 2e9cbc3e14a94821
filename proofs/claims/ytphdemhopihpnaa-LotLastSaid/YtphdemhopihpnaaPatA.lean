/- Lists of numbers as closed values; small helps for contracts. -/
import Derived.Test.YtphdemhopihpnaaAmYs
namespace Go.Proofs.Ytphdemhopihpnaa.AM
open Go
set_option linter.unusedVariables false
set_option linter.unusedSimpArgs false

abbrev ints (zs : List Int) : AV := .cv (.rsl (zs.map (.int .i64)) zs.length)

theorem ints_addr {zs : List Int} {n : Nat} {k : Nat} (h : k < n) (σ : List AObj) : f_iaS 1 [.cv (.rsl (zs.map (.int .i64)) n), .cv (.int .i64 k)] σ = some (.cv (.rp (zs.map (.int .i64)) k), σ) := by
  simp [f_iaS, h]

theorem ints_load {zs : List Int} {k : Nat} (h : k < zs.length) : (zs.map (CV.int .i64))[k]? = some (.int .i64 (zs.getD k 0)) := by
  simp [List.getD, h]

theorem wrap_in {n : Int} (h : -9223372036854775808 ≤ n ∧ n ≤ 9223372036854775807) : IntKind.i64.wrap n = n := by
  simp [IntKind.wrap, IntKind.bits, IntKind.signed, Int.bmod]
  omega

theorem AC.run {P : Program} {f : FuncId} {args : List AV} {v : AV} {σ τ : List AObj} {K : AV → List AObj → Prop} (h : AC P f args σ fun r τ' => r = v ∧ τ' = τ) (hk : K v τ) : AC P f args σ K := h.mono fun r τ ⟨h1, h2⟩ => by rw [h1, h2]; exact hk

theorem CallV.run {P : Program} {fv : AV} {args : List AV} {v : AV} {σ τ : List AObj} {K : AV → List AObj → Prop} (h : CallV P fv args σ fun r τ' => r = v ∧ τ' = τ) (hk : K v τ) : CallV P fv args σ K := h.mono fun r τ ⟨h1, h2⟩ => by rw [h1, h2]; exact hk

theorem frzCs_ints {p : CV → Prop} {σ : List AObj} (hp : ∀ z, p (.int .i64 z)) : ∀ zs : List Int, FrzCs p σ (zs.map AV.i) (zs.map (.int .i64))
  | [] => .nil
  | z :: zs => .cons (.c _ (hp z)) (frzCs_ints hp zs)
/-- a slice of numbers that was made here -/
theorem frz_ints {p : CV → Prop} (hp : ∀ z, p (.int .i64 z)) {σ : List AObj} {zs : List Int} {l : Nat} (hr : rowOf σ l = some (zs.map AV.i)) : FrzV p σ (.sl l 0 zs.length 1) (ints zs) := by
  refine .c (.sl l 0 zs.length 1 _ _ hr (by simp) ?_)
  have : ((zs.map AV.i).drop 0).take (zs.length * 1) = zs.map AV.i := by rw [List.drop_zero]; exact List.take_of_length_le (by simp)
  rw [this]
  exact frzCs_ints hp zs
theorem frz_ints' {p : CV → Prop} (hp : ∀ z, p (.int .i64 z)) {σ : List AObj} {zs : List Int} {l n : Nat} (hn : n = zs.length) (hr : rowOf σ l = some (zs.map AV.i)) : FrzV p σ (.sl l 0 n 1) (ints zs) := by subst hn; exact frz_ints hp hr
theorem sl_addr {l off n k : Nat} (h : k < n) (σ : List AObj) : f_iaS 1 [.sl l off n 1, .cv (.int .i64 k)] σ = some (.ptr l (off + k), σ) := by
  simp [f_iaS, h]
theorem av_load {zs : List Int} {k : Nat} (h : k < zs.length) : (zs.map AV.i)[k]? = some (.i (zs[k]?.getD 0)) := by simp [h]
theorem set_ints {zs : List Int} {k : Nat} {o : Int} : (zs.map AV.i).set k (.cv (.int .i64 o)) = (zs.set k o).map AV.i := List.map_set.symm
theorem frz_ints_nl {p : CV → Prop} {σ : List AObj} : FrzV p σ (.cv .nils) (ints []) := .c .nl

/-- a list of numbers that is being built by append -/
def AccAt (σ : List AObj) (v : AV) (zs : List Int) : Prop := (v = .cv .nils ∧ zs = []) ∨ ∃ l, v = .sl l 0 zs.length 1 ∧ rowOf σ l = some (zs.map AV.i)

theorem rowOf_push {σ : List AObj} {l : Nat} {cs : List AV} (h : rowOf σ l = some cs) (x : AObj) : rowOf (σ ++ [x]) l = some cs := by
  have h := rowOf_some h
  unfold rowOf; rw [List.getElem?_append_left (List.getElem?_eq_some_iff.1 h).1, h]

theorem rowOf_last (σ : List AObj) (cs : List AV) : rowOf (σ ++ [.cells cs]) σ.length = some cs := by simp [rowOf]

theorem AccAt.nil (σ : List AObj) : AccAt σ (.cv .nils) [] := .inl ⟨rfl, rfl⟩

theorem acc_append {σ : List AObj} {v : AV} {zs : List Int} (z : Int) (h : AccAt σ v zs) (hl : zs.length < 2 ^ 40) :
    ∃ (v' : AV) (σ' : List AObj), f_append 1 8 [v, .sl σ.length 0 1 1] (σ ++ [AObj.cells [.i z]]) = some (v', σ') ∧ AccAt σ' v' (zs ++ [z]) := by
  have hsrc : srcCells (σ ++ [AObj.cells [.i z]]) 1 (.sl σ.length 0 1 1) = some [.i z] := by simp [srcCells, rowOf]
  rcases h with ⟨rfl, rfl⟩ | ⟨l, rfl, hr⟩
  · refine ⟨.sl (σ ++ [AObj.cells [.i z]]).length 0 1 1, (σ ++ [AObj.cells [.i z]]) ++ [AObj.cells [.i z]], ?_, .inr ⟨_, rfl, ?_⟩⟩
    · simp only [f_append, hsrc, lenF, Option.bind_some]
      rfl
    · rw [rowOf_last]; rfl
  · have hr' := rowOf_push hr (AObj.cells [.i z])
    refine ⟨.sl (σ ++ [AObj.cells [.i z]]).length 0 (zs.length + 1) 1, (σ ++ [AObj.cells [.i z]]).set l AObj.dead ++ [AObj.cells (zs.map AV.i ++ [.i z])], ?_, .inr ⟨(σ ++ [AObj.cells [.i z]]).length, by simp, ?_⟩⟩
    · simp only [f_append, hr', hsrc, lenF, Option.bind_some]
      have hp : (2 : Nat) ^ 40 = 1099511627776 := by decide
      have hp2 : (2 : Nat) ^ 44 = 17592186044416 := by decide
      have hc : (True ∧ zs.length * 1 ≤ (zs.map AV.i).length ∧ 1 * 1 = [AV.i z].length ∧ (zs.length + 1) * 8 ≤ 2 ^ 44 ∧ zs.length + 1 ≤ 2 ^ 44 ∧ [AV.i z].all AV.isSc = true) := by
        refine ⟨trivial, by simp, rfl, by omega, by omega, rfl⟩
      rw [if_pos hc, Nat.mul_one, List.take_of_length_le (by simp)]
    · have : (σ ++ [AObj.cells [.i z]]).length = ((σ ++ [AObj.cells [.i z]]).set l AObj.dead).length := by simp
      rw [this, rowOf_last]; simp

theorem acc_frz {p : CV → Prop} (hp : ∀ z, p (.int .i64 z)) {σ : List AObj} {v : AV} {zs : List Int} (h : AccAt σ v zs) : FrzV p σ v (ints zs) := by
  rcases h with ⟨rfl, rfl⟩ | ⟨l, rfl, hr⟩
  · exact frz_ints_nl
  · exact frz_ints hp hr

theorem bTF : (true == false) = false := rfl
theorem bFT : (false == true) = false := rfl
theorem bTT : (true == true) = true := rfl
theorem bFF : (false == false) = true := rfl

end Go.Proofs.Ytphdemhopihpnaa.AM

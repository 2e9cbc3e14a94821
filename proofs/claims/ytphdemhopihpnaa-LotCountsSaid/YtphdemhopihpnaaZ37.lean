/- Parts of the proof, joined: PatA to LotI12. -/
import Derived.Test.YtphdemhopihpnaaZ36

namespace Go.Proofs.Ytphdemhopihpnaa.AM
open Go
set_option linter.unusedVariables false
set_option linter.unusedSimpArgs false
set_option linter.defProp false

abbrev ints (zs : List Int) : AV := .cv (.rsl (zs.map (.int .i64)) zs.length)

theorem ints_addr {kd : IntKind} {zs : List Int} {n : Nat} {k : Nat} (h : k < n) (σ : List AObj) : f_iaS 1 [.cv (.rsl (zs.map (.int kd)) n), .cv (.int .i64 k)] σ = some (.cv (.rp (zs.map (.int kd)) k), σ) := by
  simp [f_iaS, h]

theorem ints_load {kd : IntKind} {zs : List Int} {k : Nat} (h : k < zs.length) : (zs.map (CV.int kd))[k]? = some (.int kd (zs.getD k 0)) := by
  simp [List.getD, h]

theorem wrap_in {n : Int} (h : -9223372036854775808 ≤ n ∧ n ≤ 9223372036854775807) : IntKind.i64.wrap n = n := by
  simp [IntKind.wrap, IntKind.bits, IntKind.signed, Int.bmod]
  omega

theorem AC.run {P : Program} {f : FuncId} {args : List AV} {v : AV} {σ τ : List AObj} {K : AV → List AObj → Prop} (h : AC P f args σ fun r τ' => r = v ∧ τ' = τ) (hk : K v τ) : AC P f args σ K := h.mono fun r τ ⟨h1, h2⟩ => by rw [h1, h2]; exact hk

theorem CallV.run {P : Program} {fv : AV} {args : List AV} {v : AV} {σ τ : List AObj} {K : AV → List AObj → Prop} (h : CallV P fv args σ fun r τ' => r = v ∧ τ' = τ) (hk : K v τ) : CallV P fv args σ K := h.mono fun r τ ⟨h1, h2⟩ => by rw [h1, h2]; exact hk

theorem frzCs_ints {p : CV → Prop} {σ : List AObj} (hp : ∀ z, p (.int .i64 z)) : ∀ zs : List Int, FrzCs p σ (zs.map AV.i) (zs.map (.int .i64))
  | [] => .nil
  | z :: zs => .cons (.c _ (hp z)) (frzCs_ints hp zs)
/-- a slice of numbers that was made here -/
theorem frz_ints {p : CV → Prop} (hp : ∀ z, p (.int .i64 z)) {σ : List AObj} {zs : List Int} {l : Nat} (hr : rowOf σ l = some (zs.map AV.i)) : FrzV p σ (.sl l 0 zs.length 1) (ints zs) := by
  refine .c (.sl l 0 zs.length 1 _ _ hr (by simp) ?_)
  have : ((zs.map AV.i).drop 0).take (zs.length * 1) = zs.map AV.i := by rw [List.drop_zero]; exact List.take_of_length_le (by simp)
  rw [this]
  exact frzCs_ints hp zs
theorem frz_ints' {p : CV → Prop} (hp : ∀ z, p (.int .i64 z)) {σ : List AObj} {zs : List Int} {l n : Nat} (hn : n = zs.length) (hr : rowOf σ l = some (zs.map AV.i)) : FrzV p σ (.sl l 0 n 1) (ints zs) := by subst hn; exact frz_ints hp hr
theorem frz_one {p : CV → Prop} (hp : ∀ z, p (.int .i64 z)) {σ : List AObj} {z : Int} {l : Nat} (hr : rowOf σ l = some [AV.i z]) : FrzV p σ (.sl l 0 1 1) (ints [z]) := frz_ints hp (zs := [z]) hr
theorem sl_addr {l off n k : Nat} (h : k < n) (σ : List AObj) : f_iaS 1 [.sl l off n 1, .cv (.int .i64 k)] σ = some (.ptr l (off + k), σ) := by
  simp [f_iaS, h]
theorem av_load {zs : List Int} {k : Nat} (h : k < zs.length) : (zs.map AV.i)[k]? = some (.i (zs[k]?.getD 0)) := by simp [h]
theorem set_ints {zs : List Int} {k : Nat} {o : Int} : (zs.map AV.i).set k (.cv (.int .i64 o)) = (zs.set k o).map AV.i := List.map_set.symm
theorem frz_ints_nl {p : CV → Prop} {σ : List AObj} : FrzV p σ (.cv .nils) (ints []) := .c .nl

theorem rowOf_z {cs : List AV} {σ : List AObj} : rowOf (AObj.cells cs :: σ) 0 = some cs := rfl
theorem rowOf_s {o : AObj} {σ : List AObj} {n : Nat} : rowOf (o :: σ) (n + 1) = rowOf σ n := rfl
theorem setRange_z {cs : List AV} {n : Nat} : setRange cs n [] = cs := rfl
theorem setRange_s {cs : List AV} {n : Nat} {v : AV} {vs : List AV} : setRange cs n (v :: vs) = setRange (cs.set n v) (n + 1) vs := rfl

/-- a list of numbers that is being built by append -/
def AccAt (σ : List AObj) (v : AV) (zs : List Int) : Prop := (v = .cv .nils ∧ zs = []) ∨ ∃ l, v = .sl l 0 zs.length 1 ∧ rowOf σ l = some (zs.map AV.i)

theorem rowOf_push {σ : List AObj} {l : Nat} {cs : List AV} (h : rowOf σ l = some cs) (x : AObj) : rowOf (σ ++ [x]) l = some cs := by
  have h := rowOf_some h
  unfold rowOf; rw [List.getElem?_append_left (List.getElem?_eq_some_iff.1 h).1, h]

theorem rowOf_last (σ : List AObj) (cs : List AV) : rowOf (σ ++ [.cells cs]) σ.length = some cs := by simp [rowOf]

theorem AccAt.nil (σ : List AObj) : AccAt σ (.cv .nils) [] := .inl ⟨rfl, rfl⟩

theorem acc_append {σ : List AObj} {v : AV} {zs : List Int} (z : Int) (h : AccAt σ v zs) (hl : zs.length < 2 ^ 40) :
    ∃ (v' : AV) (σ' : List AObj), f_append 1 8 [v, .sl σ.length 0 1 1] (σ ++ [AObj.cells [.i z]]) = some (v', σ') ∧ AccAt σ' v' (zs ++ [z]) := by
  have hsrc : srcCells (σ ++ [AObj.cells [.i z]]) 1 (.sl σ.length 0 1 1) = some [.i z] := by simp [srcCells, rowOf]
  rcases h with ⟨rfl, rfl⟩ | ⟨l, rfl, hr⟩
  · refine ⟨.sl (σ ++ [AObj.cells [.i z]]).length 0 1 1, (σ ++ [AObj.cells [.i z]]) ++ [AObj.cells [.i z]], ?_, .inr ⟨_, rfl, ?_⟩⟩
    · simp only [f_append, hsrc, lenF, Option.bind_some]
      rfl
    · rw [rowOf_last]; rfl
  · have hr' := rowOf_push hr (AObj.cells [.i z])
    refine ⟨.sl (σ ++ [AObj.cells [.i z]]).length 0 (zs.length + 1) 1, (σ ++ [AObj.cells [.i z]]).set l AObj.dead ++ [AObj.cells (zs.map AV.i ++ [.i z])], ?_, .inr ⟨(σ ++ [AObj.cells [.i z]]).length, by simp, ?_⟩⟩
    · simp only [f_append, hr', hsrc, lenF, Option.bind_some]
      have hp : (2 : Nat) ^ 40 = 1099511627776 := by decide
      have hp2 : (2 : Nat) ^ 44 = 17592186044416 := by decide
      have hc : (True ∧ zs.length * 1 ≤ (zs.map AV.i).length ∧ 1 * 1 = [AV.i z].length ∧ (zs.length + 1) * 8 ≤ 2 ^ 44 ∧ zs.length + 1 ≤ 2 ^ 44 ∧ [AV.i z].all AV.isSc = true) := by
        refine ⟨trivial, by simp, rfl, by omega, by omega, rfl⟩
      rw [if_pos hc, Nat.mul_one, List.take_of_length_le (by simp)]
    · have : (σ ++ [AObj.cells [.i z]]).length = ((σ ++ [AObj.cells [.i z]]).set l AObj.dead).length := by simp
      rw [this, rowOf_last]; simp

/-- a list that is built at a place from b on -/
def AccFrom (b : Nat) (σ : List AObj) (v : AV) (zs : List Int) : Prop := b ≤ σ.length ∧ ((v = .cv .nils ∧ zs = []) ∨ ∃ l, b ≤ l ∧ v = .sl l 0 zs.length 1 ∧ rowOf σ l = some (zs.map AV.i))
theorem AccFrom.acc {b : Nat} {σ : List AObj} {v : AV} {zs : List Int} (h : AccFrom b σ v zs) : AccAt σ v zs := h.2.imp id fun ⟨l, _, h1, h2⟩ => ⟨l, h1, h2⟩
theorem AccFrom.nil {b : Nat} {σ : List AObj} (h : b ≤ σ.length) : AccFrom b σ (.cv .nils) [] := ⟨h, .inl ⟨rfl, rfl⟩⟩
theorem rowOf_set_ne {σ : List AObj} {l l' : Nat} (h : l ≠ l') (x : AObj) : rowOf (σ.set l x) l' = rowOf σ l' := by unfold rowOf; rw [List.getElem?_set_ne h]
theorem rowOf_set_self {σ : List AObj} {l : Nat} {cs cs' : List AV} (h : rowOf σ l = some cs) : rowOf (σ.set l (AObj.cells cs')) l = some cs' := by
  have h := (List.getElem?_eq_some_iff.1 (rowOf_some h)).1
  unfold rowOf; rw [List.getElem?_set_self h]
theorem AccFrom.store {b : Nat} {σ : List AObj} {v : AV} {zs : List Int} (h : AccFrom b σ v zs) {l : Nat} (hl : l < b) (x : AObj) : AccFrom b (σ.set l x) v zs := by
  refine ⟨by simpa using h.1, h.2.imp id fun ⟨l', h1, h2, h3⟩ => ⟨l', h1, h2, ?_⟩⟩
  rw [rowOf_set_ne (by omega)]; exact h3
theorem accFrom_append {b : Nat} {σ : List AObj} {v : AV} {zs : List Int} (z : Int) (h : AccFrom b σ v zs) (hl : zs.length < 2 ^ 40) :
    ∃ (v' : AV) (σ' : List AObj), f_append 1 8 [v, .sl σ.length 0 1 1] (σ ++ [AObj.cells [.i z]]) = some (v', σ') ∧ AccFrom b σ' v' (zs ++ [z]) ∧ ∀ l, l < b → rowOf σ' l = rowOf σ l := by
  have hsrc : srcCells (σ ++ [AObj.cells [.i z]]) 1 (.sl σ.length 0 1 1) = some [.i z] := by simp [srcCells, rowOf]
  have low : ∀ l, l < b → rowOf (σ ++ [AObj.cells [.i z]]) l = rowOf σ l := fun l hl => by
    unfold rowOf; rw [List.getElem?_append_left (by have := h.1; omega)]
  have hb := h.1
  rcases h.2 with ⟨rfl, rfl⟩ | ⟨l, hbl, rfl, hr⟩
  · refine ⟨.sl (σ ++ [AObj.cells [.i z]]).length 0 1 1, (σ ++ [AObj.cells [.i z]]) ++ [AObj.cells [.i z]], ?_, ⟨by simp; omega, .inr ⟨(σ ++ [AObj.cells [.i z]]).length, by simp; omega, rfl, ?_⟩⟩, fun l hl => ?_⟩
    · simp only [f_append, hsrc, lenF, Option.bind_some]
      rfl
    · rw [rowOf_last]; rfl
    · rw [← low l hl]; unfold rowOf; rw [List.getElem?_append_left (by simp; omega)]
  · have hr' := rowOf_push hr (AObj.cells [.i z])
    refine ⟨.sl (σ ++ [AObj.cells [.i z]]).length 0 (zs.length + 1) 1, (σ ++ [AObj.cells [.i z]]).set l AObj.dead ++ [AObj.cells (zs.map AV.i ++ [.i z])], ?_, ⟨by simp; omega, .inr ⟨(σ ++ [AObj.cells [.i z]]).length, by simp; omega, by simp, ?_⟩⟩, fun l' hl' => ?_⟩
    · simp only [f_append, hr', hsrc, lenF, Option.bind_some]
      have hp : (2 : Nat) ^ 40 = 1099511627776 := by decide
      have hp2 : (2 : Nat) ^ 44 = 17592186044416 := by decide
      have hc : (True ∧ zs.length * 1 ≤ (zs.map AV.i).length ∧ 1 * 1 = [AV.i z].length ∧ (zs.length + 1) * 8 ≤ 2 ^ 44 ∧ zs.length + 1 ≤ 2 ^ 44 ∧ [AV.i z].all AV.isSc = true) := by
        refine ⟨trivial, by simp, rfl, by omega, by omega, rfl⟩
      rw [if_pos hc, Nat.mul_one, List.take_of_length_le (by simp)]
    · have : (σ ++ [AObj.cells [.i z]]).length = ((σ ++ [AObj.cells [.i z]]).set l AObj.dead).length := by simp
      rw [this, rowOf_last]; simp
    · rw [← low l' hl']
      have : rowOf ((σ ++ [AObj.cells [.i z]]).set l AObj.dead) l' = rowOf (σ ++ [AObj.cells [.i z]]) l' := rowOf_set_ne (by omega) _
      rw [← this]; unfold rowOf; rw [List.getElem?_append_left (by simp; omega)]

theorem acc_frz {p : CV → Prop} (hp : ∀ z, p (.int .i64 z)) {σ : List AObj} {v : AV} {zs : List Int} (h : AccAt σ v zs) : FrzV p σ v (ints zs) := by
  rcases h with ⟨rfl, rfl⟩ | ⟨l, rfl, hr⟩
  · exact frz_ints_nl
  · exact frz_ints hp hr

theorem bTF : (true == false) = false := rfl
theorem bFT : (false == true) = false := rfl
theorem bTT : (true == true) = true := rfl
theorem bFF : (false == false) = true := rfl

/-! The rules by which a contract's goal is worked off, as one theorem: written by program. -/
def frzA := And.intro (And.intro (And.intro (@Nat.mul_one) (@Nat.one_mul)) (And.intro (@List.drop_zero.{0}) (@List.take_succ_cons.{0}))) (And.intro (And.intro (@List.take_zero.{0}) (And.intro (@List.map_cons.{0, 0}) (@List.map_nil.{0, 0}))) (And.intro (@List.cons_append.{0}) (And.intro (@List.nil_append.{0}) (@List.append_nil.{0}))))
def ev0 := And.intro (And.intro (And.intro (And.intro (@IS_skip) (And.intro (@IS_label) (@IS_exit))) (And.intro (@IS_ret) (And.intro (@IS_seq) (@IS_block)))) (And.intro (And.intro (@IS_cond) (And.intro (@IS_loop) (@IS_scope))) (And.intro (@IS_region) (And.intro (And.intro (@IS_draw) (@IS_dr)) (@IS_rangef))))) (And.intro (And.intro (And.intro (@kSeq_n) (And.intro (@kSeq_x) (@kSeq_r))) (And.intro (@kBlock_n) (And.intro (@kBlock_x) (@kBlock_r)))) (And.intro (And.intro (@kScope_n) (And.intro (@kScope_x) (@kScope_r))) (And.intro (@kReg_n) (And.intro (@kEnd_n) (@kEnd_r)))))
def ev1 := And.intro (And.intro (And.intro (And.intro (@kUn_n) (And.intro (@kUn_x) (@kUn_r))) (And.intro (@kFor_x) (And.intro (@kFor_r) (@RS_n)))) (And.intro (And.intro (@RS_c) (And.intro (@RSx_n) (@RSx_c))) (And.intro (@gdOk.eq_1) (And.intro (@gdOk.eq_2) (@gK_t))))) (And.intro (And.intro (And.intro (@gK_f) (And.intro (@pK_s) (@cK_t))) (And.intro (@cK_f) (And.intro (@callK_c) (@oK_p)))) (And.intro (And.intro (@oK_c) (And.intro (@oX_p) (@oX_c))) (And.intro (@rK_s) (And.intro (@CallV_yld) (@plOf.eq_1)))))
def ev2 := And.intro (And.intro (And.intro (And.intro (@plLocs.eq_1) (And.intro (@plLocs.eq_2) (@xOne.eq_1))) (And.intro (@xOne.eq_2) (And.intro (@newLoc.eq_1) (@newLoc.eq_2)))) (And.intro (And.intro (@kindOf.eq_1) (And.intro (@kindOf.eq_2) (@kindOf.eq_3))) (And.intro (@kindOf.eq_4) (And.intro (@kindOf.eq_5) (@kindOf.eq_6))))) (And.intro (And.intro (And.intro (@kindOf.eq_7) (And.intro (@kindOf.eq_8) (@kindOf.eq_9))) (And.intro (@kindOf.eq_10) (And.intro (@kindOf.eq_11) (@kindOf.eq_12)))) (And.intro (And.intro (@kindOf.eq_13) (And.intro (@kindOf.eq_14) (@kindOf.eq_15))) (And.intro (@kindOf.eq_16) (And.intro (@kindOf.eq_17) (@kindOf.eq_18)))))
def ev3 := And.intro (And.intro (And.intro (And.intro (@kindOf.eq_19) (And.intro (@kindOf.eq_20) (@kindOf.eq_21))) (And.intro (@kindOf.eq_22) (And.intro (@kindOf.eq_23) (@kindOf.eq_24)))) (And.intro (And.intro (@kindOf.eq_25) (And.intro (@kindOf.eq_26) (@kindOf.eq_27))) (And.intro (@locOf.eq_1) (And.intro (@locOf.eq_2) (@locOf.eq_3))))) (And.intro (And.intro (And.intro (@locOf.eq_4) (And.intro (@List.flatMap_cons.{0, 0}) (@List.flatMap_nil.{0, 0}))) (And.intro (@List.map_cons.{0, 0}) (And.intro (@List.map_nil.{0, 0}) (@evalO.eq_1)))) (And.intro (And.intro (@evalO.eq_2) (And.intro (@evalO.eq_3) (@stepF.eq_1))) (And.intro (@stepF.eq_2) (And.intro (@stepF.eq_3) (@stepF.eq_4)))))
def ev4 := And.intro (And.intro (And.intro (And.intro (@stepF.eq_5) (And.intro (@stepF.eq_6) (@stepF.eq_7))) (And.intro (@stepF.eq_8) (And.intro (@stepF.eq_9) (@stepF.eq_10)))) (And.intro (And.intro (@stepF.eq_11) (And.intro (@stepF.eq_12) (@stepF.eq_13))) (And.intro (@stepF.eq_14) (And.intro (@stepF.eq_15) (@stepF.eq_16))))) (And.intro (And.intro (And.intro (@stepF.eq_17) (And.intro (@stepF.eq_18) (@stepF.eq_19))) (And.intro (@stepF.eq_20) (And.intro (@stepF.eq_21) (@stepF.eq_22)))) (And.intro (And.intro (@stepF.eq_23) (And.intro (@stepF.eq_24) (@stepF.eq_25))) (And.intro (@stepF.eq_26) (And.intro (@stepF.eq_27) (@stepF.eq_28)))))
def ev5 := And.intro (And.intro (And.intro (And.intro (@stepF.eq_29) (And.intro (@stepF.eq_30) (@stepF.eq_31))) (And.intro (@stepF.eq_32) (And.intro (@stepF.eq_33) (@stepF.eq_34)))) (And.intro (And.intro (@stepF.eq_35) (And.intro (@stepF.eq_36) (@f_mv.eq_1))) (And.intro (@f_mv.eq_2) (And.intro (@f_pick.eq_1) (@f_pick.eq_2))))) (And.intro (And.intro (And.intro (@f_not.eq_1) (And.intro (@f_not.eq_2) (@f_bin.eq_1))) (And.intro (@f_bin.eq_2) (And.intro (@f_conv.eq_1) (@f_conv.eq_2)))) (And.intro (And.intro (@f_alloc.eq_1) (And.intro (@f_alloc.eq_2) (@f_box.eq_1))) (And.intro (@f_box.eq_2) (And.intro (@f_build.eq_1) (@f_bslice.eq_1)))))
def ev6 := And.intro (And.intro (And.intro (And.intro (@f_load1.eq_1) (And.intro (@f_load1.eq_2) (@f_load1.eq_3))) (And.intro (@f_loadN.eq_1) (And.intro (@f_loadN.eq_2) (@f_loadN.eq_3)))) (And.intro (And.intro (@f_store.eq_1) (And.intro (@f_store.eq_2) (@f_nilck.eq_1))) (And.intro (@f_nilck.eq_2) (And.intro (@f_nilck.eq_3) (@f_nilck.eq_4))))) (And.intro (And.intro (And.intro (@f_mkfn.eq_1) (And.intro (@f_mkbm.eq_1) (@f_len.eq_1))) (And.intro (@f_len.eq_2) (And.intro (@f_len.eq_3) (@f_len.eq_4)))) (And.intro (And.intro (@f_len.eq_5) (And.intro (@f_fadd.eq_1) (@f_fadd.eq_2))) (And.intro (@f_fadd.eq_3) (And.intro (@f_fld.eq_1) (@f_fld.eq_2)))))
def ev7 := And.intro (And.intro (And.intro (And.intro (@f_fld.eq_3) (And.intro (@f_extract.eq_1) (@f_extract.eq_2))) (And.intro (@f_min2.eq_1) (And.intro (@f_min2.eq_2) (@f_max2.eq_1)))) (And.intro (And.intro (@f_max2.eq_2) (And.intro (@binF.eq_1) (@binF.eq_2))) (And.intro (@binF.eq_3) (And.intro (@binF.eq_4) (@binF.eq_5))))) (And.intro (And.intro (And.intro (@binF.eq_6) (And.intro (@binF.eq_7) (@binF.eq_8))) (And.intro (@binF.eq_9) (And.intro (@binF.eq_10) (@isShift.eq_1)))) (And.intro (And.intro (@isShift.eq_2) (And.intro (@isShift.eq_3) (@binI.eq_1))) (And.intro (@binI.eq_2) (And.intro (@binI.eq_3) (@binI.eq_4)))))
def ev8 := And.intro (And.intro (And.intro (And.intro (@binI.eq_5) (And.intro (@binI.eq_6) (@binI.eq_7))) (And.intro (@binI.eq_8) (And.intro (@binI.eq_9) (@binI.eq_10)))) (And.intro (And.intro (@binI.eq_11) (And.intro (@binI.eq_12) (@binI.eq_13))) (And.intro (@binI.eq_14) (And.intro (@binI.eq_15) (@binI.eq_16))))) (And.intro (And.intro (And.intro (@eqNil.eq_1) (And.intro (@eqNil.eq_2) (@eqNil.eq_3))) (And.intro (@setD.eq_1) (And.intro (@setD.eq_2) (@initVals.eq_1)))) (And.intro (And.intro (@cellsOf.eq_1) (And.intro (@cellsOf.eq_2) (@fillF.eq_1))) (And.intro (@fillF.eq_2) (And.intro (@fillF.eq_3) (@setRange_z)))))
def ev9 := And.intro (And.intro (And.intro (And.intro (@setRange_s) (And.intro (@rowOf_z) (@rowOf_s))) (And.intro (@AV.isUndef.eq_1) (And.intro (@AV.isUndef.eq_2) (@AV.isSc.eq_1)))) (And.intro (And.intro (@AV.isSc.eq_2) (And.intro (@AV.isSc.eq_3) (@AV.isSc.eq_4))) (And.intro (@CallV_fn) (And.intro (@CallV_bm) (@resEs.eq_1))))) (And.intro (And.intro (And.intro (@resEs.eq_2) (And.intro (@resE.eq_1) (@resE.eq_2))) (And.intro (@resE.eq_3) (And.intro (@mapO.eq_1) (@mapO.eq_2)))) (And.intro (And.intro (@List.getD_eq_getElem?_getD.{0}) (And.intro (@List.set_cons_zero.{0}) (@List.set_cons_succ.{0}))) (And.intro (@List.getElem?_cons_zero.{0}) (And.intro (@List.getElem?_cons_succ.{0}) (@List.nil_append.{0})))))
def ev10 := And.intro (And.intro (And.intro (And.intro (@List.cons_append.{0}) (And.intro (@List.append_nil.{0}) (@Option.getD_some.{0}))) (And.intro (@List.getElem?_nil.{0}) (And.intro (@Option.getD_none.{0}) (@Option.map_some.{0, 0})))) (And.intro (And.intro (@Option.bind_some.{0, 0}) (And.intro (@Bool.false_eq_true) (@List.length_cons.{0}))) (And.intro (@List.length_nil.{0}) (And.intro (@List.take_succ_cons.{0}) (@List.take_zero.{0}))))) (And.intro (And.intro (And.intro (@List.drop_zero.{0}) (And.intro (@List.drop_succ_cons.{0}) (@Bool.true_and))) (And.intro (@Bool.and_true) (And.intro (@Bool.false_and) (@Bool.and_false)))) (And.intro (And.intro (@Bool.true_or) (And.intro (@Bool.or_true) (@Bool.false_or))) (And.intro (@Bool.or_false) (And.intro (@Bool.not_true) (@Bool.not_false)))))
def ev11 := And.intro (And.intro (And.intro (And.intro (@Bool.not_not) (And.intro (@beq_self_eq_true.{0}) (@List.all_cons.{0}))) (And.intro (@List.all_nil.{0}) (And.intro (@Nat.zero_add) (@Nat.add_zero)))) (And.intro (And.intro (@AV.cv.injEq) (And.intro (@CV.bool.injEq) (@CV.int.injEq))) (And.intro (@exists_eq_left'.{1}) (And.intro (@exists_eq_left.{1}) (@decide_true))))) (And.intro (And.intro (And.intro (@decide_false) (And.intro (@true_and) (@and_true))) (And.intro (@and_self) (And.intro (@Int.toNat_natCast) (@Go.Exit.exit.injEq)))) (And.intro (And.intro (@ints_addr) (And.intro (@ints_load) (@sl_addr))) (And.intro (@av_load) (And.intro (@set_ints) (@List.length_map.{0, 0})))))
def ev12 := And.intro (And.intro (And.intro (@List.length_set.{0}) (And.intro (@Nat.mul_one) (@beq_true))) (And.intro (And.intro (@Option.some.injEq.{0}) (@bne_self_eq_false.{0})) (And.intro (@List.contains_cons.{0}) (@List.contains_nil.{0})))) (And.intro (And.intro (@xAll.eq_1) (And.intro (@xAll.eq_2) (@wrap_in))) (And.intro (And.intro (@bTF) (@bFT)) (And.intro (@bTT) (@bFF))))
def evA := And.intro (And.intro (And.intro (ev0) (And.intro (ev1) (ev2))) (And.intro (ev3) (And.intro (ev4) (ev5)))) (And.intro (And.intro (ev6) (And.intro (ev7) (ev8))) (And.intro (And.intro (ev9) (ev10)) (And.intro (ev11) (ev12))))

end Go.Proofs.Ytphdemhopihpnaa.AM

namespace Go.Proofs.Ytphdemhopihpnaa.AM
open Go
set_option linter.unusedVariables false
set_option linter.unusedSimpArgs false

theorem typed_int {P : Program} {t : TypeId} {k : IntKind} {cs : List CV} (ht : P.underlying t = some (.int k)) (h : Typed P t cs) : ∃ n, cs = [.int k n] ∧ (Lit.int k n).wf = true := by
  cases h with
  | int ht' n hw => rw [ht] at ht'; cases ht'; exact ⟨n, rfl, hw⟩
  | bool ht' => rw [ht] at ht'; cases ht'
  | str ht' => rw [ht] at ht'; cases ht'
  | slc ht' => rw [ht] at ht'; cases ht'
  | arr ht' => rw [ht] at ht'; cases ht'
  | struct ht' => rw [ht] at ht'; cases ht'

theorem typed_str {P : Program} {t : TypeId} {cs : List CV} (ht : P.underlying t = some .string) (h : Typed P t cs) : ∃ s : ByteArray, cs = [.str s] ∧ s.size ≤ maxLen := by
  cases h with
  | str ht' s hs => exact ⟨s, rfl, hs⟩
  | bool ht' => rw [ht] at ht'; cases ht'
  | int ht' => rw [ht] at ht'; cases ht'
  | slc ht' => rw [ht] at ht'; cases ht'
  | arr ht' => rw [ht] at ht'; cases ht'
  | struct ht' => rw [ht] at ht'; cases ht'

theorem typed_slc {P : Program} {t e : TypeId} {cs : List CV} (ht : P.underlying t = some (.slice e)) (h : Typed P t cs) : ∃ L : List (List CV), cs = [.rsl L.flatten L.length] ∧ L.length ≤ maxLen ∧ (∀ l ∈ L, l.length = P.cellsOf e) ∧ ∀ l ∈ L, Typed P e l := by
  cases h with
  | slc ht' L hn hl h => rw [ht] at ht'; cases ht'; exact ⟨L, rfl, hn, hl, h⟩
  | bool ht' => rw [ht] at ht'; cases ht'
  | int ht' => rw [ht] at ht'; cases ht'
  | str ht' => rw [ht] at ht'; cases ht'
  | arr ht' => rw [ht] at ht'; cases ht'
  | struct ht' => rw [ht] at ht'; cases ht'

theorem typed_arr {P : Program} {t e : TypeId} {n : Nat} {cs : List CV} (ht : P.underlying t = some (.array n e)) (h : Typed P t cs) : ∃ L : List (List CV), cs = L.flatten ∧ L.length = n ∧ (∀ l ∈ L, l.length = P.cellsOf e) ∧ ∀ l ∈ L, Typed P e l := by
  cases h with
  | arr ht' L hn hl h => rw [ht] at ht'; cases ht'; exact ⟨L, rfl, hn, hl, h⟩
  | bool ht' => rw [ht] at ht'; cases ht'
  | int ht' => rw [ht] at ht'; cases ht'
  | str ht' => rw [ht] at ht'; cases ht'
  | slc ht' => rw [ht] at ht'; cases ht'
  | struct ht' => rw [ht] at ht'; cases ht'

theorem typed_struct {P : Program} {t : TypeId} {fs : Array Field} {cs : List CV} (ht : P.underlying t = some (.struct fs)) (h : Typed P t cs) : ∃ L : List (List CV), cs = L.flatten ∧ L.length = fs.size ∧ ∀ (i : Nat) (f : Field) (l : List CV), fs[i]? = some f → L[i]? = some l → Typed P f.type l := by
  cases h with
  | struct ht' L hn hl h => rw [ht] at ht'; cases ht'; exact ⟨L, rfl, hn, h⟩
  | bool ht' => rw [ht] at ht'; cases ht'
  | int ht' => rw [ht] at ht'; cases ht'
  | str ht' => rw [ht] at ht'; cases ht'
  | slc ht' => rw [ht] at ht'; cases ht'
  | arr ht' => rw [ht] at ht'; cases ht'

theorem ints_of {P : Program} {e : TypeId} {k : IntKind} (he : P.underlying e = some (.int k)) : ∀ L : List (List CV), (∀ l ∈ L, Typed P e l) → ∃ zs : List Int, L.flatten = zs.map (.int k) ∧ L.length = zs.length ∧ ∀ z ∈ zs, (Lit.int k z).wf = true
  | [], _ => ⟨[], rfl, rfl, by simp⟩
  | l :: L, h => by
    obtain ⟨n, rfl, hn⟩ := typed_int he (h l (by simp))
    obtain ⟨zs, h1, h2, h3⟩ := ints_of he L fun l hl => h l (by simp [hl])
    exact ⟨n :: zs, by simp [h1], by simp [h2], by simpa using ⟨hn, h3⟩⟩

theorem typed_ints {P : Program} {t e : TypeId} {k : IntKind} {cs : List CV} (ht : P.underlying t = some (.slice e)) (he : P.underlying e = some (.int k)) (h : Typed P t cs) : ∃ zs : List Int, cs = [.rsl (zs.map (.int k)) zs.length] ∧ zs.length < 2 ^ 63 ∧ ∀ z ∈ zs, (Lit.int k z).wf = true := by
  obtain ⟨L, rfl, hn, _, hl⟩ := typed_slc ht h
  obtain ⟨zs, h1, h2, h3⟩ := ints_of he L hl
  refine ⟨zs, by rw [h1, h2], ?_, h3⟩
  rw [← h2]; unfold maxLen at hn; omega

theorem wf_i64 {n : Int} (h : (Lit.int .i64 n).wf = true) : -9223372036854775808 ≤ n ∧ n ≤ 9223372036854775807 := by
  simp only [Lit.wf, Bool.and_eq_true, decide_eq_true_eq, IntKind.min, IntKind.max, IntKind.bits, IntKind.signed] at h
  simp at h; omega
theorem wf_u8 {n : Int} (h : (Lit.int .u8 n).wf = true) : 0 ≤ n ∧ n ≤ 255 := by
  simp only [Lit.wf, Bool.and_eq_true, decide_eq_true_eq, IntKind.min, IntKind.max, IntKind.bits, IntKind.signed] at h
  simp at h; omega
theorem wf_u32 {n : Int} (h : (Lit.int .u32 n).wf = true) : 0 ≤ n ∧ n ≤ 4294967295 := by
  simp only [Lit.wf, Bool.and_eq_true, decide_eq_true_eq, IntKind.min, IntKind.max, IntKind.bits, IntKind.signed] at h
  simp at h; omega

theorem args_cons {P : Program} {t : TypeId} {ts : List TypeId} {avs : List AV} (h : Args P (t :: ts) avs) : ∃ cs avs', avs = avOf P t cs :: avs' ∧ Typed P t cs ∧ Args P ts avs' := by
  generalize hts : t :: ts = u at h
  cases h with
  | nil => cases hts
  | cons h1 h2 => cases hts; exact ⟨_, _, rfl, h1, h2⟩
theorem args_nil {P : Program} {avs : List AV} (h : Args P [] avs) : avs = [] := by
  generalize hts : ([] : List TypeId) = u at h
  cases h with
  | nil => rfl
  | cons h1 h2 => cases hts

end Go.Proofs.Ytphdemhopihpnaa.AM

namespace Go.Proofs.Ytphdemhopihpnaa.AM
open Go
set_option linter.unusedVariables false

theorem hb16 : Try.f16.body = some (Try.f16.body.getD .skip) := by kernel_rfl
abbrev vs16 : List Nat := [0, 1, 4, 5, 6, 14, 20, 21]
def ic16l0 : IC := (.seq (.region [⟨(.some 7), none, (.prim (.bin .lss .int)), [(.v 6), (.c (.cv (.int .i64 2)))]⟩])
 (.seq (.cond 7 .skip
 (.exit 0))
 (.seq (.block 1 (.region [⟨none, none, (.prim .mv), [(.v 4)]⟩, ⟨none, none, (.prim (.bin .rem .int)), [(.t 0), (.c (.cv (.int .i64 2147483647)))]⟩, ⟨none, none, (.prim .mv), [(.v 4)]⟩, ⟨none, none, (.prim (.bin .rem .int)), [(.t 2), (.c (.cv (.int .i64 2147483647)))]⟩, ⟨none, none, (.prim (.bin .mul .int)), [(.t 1), (.t 3)]⟩, ⟨none, none, (.prim (.bin .add .int)), [(.t 4), (.c (.cv (.int .i64 12345)))]⟩, ⟨none, none, (.prim (.bin .rem .int)), [(.t 5), (.c (.cv (.int .i64 2147483647)))]⟩, ⟨(.some 4), none, (.prim .mv), [(.t 6)]⟩]))
 (.region [⟨none, none, (.prim (.bin .add .int)), [(.v 6), (.c (.cv (.int .i64 1)))]⟩, ⟨(.some 6), none, (.prim .mv), [(.t 0)]⟩]))))
def ic16 : IC := (.seq (.region [⟨(.some 2), none, (.prim .mv), [(.c (.cv (.int .i64 0)))]⟩, ⟨(.some 3), none, (.prim .mv), [(.c (.cv (.int .i64 0)))]⟩])
 (.seq (.seq (.region [⟨none, none, (.prim .mv), [(.v 0)]⟩, ⟨none, none, (.prim (.bslice 1 1 [(.cv (.int .i64 0))] [(0, 1)])), [(.t 0)]⟩, ⟨none, none, .call, [(.c (.fn (.func 47) [])), (.c (.cv (.int .i64 0))), (.c (.cv (.int .i64 7))), (.t 1)]⟩, ⟨none, none, (.prim .mv), [(.t 2)]⟩, ⟨none, (.some (3, false)), (.prim .mv), [(.v 1)]⟩, ⟨none, (.some (3, false)), (.prim (.bslice 1 1 [(.cv (.int .i64 0))] [(0, 1)])), [(.t 4)]⟩, ⟨none, (.some (3, false)), .call, [(.c (.fn (.func 47) [])), (.c (.cv (.int .i64 0))), (.c (.cv (.int .i64 1000000000))), (.t 5)]⟩, ⟨(.some 5), none, (.prim .pick), [(.t 3), (.c (.cv (.bool true))), (.t 6)]⟩])
 (.cond 5 (.seq (.region [⟨(.some 2), none, (.prim .mv), [(.c (.cv (.int .i64 0)))]⟩, ⟨(.some 3), none, (.prim .mv), [(.c (.cv (.int .i64 7)))]⟩])
 .ret)
 .skip))
 (.seq (.region [⟨none, none, (.prim .mv), [(.v 1)]⟩, ⟨none, none, (.prim (.bin .add .int)), [(.t 0), (.c (.cv (.int .i64 1)))]⟩, ⟨none, none, (.prim .mv), [(.v 0)]⟩, ⟨none, none, (.prim (.bin .mul .int)), [(.c (.cv (.int .i64 7))), (.t 2)]⟩, ⟨none, none, (.prim (.bin .add .int)), [(.t 1), (.t 3)]⟩, ⟨(.some 4), none, (.prim .mv), [(.t 4)]⟩])
 (.seq (.seq (.region [⟨(.some 6), none, (.prim .mv), [(.c (.cv (.int .i64 0)))]⟩])
 (.block 0 (.loop ic16l0)))
 (.seq (.region [⟨none, none, (.prim .mv), [(.v 4)]⟩, ⟨(.some 2), none, (.prim .mv), [(.t 0)]⟩, ⟨(.some 3), none, (.prim .mv), [(.c (.cv (.int .i64 0)))]⟩])
 .ret)))))
theorem cc16 : compC Try.prog vs16 Try.f16.ntmps (Try.f16.body.getD .skip) = some ic16 := by kernel_rfl
abbrev rs16 : List RC := [(.v 2), (.v 3)]
theorem fok16 (p : Bool) : FnOk Try.prog 16 ⟨ic16, vs16, 31, rs16, p⟩ := FnOk.mk' Try.func16 hb16 (by kernel_rfl) cc16 (by kernel_rfl) (by kernel_rfl)

theorem hb17 : Try.f17.body = some (Try.f17.body.getD .skip) := by kernel_rfl
abbrev vs17 : List Nat := [0, 1, 4, 5, 13]
def ic17 : IC := (.seq (.region [⟨(.some 2), none, (.prim .mv), [(.c (.cv (.int .i64 0)))]⟩, ⟨(.some 3), none, (.prim .mv), [(.c (.cv (.int .i64 0)))]⟩])
 (.seq (.seq (.region [⟨none, none, (.prim .mv), [(.v 0)]⟩, ⟨none, none, .call, [(.c (.fn (.func 48) [])), (.t 0), (.c (.cv (.int .i64 0))), (.c (.cv (.int .i64 7)))]⟩, ⟨none, none, (.prim .not), [(.t 1)]⟩, ⟨none, none, (.prim .mv), [(.t 2)]⟩, ⟨none, (.some (3, false)), (.prim .mv), [(.v 1)]⟩, ⟨none, (.some (3, false)), .call, [(.c (.fn (.func 48) [])), (.t 4), (.c (.cv (.int .i64 0))), (.c (.cv (.int .i64 1000000000)))]⟩, ⟨none, (.some (3, false)), (.prim .not), [(.t 5)]⟩, ⟨(.some 4), none, (.prim .pick), [(.t 3), (.c (.cv (.bool true))), (.t 6)]⟩])
 (.cond 4 (.seq (.region [⟨(.some 2), none, (.prim .mv), [(.c (.cv (.int .i64 0)))]⟩, ⟨(.some 3), none, (.prim .mv), [(.c (.cv (.int .i64 7)))]⟩])
 .ret)
 .skip))
 (.seq (.region [⟨none, none, (.prim .mv), [(.v 0)]⟩, ⟨none, none, (.prim .mv), [(.v 1)]⟩, ⟨none, none, .call, [(.c (.fn (.func 49) [])), (.t 0), (.t 1)]⟩, ⟨(.some 2), none, (.prim .mv), [(.t 2)]⟩, ⟨(.some 3), none, (.prim .mv), [(.c (.cv (.int .i64 0)))]⟩])
 .ret)))
theorem cc17 : compC Try.prog vs17 Try.f17.ntmps (Try.f17.body.getD .skip) = some ic17 := by kernel_rfl
abbrev rs17 : List RC := [(.v 2), (.v 3)]
theorem fok17 (p : Bool) : FnOk Try.prog 17 ⟨ic17, vs17, 17, rs17, p⟩ := FnOk.mk' Try.func17 hb17 (by kernel_rfl) cc17 (by kernel_rfl) (by kernel_rfl)

theorem hb18 : Try.f18.body = some (Try.f18.body.getD .skip) := by kernel_rfl
abbrev vs18 : List Nat := [0, 1, 4, 5, 6, 7, 8, 13, 15, 21, 24, 25, 26, 27, 42]
def ic18l0 : IC := (.seq (.region [⟨(.some 13), none, (.prim (.bin .lss .int)), [(.v 12), (.v 11)]⟩])
 (.seq (.cond 13 .skip
 (.exit 1))
 (.seq (.block 2 (.seq (.region [⟨none, none, (.prim .mv), [(.v 12)]⟩, ⟨none, none, (.prim (.iaS 1)), [(.v 10), (.v 12)]⟩, ⟨none, none, (.prim .load1), [(.t 1)]⟩, ⟨(.some 4), none, (.prim .mv), [(.t 0)]⟩, ⟨(.some 5), none, (.prim .mv), [(.t 2)]⟩])
 (.seq (.region [⟨none, none, (.prim .mv), [(.v 4)]⟩, ⟨none, none, (.prim .mv), [(.v 5)]⟩, ⟨none, none, .call, [(.c (.fn (.func 16) [])), (.t 0), (.t 1)]⟩, ⟨none, none, (.prim .mv), [(.t 2)]⟩, ⟨none, none, (.prim (.extract 0)), [(.t 3)]⟩, ⟨none, none, (.prim (.extract 1)), [(.t 3)]⟩, ⟨(.some 6), none, (.prim .mv), [(.t 4)]⟩, ⟨none, none, (.prim .mv), [(.t 5)]⟩])
 (.seq (.region [⟨none, none, (.prim .mv), [(.v 6)]⟩, ⟨none, none, (.prim .mv), [(.v 0)]⟩, ⟨none, none, (.prim .mv), [(.v 4)]⟩, ⟨none, none, (.prim (.iaS 1)), [(.t 1), (.t 2)]⟩, ⟨none, none, (.prim .load1), [(.t 3)]⟩, ⟨(.some 14), none, (.prim (.bin .neq .int)), [(.t 0), (.t 4)]⟩])
 (.cond 14 (.region [⟨none, none, (.prim .mv), [(.v 2)]⟩, ⟨none, none, (.prim .mv), [(.v 4)]⟩, ⟨none, none, (.prim (.bslice 1 1 [(.cv (.int .i64 0))] [(0, 1)])), [(.t 1)]⟩, ⟨none, none, (.prim (.append 1 8)), [(.t 0), (.t 2)]⟩, ⟨(.some 2), none, (.prim .mv), [(.t 3)]⟩])
 .skip)))))
 (.region [⟨none, none, (.prim (.bin .add .int)), [(.v 12), (.c (.cv (.int .i64 1)))]⟩, ⟨(.some 12), none, (.prim .mv), [(.t 0)]⟩]))))
def ic18 : IC := (.seq (.region [⟨(.some 2), none, (.prim .mv), [(.c (.cv .nils))]⟩, ⟨(.some 3), none, (.prim .mv), [(.c (.cv (.int .i64 0)))]⟩])
 (.seq (.seq (.region [⟨none, none, (.prim .mv), [(.v 1)]⟩, ⟨none, none, .call, [(.c (.fn (.func 50) [])), (.t 0)]⟩, ⟨(.some 3), none, (.prim .mv), [(.t 1)]⟩])
 (.seq (.region [⟨none, none, (.prim .mv), [(.v 3)]⟩, ⟨(.some 7), none, (.prim (.bin .neq .int)), [(.t 0), (.c (.cv (.int .i64 0)))]⟩])
 (.cond 7 (.seq (.region [⟨none, none, (.prim .mv), [(.v 3)]⟩, ⟨(.some 2), none, (.prim .mv), [(.c (.cv .nils))]⟩, ⟨(.some 3), none, (.prim .mv), [(.t 0)]⟩])
 .ret)
 .skip)))
 (.seq (.block 0 (.seq (.region [⟨none, none, (.prim .mv), [(.v 0)]⟩, ⟨none, none, (.prim (.len false)), [(.t 0)]⟩, ⟨none, none, (.prim .mv), [(.v 1)]⟩, ⟨none, none, (.prim (.len false)), [(.t 2)]⟩, ⟨none, none, (.prim (.bin .neq .int)), [(.t 1), (.t 3)]⟩, ⟨(.some 8), none, (.prim .mv), [(.t 4)]⟩])
 (.cond 8 (.seq (.region [⟨(.some 2), none, (.prim .mv), [(.c (.cv .nils))]⟩, ⟨(.some 3), none, (.prim .mv), [(.c (.cv (.int .i64 3)))]⟩])
 .ret)
 (.seq (.region [⟨none, none, (.prim .mv), [(.v 0)]⟩, ⟨none, none, .call, [(.c (.fn (.func 47) [])), (.c (.cv (.int .i64 0))), (.c (.cv (.int .i64 2147483646))), (.t 0)]⟩, ⟨(.some 9), none, (.prim .mv), [(.t 1)]⟩])
 (.cond 9 (.seq (.region [⟨(.some 2), none, (.prim .mv), [(.c (.cv .nils))]⟩, ⟨(.some 3), none, (.prim .mv), [(.c (.cv (.int .i64 7)))]⟩])
 .ret)
 .skip)))))
 (.seq (.seq (.region [⟨(.some 10), none, (.prim .mv), [(.v 1)]⟩, ⟨(.some 11), none, (.prim (.len false)), [(.v 10)]⟩, ⟨(.some 12), none, (.prim .mv), [(.c (.cv (.int .i64 0)))]⟩])
 (.block 1 (.loop ic18l0)))
 (.seq (.region [⟨none, none, (.prim .mv), [(.v 2)]⟩, ⟨(.some 2), none, (.prim .mv), [(.t 0)]⟩, ⟨(.some 3), none, (.prim .mv), [(.c (.cv (.int .i64 0)))]⟩])
 .ret)))))
theorem cc18 : compC Try.prog vs18 Try.f18.ntmps (Try.f18.body.getD .skip) = some ic18 := by kernel_rfl
abbrev rs18 : List RC := [(.v 2), (.v 3)]
theorem fok18 (p : Bool) : FnOk Try.prog 18 ⟨ic18, vs18, 49, rs18, p⟩ := FnOk.mk' Try.func18 hb18 (by kernel_rfl) cc18 (by kernel_rfl) (by kernel_rfl)

theorem hb19 : Try.f19.body = some (Try.f19.body.getD .skip) := by kernel_rfl
abbrev vs19 : List Nat := [0, 1, 4, 5, 6, 11]
def ic19 : IC := (.seq (.region [⟨(.some 2), none, (.prim .mv), [(.c (.cv .nils))]⟩, ⟨(.some 3), none, (.prim .mv), [(.c (.cv (.int .i64 0)))]⟩])
 (.seq (.region [⟨none, none, (.prim .mv), [(.v 0)]⟩, ⟨none, none, (.prim .mv), [(.v 1)]⟩, ⟨none, none, .call, [(.c (.fn (.func 51) [])), (.t 0), (.t 1)]⟩, ⟨(.some 4), none, (.prim .mv), [(.t 2)]⟩])
 (.seq (.seq (.region [⟨none, none, (.prim .mv), [(.v 4)]⟩, ⟨(.some 5), none, (.prim (.bin .neq .int)), [(.t 0), (.c (.cv (.int .i64 0)))]⟩])
 (.cond 5 (.seq (.region [⟨none, none, (.prim .mv), [(.v 4)]⟩, ⟨(.some 2), none, (.prim .mv), [(.c (.cv .nils))]⟩, ⟨(.some 3), none, (.prim .mv), [(.t 0)]⟩])
 .ret)
 .skip))
 (.seq (.region [⟨none, none, (.prim .mv), [(.v 0)]⟩, ⟨none, none, (.prim .mv), [(.v 1)]⟩, ⟨none, none, .call, [(.c (.fn (.func 52) [])), (.t 0), (.t 1)]⟩, ⟨(.some 2), none, (.prim .mv), [(.t 2)]⟩, ⟨(.some 3), none, (.prim .mv), [(.c (.cv (.int .i64 0)))]⟩])
 .ret))))
theorem cc19 : compC Try.prog vs19 Try.f19.ntmps (Try.f19.body.getD .skip) = some ic19 := by kernel_rfl
abbrev rs19 : List RC := [(.v 2), (.v 3)]
theorem fok19 (p : Bool) : FnOk Try.prog 19 ⟨ic19, vs19, 16, rs19, p⟩ := FnOk.mk' Try.func19 hb19 (by kernel_rfl) cc19 (by kernel_rfl) (by kernel_rfl)

theorem hb20 : Try.f20.body = some (Try.f20.body.getD .skip) := by kernel_rfl
abbrev vs20 : List Nat := [0, 1, 4, 5, 10, 14, 25]
def ic20l0 : IC := (.seq (.seq (.region [⟨none, none, (.prim .mv), [(.v 3)]⟩, ⟨none, none, (.prim .mv), [(.v 0)]⟩, ⟨none, none, (.prim (.len false)), [(.t 1)]⟩, ⟨(.some 5), none, (.prim (.bin .lss .int)), [(.t 0), (.t 2)]⟩])
 (.cond 5 .skip
 (.exit 0)))
 (.seq (.block 1 (.seq (.dr [[], [], [0, 1], [2], [], [], [4, 5], [6], [3, 7]] [⟨none, none, (.prim .mv), [(.v 0)]⟩, ⟨none, none, (.prim .mv), [(.v 3)]⟩, ⟨none, none, (.prim (.iaS 1)), [(.t 0), (.t 1)]⟩, ⟨none, none, (.prim .load1), [(.t 2)]⟩, ⟨none, none, (.prim .mv), [(.v 1)]⟩, ⟨none, none, (.prim .mv), [(.v 3)]⟩, ⟨none, none, (.prim (.iaS 1)), [(.t 4), (.t 5)]⟩, ⟨none, none, (.prim .load1), [(.t 6)]⟩, ⟨(.some 6), none, (.prim (.bin .neq .int)), [(.t 3), (.t 7)]⟩])
 (.cond 6 (.seq (.region [⟨(.some 2), none, (.prim .mv), [(.c (.cv (.bool false)))]⟩])
 .ret)
 .skip)))
 (.region [⟨none, none, (.prim .mv), [(.v 3)]⟩, ⟨none, none, (.prim (.bin .add .int)), [(.t 0), (.c (.cv (.int .i64 1)))]⟩, ⟨(.some 3), none, (.prim .mv), [(.t 1)]⟩])))
def ic20 : IC := (.seq (.region [⟨(.some 2), none, (.prim .mv), [(.c (.cv (.bool false)))]⟩])
 (.seq (.seq (.region [⟨none, none, (.prim .mv), [(.v 0)]⟩, ⟨none, none, (.prim (.len false)), [(.t 0)]⟩, ⟨none, none, (.prim .mv), [(.v 1)]⟩, ⟨none, none, (.prim (.len false)), [(.t 2)]⟩, ⟨(.some 4), none, (.prim (.bin .neq .int)), [(.t 1), (.t 3)]⟩])
 (.cond 4 (.seq (.region [⟨(.some 2), none, (.prim .mv), [(.c (.cv (.bool false)))]⟩])
 .ret)
 .skip))
 (.seq (.seq (.region [⟨(.some 3), none, (.prim .mv), [(.c (.cv (.int .i64 0)))]⟩])
 (.block 0 (.loop ic20l0)))
 (.seq (.region [⟨(.some 2), none, (.prim .mv), [(.c (.cv (.bool true)))]⟩])
 .ret))))
theorem cc20 : compC Try.prog vs20 Try.f20.ntmps (Try.f20.body.getD .skip) = some ic20 := by kernel_rfl
abbrev rs20 : List RC := [(.v 2)]
theorem fok20 (p : Bool) : FnOk Try.prog 20 ⟨ic20, vs20, 26, rs20, p⟩ := FnOk.mk' Try.func20 hb20 (by kernel_rfl) cc20 (by kernel_rfl) (by kernel_rfl)

theorem hb21 : Try.f21.body = some (Try.f21.body.getD .skip) := by kernel_rfl
abbrev vs21 : List Nat := [0, 2, 3, 5, 9, 11, 12, 13, 14]
def ic21l0 : IC := (.seq (.region [⟨(.some 8), none, (.prim (.bin .lss .int)), [(.v 7), (.v 6)]⟩])
 (.seq (.cond 8 .skip
 (.exit 0))
 (.seq (.block 1 (.seq (.region [⟨none, none, (.prim (.iaS 1)), [(.v 5), (.v 7)]⟩, ⟨none, none, (.prim .load1), [(.t 0)]⟩, ⟨(.some 3), none, (.prim .mv), [(.t 1)]⟩])
 (.region [⟨none, none, (.prim .mv), [(.v 1)]⟩, ⟨none, none, (.prim (.bin .mul .int)), [(.t 0), (.c (.cv (.int .i64 1000003)))]⟩, ⟨none, none, (.prim .mv), [(.v 3)]⟩, ⟨none, none, (.prim (.bin .add .int)), [(.t 1), (.t 2)]⟩, ⟨none, none, (.prim (.bin .add .int)), [(.t 3), (.c (.cv (.int .i64 1)))]⟩, ⟨none, none, (.prim (.bin .rem .int)), [(.t 4), (.c (.cv (.int .i64 2147483647)))]⟩, ⟨(.some 1), none, (.prim .mv), [(.t 5)]⟩])))
 (.region [⟨none, none, (.prim (.bin .add .int)), [(.v 7), (.c (.cv (.int .i64 1)))]⟩, ⟨(.some 7), none, (.prim .mv), [(.t 0)]⟩]))))
def ic21 : IC := (.seq (.region [⟨(.some 1), none, (.prim .mv), [(.c (.cv (.int .i64 0)))]⟩, ⟨(.some 2), none, (.prim .mv), [(.c (.cv (.int .i64 0)))]⟩])
 (.seq (.seq (.region [⟨none, none, (.prim .mv), [(.v 0)]⟩, ⟨none, none, .call, [(.c (.fn (.func 50) [])), (.t 0)]⟩, ⟨(.some 2), none, (.prim .mv), [(.t 1)]⟩])
 (.seq (.region [⟨none, none, (.prim .mv), [(.v 2)]⟩, ⟨(.some 4), none, (.prim (.bin .neq .int)), [(.t 0), (.c (.cv (.int .i64 0)))]⟩])
 (.cond 4 (.seq (.region [⟨none, none, (.prim .mv), [(.v 2)]⟩, ⟨(.some 1), none, (.prim .mv), [(.c (.cv (.int .i64 0)))]⟩, ⟨(.some 2), none, (.prim .mv), [(.t 0)]⟩])
 .ret)
 .skip)))
 (.seq (.seq (.region [⟨(.some 5), none, (.prim .mv), [(.v 0)]⟩, ⟨(.some 6), none, (.prim (.len false)), [(.v 5)]⟩, ⟨(.some 7), none, (.prim .mv), [(.c (.cv (.int .i64 0)))]⟩])
 (.block 0 (.loop ic21l0)))
 (.seq (.region [⟨none, none, (.prim .mv), [(.v 1)]⟩, ⟨(.some 1), none, (.prim .mv), [(.t 0)]⟩, ⟨(.some 2), none, (.prim .mv), [(.c (.cv (.int .i64 0)))]⟩])
 .ret))))
theorem cc21 : compC Try.prog vs21 Try.f21.ntmps (Try.f21.body.getD .skip) = some ic21 := by kernel_rfl
abbrev rs21 : List RC := [(.v 1), (.v 2)]
theorem fok21 (p : Bool) : FnOk Try.prog 21 ⟨ic21, vs21, 25, rs21, p⟩ := FnOk.mk' Try.func21 hb21 (by kernel_rfl) cc21 (by kernel_rfl) (by kernel_rfl)

theorem hb22 : Try.f22.body = some (Try.f22.body.getD .skip) := by kernel_rfl
abbrev vs22 : List Nat := [0, 2, 3, 4, 5, 6, 10, 15]
def ic22l0 : IC := (.seq (.seq (.region [⟨none, none, (.prim .mv), [(.v 5)]⟩, ⟨none, none, (.prim .mv), [(.v 0)]⟩, ⟨none, none, (.prim (.len false)), [(.t 1)]⟩, ⟨(.some 7), none, (.prim (.bin .lss .int)), [(.t 0), (.t 2)]⟩])
 (.cond 7 .skip
 (.exit 0)))
 (.seq (.block 1 (.region [⟨none, none, (.prim .mv), [(.v 4)]⟩, ⟨none, none, (.prim (.bin .mul .int)), [(.t 0), (.c (.cv (.int .i64 1000003)))]⟩, ⟨none, none, (.prim .mv), [(.v 0)]⟩, ⟨none, none, (.prim .mv), [(.v 5)]⟩, ⟨none, none, (.prim (.iaS 1)), [(.t 2), (.t 3)]⟩, ⟨none, none, (.prim .load1), [(.t 4)]⟩, ⟨none, none, (.prim (.bin .add .int)), [(.t 1), (.t 5)]⟩, ⟨none, none, (.prim (.bin .add .int)), [(.t 6), (.c (.cv (.int .i64 1)))]⟩, ⟨none, none, (.prim (.bin .rem .int)), [(.t 7), (.c (.cv (.int .i64 2147483647)))]⟩, ⟨(.some 4), none, (.prim .mv), [(.t 8)]⟩]))
 (.region [⟨none, none, (.prim .mv), [(.v 5)]⟩, ⟨none, none, (.prim (.bin .add .int)), [(.t 0), (.c (.cv (.int .i64 1)))]⟩, ⟨(.some 5), none, (.prim .mv), [(.t 1)]⟩])))
def ic22 : IC := (.seq (.region [⟨(.some 1), none, (.prim .mv), [(.c (.cv (.int .i64 0)))]⟩, ⟨(.some 2), none, (.prim .mv), [(.c (.cv (.int .i64 0)))]⟩])
 (.seq (.region [⟨none, none, (.prim .mv), [(.v 0)]⟩, ⟨none, none, .call, [(.c (.fn (.func 41) [])), (.t 0)]⟩, ⟨(.some 3), none, (.prim .mv), [(.t 1)]⟩])
 (.seq (.seq (.region [⟨none, none, (.prim .mv), [(.v 3)]⟩, ⟨(.some 6), none, (.prim (.bin .neq .int)), [(.t 0), (.c (.cv (.int .i64 0)))]⟩])
 (.cond 6 (.seq (.region [⟨none, none, (.prim .mv), [(.v 3)]⟩, ⟨(.some 1), none, (.prim .mv), [(.c (.cv (.int .i64 0)))]⟩, ⟨(.some 2), none, (.prim .mv), [(.t 0)]⟩])
 .ret)
 .skip))
 (.seq (.region [⟨(.some 4), none, (.prim .mv), [(.c (.cv (.int .i64 0)))]⟩])
 (.seq (.seq (.region [⟨(.some 5), none, (.prim .mv), [(.c (.cv (.int .i64 0)))]⟩])
 (.block 0 (.loop ic22l0)))
 (.seq (.region [⟨none, none, (.prim .mv), [(.v 4)]⟩, ⟨(.some 1), none, (.prim .mv), [(.t 0)]⟩, ⟨(.some 2), none, (.prim .mv), [(.c (.cv (.int .i64 0)))]⟩])
 .ret))))))
theorem cc22 : compC Try.prog vs22 Try.f22.ntmps (Try.f22.body.getD .skip) = some ic22 := by kernel_rfl
abbrev rs22 : List RC := [(.v 1), (.v 2)]
theorem fok22 (p : Bool) : FnOk Try.prog 22 ⟨ic22, vs22, 28, rs22, p⟩ := FnOk.mk' Try.func22 hb22 (by kernel_rfl) cc22 (by kernel_rfl) (by kernel_rfl)

theorem hb23 : Try.f23.body = some (Try.f23.body.getD .skip) := by kernel_rfl
abbrev vs23 : List Nat := [0, 1, 2, 3, 4, 5, 6, 7, 8, 9, 10, 11, 12, 13, 14, 15, 16, 18]
def ic23 : IC := (.seq (.region [⟨(.some 0), none, (.prim .mv), [(.c (.cv (.bool false)))]⟩])
 (.seq (.region [⟨none, none, .call, [(.c (.fn (.func 16) [])), (.c (.cv (.int .i64 0))), (.c (.cv (.int .i64 0)))]⟩, ⟨none, none, (.prim .mv), [(.t 0)]⟩, ⟨none, none, (.prim (.extract 0)), [(.t 1)]⟩, ⟨none, none, (.prim (.extract 1)), [(.t 1)]⟩, ⟨(.some 1), none, (.prim .mv), [(.t 2)]⟩, ⟨(.some 2), none, (.prim .mv), [(.t 3)]⟩])
 (.seq (.region [⟨none, none, (.prim (.bslice 1 2 [(.cv (.int .i64 0)), (.cv (.int .i64 0))] [(0, 1), (1, 1)])), [(.c (.cv (.int .i64 152436061))), (.c (.cv (.int .i64 153995626)))]⟩, ⟨none, none, (.prim (.bslice 1 2 [(.cv (.int .i64 0)), (.cv (.int .i64 0))] [(0, 1), (1, 1)])), [(.c (.cv (.int .i64 0))), (.c (.cv (.int .i64 1)))]⟩, ⟨none, none, .call, [(.c (.fn (.func 18) [])), (.t 0), (.t 1)]⟩, ⟨none, none, (.prim .mv), [(.t 2)]⟩, ⟨none, none, (.prim (.extract 0)), [(.t 3)]⟩, ⟨none, none, (.prim (.extract 1)), [(.t 3)]⟩, ⟨(.some 3), none, (.prim .mv), [(.t 4)]⟩, ⟨(.some 4), none, (.prim .mv), [(.t 5)]⟩])
 (.seq (.region [⟨none, none, (.prim (.bslice 1 2 [(.cv (.int .i64 0)), (.cv (.int .i64 0))] [(0, 1), (1, 1)])), [(.c (.cv (.int .i64 1))), (.c (.cv (.int .i64 2)))]⟩, ⟨none, none, .call, [(.c (.fn (.func 21) [])), (.t 0)]⟩, ⟨none, none, (.prim .mv), [(.t 1)]⟩, ⟨none, none, (.prim (.extract 0)), [(.t 2)]⟩, ⟨none, none, (.prim (.extract 1)), [(.t 2)]⟩, ⟨(.some 5), none, (.prim .mv), [(.t 3)]⟩, ⟨(.some 6), none, (.prim .mv), [(.t 4)]⟩])
 (.seq (.region [⟨none, none, .call, [(.c (.fn (.func 37) []))]⟩, ⟨none, none, .call, [(.c (.fn (.func 26) [])), (.t 0)]⟩, ⟨none, none, (.prim .mv), [(.t 1)]⟩, ⟨none, none, (.prim (.extract 0)), [(.t 2)]⟩, ⟨none, none, (.prim (.extract 1)), [(.t 2)]⟩, ⟨(.some 7), none, (.prim .mv), [(.t 3)]⟩, ⟨(.some 8), none, (.prim .mv), [(.t 4)]⟩])
 (.seq (.region [⟨none, none, .call, [(.c (.fn (.func 37) []))]⟩, ⟨none, none, .call, [(.c (.fn (.func 28) [])), (.t 0), (.c (.cv (.int .i64 1)))]⟩, ⟨none, none, (.prim .mv), [(.t 1)]⟩, ⟨none, none, (.prim (.extract 0)), [(.t 2)]⟩, ⟨none, none, (.prim (.extract 1)), [(.t 2)]⟩, ⟨(.some 9), none, (.prim .mv), [(.t 3)]⟩, ⟨(.some 10), none, (.prim .mv), [(.t 4)]⟩])
 (.seq (.region [⟨none, none, .call, [(.c (.fn (.func 37) []))]⟩, ⟨none, none, (.prim (.bslice 1 3 [(.cv (.int .i64 0)), (.cv (.int .i64 0)), (.cv (.int .i64 0))] [(0, 1), (1, 1), (2, 1)])), [(.c (.cv (.int .i64 2))), (.c (.cv (.int .i64 1))), (.c (.cv (.int .i64 0)))]⟩, ⟨none, none, .call, [(.c (.fn (.func 30) [])), (.t 0), (.t 1)]⟩, ⟨none, none, (.prim .mv), [(.t 2)]⟩, ⟨none, none, (.prim (.extract 0)), [(.t 3)]⟩, ⟨none, none, (.prim (.extract 1)), [(.t 3)]⟩, ⟨(.some 11), none, (.prim .mv), [(.t 4)]⟩, ⟨(.some 12), none, (.prim .mv), [(.t 5)]⟩])
 (.seq (.region [⟨none, none, .call, [(.c (.fn (.func 36) []))]⟩, ⟨none, none, .call, [(.c (.fn (.func 32) [])), (.t 0)]⟩, ⟨none, none, (.prim .mv), [(.t 1)]⟩, ⟨none, none, (.prim (.extract 0)), [(.t 2)]⟩, ⟨none, none, (.prim (.extract 1)), [(.t 2)]⟩, ⟨(.some 13), none, (.prim .mv), [(.t 3)]⟩, ⟨(.some 14), none, (.prim .mv), [(.t 4)]⟩])
 (.seq (.region [⟨none, none, .call, [(.c (.fn (.func 37) []))]⟩, ⟨none, none, (.prim (.bslice 1 1 [(.cv (.int .i64 0))] [(0, 1)])), [(.c (.cv (.int .i64 152436061)))]⟩, ⟨none, none, (.prim (.bslice 1 1 [(.cv (.int .i64 0))] [(0, 1)])), [(.c (.cv (.int .i64 0)))]⟩, ⟨none, none, (.prim (.bslice 1 3 [(.cv (.int .i64 0)), (.cv (.int .i64 0)), (.cv (.int .i64 0))] [(0, 1), (1, 1), (2, 1)])), [(.c (.cv (.int .i64 2))), (.c (.cv (.int .i64 1))), (.c (.cv (.int .i64 0)))]⟩, ⟨none, none, .call, [(.c (.fn (.func 34) [])), (.t 0), (.t 1), (.t 2), (.t 3)]⟩, ⟨none, none, (.prim .mv), [(.t 4)]⟩, ⟨none, none, (.prim (.extract 0)), [(.t 5)]⟩, ⟨none, none, (.prim (.extract 1)), [(.t 5)]⟩, ⟨(.some 15), none, (.prim .mv), [(.t 6)]⟩, ⟨(.some 16), none, (.prim .mv), [(.t 7)]⟩])
 (.seq (.region [⟨none, none, .call, [(.c (.fn (.func 36) []))]⟩, ⟨none, none, .call, [(.c (.fn (.func 28) [])), (.t 0), (.c (.cv (.int .i64 0)))]⟩, ⟨none, none, (.prim .mv), [(.t 1)]⟩, ⟨none, none, (.prim (.extract 0)), [(.t 2)]⟩, ⟨none, none, (.prim (.extract 1)), [(.t 2)]⟩, ⟨none, none, (.prim .mv), [(.t 3)]⟩, ⟨(.some 17), none, (.prim .mv), [(.t 4)]⟩])
 (.seq (.region [⟨none, none, (.prim .mv), [(.v 2)]⟩, ⟨none, none, (.prim (.bin .eql .int)), [(.t 0), (.c (.cv (.int .i64 0)))]⟩, ⟨none, none, (.prim .mv), [(.t 1)]⟩, ⟨none, (.some (2, true)), (.prim .mv), [(.v 4)]⟩, ⟨none, (.some (2, true)), (.prim (.bin .eql .int)), [(.t 3), (.c (.cv (.int .i64 0)))]⟩, ⟨none, none, (.prim .pick), [(.t 2), (.t 4), (.c (.cv (.bool false)))]⟩, ⟨none, none, (.prim .mv), [(.t 5)]⟩, ⟨none, (.some (6, true)), (.prim .mv), [(.v 6)]⟩, ⟨none, (.some (6, true)), (.prim (.bin .eql .int)), [(.t 7), (.c (.cv (.int .i64 0)))]⟩, ⟨none, none, (.prim .pick), [(.t 6), (.t 8), (.c (.cv (.bool false)))]⟩, ⟨none, none, (.prim .mv), [(.t 9)]⟩, ⟨none, (.some (10, true)), (.prim .mv), [(.v 8)]⟩, ⟨none, (.some (10, true)), (.prim (.bin .eql .int)), [(.t 11), (.c (.cv (.int .i64 0)))]⟩, ⟨none, none, (.prim .pick), [(.t 10), (.t 12), (.c (.cv (.bool false)))]⟩, ⟨none, none, (.prim .mv), [(.t 13)]⟩, ⟨none, (.some (14, true)), (.prim .mv), [(.v 10)]⟩, ⟨none, (.some (14, true)), (.prim (.bin .eql .int)), [(.t 15), (.c (.cv (.int .i64 0)))]⟩, ⟨none, none, (.prim .pick), [(.t 14), (.t 16), (.c (.cv (.bool false)))]⟩, ⟨none, none, (.prim .mv), [(.t 17)]⟩, ⟨none, (.some (18, true)), (.prim .mv), [(.v 12)]⟩, ⟨none, (.some (18, true)), (.prim (.bin .eql .int)), [(.t 19), (.c (.cv (.int .i64 0)))]⟩, ⟨none, none, (.prim .pick), [(.t 18), (.t 20), (.c (.cv (.bool false)))]⟩, ⟨none, none, (.prim .mv), [(.t 21)]⟩, ⟨none, (.some (22, true)), (.prim .mv), [(.v 14)]⟩, ⟨none, (.some (22, true)), (.prim (.bin .eql .int)), [(.t 23), (.c (.cv (.int .i64 0)))]⟩, ⟨none, none, (.prim .pick), [(.t 22), (.t 24), (.c (.cv (.bool false)))]⟩, ⟨none, none, (.prim .mv), [(.t 25)]⟩, ⟨none, (.some (26, true)), (.prim .mv), [(.v 16)]⟩, ⟨none, (.some (26, true)), (.prim (.bin .eql .int)), [(.t 27), (.c (.cv (.int .i64 0)))]⟩, ⟨none, none, (.prim .pick), [(.t 26), (.t 28), (.c (.cv (.bool false)))]⟩, ⟨none, none, (.prim .mv), [(.t 29)]⟩, ⟨none, (.some (30, true)), (.prim .mv), [(.v 17)]⟩, ⟨none, (.some (30, true)), (.prim (.bin .eql .int)), [(.t 31), (.c (.cv (.int .i64 9)))]⟩, ⟨none, none, (.prim .pick), [(.t 30), (.t 32), (.c (.cv (.bool false)))]⟩, ⟨none, none, (.prim .mv), [(.t 33)]⟩, ⟨none, (.some (34, true)), (.prim .mv), [(.v 1)]⟩, ⟨none, (.some (34, true)), (.prim (.bin .eql .int)), [(.t 35), (.c (.cv (.int .i64 152436061)))]⟩, ⟨none, none, (.prim .pick), [(.t 34), (.t 36), (.c (.cv (.bool false)))]⟩, ⟨none, none, (.prim .mv), [(.t 37)]⟩, ⟨none, (.some (38, true)), (.prim .mv), [(.v 3)]⟩, ⟨none, (.some (38, true)), (.prim (.bslice 1 1 [(.cv (.int .i64 0))] [(0, 1)])), [(.c (.cv (.int .i64 1)))]⟩, ⟨none, (.some (38, true)), .call, [(.c (.fn (.func 20) [])), (.t 39), (.t 40)]⟩, ⟨none, none, (.prim .pick), [(.t 38), (.t 41), (.c (.cv (.bool false)))]⟩, ⟨none, none, (.prim .mv), [(.t 42)]⟩, ⟨none, (.some (43, true)), (.prim .mv), [(.v 5)]⟩, ⟨none, (.some (43, true)), (.prim (.bin .eql .int)), [(.t 44), (.c (.cv (.int .i64 2000009)))]⟩, ⟨none, none, (.prim .pick), [(.t 43), (.t 45), (.c (.cv (.bool false)))]⟩, ⟨none, none, (.prim .mv), [(.t 46)]⟩, ⟨none, (.some (47, true)), (.prim .mv), [(.v 7)]⟩, ⟨none, (.some (47, true)), (.prim (.bin .eql .int)), [(.t 48), (.c (.cv (.int .i64 3)))]⟩, ⟨none, none, (.prim .pick), [(.t 47), (.t 49), (.c (.cv (.bool false)))]⟩, ⟨none, none, (.prim .mv), [(.t 50)]⟩, ⟨none, (.some (51, true)), (.prim .mv), [(.v 9)]⟩, ⟨none, (.some (51, true)), (.prim (.bslice 1 3 [(.cv (.int .i64 0)), (.cv (.int .i64 0)), (.cv (.int .i64 0))] [(0, 1), (1, 1), (2, 1)])), [(.c (.cv (.int .i64 2))), (.c (.cv (.int .i64 1))), (.c (.cv (.int .i64 0)))]⟩, ⟨none, (.some (51, true)), .call, [(.c (.fn (.func 20) [])), (.t 52), (.t 53)]⟩, ⟨none, none, (.prim .pick), [(.t 51), (.t 54), (.c (.cv (.bool false)))]⟩, ⟨none, none, (.prim .mv), [(.t 55)]⟩, ⟨none, (.some (56, true)), (.prim .mv), [(.v 11)]⟩, ⟨none, (.some (56, true)), (.prim (.bin .eql .int)), [(.t 57), (.c (.cv (.int .i64 1)))]⟩, ⟨none, none, (.prim .pick), [(.t 56), (.t 58), (.c (.cv (.bool false)))]⟩, ⟨none, none, (.prim .mv), [(.t 59)]⟩, ⟨none, (.some (60, true)), (.prim .mv), [(.v 13)]⟩, ⟨none, (.some (60, true)), (.prim (.bslice 1 2 [(.cv (.int .i64 0)), (.cv (.int .i64 0))] [(0, 1), (1, 1)])), [(.c (.cv (.int .i64 2))), (.c (.cv (.int .i64 3)))]⟩, ⟨none, (.some (60, true)), .call, [(.c (.fn (.func 20) [])), (.t 61), (.t 62)]⟩, ⟨none, none, (.prim .pick), [(.t 60), (.t 63), (.c (.cv (.bool false)))]⟩, ⟨none, none, (.prim .mv), [(.t 64)]⟩, ⟨none, (.some (65, true)), (.prim .mv), [(.v 15)]⟩, ⟨none, none, (.prim .pick), [(.t 65), (.t 66), (.c (.cv (.bool false)))]⟩, ⟨(.some 0), none, (.prim .mv), [(.t 67)]⟩])
 .ret)))))))))))
theorem cc23 : compC Try.prog vs23 Try.f23.ntmps (Try.f23.body.getD .skip) = some ic23 := by kernel_rfl
abbrev rs23 : List RC := [(.v 0)]
theorem fok23 (p : Bool) : FnOk Try.prog 23 ⟨ic23, vs23, 136, rs23, p⟩ := FnOk.mk' Try.func23 hb23 (by kernel_rfl) cc23 (by kernel_rfl) (by kernel_rfl)

theorem hb24 : Try.f24.body = some (Try.f24.body.getD .skip) := by kernel_rfl
abbrev vs24 : List Nat := [0, 1, 2, 3, 4, 5, 6, 7, 8, 19, 21, 22, 23, 24, 30, 34, 35, 36, 37, 48]
def ic24l0 : IC := (.seq (.region [⟨(.some 18), none, (.prim (.bin .lss .int)), [(.v 17), (.v 16)]⟩])
 (.seq (.cond 18 .skip
 (.exit 2))
 (.seq (.block 3 (.seq (.region [⟨none, none, (.prim .mv), [(.v 17)]⟩, ⟨none, none, (.prim (.iaS 1)), [(.v 15), (.v 17)]⟩, ⟨none, none, (.prim .load1), [(.t 1)]⟩, ⟨(.some 7), none, (.prim .mv), [(.t 0)]⟩, ⟨(.some 8), none, (.prim .mv), [(.t 2)]⟩])
 (.seq (.region [⟨none, none, (.prim (.fadd 0)), [(.v 1)]⟩, ⟨none, none, (.prim .load1), [(.t 0)]⟩, ⟨none, none, (.prim (.len false)), [(.t 1)]⟩, ⟨none, none, (.prim (.bin .shl .int)), [(.c (.cv (.int .i64 1))), (.t 2)]⟩, ⟨none, none, (.prim (.bin .sub .int)), [(.t 3), (.c (.cv (.int .i64 1)))]⟩, ⟨none, none, (.prim .mv), [(.v 8)]⟩, ⟨none, none, (.prim (.bslice 1 1 [(.cv (.int .i64 0))] [(0, 1)])), [(.t 5)]⟩, ⟨(.some 19), none, .call, [(.c (.fn (.func 47) [])), (.c (.cv (.int .i64 0))), (.t 4), (.t 6)]⟩])
 (.cond 19 (.seq (.region [⟨none, none, (.prim .mv), [(.v 7)]⟩, ⟨(.some 2), none, (.prim .mv), [(.c (.cv (.int .i64 3)))]⟩, ⟨(.some 3), none, (.prim .mv), [(.t 0)]⟩, ⟨(.some 4), none, (.prim .mv), [(.c (.cv (.int .i64 7)))]⟩])
 .ret)
 .skip))))
 (.region [⟨none, none, (.prim (.bin .add .int)), [(.v 17), (.c (.cv (.int .i64 1)))]⟩, ⟨(.some 17), none, (.prim .mv), [(.t 0)]⟩]))))
def ic24l1 : IC := (.seq (.region [⟨(.some 13), none, (.prim (.bin .lss .int)), [(.v 12), (.v 11)]⟩])
 (.seq (.cond 13 .skip
 (.exit 0))
 (.seq (.block 1 (.seq (.region [⟨none, none, (.prim .mv), [(.v 12)]⟩, ⟨none, none, (.prim (.iaS 1)), [(.v 10), (.v 12)]⟩, ⟨none, none, (.prim .load1), [(.t 1)]⟩, ⟨(.some 5), none, (.prim .mv), [(.t 0)]⟩, ⟨(.some 6), none, (.prim .mv), [(.t 2)]⟩])
 (.seq (.region [⟨none, none, (.prim .mv), [(.v 6)]⟩, ⟨none, none, (.prim (.bslice 1 1 [(.cv (.int .i64 0))] [(0, 1)])), [(.t 0)]⟩, ⟨(.some 14), none, .call, [(.c (.fn (.func 47) [])), (.c (.cv (.int .i64 0))), (.c (.cv (.int .i64 4))), (.t 1)]⟩])
 (.cond 14 (.seq (.region [⟨none, none, (.prim .mv), [(.v 5)]⟩, ⟨(.some 2), none, (.prim .mv), [(.c (.cv (.int .i64 2)))]⟩, ⟨(.some 3), none, (.prim .mv), [(.t 0)]⟩, ⟨(.some 4), none, (.prim .mv), [(.c (.cv (.int .i64 7)))]⟩])
 .ret)
 .skip))))
 (.region [⟨none, none, (.prim (.bin .add .int)), [(.v 12), (.c (.cv (.int .i64 1)))]⟩, ⟨(.some 12), none, (.prim .mv), [(.t 0)]⟩]))))
def ic24 : IC := (.seq (.region [⟨(.some 1), none, (.prim .box), [(.v 0)]⟩, ⟨(.some 2), none, (.prim .mv), [(.c (.cv (.int .i64 0)))]⟩, ⟨(.some 3), none, (.prim .mv), [(.c (.cv (.int .i64 0)))]⟩, ⟨(.some 4), none, (.prim .mv), [(.c (.cv (.int .i64 0)))]⟩])
 (.seq (.seq (.region [⟨none, none, (.prim (.fadd 0)), [(.v 1)]⟩, ⟨none, none, (.prim .load1), [(.t 0)]⟩, ⟨none, none, (.prim (.len false)), [(.t 1)]⟩, ⟨none, none, (.prim (.bslice 1 1 [(.cv (.int .i64 0))] [(0, 1)])), [(.t 2)]⟩, ⟨none, none, .call, [(.c (.fn (.func 47) [])), (.c (.cv (.int .i64 1))), (.c (.cv (.int .i64 6))), (.t 3)]⟩, ⟨none, none, (.prim .mv), [(.t 4)]⟩, ⟨none, (.some (5, false)), (.prim (.fadd 1)), [(.v 1)]⟩, ⟨none, (.some (5, false)), (.prim .load1), [(.t 6)]⟩, ⟨none, (.some (5, false)), (.prim (.len false)), [(.t 7)]⟩, ⟨none, (.some (5, false)), (.prim (.bin .gtr .int)), [(.t 8), (.c (.cv (.int .i64 8)))]⟩, ⟨(.some 9), none, (.prim .pick), [(.t 5), (.c (.cv (.bool true))), (.t 9)]⟩])
 (.cond 9 (.seq (.region [⟨(.some 2), none, (.prim .mv), [(.c (.cv (.int .i64 1)))]⟩, ⟨(.some 3), none, (.prim .mv), [(.c (.cv (.int .i64 0)))]⟩, ⟨(.some 4), none, (.prim .mv), [(.c (.cv (.int .i64 3)))]⟩])
 .ret)
 .skip))
 (.seq (.seq (.region [⟨none, none, (.prim (.fadd 0)), [(.v 1)]⟩, ⟨(.some 10), none, (.prim .load1), [(.t 0)]⟩, ⟨(.some 11), none, (.prim (.len false)), [(.v 10)]⟩, ⟨(.some 12), none, (.prim .mv), [(.c (.cv (.int .i64 0)))]⟩])
 (.block 0 (.loop ic24l1)))
 (.seq (.seq (.region [⟨none, none, (.prim (.fadd 1)), [(.v 1)]⟩, ⟨(.some 15), none, (.prim .load1), [(.t 0)]⟩, ⟨(.some 16), none, (.prim (.len false)), [(.v 15)]⟩, ⟨(.some 17), none, (.prim .mv), [(.c (.cv (.int .i64 0)))]⟩])
 (.block 2 (.loop ic24l0)))
 (.seq (.region [⟨(.some 2), none, (.prim .mv), [(.c (.cv (.int .i64 0)))]⟩, ⟨(.some 3), none, (.prim .mv), [(.c (.cv (.int .i64 0)))]⟩, ⟨(.some 4), none, (.prim .mv), [(.c (.cv (.int .i64 0)))]⟩])
 .ret)))))
theorem cc24 : compC Try.prog vs24 Try.f24.ntmps (Try.f24.body.getD .skip) = some ic24 := by kernel_rfl
abbrev rs24 : List RC := [(.v 2), (.v 3), (.v 4)]
theorem fok24 (p : Bool) : FnOk Try.prog 24 ⟨ic24, vs24, 51, rs24, p⟩ := FnOk.mk' Try.func24 hb24 (by kernel_rfl) cc24 (by kernel_rfl) (by kernel_rfl)

theorem hb25 : Try.f25.body = some (Try.f25.body.getD .skip) := by kernel_rfl
abbrev vs25 : List Nat := [0, 1, 2, 3, 4, 5, 6, 17, 22, 31, 37, 51]
def ic25l0 : IC := (.seq (.seq (.region [⟨none, none, (.prim .mv), [(.v 6)]⟩, ⟨none, none, (.prim (.fadd 1)), [(.v 1)]⟩, ⟨none, none, (.prim .load1), [(.t 1)]⟩, ⟨none, none, (.prim (.len false)), [(.t 2)]⟩, ⟨(.some 10), none, (.prim (.bin .lss .int)), [(.t 0), (.t 3)]⟩])
 (.cond 10 .skip
 (.exit 2)))
 (.seq (.block 3 (.seq (.dr [[], [0], [], [1, 2], [3], [], [5], [6], [7], [8], [4, 9, 8], [10]] [⟨none, none, (.prim (.fadd 1)), [(.v 1)]⟩, ⟨none, none, (.prim .load1), [(.t 0)]⟩, ⟨none, none, (.prim .mv), [(.v 6)]⟩, ⟨none, none, (.prim (.iaS 1)), [(.t 1), (.t 2)]⟩, ⟨none, none, (.prim .load1), [(.t 3)]⟩, ⟨none, none, (.prim (.fadd 0)), [(.v 1)]⟩, ⟨none, none, (.prim .load1), [(.t 5)]⟩, ⟨none, none, (.prim (.len false)), [(.t 6)]⟩, ⟨none, none, .call, [(.c (.fn (.func 44) [])), (.t 7)]⟩, ⟨none, none, (.prim (.bin .sub .int)), [(.t 8), (.c (.cv (.int .i64 1)))]⟩, ⟨none, none, .call, [(.c (.fn (.func 48) [])), (.t 4), (.c (.cv (.int .i64 0))), (.t 9)]⟩, ⟨(.some 11), none, (.prim .not), [(.t 10)]⟩])
 (.cond 11 (.seq (.region [⟨none, none, (.prim .mv), [(.v 6)]⟩, ⟨(.some 2), none, (.prim .mv), [(.c (.cv (.int .i64 3)))]⟩, ⟨(.some 3), none, (.prim .mv), [(.t 0)]⟩, ⟨(.some 4), none, (.prim .mv), [(.c (.cv (.int .i64 7)))]⟩])
 .ret)
 .skip)))
 (.region [⟨none, none, (.prim .mv), [(.v 6)]⟩, ⟨none, none, (.prim (.bin .add .int)), [(.t 0), (.c (.cv (.int .i64 1)))]⟩, ⟨(.some 6), none, (.prim .mv), [(.t 1)]⟩])))
def ic25l1 : IC := (.seq (.seq (.region [⟨none, none, (.prim .mv), [(.v 5)]⟩, ⟨none, none, (.prim (.fadd 0)), [(.v 1)]⟩, ⟨none, none, (.prim .load1), [(.t 1)]⟩, ⟨none, none, (.prim (.len false)), [(.t 2)]⟩, ⟨(.some 8), none, (.prim (.bin .lss .int)), [(.t 0), (.t 3)]⟩])
 (.cond 8 .skip
 (.exit 0)))
 (.seq (.block 1 (.seq (.region [⟨none, none, (.prim (.fadd 0)), [(.v 1)]⟩, ⟨none, none, (.prim .load1), [(.t 0)]⟩, ⟨none, none, (.prim .mv), [(.v 5)]⟩, ⟨none, none, (.prim (.iaS 1)), [(.t 1), (.t 2)]⟩, ⟨none, none, (.prim .load1), [(.t 3)]⟩, ⟨none, none, .call, [(.c (.fn (.func 48) [])), (.t 4), (.c (.cv (.int .i64 0))), (.c (.cv (.int .i64 4)))]⟩, ⟨(.some 9), none, (.prim .not), [(.t 5)]⟩])
 (.cond 9 (.seq (.region [⟨none, none, (.prim .mv), [(.v 5)]⟩, ⟨(.some 2), none, (.prim .mv), [(.c (.cv (.int .i64 2)))]⟩, ⟨(.some 3), none, (.prim .mv), [(.t 0)]⟩, ⟨(.some 4), none, (.prim .mv), [(.c (.cv (.int .i64 7)))]⟩])
 .ret)
 .skip)))
 (.region [⟨none, none, (.prim .mv), [(.v 5)]⟩, ⟨none, none, (.prim (.bin .add .int)), [(.t 0), (.c (.cv (.int .i64 1)))]⟩, ⟨(.some 5), none, (.prim .mv), [(.t 1)]⟩])))
def ic25 : IC := (.seq (.region [⟨(.some 1), none, (.prim .box), [(.v 0)]⟩, ⟨(.some 2), none, (.prim .mv), [(.c (.cv (.int .i64 0)))]⟩, ⟨(.some 3), none, (.prim .mv), [(.c (.cv (.int .i64 0)))]⟩, ⟨(.some 4), none, (.prim .mv), [(.c (.cv (.int .i64 0)))]⟩])
 (.seq (.seq (.region [⟨none, none, (.prim (.fadd 0)), [(.v 1)]⟩, ⟨none, none, (.prim .load1), [(.t 0)]⟩, ⟨none, none, (.prim (.len false)), [(.t 1)]⟩, ⟨none, none, .call, [(.c (.fn (.func 48) [])), (.t 2), (.c (.cv (.int .i64 1))), (.c (.cv (.int .i64 6)))]⟩, ⟨none, none, (.prim .not), [(.t 3)]⟩, ⟨none, none, (.prim .mv), [(.t 4)]⟩, ⟨none, (.some (5, false)), (.prim (.fadd 1)), [(.v 1)]⟩, ⟨none, (.some (5, false)), (.prim .load1), [(.t 6)]⟩, ⟨none, (.some (5, false)), (.prim (.len false)), [(.t 7)]⟩, ⟨none, (.some (5, false)), (.prim (.bin .gtr .int)), [(.t 8), (.c (.cv (.int .i64 8)))]⟩, ⟨(.some 7), none, (.prim .pick), [(.t 5), (.c (.cv (.bool true))), (.t 9)]⟩])
 (.cond 7 (.seq (.region [⟨(.some 2), none, (.prim .mv), [(.c (.cv (.int .i64 1)))]⟩, ⟨(.some 3), none, (.prim .mv), [(.c (.cv (.int .i64 0)))]⟩, ⟨(.some 4), none, (.prim .mv), [(.c (.cv (.int .i64 3)))]⟩])
 .ret)
 .skip))
 (.seq (.seq (.region [⟨(.some 5), none, (.prim .mv), [(.c (.cv (.int .i64 0)))]⟩])
 (.block 0 (.loop ic25l1)))
 (.seq (.seq (.region [⟨(.some 6), none, (.prim .mv), [(.c (.cv (.int .i64 0)))]⟩])
 (.block 2 (.loop ic25l0)))
 (.seq (.region [⟨(.some 2), none, (.prim .mv), [(.c (.cv (.int .i64 0)))]⟩, ⟨(.some 3), none, (.prim .mv), [(.c (.cv (.int .i64 0)))]⟩, ⟨(.some 4), none, (.prim .mv), [(.c (.cv (.int .i64 0)))]⟩])
 .ret)))))
theorem cc25 : compC Try.prog vs25 Try.f25.ntmps (Try.f25.body.getD .skip) = some ic25 := by kernel_rfl
abbrev rs25 : List RC := [(.v 2), (.v 3), (.v 4)]
theorem fok25 (p : Bool) : FnOk Try.prog 25 ⟨ic25, vs25, 53, rs25, p⟩ := FnOk.mk' Try.func25 hb25 (by kernel_rfl) cc25 (by kernel_rfl) (by kernel_rfl)

theorem hb26 : Try.f26.body = some (Try.f26.body.getD .skip) := by kernel_rfl
abbrev vs26 : List Nat := [0, 1, 2, 3, 4, 5, 12]
def ic26 : IC := (.seq (.region [⟨(.some 1), none, (.prim .box), [(.v 0)]⟩, ⟨(.some 2), none, (.prim .mv), [(.c (.cv (.int .i64 0)))]⟩, ⟨(.some 3), none, (.prim .mv), [(.c (.cv (.int .i64 0)))]⟩])
 (.seq (.region [⟨none, none, (.prim (.loadN 2)), [(.v 1)]⟩, ⟨none, none, .call, [(.c (.fn (.func 53) [])), (.t 0)]⟩, ⟨none, none, (.prim .mv), [(.t 1)]⟩, ⟨none, none, (.prim (.extract 0)), [(.t 2)]⟩, ⟨none, none, (.prim (.extract 1)), [(.t 2)]⟩, ⟨(.some 4), none, (.prim .mv), [(.t 3)]⟩, ⟨(.some 5), none, (.prim .mv), [(.t 4)]⟩])
 (.seq (.seq (.region [⟨none, none, (.prim .mv), [(.v 5)]⟩, ⟨(.some 6), none, (.prim (.bin .neq .int)), [(.t 0), (.c (.cv (.int .i64 0)))]⟩])
 (.cond 6 (.seq (.region [⟨none, none, (.prim .mv), [(.v 5)]⟩, ⟨(.some 2), none, (.prim .mv), [(.c (.cv (.int .i64 0)))]⟩, ⟨(.some 3), none, (.prim .mv), [(.t 0)]⟩])
 .ret)
 .skip))
 (.seq (.region [⟨none, none, (.prim .mv), [(.v 4)]⟩, ⟨none, none, (.prim .mv), [(.v 4)]⟩, ⟨none, none, .call, [(.c (.fn (.func 55) [])), (.t 1)]⟩, ⟨none, none, .call, [(.c (.fn (.func 54) [])), (.t 0), (.t 2)]⟩, ⟨(.some 2), none, (.prim .mv), [(.t 3)]⟩, ⟨(.some 3), none, (.prim .mv), [(.c (.cv (.int .i64 0)))]⟩])
 .ret))))
theorem cc26 : compC Try.prog vs26 Try.f26.ntmps (Try.f26.body.getD .skip) = some ic26 := by kernel_rfl
abbrev rs26 : List RC := [(.v 2), (.v 3)]
theorem fok26 (p : Bool) : FnOk Try.prog 26 ⟨ic26, vs26, 18, rs26, p⟩ := FnOk.mk' Try.func26 hb26 (by kernel_rfl) cc26 (by kernel_rfl) (by kernel_rfl)

theorem hb27 : Try.f27.body = some (Try.f27.body.getD .skip) := by kernel_rfl
abbrev vs27 : List Nat := [0, 1, 2, 3, 6, 14]
def ic27 : IC := (.seq (.region [⟨(.some 1), none, (.prim .box), [(.v 0)]⟩, ⟨(.some 2), none, (.prim .mv), [(.c (.cv (.int .i64 0)))]⟩, ⟨(.some 3), none, (.prim .mv), [(.c (.cv (.int .i64 0)))]⟩])
 (.seq (.region [⟨none, none, (.prim (.loadN 2)), [(.v 1)]⟩, ⟨none, none, .call, [(.c (.fn (.func 25) [])), (.t 0)]⟩, ⟨none, none, (.prim .mv), [(.t 1)]⟩, ⟨none, none, (.prim (.extract 0)), [(.t 2)]⟩, ⟨none, none, (.prim (.extract 1)), [(.t 2)]⟩, ⟨none, none, (.prim (.extract 2)), [(.t 2)]⟩, ⟨none, none, (.prim .mv), [(.t 3)]⟩, ⟨none, none, (.prim .mv), [(.t 4)]⟩, ⟨(.some 4), none, (.prim .mv), [(.t 5)]⟩])
 (.seq (.seq (.region [⟨none, none, (.prim .mv), [(.v 4)]⟩, ⟨(.some 5), none, (.prim (.bin .neq .int)), [(.t 0), (.c (.cv (.int .i64 0)))]⟩])
 (.cond 5 (.seq (.region [⟨none, none, (.prim .mv), [(.v 4)]⟩, ⟨(.some 2), none, (.prim .mv), [(.c (.cv (.int .i64 0)))]⟩, ⟨(.some 3), none, (.prim .mv), [(.t 0)]⟩])
 .ret)
 .skip))
 (.seq (.dr [[], [], [1], [], [3], [0, 2, 4, 2], [5, 5, 0, 1, 2, 3, 4, 5], [6, 0, 1, 2, 3, 4, 5, 6]] [⟨none, none, (.prim (.loadN 2)), [(.v 1)]⟩, ⟨none, none, (.prim (.loadN 2)), [(.v 1)]⟩, ⟨none, none, .call, [(.c (.fn (.func 57) [])), (.t 1)]⟩, ⟨none, none, (.prim (.fadd 0)), [(.v 1)]⟩, ⟨none, none, (.prim .load1), [(.t 3)]⟩, ⟨none, none, .call, [(.c (.fn (.func 56) [])), (.t 0), (.t 2), (.c (.cv (.int .i64 0))), (.t 4)]⟩, ⟨(.some 2), none, (.prim .mv), [(.t 5)]⟩, ⟨(.some 3), none, (.prim .mv), [(.c (.cv (.int .i64 0)))]⟩])
 .ret))))
theorem cc27 : compC Try.prog vs27 Try.f27.ntmps (Try.f27.body.getD .skip) = some ic27 := by kernel_rfl
abbrev rs27 : List RC := [(.v 2), (.v 3)]
theorem fok27 (p : Bool) : FnOk Try.prog 27 ⟨ic27, vs27, 22, rs27, p⟩ := FnOk.mk' Try.func27 hb27 (by kernel_rfl) cc27 (by kernel_rfl) (by kernel_rfl)

theorem hb28 : Try.f28.body = some (Try.f28.body.getD .skip) := by kernel_rfl
abbrev vs28 : List Nat := [0, 1, 2, 4, 5, 6, 7, 8, 14, 18, 27]
def ic28 : IC := (.seq (.region [⟨(.some 2), none, (.prim .box), [(.v 0)]⟩, ⟨(.some 3), none, (.prim .mv), [(.c (.cv .nils))]⟩, ⟨(.some 4), none, (.prim .mv), [(.c (.cv (.int .i64 0)))]⟩])
 (.seq (.region [⟨none, none, (.prim (.loadN 2)), [(.v 2)]⟩, ⟨none, none, .call, [(.c (.fn (.func 53) [])), (.t 0)]⟩, ⟨none, none, (.prim .mv), [(.t 1)]⟩, ⟨none, none, (.prim (.extract 0)), [(.t 2)]⟩, ⟨none, none, (.prim (.extract 1)), [(.t 2)]⟩, ⟨(.some 5), none, (.prim .mv), [(.t 3)]⟩, ⟨(.some 6), none, (.prim .mv), [(.t 4)]⟩])
 (.seq (.block 0 (.seq (.region [⟨none, none, (.prim .mv), [(.v 6)]⟩, ⟨none, none, (.prim (.bin .neq .int)), [(.t 0), (.c (.cv (.int .i64 0)))]⟩, ⟨(.some 8), none, (.prim .mv), [(.t 1)]⟩])
 (.cond 8 (.seq (.region [⟨none, none, (.prim .mv), [(.v 6)]⟩, ⟨(.some 3), none, (.prim .mv), [(.c (.cv .nils))]⟩, ⟨(.some 4), none, (.prim .mv), [(.t 0)]⟩])
 .ret)
 (.seq (.region [⟨none, none, (.prim .mv), [(.v 1)]⟩, ⟨none, none, (.prim (.bslice 1 1 [(.cv (.int .i64 0))] [(0, 1)])), [(.t 0)]⟩, ⟨none, none, .call, [(.c (.fn (.func 47) [])), (.c (.cv (.int .i64 0))), (.c (.cv (.int .i64 2147483646))), (.t 1)]⟩, ⟨(.some 9), none, (.prim .mv), [(.t 2)]⟩])
 (.cond 9 (.seq (.region [⟨(.some 3), none, (.prim .mv), [(.c (.cv .nils))]⟩, ⟨(.some 4), none, (.prim .mv), [(.c (.cv (.int .i64 7)))]⟩])
 .ret)
 .skip)))))
 (.seq (.region [⟨none, none, (.prim .mv), [(.v 5)]⟩, ⟨none, none, (.prim .mv), [(.v 5)]⟩, ⟨none, none, .call, [(.c (.fn (.func 55) [])), (.t 1)]⟩, ⟨none, none, .call, [(.c (.fn (.func 54) [])), (.t 0), (.t 2)]⟩, ⟨(.some 7), none, (.prim .mv), [(.t 3)]⟩])
 (.seq (.seq (.region [⟨none, none, (.prim .mv), [(.v 7)]⟩, ⟨(.some 10), none, (.prim (.bin .eql .int)), [(.t 0), (.c (.cv (.int .i64 0)))]⟩])
 (.cond 10 (.seq (.region [⟨(.some 3), none, (.prim .mv), [(.c (.cv .nils))]⟩, ⟨(.some 4), none, (.prim .mv), [(.c (.cv (.int .i64 9)))]⟩])
 .ret)
 .skip))
 (.seq (.region [⟨none, none, (.prim .mv), [(.v 5)]⟩, ⟨none, none, (.prim .mv), [(.v 1)]⟩, ⟨none, none, (.prim .mv), [(.v 7)]⟩, ⟨none, none, (.prim (.bin .rem .int)), [(.t 1), (.t 2)]⟩, ⟨none, none, .call, [(.c (.fn (.func 58) [])), (.t 0), (.t 3)]⟩, ⟨(.some 3), none, (.prim .mv), [(.t 4)]⟩, ⟨(.some 4), none, (.prim .mv), [(.c (.cv (.int .i64 0)))]⟩])
 .ret))))))
theorem cc28 : compC Try.prog vs28 Try.f28.ntmps (Try.f28.body.getD .skip) = some ic28 := by kernel_rfl
abbrev rs28 : List RC := [(.v 3), (.v 4)]
theorem fok28 (p : Bool) : FnOk Try.prog 28 ⟨ic28, vs28, 33, rs28, p⟩ := FnOk.mk' Try.func28 hb28 (by kernel_rfl) cc28 (by kernel_rfl) (by kernel_rfl)

theorem hb29 : Try.f29.body = some (Try.f29.body.getD .skip) := by kernel_rfl
abbrev vs29 : List Nat := [0, 1, 2, 4, 5, 6, 7, 19, 25, 27]
def ic29 : IC := (.seq (.region [⟨(.some 2), none, (.prim .box), [(.v 0)]⟩, ⟨(.some 3), none, (.prim .mv), [(.c (.cv .nils))]⟩, ⟨(.some 4), none, (.prim .mv), [(.c (.cv (.int .i64 0)))]⟩])
 (.seq (.region [⟨none, none, (.prim (.loadN 2)), [(.v 2)]⟩, ⟨none, none, .call, [(.c (.fn (.func 27) [])), (.t 0)]⟩, ⟨none, none, (.prim .mv), [(.t 1)]⟩, ⟨none, none, (.prim (.extract 0)), [(.t 2)]⟩, ⟨none, none, (.prim (.extract 1)), [(.t 2)]⟩, ⟨(.some 5), none, (.prim .mv), [(.t 3)]⟩, ⟨(.some 6), none, (.prim .mv), [(.t 4)]⟩])
 (.seq (.seq (.region [⟨none, none, (.prim .mv), [(.v 6)]⟩, ⟨none, none, (.prim (.bin .eql .int)), [(.t 0), (.c (.cv (.int .i64 0)))]⟩, ⟨none, none, (.prim .mv), [(.t 1)]⟩, ⟨none, (.some (2, true)), (.prim .mv), [(.v 1)]⟩, ⟨none, (.some (2, true)), .call, [(.c (.fn (.func 48) [])), (.t 3), (.c (.cv (.int .i64 0))), (.c (.cv (.int .i64 2147483646)))]⟩, ⟨none, (.some (2, true)), (.prim .not), [(.t 4)]⟩, ⟨(.some 7), none, (.prim .pick), [(.t 2), (.t 5), (.c (.cv (.bool false)))]⟩])
 (.cond 7 (.region [⟨(.some 6), none, (.prim .mv), [(.c (.cv (.int .i64 7)))]⟩])
 .skip))
 (.seq (.seq (.region [⟨none, none, (.prim .mv), [(.v 6)]⟩, ⟨none, none, (.prim (.bin .eql .int)), [(.t 0), (.c (.cv (.int .i64 0)))]⟩, ⟨none, none, (.prim .mv), [(.t 1)]⟩, ⟨none, (.some (2, true)), (.prim .mv), [(.v 5)]⟩, ⟨none, (.some (2, true)), (.prim (.bin .eql .int)), [(.t 3), (.c (.cv (.int .i64 0)))]⟩, ⟨(.some 8), none, (.prim .pick), [(.t 2), (.t 4), (.c (.cv (.bool false)))]⟩])
 (.cond 8 (.region [⟨(.some 6), none, (.prim .mv), [(.c (.cv (.int .i64 9)))]⟩])
 .skip))
 (.seq (.seq (.region [⟨none, none, (.prim .mv), [(.v 6)]⟩, ⟨(.some 9), none, (.prim (.bin .neq .int)), [(.t 0), (.c (.cv (.int .i64 0)))]⟩])
 (.cond 9 (.seq (.region [⟨none, none, (.prim .mv), [(.v 6)]⟩, ⟨(.some 3), none, (.prim .mv), [(.c (.cv .nils))]⟩, ⟨(.some 4), none, (.prim .mv), [(.t 0)]⟩])
 .ret)
 .skip))
 (.seq (.dr [[], [], [], [1, 2], [0, 3], [4, 4, 0, 1, 2, 3, 4], [5, 0, 1, 2, 3, 4, 5]] [⟨none, none, (.prim (.loadN 2)), [(.v 2)]⟩, ⟨none, none, (.prim .mv), [(.v 1)]⟩, ⟨none, none, (.prim .mv), [(.v 5)]⟩, ⟨none, none, (.prim (.bin .rem .int)), [(.t 1), (.t 2)]⟩, ⟨none, none, .call, [(.c (.fn (.func 59) [])), (.t 0), (.t 3)]⟩, ⟨(.some 3), none, (.prim .mv), [(.t 4)]⟩, ⟨(.some 4), none, (.prim .mv), [(.c (.cv (.int .i64 0)))]⟩])
 .ret))))))
theorem cc29 : compC Try.prog vs29 Try.f29.ntmps (Try.f29.body.getD .skip) = some ic29 := by kernel_rfl
abbrev rs29 : List RC := [(.v 3), (.v 4)]
theorem fok29 (p : Bool) : FnOk Try.prog 29 ⟨ic29, vs29, 34, rs29, p⟩ := FnOk.mk' Try.func29 hb29 (by kernel_rfl) cc29 (by kernel_rfl) (by kernel_rfl)

theorem hb30 : Try.f30.body = some (Try.f30.body.getD .skip) := by kernel_rfl
abbrev vs30 : List Nat := [0, 1, 2, 4, 5, 6, 7, 9, 10, 11, 12, 18, 22, 32, 44, 45, 46, 47, 52, 53, 54, 57, 65]
def ic30l0 (b30 : Code) : IC := (.seq (.region [⟨(.some 17), none, (.prim (.bin .lss .int)), [(.v 16), (.v 15)]⟩])
 (.seq (.cond 17 .skip
 (.exit 1))
 (.seq (.block 2 (.seq (.region [⟨none, none, (.prim (.iaS 1)), [(.v 14), (.v 16)]⟩, ⟨none, none, (.prim .load1), [(.t 0)]⟩, ⟨(.some 7), none, (.prim (.alloc [(.cv (.int .i64 0))])), []⟩, ⟨none, none, (.prim (.store 1)), [(.v 7), (.t 1)]⟩])
 (.seq (.region [⟨(.some 8), none, (.prim (.alloc [(.cv (.bool false))])), []⟩, ⟨none, none, (.prim (.store 1)), [(.v 8), (.c (.cv (.bool false)))]⟩])
 (.seq (.seq (.region [⟨none, none, (.prim .load1), [(.v 5)]⟩, ⟨none, none, (.prim (.loadN 7)), [(.v 6)]⟩, ⟨(.some 18), none, .call, [(.c (.fn (.func 60) [])), (.t 0), (.t 1)]⟩])
 (.block 3 (.rangef (.v 18) #[53, 54] (nav [1, 1, 1, 1, 0, 1, 0, 0, 1, 1, 0, 0, 1, 1, 0, 1, 0, 2] b30) (nav [1, 1, 1, 1, 0, 1, 0, 0, 1, 1, 0, 0, 1, 1, 0, 1, 0, 3] b30) (.seq (.region [⟨(.some 9), none, (.prim .mv), [(.v 19)]⟩])
 (.region [⟨(.some 10), none, (.prim (.alloc [(.cv (.int .i64 0)), (.cv (.int .i64 0)), (.cv (.int .i64 0)), (.cv (.int .i64 0)), (.cv (.int .i64 0)), (.cv (.int .i64 0)), (.cv (.int .i64 0))])), []⟩, ⟨none, none, (.prim (.store 7)), [(.v 10), (.v 20)]⟩]))
 (.block 4 (.seq (.seq (.region [⟨none, none, (.prim .mv), [(.v 9)]⟩, ⟨none, none, (.prim .load1), [(.v 7)]⟩, ⟨(.some 21), none, (.prim (.bin .eql .int)), [(.t 0), (.t 1)]⟩])
 (.cond 21 (.seq (.region [⟨none, none, (.prim (.loadN 7)), [(.v 10)]⟩, ⟨none, none, (.prim (.store 7)), [(.v 6), (.t 0)]⟩, ⟨none, none, (.prim (.store 1)), [(.v 8), (.c (.cv (.bool true)))]⟩])
 (.exit 3))
 .skip))
 (.dr [[], [], [], [1, 2], [0, 3], [4, 3, 0, 1, 2, 3, 4]] [⟨none, none, (.prim .load1), [(.v 3)]⟩, ⟨none, none, (.prim .load1), [(.v 5)]⟩, ⟨none, none, (.prim (.loadN 7)), [(.v 10)]⟩, ⟨none, none, .call, [(.c (.fn (.func 54) [])), (.t 1), (.t 2)]⟩, ⟨none, none, (.prim (.bin .add .int)), [(.t 0), (.t 3)]⟩, ⟨none, none, (.prim (.store 1)), [(.v 3), (.t 4)]⟩]))))))
 (.seq (.region [⟨none, none, (.prim .load1), [(.v 8)]⟩, ⟨(.some 22), none, (.prim .not), [(.t 0)]⟩])
 (.cond 22 (.seq (.region [⟨none, none, (.prim (.store 1)), [(.v 3), (.c (.cv (.int .i64 0)))]⟩, ⟨(.some 4), none, (.prim .mv), [(.c (.cv (.int .i64 2)))]⟩])
 .ret)
 .skip))))))
 (.region [⟨none, none, (.prim (.bin .add .int)), [(.v 16), (.c (.cv (.int .i64 1)))]⟩, ⟨(.some 16), none, (.prim .mv), [(.t 0)]⟩]))))
def ic30 (b30 : Code) : IC := (.seq (.region [⟨(.some 2), none, (.prim .box), [(.v 0)]⟩, ⟨(.some 3), none, (.prim (.alloc [(.cv (.int .i64 0))])), []⟩, ⟨(.some 4), none, (.prim .mv), [(.c (.cv (.int .i64 0)))]⟩])
 (.seq (.region [⟨none, none, (.prim (.loadN 2)), [(.v 2)]⟩, ⟨none, none, .call, [(.c (.fn (.func 53) [])), (.t 0)]⟩, ⟨none, none, (.prim .mv), [(.t 1)]⟩, ⟨none, none, (.prim (.extract 0)), [(.t 2)]⟩, ⟨none, none, (.prim (.extract 1)), [(.t 2)]⟩, ⟨(.some 5), none, (.prim (.alloc [(.cv .nilp)])), []⟩, ⟨none, none, (.prim (.store 1)), [(.v 5), (.t 3)]⟩, ⟨(.some 4), none, (.prim .mv), [(.t 4)]⟩])
 (.seq (.block 0 (.seq (.region [⟨none, none, (.prim .mv), [(.v 4)]⟩, ⟨none, none, (.prim (.bin .neq .int)), [(.t 0), (.c (.cv (.int .i64 0)))]⟩, ⟨(.some 11), none, (.prim .mv), [(.t 1)]⟩])
 (.cond 11 (.seq (.region [⟨none, none, (.prim .mv), [(.v 4)]⟩, ⟨none, none, (.prim (.store 1)), [(.v 3), (.c (.cv (.int .i64 0)))]⟩, ⟨(.some 4), none, (.prim .mv), [(.t 0)]⟩])
 .ret)
 (.seq (.region [⟨none, none, (.prim .mv), [(.v 1)]⟩, ⟨none, none, (.prim (.len false)), [(.t 0)]⟩, ⟨none, none, (.prim .load1), [(.v 5)]⟩, ⟨none, none, (.prim .nilck), [(.t 2)]⟩, ⟨none, none, (.prim (.fadd 0)), [(.t 3)]⟩, ⟨none, none, (.prim (.fadd 1)), [(.t 4)]⟩, ⟨none, none, (.prim .load1), [(.t 5)]⟩, ⟨none, none, (.prim (.len false)), [(.t 6)]⟩, ⟨none, none, (.prim (.bin .neq .int)), [(.t 1), (.t 7)]⟩, ⟨(.some 12), none, (.prim .mv), [(.t 8)]⟩])
 (.cond 12 (.seq (.region [⟨none, none, (.prim (.store 1)), [(.v 3), (.c (.cv (.int .i64 0)))]⟩, ⟨(.some 4), none, (.prim .mv), [(.c (.cv (.int .i64 3)))]⟩])
 .ret)
 (.seq (.region [⟨none, none, (.prim .load1), [(.v 5)]⟩, ⟨none, none, (.prim .nilck), [(.t 0)]⟩, ⟨none, none, (.prim (.fadd 0)), [(.t 1)]⟩, ⟨none, none, (.prim (.fadd 0)), [(.t 2)]⟩, ⟨none, none, (.prim .load1), [(.t 3)]⟩, ⟨none, none, (.prim (.len false)), [(.t 4)]⟩, ⟨none, none, (.prim (.bin .sub .int)), [(.t 5), (.c (.cv (.int .i64 1)))]⟩, ⟨none, none, (.prim .mv), [(.v 1)]⟩, ⟨none, none, .call, [(.c (.fn (.func 47) [])), (.c (.cv (.int .i64 0))), (.t 6), (.t 7)]⟩, ⟨(.some 13), none, (.prim .mv), [(.t 8)]⟩])
 (.cond 13 (.seq (.region [⟨none, none, (.prim (.store 1)), [(.v 3), (.c (.cv (.int .i64 0)))]⟩, ⟨(.some 4), none, (.prim .mv), [(.c (.cv (.int .i64 4)))]⟩])
 .ret)
 .skip)))))))
 (.seq (.region [⟨none, none, (.prim .load1), [(.v 5)]⟩, ⟨none, none, .call, [(.c (.fn (.func 55) [])), (.t 0)]⟩, ⟨(.some 6), none, (.prim (.alloc [(.cv (.int .i64 0)), (.cv (.int .i64 0)), (.cv (.int .i64 0)), (.cv (.int .i64 0)), (.cv (.int .i64 0)), (.cv (.int .i64 0)), (.cv (.int .i64 0))])), []⟩, ⟨none, none, (.prim (.store 7)), [(.v 6), (.t 1)]⟩])
 (.seq (.seq (.region [⟨(.some 14), none, (.prim .mv), [(.v 1)]⟩, ⟨(.some 15), none, (.prim (.len false)), [(.v 14)]⟩, ⟨(.some 16), none, (.prim .mv), [(.c (.cv (.int .i64 0)))]⟩])
 (.block 1 (.loop  (ic30l0 b30))))
 (.seq (.region [⟨none, none, (.prim .load1), [(.v 3)]⟩, ⟨none, none, (.prim (.store 1)), [(.v 3), (.t 0)]⟩, ⟨(.some 4), none, (.prim .mv), [(.c (.cv (.int .i64 0)))]⟩])
 .ret))))))
theorem cc30 : compC Try.prog vs30 Try.f30.ntmps (Try.f30.body.getD .skip) = some (ic30 (Try.f30.body.getD .skip)) := by kernel_rfl
abbrev rs30 : List RC := [(.l1 3), (.v 4)]
theorem fok30 (p : Bool) : FnOk Try.prog 30 ⟨ic30 (Try.f30.body.getD .skip), vs30, 68, rs30, p⟩ := FnOk.mk' Try.func30 hb30 (by kernel_rfl) cc30 (by kernel_rfl) (by kernel_rfl)

theorem hb31 : Try.f31.body = some (Try.f31.body.getD .skip) := by kernel_rfl
abbrev vs31 : List Nat := [0, 1, 2, 4, 5, 8, 9, 10, 11, 12, 13, 21, 26, 35, 43, 60]
def ic31l0 : IC := (.seq (.seq (.region [⟨none, none, (.prim .mv), [(.v 10)]⟩, ⟨none, none, (.prim .mv), [(.v 1)]⟩, ⟨none, none, (.prim .mv), [(.v 9)]⟩, ⟨none, none, (.prim (.iaS 1)), [(.t 1), (.t 2)]⟩, ⟨none, none, (.prim .load1), [(.t 3)]⟩, ⟨(.some 14), none, (.prim (.bin .lss .int)), [(.t 0), (.t 4)]⟩])
 (.cond 14 .skip
 (.exit 2)))
 (.seq (.block 3 (.seq (.region [⟨none, none, (.prim .mv), [(.v 7)]⟩, ⟨none, none, (.prim .mv), [(.v 10)]⟩, ⟨none, none, (.prim (.iaS 1)), [(.t 0), (.t 1)]⟩, ⟨none, none, (.prim .load1), [(.t 2)]⟩, ⟨none, none, (.prim (.bin .gtr .int)), [(.t 3), (.c (.cv (.int .i64 0)))]⟩, ⟨none, none, (.prim .mv), [(.t 4)]⟩, ⟨none, (.some (5, true)), (.prim (.fadd 1)), [(.v 2)]⟩, ⟨none, (.some (5, true)), (.prim .load1), [(.t 6)]⟩, ⟨none, (.some (5, true)), (.prim .mv), [(.v 9)]⟩, ⟨none, (.some (5, true)), (.prim (.iaS 1)), [(.t 7), (.t 8)]⟩, ⟨none, (.some (5, true)), (.prim .load1), [(.t 9)]⟩, ⟨none, (.some (5, true)), (.prim .mv), [(.v 10)]⟩, ⟨none, (.some (5, true)), .call, [(.c (.fn (.func 45) [])), (.t 10), (.t 11)]⟩, ⟨none, (.some (5, true)), (.prim .not), [(.t 12)]⟩, ⟨(.some 15), none, (.prim .pick), [(.t 5), (.t 13), (.c (.cv (.bool false)))]⟩])
 (.cond 15 (.dr [[], [], [], [], [3], [], [], [5, 6], [1, 2, 4, 7, 7], [0, 8], [9, 8, 0, 1, 2, 3, 4, 5, 6, 7, 8, 9]] [⟨none, none, (.prim .mv), [(.v 8)]⟩, ⟨none, none, (.prim (.loadN 2)), [(.v 2)]⟩, ⟨none, none, (.prim .mv), [(.v 6)]⟩, ⟨none, none, (.prim .mv), [(.v 9)]⟩, ⟨none, none, (.prim (.bin .add .int)), [(.t 3), (.c (.cv (.int .i64 1)))]⟩, ⟨none, none, (.prim .mv), [(.v 7)]⟩, ⟨none, none, (.prim .mv), [(.v 10)]⟩, ⟨none, none, .call, [(.c (.fn (.func 61) [])), (.t 5), (.t 6)]⟩, ⟨none, none, .call, [(.c (.fn (.func 56) [])), (.t 1), (.t 2), (.t 4), (.t 7)]⟩, ⟨none, none, (.prim (.bin .add .int)), [(.t 0), (.t 8)]⟩, ⟨(.some 8), none, (.prim .mv), [(.t 9)]⟩])
 .skip)))
 (.region [⟨none, none, (.prim .mv), [(.v 10)]⟩, ⟨none, none, (.prim (.bin .add .int)), [(.t 0), (.c (.cv (.int .i64 1)))]⟩, ⟨(.some 10), none, (.prim .mv), [(.t 1)]⟩])))
def ic31l1 : IC := (.seq (.seq (.region [⟨none, none, (.prim .mv), [(.v 9)]⟩, ⟨none, none, (.prim .mv), [(.v 1)]⟩, ⟨none, none, (.prim (.len false)), [(.t 1)]⟩, ⟨(.some 13), none, (.prim (.bin .lss .int)), [(.t 0), (.t 2)]⟩])
 (.cond 13 .skip
 (.exit 0)))
 (.seq (.block 1 (.seq (.seq (.region [⟨(.some 10), none, (.prim .mv), [(.c (.cv (.int .i64 0)))]⟩])
 (.block 2 (.loop ic31l0)))
 (.region [⟨none, none, (.prim .mv), [(.v 7)]⟩, ⟨none, none, (.prim .mv), [(.v 1)]⟩, ⟨none, none, (.prim .mv), [(.v 9)]⟩, ⟨none, none, (.prim (.iaS 1)), [(.t 1), (.t 2)]⟩, ⟨none, none, (.prim .load1), [(.t 3)]⟩, ⟨none, none, .call, [(.c (.fn (.func 61) [])), (.t 0), (.t 4)]⟩, ⟨(.some 7), none, (.prim .mv), [(.t 5)]⟩])))
 (.region [⟨none, none, (.prim .mv), [(.v 9)]⟩, ⟨none, none, (.prim (.bin .add .int)), [(.t 0), (.c (.cv (.int .i64 1)))]⟩, ⟨(.some 9), none, (.prim .mv), [(.t 1)]⟩])))
def ic31 : IC := (.seq (.region [⟨(.some 2), none, (.prim .box), [(.v 0)]⟩, ⟨(.some 3), none, (.prim .mv), [(.c (.cv (.int .i64 0)))]⟩, ⟨(.some 4), none, (.prim .mv), [(.c (.cv (.int .i64 0)))]⟩])
 (.seq (.region [⟨none, none, (.prim (.loadN 2)), [(.v 2)]⟩, ⟨none, none, .call, [(.c (.fn (.func 25) [])), (.t 0)]⟩, ⟨none, none, (.prim .mv), [(.t 1)]⟩, ⟨none, none, (.prim (.extract 0)), [(.t 2)]⟩, ⟨none, none, (.prim (.extract 1)), [(.t 2)]⟩, ⟨none, none, (.prim (.extract 2)), [(.t 2)]⟩, ⟨none, none, (.prim .mv), [(.t 3)]⟩, ⟨none, none, (.prim .mv), [(.t 4)]⟩, ⟨(.some 5), none, (.prim .mv), [(.t 5)]⟩])
 (.seq (.seq (.region [⟨none, none, (.prim .mv), [(.v 5)]⟩, ⟨(.some 11), none, (.prim (.bin .eql .int)), [(.t 0), (.c (.cv (.int .i64 0)))]⟩])
 (.cond 11 (.region [⟨none, none, (.prim (.loadN 2)), [(.v 2)]⟩, ⟨none, none, (.prim .mv), [(.v 1)]⟩, ⟨none, none, .call, [(.c (.fn (.func 40) [])), (.t 0), (.t 1)]⟩, ⟨(.some 5), none, (.prim .mv), [(.t 2)]⟩])
 .skip))
 (.seq (.seq (.region [⟨none, none, (.prim .mv), [(.v 5)]⟩, ⟨(.some 12), none, (.prim (.bin .neq .int)), [(.t 0), (.c (.cv (.int .i64 0)))]⟩])
 (.cond 12 (.seq (.region [⟨none, none, (.prim .mv), [(.v 5)]⟩, ⟨(.some 3), none, (.prim .mv), [(.c (.cv (.int .i64 0)))]⟩, ⟨(.some 4), none, (.prim .mv), [(.t 0)]⟩])
 .ret)
 .skip))
 (.seq (.region [⟨none, none, (.prim (.loadN 2)), [(.v 2)]⟩, ⟨none, none, .call, [(.c (.fn (.func 57) [])), (.t 0)]⟩, ⟨(.some 6), none, (.prim .mv), [(.t 1)]⟩])
 (.seq (.region [⟨none, none, (.prim (.fadd 0)), [(.v 2)]⟩, ⟨none, none, (.prim .load1), [(.t 0)]⟩, ⟨(.some 7), none, (.prim .mv), [(.t 1)]⟩, ⟨(.some 8), none, (.prim .mv), [(.c (.cv (.int .i64 0)))]⟩])
 (.seq (.seq (.region [⟨(.some 9), none, (.prim .mv), [(.c (.cv (.int .i64 0)))]⟩])
 (.block 0 (.loop ic31l1)))
 (.seq (.region [⟨none, none, (.prim .mv), [(.v 8)]⟩, ⟨(.some 3), none, (.prim .mv), [(.t 0)]⟩, ⟨(.some 4), none, (.prim .mv), [(.c (.cv (.int .i64 0)))]⟩])
 .ret))))))))
theorem cc31 : compC Try.prog vs31 Try.f31.ntmps (Try.f31.body.getD .skip) = some ic31 := by kernel_rfl
abbrev rs31 : List RC := [(.v 3), (.v 4)]
theorem fok31 (p : Bool) : FnOk Try.prog 31 ⟨ic31, vs31, 78, rs31, p⟩ := FnOk.mk' Try.func31 hb31 (by kernel_rfl) cc31 (by kernel_rfl) (by kernel_rfl)

theorem hb32 : Try.f32.body = some (Try.f32.body.getD .skip) := by kernel_rfl
abbrev vs32 : List Nat := [0, 1, 2, 3, 4, 5, 6, 7, 8, 9, 16, 22, 29, 30, 31, 38, 39, 40, 46]
def ic32l0 : IC := (.seq (.region [⟨(.some 17), none, (.prim (.bin .lss .int)), [(.v 16), (.v 15)]⟩])
 (.seq (.cond 17 .skip
 (.exit 2))
 (.seq (.block 3 (.seq (.region [⟨none, none, (.prim .mv), [(.v 16)]⟩, ⟨(.some 9), none, (.prim .mv), [(.t 0)]⟩])
 (.seq (.region [⟨none, none, (.prim .mv), [(.v 7)]⟩, ⟨none, none, (.prim .mv), [(.v 9)]⟩, ⟨none, none, (.prim (.bin .shr .int)), [(.t 0), (.t 1)]⟩, ⟨none, none, (.prim (.bin .and .int)), [(.t 2), (.c (.cv (.int .i64 1)))]⟩, ⟨(.some 18), none, (.prim (.bin .eql .int)), [(.t 3), (.c (.cv (.int .i64 1)))]⟩])
 (.cond 18 (.region [⟨none, none, (.prim .mv), [(.v 8)]⟩, ⟨none, none, (.prim .mv), [(.v 9)]⟩, ⟨none, none, (.prim (.bslice 1 1 [(.cv (.int .i64 0))] [(0, 1)])), [(.t 1)]⟩, ⟨none, none, (.prim (.append 1 8)), [(.t 0), (.t 2)]⟩, ⟨(.some 8), none, (.prim .mv), [(.t 3)]⟩])
 .skip))))
 (.region [⟨none, none, (.prim (.bin .add .int)), [(.v 16), (.c (.cv (.int .i64 1)))]⟩, ⟨(.some 16), none, (.prim .mv), [(.t 0)]⟩]))))
def ic32l1 : IC := (.seq (.region [⟨(.some 14), none, (.prim (.bin .lss .int)), [(.v 13), (.v 12)]⟩])
 (.seq (.cond 14 .skip
 (.exit 0))
 (.seq (.block 1 (.seq (.region [⟨none, none, (.prim .mv), [(.v 13)]⟩, ⟨(.some 7), none, (.prim .mv), [(.t 0)]⟩])
 (.seq (.region [⟨(.some 8), none, (.prim .mv), [(.c (.cv .nils))]⟩])
 (.seq (.seq (.region [⟨none, none, (.prim .mv), [(.v 4)]⟩, ⟨none, none, (.prim .nilck), [(.t 0)]⟩, ⟨none, none, (.prim (.fadd 0)), [(.t 1)]⟩, ⟨none, none, (.prim (.fadd 1)), [(.t 2)]⟩, ⟨none, none, (.prim .load1), [(.t 3)]⟩, ⟨(.some 15), none, (.prim (.len false)), [(.t 4)]⟩, ⟨(.some 16), none, (.prim .mv), [(.c (.cv (.int .i64 0)))]⟩])
 (.block 2 (.loop ic32l0)))
 (.region [⟨none, none, (.prim .mv), [(.v 6)]⟩, ⟨none, none, (.prim .mv), [(.v 8)]⟩, ⟨none, none, (.prim (.bslice 1 1 [(.cv .nils)] [(0, 1)])), [(.t 1)]⟩, ⟨none, none, (.prim (.append 1 24)), [(.t 0), (.t 2)]⟩, ⟨(.some 6), none, (.prim .mv), [(.t 3)]⟩])))))
 (.region [⟨none, none, (.prim (.bin .add .int)), [(.v 13), (.c (.cv (.int .i64 1)))]⟩, ⟨(.some 13), none, (.prim .mv), [(.t 0)]⟩]))))
def ic32 : IC := (.seq (.region [⟨(.some 1), none, (.prim .box), [(.v 0)]⟩, ⟨(.some 2), none, (.prim .mv), [(.c (.cv .nils))]⟩, ⟨(.some 3), none, (.prim .mv), [(.c (.cv (.int .i64 0)))]⟩])
 (.seq (.region [⟨none, none, (.prim (.loadN 2)), [(.v 1)]⟩, ⟨none, none, .call, [(.c (.fn (.func 53) [])), (.t 0)]⟩, ⟨none, none, (.prim .mv), [(.t 1)]⟩, ⟨none, none, (.prim (.extract 0)), [(.t 2)]⟩, ⟨none, none, (.prim (.extract 1)), [(.t 2)]⟩, ⟨(.some 4), none, (.prim .mv), [(.t 3)]⟩, ⟨(.some 5), none, (.prim .mv), [(.t 4)]⟩])
 (.seq (.seq (.region [⟨none, none, (.prim .mv), [(.v 5)]⟩, ⟨(.some 10), none, (.prim (.bin .neq .int)), [(.t 0), (.c (.cv (.int .i64 0)))]⟩])
 (.cond 10 (.seq (.region [⟨none, none, (.prim .mv), [(.v 5)]⟩, ⟨(.some 2), none, (.prim .mv), [(.c (.cv .nils))]⟩, ⟨(.some 3), none, (.prim .mv), [(.t 0)]⟩])
 .ret)
 .skip))
 (.seq (.seq (.region [⟨none, none, (.prim .mv), [(.v 4)]⟩, ⟨none, none, (.prim .mv), [(.v 4)]⟩, ⟨none, none, .call, [(.c (.fn (.func 55) [])), (.t 1)]⟩, ⟨none, none, .call, [(.c (.fn (.func 54) [])), (.t 0), (.t 2)]⟩, ⟨(.some 11), none, (.prim (.bin .gtr .int)), [(.t 3), (.c (.cv (.int .i64 0)))]⟩])
 (.cond 11 (.seq (.region [⟨(.some 2), none, (.prim .mv), [(.c (.cv .nils))]⟩, ⟨(.some 3), none, (.prim .mv), [(.c (.cv (.int .i64 0)))]⟩])
 .ret)
 .skip))
 (.seq (.region [⟨(.some 6), none, (.prim .mv), [(.c (.cv .nils))]⟩])
 (.seq (.seq (.region [⟨none, none, (.prim .mv), [(.v 4)]⟩, ⟨none, none, (.prim .nilck), [(.t 0)]⟩, ⟨none, none, (.prim (.fadd 0)), [(.t 1)]⟩, ⟨none, none, (.prim (.fadd 1)), [(.t 2)]⟩, ⟨none, none, (.prim .load1), [(.t 3)]⟩, ⟨none, none, (.prim (.len false)), [(.t 4)]⟩, ⟨(.some 12), none, (.prim (.bin .shl .int)), [(.c (.cv (.int .i64 1))), (.t 5)]⟩, ⟨(.some 13), none, (.prim .mv), [(.c (.cv (.int .i64 0)))]⟩])
 (.block 0 (.loop ic32l1)))
 (.seq (.region [⟨none, none, (.prim .mv), [(.v 6)]⟩, ⟨none, none, .call, [(.c (.fn (.func 62) [])), (.t 0), (.c (.fn (.func 63) []))]⟩])
 (.seq (.region [⟨none, none, (.prim .mv), [(.v 6)]⟩, ⟨none, none, (.prim .mv), [(.v 4)]⟩, ⟨none, none, (.prim (.mkbm 68)), [(.t 1)]⟩, ⟨none, none, .call, [(.c (.fn (.func 67) [])), (.t 0), (.t 2)]⟩, ⟨(.some 2), none, (.prim .mv), [(.t 3)]⟩, ⟨(.some 3), none, (.prim .mv), [(.c (.cv (.int .i64 0)))]⟩])
 .ret))))))))
theorem cc32 : compC Try.prog vs32 Try.f32.ntmps (Try.f32.body.getD .skip) = some ic32 := by kernel_rfl
abbrev rs32 : List RC := [(.v 2), (.v 3)]
theorem fok32 (p : Bool) : FnOk Try.prog 32 ⟨ic32, vs32, 63, rs32, p⟩ := FnOk.mk' Try.func32 hb32 (by kernel_rfl) cc32 (by kernel_rfl) (by kernel_rfl)

theorem hb33 : Try.f33.body = some (Try.f33.body.getD .skip) := by kernel_rfl
abbrev vs33 : List Nat := [0, 1, 2, 3, 4, 5, 6, 7, 14, 17, 23, 39]
def ic33l0 : IC := (.seq (.seq (.region [⟨none, none, (.prim .mv), [(.v 7)]⟩, ⟨none, none, (.prim (.fadd 1)), [(.v 1)]⟩, ⟨none, none, (.prim .load1), [(.t 1)]⟩, ⟨none, none, (.prim (.len false)), [(.t 2)]⟩, ⟨none, none, .call, [(.c (.fn (.func 44) [])), (.t 3)]⟩, ⟨(.some 10), none, (.prim (.bin .lss .int)), [(.t 0), (.t 4)]⟩])
 (.cond 10 .skip
 (.exit 0)))
 (.seq (.block 1 (.seq (.region [⟨none, none, (.prim (.loadN 2)), [(.v 1)]⟩, ⟨none, none, (.prim .mv), [(.v 7)]⟩, ⟨none, none, .call, [(.c (.fn (.func 43) [])), (.t 0), (.t 1)]⟩, ⟨none, none, (.prim .mv), [(.t 2)]⟩, ⟨none, (.some (3, true)), (.prim .mv), [(.v 6)]⟩, ⟨none, (.some (3, true)), (.prim (.len false)), [(.t 4)]⟩, ⟨none, (.some (3, true)), (.prim (.bin .eql .int)), [(.t 5), (.c (.cv (.int .i64 0)))]⟩, ⟨none, (.some (3, true)), (.prim .mv), [(.t 6)]⟩, ⟨none, (.some (7, false)), (.prim .mv), [(.v 7)]⟩, ⟨none, (.some (7, false)), .call, [(.c (.fn (.func 70) [])), (.t 8)]⟩, ⟨none, (.some (7, false)), (.prim .mv), [(.v 6)]⟩, ⟨none, (.some (7, false)), .call, [(.c (.fn (.func 69) [])), (.t 9), (.t 10)]⟩, ⟨none, (.some (3, true)), (.prim .pick), [(.t 7), (.c (.cv (.bool true))), (.t 11)]⟩, ⟨(.some 11), none, (.prim .pick), [(.t 3), (.t 12), (.c (.cv (.bool false)))]⟩])
 (.cond 11 (.region [⟨none, none, (.prim .mv), [(.v 7)]⟩, ⟨none, none, .call, [(.c (.fn (.func 70) [])), (.t 0)]⟩, ⟨(.some 6), none, (.prim .mv), [(.t 1)]⟩])
 .skip)))
 (.region [⟨none, none, (.prim .mv), [(.v 7)]⟩, ⟨none, none, (.prim (.bin .add .int)), [(.t 0), (.c (.cv (.int .i64 1)))]⟩, ⟨(.some 7), none, (.prim .mv), [(.t 1)]⟩])))
def ic33 : IC := (.seq (.region [⟨(.some 1), none, (.prim .box), [(.v 0)]⟩, ⟨(.some 2), none, (.prim .mv), [(.c (.cv .nils))]⟩, ⟨(.some 3), none, (.prim .mv), [(.c (.cv (.int .i64 0)))]⟩])
 (.seq (.region [⟨none, none, (.prim (.loadN 2)), [(.v 1)]⟩, ⟨none, none, .call, [(.c (.fn (.func 27) [])), (.t 0)]⟩, ⟨none, none, (.prim .mv), [(.t 1)]⟩, ⟨none, none, (.prim (.extract 0)), [(.t 2)]⟩, ⟨none, none, (.prim (.extract 1)), [(.t 2)]⟩, ⟨(.some 4), none, (.prim .mv), [(.t 3)]⟩, ⟨(.some 5), none, (.prim .mv), [(.t 4)]⟩])
 (.seq (.seq (.region [⟨none, none, (.prim .mv), [(.v 5)]⟩, ⟨(.some 8), none, (.prim (.bin .neq .int)), [(.t 0), (.c (.cv (.int .i64 0)))]⟩])
 (.cond 8 (.seq (.region [⟨none, none, (.prim .mv), [(.v 5)]⟩, ⟨(.some 2), none, (.prim .mv), [(.c (.cv .nils))]⟩, ⟨(.some 3), none, (.prim .mv), [(.t 0)]⟩])
 .ret)
 .skip))
 (.seq (.seq (.region [⟨none, none, (.prim .mv), [(.v 4)]⟩, ⟨(.some 9), none, (.prim (.bin .gtr .int)), [(.t 0), (.c (.cv (.int .i64 0)))]⟩])
 (.cond 9 (.seq (.region [⟨(.some 2), none, (.prim .mv), [(.c (.cv .nils))]⟩, ⟨(.some 3), none, (.prim .mv), [(.c (.cv (.int .i64 0)))]⟩])
 .ret)
 .skip))
 (.seq (.region [⟨(.some 6), none, (.prim .mv), [(.c (.cv .nils))]⟩])
 (.seq (.seq (.region [⟨(.some 7), none, (.prim .mv), [(.c (.cv (.int .i64 1)))]⟩])
 (.block 0 (.loop ic33l0)))
 (.seq (.region [⟨none, none, (.prim .mv), [(.v 6)]⟩, ⟨(.some 2), none, (.prim .mv), [(.t 0)]⟩, ⟨(.some 3), none, (.prim .mv), [(.c (.cv (.int .i64 0)))]⟩])
 .ret)))))))
theorem cc33 : compC Try.prog vs33 Try.f33.ntmps (Try.f33.body.getD .skip) = some ic33 := by kernel_rfl
abbrev rs33 : List RC := [(.v 2), (.v 3)]
theorem fok33 (p : Bool) : FnOk Try.prog 33 ⟨ic33, vs33, 43, rs33, p⟩ := FnOk.mk' Try.func33 hb33 (by kernel_rfl) cc33 (by kernel_rfl) (by kernel_rfl)

theorem hb34 : Try.f34.body = some (Try.f34.body.getD .skip) := by kernel_rfl
abbrev vs34 : List Nat := [0, 1, 2, 3, 4, 8, 9, 10, 11, 12, 13, 15, 22, 30, 34, 44]
def ic34 : IC := (.seq (.region [⟨(.some 4), none, (.prim .box), [(.v 0)]⟩, ⟨(.some 5), none, (.prim .mv), [(.c (.cv (.bool false)))]⟩, ⟨(.some 6), none, (.prim .mv), [(.c (.cv (.int .i64 0)))]⟩])
 (.seq (.region [⟨none, none, (.prim (.loadN 2)), [(.v 4)]⟩, ⟨none, none, .call, [(.c (.fn (.func 53) [])), (.t 0)]⟩, ⟨none, none, (.prim .mv), [(.t 1)]⟩, ⟨none, none, (.prim (.extract 0)), [(.t 2)]⟩, ⟨none, none, (.prim (.extract 1)), [(.t 2)]⟩, ⟨(.some 7), none, (.prim .mv), [(.t 3)]⟩, ⟨(.some 8), none, (.prim .mv), [(.t 4)]⟩])
 (.seq (.seq (.region [⟨none, none, (.prim .mv), [(.v 8)]⟩, ⟨(.some 12), none, (.prim (.bin .neq .int)), [(.t 0), (.c (.cv (.int .i64 0)))]⟩])
 (.cond 12 (.seq (.region [⟨none, none, (.prim .mv), [(.v 8)]⟩, ⟨(.some 5), none, (.prim .mv), [(.c (.cv (.bool false)))]⟩, ⟨(.some 6), none, (.prim .mv), [(.t 0)]⟩])
 .ret)
 .skip))
 (.seq (.region [⟨none, none, (.prim .mv), [(.v 1)]⟩, ⟨none, none, (.prim .mv), [(.v 2)]⟩, ⟨none, none, .call, [(.c (.fn (.func 18) [])), (.t 0), (.t 1)]⟩, ⟨none, none, (.prim .mv), [(.t 2)]⟩, ⟨none, none, (.prim (.extract 0)), [(.t 3)]⟩, ⟨none, none, (.prim (.extract 1)), [(.t 3)]⟩, ⟨(.some 9), none, (.prim .mv), [(.t 4)]⟩, ⟨(.some 8), none, (.prim .mv), [(.t 5)]⟩])
 (.seq (.block 0 (.seq (.region [⟨none, none, (.prim .mv), [(.v 8)]⟩, ⟨none, none, (.prim (.bin .neq .int)), [(.t 0), (.c (.cv (.int .i64 0)))]⟩, ⟨(.some 13), none, (.prim .mv), [(.t 1)]⟩])
 (.cond 13 (.seq (.region [⟨none, none, (.prim .mv), [(.v 8)]⟩, ⟨(.some 5), none, (.prim .mv), [(.c (.cv (.bool false)))]⟩, ⟨(.some 6), none, (.prim .mv), [(.t 0)]⟩])
 .ret)
 (.seq (.region [⟨none, none, (.prim .mv), [(.v 3)]⟩, ⟨none, none, (.prim (.len false)), [(.t 0)]⟩, ⟨none, none, (.prim .mv), [(.v 7)]⟩, ⟨none, none, (.prim .nilck), [(.t 2)]⟩, ⟨none, none, (.prim (.fadd 0)), [(.t 3)]⟩, ⟨none, none, (.prim (.fadd 1)), [(.t 4)]⟩, ⟨none, none, (.prim .load1), [(.t 5)]⟩, ⟨none, none, (.prim (.len false)), [(.t 6)]⟩, ⟨none, none, (.prim (.bin .neq .int)), [(.t 1), (.t 7)]⟩, ⟨(.some 14), none, (.prim .mv), [(.t 8)]⟩])
 (.cond 14 (.seq (.region [⟨(.some 5), none, (.prim .mv), [(.c (.cv (.bool false)))]⟩, ⟨(.some 6), none, (.prim .mv), [(.c (.cv (.int .i64 3)))]⟩])
 .ret)
 (.seq (.region [⟨none, none, (.prim .mv), [(.v 9)]⟩, ⟨none, none, (.prim (.len false)), [(.t 0)]⟩, ⟨none, none, (.prim (.bin .gtr .int)), [(.t 1), (.c (.cv (.int .i64 0)))]⟩, ⟨(.some 15), none, (.prim .mv), [(.t 2)]⟩])
 (.cond 15 (.seq (.region [⟨(.some 5), none, (.prim .mv), [(.c (.cv (.bool false)))]⟩, ⟨(.some 6), none, (.prim .mv), [(.c (.cv (.int .i64 0)))]⟩])
 .ret)
 .skip)))))))
 (.seq (.region [⟨none, none, (.prim .mv), [(.v 2)]⟩, ⟨none, none, .call, [(.c (.fn (.func 21) [])), (.t 0)]⟩, ⟨none, none, (.prim .mv), [(.t 1)]⟩, ⟨none, none, (.prim (.extract 0)), [(.t 2)]⟩, ⟨none, none, (.prim (.extract 1)), [(.t 2)]⟩, ⟨(.some 10), none, (.prim .mv), [(.t 3)]⟩, ⟨none, none, (.prim .mv), [(.t 4)]⟩])
 (.seq (.region [⟨none, none, (.prim .mv), [(.v 7)]⟩, ⟨none, none, (.prim .mv), [(.v 7)]⟩, ⟨none, none, .call, [(.c (.fn (.func 55) [])), (.t 1)]⟩, ⟨none, none, .call, [(.c (.fn (.func 54) [])), (.t 0), (.t 2)]⟩, ⟨(.some 11), none, (.prim .mv), [(.t 3)]⟩])
 (.seq (.region [⟨none, none, (.prim .mv), [(.v 11)]⟩, ⟨none, none, (.prim (.bin .gtr .int)), [(.t 0), (.c (.cv (.int .i64 0)))]⟩, ⟨none, none, (.prim .mv), [(.t 1)]⟩, ⟨none, (.some (2, true)), (.prim .mv), [(.v 7)]⟩, ⟨none, (.some (2, true)), (.prim .mv), [(.v 10)]⟩, ⟨none, (.some (2, true)), (.prim .mv), [(.v 11)]⟩, ⟨none, (.some (2, true)), (.prim .max2), [(.c (.cv (.int .i64 1))), (.t 5)]⟩, ⟨none, (.some (2, true)), (.prim (.bin .rem .int)), [(.t 4), (.t 6)]⟩, ⟨none, (.some (2, true)), .call, [(.c (.fn (.func 58) [])), (.t 3), (.t 7)]⟩, ⟨none, (.some (2, true)), (.prim .mv), [(.v 3)]⟩, ⟨none, (.some (2, true)), .call, [(.c (.fn (.func 71) [])), (.t 8), (.t 9)]⟩, ⟨none, none, (.prim .pick), [(.t 2), (.t 10), (.c (.cv (.bool false)))]⟩, ⟨(.some 5), none, (.prim .mv), [(.t 11)]⟩, ⟨(.some 6), none, (.prim .mv), [(.c (.cv (.int .i64 0)))]⟩])
 .ret))))))))
theorem cc34 : compC Try.prog vs34 Try.f34.ntmps (Try.f34.body.getD .skip) = some ic34 := by kernel_rfl
abbrev rs34 : List RC := [(.v 5), (.v 6)]
theorem fok34 (p : Bool) : FnOk Try.prog 34 ⟨ic34, vs34, 69, rs34, p⟩ := FnOk.mk' Try.func34 hb34 (by kernel_rfl) cc34 (by kernel_rfl) (by kernel_rfl)

theorem hb35 : Try.f35.body = some (Try.f35.body.getD .skip) := by kernel_rfl
abbrev vs35 : List Nat := [0, 1, 2, 3, 4, 8, 9, 10, 11, 12, 20, 33, 35, 50]
def ic35 : IC := (.seq (.region [⟨(.some 4), none, (.prim .box), [(.v 0)]⟩, ⟨(.some 5), none, (.prim .mv), [(.c (.cv (.bool false)))]⟩, ⟨(.some 6), none, (.prim .mv), [(.c (.cv (.int .i64 0)))]⟩])
 (.seq (.region [⟨none, none, (.prim (.loadN 2)), [(.v 4)]⟩, ⟨none, none, .call, [(.c (.fn (.func 27) [])), (.t 0)]⟩, ⟨none, none, (.prim .mv), [(.t 1)]⟩, ⟨none, none, (.prim (.extract 0)), [(.t 2)]⟩, ⟨none, none, (.prim (.extract 1)), [(.t 2)]⟩, ⟨(.some 7), none, (.prim .mv), [(.t 3)]⟩, ⟨(.some 8), none, (.prim .mv), [(.t 4)]⟩])
 (.seq (.seq (.region [⟨none, none, (.prim .mv), [(.v 8)]⟩, ⟨(.some 10), none, (.prim (.bin .eql .int)), [(.t 0), (.c (.cv (.int .i64 0)))]⟩])
 (.cond 10 (.region [⟨none, none, (.prim .mv), [(.v 1)]⟩, ⟨none, none, (.prim .mv), [(.v 2)]⟩, ⟨none, none, .call, [(.c (.fn (.func 51) [])), (.t 0), (.t 1)]⟩, ⟨(.some 8), none, (.prim .mv), [(.t 2)]⟩])
 .skip))
 (.seq (.seq (.region [⟨none, none, (.prim .mv), [(.v 8)]⟩, ⟨none, none, (.prim (.bin .eql .int)), [(.t 0), (.c (.cv (.int .i64 0)))]⟩, ⟨none, none, (.prim .mv), [(.t 1)]⟩, ⟨none, (.some (2, true)), (.prim .mv), [(.v 3)]⟩, ⟨none, (.some (2, true)), (.prim (.len false)), [(.t 3)]⟩, ⟨none, (.some (2, true)), (.prim (.fadd 1)), [(.v 4)]⟩, ⟨none, (.some (2, true)), (.prim .load1), [(.t 5)]⟩, ⟨none, (.some (2, true)), (.prim (.len false)), [(.t 6)]⟩, ⟨none, (.some (2, true)), (.prim (.bin .neq .int)), [(.t 4), (.t 7)]⟩, ⟨(.some 11), none, (.prim .pick), [(.t 2), (.t 8), (.c (.cv (.bool false)))]⟩])
 (.cond 11 (.region [⟨(.some 8), none, (.prim .mv), [(.c (.cv (.int .i64 3)))]⟩])
 .skip))
 (.seq (.seq (.region [⟨none, none, (.prim .mv), [(.v 8)]⟩, ⟨(.some 12), none, (.prim (.bin .neq .int)), [(.t 0), (.c (.cv (.int .i64 0)))]⟩])
 (.cond 12 (.seq (.region [⟨none, none, (.prim .mv), [(.v 8)]⟩, ⟨(.some 5), none, (.prim .mv), [(.c (.cv (.bool false)))]⟩, ⟨(.some 6), none, (.prim .mv), [(.t 0)]⟩])
 .ret)
 .skip))
 (.seq (.region [⟨none, none, (.prim .mv), [(.v 2)]⟩, ⟨none, none, .call, [(.c (.fn (.func 22) [])), (.t 0)]⟩, ⟨none, none, (.prim .mv), [(.t 1)]⟩, ⟨none, none, (.prim (.extract 0)), [(.t 2)]⟩, ⟨none, none, (.prim (.extract 1)), [(.t 2)]⟩, ⟨(.some 9), none, (.prim .mv), [(.t 3)]⟩, ⟨none, none, (.prim .mv), [(.t 4)]⟩])
 (.seq (.seq (.region [⟨none, none, (.prim .mv), [(.v 7)]⟩, ⟨none, none, (.prim (.bin .eql .int)), [(.t 0), (.c (.cv (.int .i64 0)))]⟩, ⟨none, none, (.prim .mv), [(.t 1)]⟩, ⟨none, (.some (2, false)), (.prim .mv), [(.v 1)]⟩, ⟨none, (.some (2, false)), (.prim .mv), [(.v 2)]⟩, ⟨none, (.some (2, false)), .call, [(.c (.fn (.func 52) [])), (.t 3), (.t 4)]⟩, ⟨none, (.some (2, false)), (.prim (.len false)), [(.t 5)]⟩, ⟨none, (.some (2, false)), (.prim (.bin .gtr .int)), [(.t 6), (.c (.cv (.int .i64 0)))]⟩, ⟨(.some 13), none, (.prim .pick), [(.t 2), (.c (.cv (.bool true))), (.t 7)]⟩])
 (.cond 13 (.seq (.region [⟨(.some 5), none, (.prim .mv), [(.c (.cv (.bool false)))]⟩, ⟨(.some 6), none, (.prim .mv), [(.c (.cv (.int .i64 0)))]⟩])
 .ret)
 .skip))
 (.seq (.dr [[], [], [], [1, 2], [0, 3], [], [4, 5, 4], [6, 6, 0, 1, 2, 3, 4, 5, 6], [7, 0, 1, 2, 3, 4, 5, 6, 7]] [⟨none, none, (.prim (.loadN 2)), [(.v 4)]⟩, ⟨none, none, (.prim .mv), [(.v 9)]⟩, ⟨none, none, (.prim .mv), [(.v 7)]⟩, ⟨none, none, (.prim (.bin .rem .int)), [(.t 1), (.t 2)]⟩, ⟨none, none, .call, [(.c (.fn (.func 59) [])), (.t 0), (.t 3)]⟩, ⟨none, none, (.prim .mv), [(.v 3)]⟩, ⟨none, none, .call, [(.c (.fn (.func 20) [])), (.t 4), (.t 5)]⟩, ⟨(.some 5), none, (.prim .mv), [(.t 6)]⟩, ⟨(.some 6), none, (.prim .mv), [(.c (.cv (.int .i64 0)))]⟩])
 .ret))))))))
theorem cc35 : compC Try.prog vs35 Try.f35.ntmps (Try.f35.body.getD .skip) = some ic35 := by kernel_rfl
abbrev rs35 : List RC := [(.v 5), (.v 6)]
theorem fok35 (p : Bool) : FnOk Try.prog 35 ⟨ic35, vs35, 58, rs35, p⟩ := FnOk.mk' Try.func35 hb35 (by kernel_rfl) cc35 (by kernel_rfl) (by kernel_rfl)

theorem hb36 : Try.f36.body = some (Try.f36.body.getD .skip) := by kernel_rfl
abbrev vs36 : List Nat := [0]
def ic36 : IC := (.seq (.region [⟨(.some 0), none, (.prim (.alloc [(.cv .nils), (.cv .nils)])), []⟩])
 (.seq (.region [⟨none, none, (.prim (.bslice 1 3 [(.cv (.int .i64 0)), (.cv (.int .i64 0)), (.cv (.int .i64 0))] [(0, 1), (1, 1), (2, 1)])), [(.c (.cv (.int .i64 1))), (.c (.cv (.int .i64 1))), (.c (.cv (.int .i64 2)))]⟩, ⟨none, none, (.prim (.bslice 1 4 [(.cv (.int .i64 0)), (.cv (.int .i64 0)), (.cv (.int .i64 0)), (.cv (.int .i64 0))] [(0, 1), (1, 1), (2, 1), (3, 1)])), [(.c (.cv (.int .i64 1))), (.c (.cv (.int .i64 1))), (.c (.cv (.int .i64 6))), (.c (.cv (.int .i64 6)))]⟩, ⟨none, none, (.prim (.build [(.cv .nils), (.cv .nils)] [(0, 1), (1, 1)])), [(.t 0), (.t 1)]⟩, ⟨none, none, (.prim (.store 2)), [(.v 0), (.t 2)]⟩])
 .ret))
theorem cc36 : compC Try.prog vs36 Try.f36.ntmps (Try.f36.body.getD .skip) = some ic36 := by kernel_rfl
abbrev rs36 : List RC := [(.lN 0 2)]
theorem fok36 (p : Bool) : FnOk Try.prog 36 ⟨ic36, vs36, 4, rs36, p⟩ := FnOk.mk' Try.func36 hb36 (by kernel_rfl) cc36 (by kernel_rfl) (by kernel_rfl)

theorem hb37 : Try.f37.body = some (Try.f37.body.getD .skip) := by kernel_rfl
abbrev vs37 : List Nat := [0]
def ic37 : IC := (.seq (.region [⟨(.some 0), none, (.prim (.alloc [(.cv .nils), (.cv .nils)])), []⟩])
 (.seq (.region [⟨none, none, (.prim (.bslice 1 3 [(.cv (.int .i64 0)), (.cv (.int .i64 0)), (.cv (.int .i64 0))] [(0, 1), (1, 1), (2, 1)])), [(.c (.cv (.int .i64 1))), (.c (.cv (.int .i64 1))), (.c (.cv (.int .i64 2)))]⟩, ⟨none, none, (.prim (.bslice 1 3 [(.cv (.int .i64 0)), (.cv (.int .i64 0)), (.cv (.int .i64 0))] [(0, 1), (1, 1), (2, 1)])), [(.c (.cv (.int .i64 1))), (.c (.cv (.int .i64 1))), (.c (.cv (.int .i64 6)))]⟩, ⟨none, none, (.prim (.build [(.cv .nils), (.cv .nils)] [(0, 1), (1, 1)])), [(.t 0), (.t 1)]⟩, ⟨none, none, (.prim (.store 2)), [(.v 0), (.t 2)]⟩])
 .ret))
theorem cc37 : compC Try.prog vs37 Try.f37.ntmps (Try.f37.body.getD .skip) = some ic37 := by kernel_rfl
abbrev rs37 : List RC := [(.lN 0 2)]
theorem fok37 (p : Bool) : FnOk Try.prog 37 ⟨ic37, vs37, 4, rs37, p⟩ := FnOk.mk' Try.func37 hb37 (by kernel_rfl) cc37 (by kernel_rfl) (by kernel_rfl)

theorem hb38 : Try.f38.body = some (Try.f38.body.getD .skip) := by kernel_rfl
abbrev vs38 : List Nat := [0, 1, 2, 5]
def ic38 : IC := (.seq (.region [⟨(.some 1), none, (.prim .box), [(.v 0)]⟩, ⟨(.some 2), none, (.prim .mv), [(.c (.cv (.bool false)))]⟩])
 (.seq (.region [⟨none, none, (.prim (.loadN 2)), [(.v 1)]⟩, ⟨none, none, .call, [(.c (.fn (.func 25) [])), (.t 0)]⟩, ⟨none, none, (.prim .mv), [(.t 1)]⟩, ⟨none, none, (.prim (.extract 0)), [(.t 2)]⟩, ⟨none, none, (.prim (.extract 1)), [(.t 2)]⟩, ⟨none, none, (.prim (.extract 2)), [(.t 2)]⟩, ⟨none, none, (.prim .mv), [(.t 3)]⟩, ⟨none, none, (.prim .mv), [(.t 4)]⟩, ⟨(.some 3), none, (.prim .mv), [(.t 5)]⟩])
 (.seq (.region [⟨none, none, (.prim .mv), [(.v 3)]⟩, ⟨none, none, (.prim (.bin .eql .int)), [(.t 0), (.c (.cv (.int .i64 0)))]⟩, ⟨(.some 2), none, (.prim .mv), [(.t 1)]⟩])
 .ret)))
theorem cc38 : compC Try.prog vs38 Try.f38.ntmps (Try.f38.body.getD .skip) = some ic38 := by kernel_rfl
abbrev rs38 : List RC := [(.v 2)]
theorem fok38 (p : Bool) : FnOk Try.prog 38 ⟨ic38, vs38, 14, rs38, p⟩ := FnOk.mk' Try.func38 hb38 (by kernel_rfl) cc38 (by kernel_rfl) (by kernel_rfl)

theorem hb39 : Try.f39.body = some (Try.f39.body.getD .skip) := by kernel_rfl
abbrev vs39 : List Nat := [0, 1, 2, 4, 5, 6, 7, 8, 9, 10, 11, 20, 26, 43, 50]
def ic39l0 : IC := (.seq (.seq (.region [⟨none, none, (.prim .mv), [(.v 9)]⟩, ⟨none, none, (.prim .mv), [(.v 5)]⟩, ⟨none, none, (.prim (.len false)), [(.t 1)]⟩, ⟨(.some 12), none, (.prim (.bin .lss .int)), [(.t 0), (.t 2)]⟩])
 (.cond 12 .skip
 (.exit 2)))
 (.seq (.block 3 (.seq (.region [⟨none, none, (.prim .mv), [(.v 5)]⟩, ⟨none, none, (.prim .mv), [(.v 9)]⟩, ⟨none, none, (.prim (.iaS 1)), [(.t 0), (.t 1)]⟩, ⟨none, none, (.prim .load1), [(.t 2)]⟩, ⟨none, none, (.prim (.bin .gtr .int)), [(.t 3), (.c (.cv (.int .i64 0)))]⟩, ⟨none, none, (.prim .mv), [(.t 4)]⟩, ⟨none, (.some (5, true)), (.prim (.fadd 1)), [(.v 2)]⟩, ⟨none, (.some (5, true)), (.prim .load1), [(.t 6)]⟩, ⟨none, (.some (5, true)), (.prim .mv), [(.v 7)]⟩, ⟨none, (.some (5, true)), (.prim (.iaS 1)), [(.t 7), (.t 8)]⟩, ⟨none, (.some (5, true)), (.prim .load1), [(.t 9)]⟩, ⟨none, (.some (5, true)), (.prim .mv), [(.v 9)]⟩, ⟨none, (.some (5, true)), .call, [(.c (.fn (.func 45) [])), (.t 10), (.t 11)]⟩, ⟨none, (.some (5, true)), (.prim .not), [(.t 12)]⟩, ⟨(.some 13), none, (.prim .pick), [(.t 5), (.t 13), (.c (.cv (.bool false)))]⟩])
 (.cond 13 (.region [⟨none, none, (.prim .mv), [(.v 8)]⟩, ⟨none, none, (.prim .mv), [(.v 9)]⟩, ⟨none, none, (.prim (.bslice 1 1 [(.cv (.int .i64 0))] [(0, 1)])), [(.t 1)]⟩, ⟨none, none, (.prim (.append 1 8)), [(.t 0), (.t 2)]⟩, ⟨(.some 8), none, (.prim .mv), [(.t 3)]⟩])
 .skip)))
 (.region [⟨none, none, (.prim .mv), [(.v 9)]⟩, ⟨none, none, (.prim (.bin .add .int)), [(.t 0), (.c (.cv (.int .i64 1)))]⟩, ⟨(.some 9), none, (.prim .mv), [(.t 1)]⟩])))
def ic39l1 : IC := (.seq (.seq (.region [⟨none, none, (.prim .mv), [(.v 7)]⟩, ⟨none, none, (.prim (.fadd 1)), [(.v 2)]⟩, ⟨none, none, (.prim .load1), [(.t 1)]⟩, ⟨none, none, (.prim (.len false)), [(.t 2)]⟩, ⟨(.some 11), none, (.prim (.bin .lss .int)), [(.t 0), (.t 3)]⟩])
 (.cond 11 .skip
 (.exit 0)))
 (.seq (.block 1 (.seq (.region [⟨(.some 8), none, (.prim .mv), [(.c (.cv .nils))]⟩])
 (.seq (.seq (.region [⟨(.some 9), none, (.prim .mv), [(.c (.cv (.int .i64 0)))]⟩])
 (.block 2 (.loop ic39l0)))
 (.seq (.seq (.region [⟨none, none, (.prim .mv), [(.v 8)]⟩, ⟨none, none, (.prim (.len false)), [(.t 0)]⟩, ⟨(.some 14), none, (.prim (.bin .eql .int)), [(.t 1), (.c (.cv (.int .i64 0)))]⟩])
 (.cond 14 (.seq (.region [⟨(.some 3), none, (.prim .mv), [(.c (.cv .nils))]⟩, ⟨(.some 4), none, (.prim .mv), [(.c (.cv (.bool false)))]⟩])
 .ret)
 .skip))
 (.seq (.region [⟨none, none, (.prim .mv), [(.v 8)]⟩, ⟨none, none, (.prim .mv), [(.v 1)]⟩, ⟨none, none, (.prim .mv), [(.v 7)]⟩, ⟨none, none, .call, [(.c (.fn (.func 46) [])), (.t 1), (.t 2)]⟩, ⟨none, none, (.prim .mv), [(.v 8)]⟩, ⟨none, none, (.prim (.len false)), [(.t 4)]⟩, ⟨none, none, (.prim (.bin .rem .int)), [(.t 3), (.t 5)]⟩, ⟨none, none, (.prim (.iaS 1)), [(.t 0), (.t 6)]⟩, ⟨none, none, (.prim .load1), [(.t 7)]⟩, ⟨(.some 10), none, (.prim .mv), [(.t 8)]⟩])
 (.seq (.region [⟨none, none, (.prim .mv), [(.v 6)]⟩, ⟨none, none, (.prim .mv), [(.v 10)]⟩, ⟨none, none, (.prim (.bslice 1 1 [(.cv (.int .i64 0))] [(0, 1)])), [(.t 1)]⟩, ⟨none, none, (.prim (.append 1 8)), [(.t 0), (.t 2)]⟩, ⟨(.some 6), none, (.prim .mv), [(.t 3)]⟩])
 (.region [⟨none, none, (.prim .mv), [(.v 5)]⟩, ⟨none, none, (.prim .mv), [(.v 10)]⟩, ⟨none, none, (.prim (.iaS 1)), [(.t 0), (.t 1)]⟩, ⟨none, none, (.prim .load1), [(.t 2)]⟩, ⟨none, none, (.prim (.bin .sub .int)), [(.t 3), (.c (.cv (.int .i64 1)))]⟩, ⟨none, none, (.prim (.iaS 1)), [(.t 0), (.t 1)]⟩, ⟨none, none, (.prim (.store 1)), [(.t 5), (.t 4)]⟩])))))))
 (.region [⟨none, none, (.prim .mv), [(.v 7)]⟩, ⟨none, none, (.prim (.bin .add .int)), [(.t 0), (.c (.cv (.int .i64 1)))]⟩, ⟨(.some 7), none, (.prim .mv), [(.t 1)]⟩])))
def ic39 : IC := (.seq (.region [⟨(.some 2), none, (.prim .box), [(.v 0)]⟩, ⟨(.some 3), none, (.prim .mv), [(.c (.cv .nils))]⟩, ⟨(.some 4), none, (.prim .mv), [(.c (.cv (.bool false)))]⟩])
 (.seq (.region [⟨none, none, (.prim (.bslice 1 0 [] [])), []⟩, ⟨none, none, (.prim (.fadd 0)), [(.v 2)]⟩, ⟨none, none, (.prim .load1), [(.t 1)]⟩, ⟨none, none, (.prim (.append 1 8)), [(.t 0), (.t 2)]⟩, ⟨(.some 5), none, (.prim .mv), [(.t 3)]⟩])
 (.seq (.region [⟨(.some 6), none, (.prim .mv), [(.c (.cv .nils))]⟩])
 (.seq (.seq (.region [⟨(.some 7), none, (.prim .mv), [(.c (.cv (.int .i64 0)))]⟩])
 (.block 0 (.loop ic39l1)))
 (.seq (.region [⟨none, none, (.prim .mv), [(.v 6)]⟩, ⟨(.some 3), none, (.prim .mv), [(.t 0)]⟩, ⟨(.some 4), none, (.prim .mv), [(.c (.cv (.bool true)))]⟩])
 .ret)))))
theorem cc39 : compC Try.prog vs39 Try.f39.ntmps (Try.f39.body.getD .skip) = some ic39 := by kernel_rfl
abbrev rs39 : List RC := [(.v 3), (.v 4)]
theorem fok39 (p : Bool) : FnOk Try.prog 39 ⟨ic39, vs39, 71, rs39, p⟩ := FnOk.mk' Try.func39 hb39 (by kernel_rfl) cc39 (by kernel_rfl) (by kernel_rfl)

theorem hb40 : Try.f40.body = some (Try.f40.body.getD .skip) := by kernel_rfl
abbrev vs40 : List Nat := [0, 1, 2, 4, 5, 6, 7, 8, 14, 18, 30, 34, 40, 51, 75]
def ic40l0 : IC := (.seq (.seq (.region [⟨none, none, (.prim .mv), [(.v 7)]⟩, ⟨none, none, (.prim .mv), [(.v 1)]⟩, ⟨none, none, (.prim (.len false)), [(.t 1)]⟩, ⟨(.some 12), none, (.prim (.bin .lss .int)), [(.t 0), (.t 2)]⟩])
 (.cond 12 .skip
 (.exit 4)))
 (.seq (.block 5 (.seq (.dr [[], [], [0, 1], [2], [], [], [4, 5], [6], [3, 7]] [⟨none, none, (.prim .mv), [(.v 1)]⟩, ⟨none, none, (.prim .mv), [(.v 7)]⟩, ⟨none, none, (.prim (.iaS 1)), [(.t 0), (.t 1)]⟩, ⟨none, none, (.prim .load1), [(.t 2)]⟩, ⟨none, none, (.prim .mv), [(.v 1)]⟩, ⟨none, none, (.prim .mv), [(.v 5)]⟩, ⟨none, none, (.prim (.iaS 1)), [(.t 4), (.t 5)]⟩, ⟨none, none, (.prim .load1), [(.t 6)]⟩, ⟨(.some 13), none, (.prim (.bin .eql .int)), [(.t 3), (.t 7)]⟩])
 (.cond 13 (.region [⟨none, none, (.prim .mv), [(.v 6)]⟩, ⟨none, none, (.prim (.bin .add .int)), [(.t 0), (.c (.cv (.int .i64 1)))]⟩, ⟨(.some 6), none, (.prim .mv), [(.t 1)]⟩])
 .skip)))
 (.region [⟨none, none, (.prim .mv), [(.v 7)]⟩, ⟨none, none, (.prim (.bin .add .int)), [(.t 0), (.c (.cv (.int .i64 1)))]⟩, ⟨(.some 7), none, (.prim .mv), [(.t 1)]⟩])))
def ic40l1 : IC := (.seq (.seq (.region [⟨none, none, (.prim .mv), [(.v 5)]⟩, ⟨none, none, (.prim .mv), [(.v 1)]⟩, ⟨none, none, (.prim (.len false)), [(.t 1)]⟩, ⟨(.some 11), none, (.prim (.bin .lss .int)), [(.t 0), (.t 2)]⟩])
 (.cond 11 .skip
 (.exit 2)))
 (.seq (.block 3 (.seq (.region [⟨(.some 6), none, (.prim .mv), [(.c (.cv (.int .i64 0)))]⟩])
 (.seq (.seq (.region [⟨(.some 7), none, (.prim .mv), [(.c (.cv (.int .i64 0)))]⟩])
 (.block 4 (.loop ic40l0)))
 (.seq (.dr [[], [0], [], [1, 2], [3], [], [], [5, 6], [7], [4, 8], [9, 9], [10], [10], [12, 10], [10], [10], [14, 15, 10], [16, 10], [13, 17, 10], [18, 10], [11, 19, 10], [10, 20]] [⟨none, none, (.prim (.fadd 1)), [(.v 2)]⟩, ⟨none, none, (.prim .load1), [(.t 0)]⟩, ⟨none, none, (.prim .mv), [(.v 5)]⟩, ⟨none, none, (.prim (.iaS 1)), [(.t 1), (.t 2)]⟩, ⟨none, none, (.prim .load1), [(.t 3)]⟩, ⟨none, none, (.prim .mv), [(.v 1)]⟩, ⟨none, none, (.prim .mv), [(.v 5)]⟩, ⟨none, none, (.prim (.iaS 1)), [(.t 5), (.t 6)]⟩, ⟨none, none, (.prim .load1), [(.t 7)]⟩, ⟨none, none, .call, [(.c (.fn (.func 45) [])), (.t 4), (.t 8)]⟩, ⟨none, none, (.prim .mv), [(.t 9)]⟩, ⟨none, (.some (10, false)), (.prim .mv), [(.v 6)]⟩, ⟨none, (.some (10, false)), (.prim (.fadd 0)), [(.v 2)]⟩, ⟨none, (.some (10, false)), (.prim .load1), [(.t 12)]⟩, ⟨none, (.some (10, false)), (.prim .mv), [(.v 1)]⟩, ⟨none, (.some (10, false)), (.prim .mv), [(.v 5)]⟩, ⟨none, (.some (10, false)), (.prim (.iaS 1)), [(.t 14), (.t 15)]⟩, ⟨none, (.some (10, false)), (.prim .load1), [(.t 16)]⟩, ⟨none, (.some (10, false)), (.prim (.iaS 1)), [(.t 13), (.t 17)]⟩, ⟨none, (.some (10, false)), (.prim .load1), [(.t 18)]⟩, ⟨none, (.some (10, false)), (.prim (.bin .gtr .int)), [(.t 11), (.t 19)]⟩, ⟨(.some 14), none, (.prim .pick), [(.t 10), (.c (.cv (.bool true))), (.t 20)]⟩])
 (.cond 14 (.seq (.region [⟨(.some 3), none, (.prim .mv), [(.c (.cv (.int .i64 2)))]⟩])
 .ret)
 .skip)))))
 (.region [⟨none, none, (.prim .mv), [(.v 5)]⟩, ⟨none, none, (.prim (.bin .add .int)), [(.t 0), (.c (.cv (.int .i64 1)))]⟩, ⟨(.some 5), none, (.prim .mv), [(.t 1)]⟩])))
def ic40l2 : IC := (.seq (.seq (.region [⟨none, none, (.prim .mv), [(.v 4)]⟩, ⟨none, none, (.prim .mv), [(.v 1)]⟩, ⟨none, none, (.prim (.len false)), [(.t 1)]⟩, ⟨(.some 9), none, (.prim (.bin .lss .int)), [(.t 0), (.t 2)]⟩])
 (.cond 9 .skip
 (.exit 0)))
 (.seq (.block 1 (.seq (.dr [[], [], [0, 1], [2], [], [4], [5], [6], [3, 7], [8]] [⟨none, none, (.prim .mv), [(.v 1)]⟩, ⟨none, none, (.prim .mv), [(.v 4)]⟩, ⟨none, none, (.prim (.iaS 1)), [(.t 0), (.t 1)]⟩, ⟨none, none, (.prim .load1), [(.t 2)]⟩, ⟨none, none, (.prim (.fadd 0)), [(.v 2)]⟩, ⟨none, none, (.prim .load1), [(.t 4)]⟩, ⟨none, none, (.prim (.len false)), [(.t 5)]⟩, ⟨none, none, (.prim (.bin .sub .int)), [(.t 6), (.c (.cv (.int .i64 1)))]⟩, ⟨none, none, .call, [(.c (.fn (.func 48) [])), (.t 3), (.c (.cv (.int .i64 0))), (.t 7)]⟩, ⟨(.some 10), none, (.prim .not), [(.t 8)]⟩])
 (.cond 10 (.seq (.region [⟨(.some 3), none, (.prim .mv), [(.c (.cv (.int .i64 4)))]⟩])
 .ret)
 .skip)))
 (.region [⟨none, none, (.prim .mv), [(.v 4)]⟩, ⟨none, none, (.prim (.bin .add .int)), [(.t 0), (.c (.cv (.int .i64 1)))]⟩, ⟨(.some 4), none, (.prim .mv), [(.t 1)]⟩])))
def ic40 : IC := (.seq (.region [⟨(.some 2), none, (.prim .box), [(.v 0)]⟩, ⟨(.some 3), none, (.prim .mv), [(.c (.cv (.int .i64 0)))]⟩])
 (.seq (.seq (.region [⟨none, none, (.prim .mv), [(.v 1)]⟩, ⟨none, none, (.prim (.len false)), [(.t 0)]⟩, ⟨none, none, (.prim (.fadd 1)), [(.v 2)]⟩, ⟨none, none, (.prim .load1), [(.t 2)]⟩, ⟨none, none, (.prim (.len false)), [(.t 3)]⟩, ⟨(.some 8), none, (.prim (.bin .neq .int)), [(.t 1), (.t 4)]⟩])
 (.cond 8 (.seq (.region [⟨(.some 3), none, (.prim .mv), [(.c (.cv (.int .i64 3)))]⟩])
 .ret)
 .skip))
 (.seq (.seq (.region [⟨(.some 4), none, (.prim .mv), [(.c (.cv (.int .i64 0)))]⟩])
 (.block 0 (.loop ic40l2)))
 (.seq (.seq (.region [⟨(.some 5), none, (.prim .mv), [(.c (.cv (.int .i64 0)))]⟩])
 (.block 2 (.loop ic40l1)))
 (.seq (.region [⟨(.some 3), none, (.prim .mv), [(.c (.cv (.int .i64 0)))]⟩])
 .ret)))))
theorem cc40 : compC Try.prog vs40 Try.f40.ntmps (Try.f40.body.getD .skip) = some ic40 := by kernel_rfl
abbrev rs40 : List RC := [(.v 3)]
theorem fok40 (p : Bool) : FnOk Try.prog 40 ⟨ic40, vs40, 76, rs40, p⟩ := FnOk.mk' Try.func40 hb40 (by kernel_rfl) cc40 (by kernel_rfl) (by kernel_rfl)

theorem hb41 : Try.f41.body = some (Try.f41.body.getD .skip) := by kernel_rfl
abbrev vs41 : List Nat := [0, 2, 3, 7, 11, 19]
def ic41l0 : IC := (.seq (.seq (.region [⟨none, none, (.prim .mv), [(.v 2)]⟩, ⟨none, none, (.prim .mv), [(.v 0)]⟩, ⟨none, none, (.prim (.len false)), [(.t 1)]⟩, ⟨(.some 4), none, (.prim (.bin .lss .int)), [(.t 0), (.t 2)]⟩])
 (.cond 4 .skip
 (.exit 0)))
 (.seq (.block 1 (.seq (.region [⟨none, none, (.prim .mv), [(.v 0)]⟩, ⟨none, none, (.prim .mv), [(.v 2)]⟩, ⟨none, none, (.prim (.iaS 1)), [(.t 0), (.t 1)]⟩, ⟨none, none, (.prim .load1), [(.t 2)]⟩, ⟨none, none, .call, [(.c (.fn (.func 48) [])), (.t 3), (.c (.cv (.int .i64 0))), (.c (.cv (.int .i64 1000000000)))]⟩, ⟨(.some 5), none, (.prim .not), [(.t 4)]⟩])
 (.cond 5 (.seq (.region [⟨(.some 1), none, (.prim .mv), [(.c (.cv (.int .i64 7)))]⟩])
 .ret)
 .skip)))
 (.region [⟨none, none, (.prim .mv), [(.v 2)]⟩, ⟨none, none, (.prim (.bin .add .int)), [(.t 0), (.c (.cv (.int .i64 1)))]⟩, ⟨(.some 2), none, (.prim .mv), [(.t 1)]⟩])))
def ic41 : IC := (.seq (.region [⟨(.some 1), none, (.prim .mv), [(.c (.cv (.int .i64 0)))]⟩])
 (.seq (.seq (.region [⟨none, none, (.prim .mv), [(.v 0)]⟩, ⟨none, none, (.prim (.len false)), [(.t 0)]⟩, ⟨none, none, .call, [(.c (.fn (.func 48) [])), (.t 1), (.c (.cv (.int .i64 1))), (.c (.cv (.int .i64 8)))]⟩, ⟨(.some 3), none, (.prim .not), [(.t 2)]⟩])
 (.cond 3 (.seq (.region [⟨(.some 1), none, (.prim .mv), [(.c (.cv (.int .i64 3)))]⟩])
 .ret)
 .skip))
 (.seq (.seq (.region [⟨(.some 2), none, (.prim .mv), [(.c (.cv (.int .i64 0)))]⟩])
 (.block 0 (.loop ic41l0)))
 (.seq (.region [⟨(.some 1), none, (.prim .mv), [(.c (.cv (.int .i64 0)))]⟩])
 .ret))))
theorem cc41 : compC Try.prog vs41 Try.f41.ntmps (Try.f41.body.getD .skip) = some ic41 := by kernel_rfl
abbrev rs41 : List RC := [(.v 1)]
theorem fok41 (p : Bool) : FnOk Try.prog 41 ⟨ic41, vs41, 20, rs41, p⟩ := FnOk.mk' Try.func41 hb41 (by kernel_rfl) cc41 (by kernel_rfl) (by kernel_rfl)

theorem hb42 : Try.f42.body = some (Try.f42.body.getD .skip) := by kernel_rfl
abbrev vs42 : List Nat := [0, 2, 3, 4, 5, 10]
def ic42l0 : IC := (.seq (.seq (.region [⟨none, none, (.prim .mv), [(.v 3)]⟩, ⟨none, none, (.prim .mv), [(.v 0)]⟩, ⟨none, none, (.prim (.len false)), [(.t 1)]⟩, ⟨(.some 5), none, (.prim (.bin .lss .int)), [(.t 0), (.t 2)]⟩])
 (.cond 5 .skip
 (.exit 0)))
 (.seq (.block 1 (.seq (.region [⟨none, none, (.prim .mv), [(.v 3)]⟩, ⟨none, none, (.prim .mv), [(.v 0)]⟩, ⟨none, none, (.prim .mv), [(.v 3)]⟩, ⟨none, none, (.prim (.iaS 1)), [(.t 1), (.t 2)]⟩, ⟨none, none, (.prim .load1), [(.t 3)]⟩, ⟨none, none, .call, [(.c (.fn (.func 16) [])), (.t 0), (.t 4)]⟩, ⟨none, none, (.prim .mv), [(.t 5)]⟩, ⟨none, none, (.prim (.extract 0)), [(.t 6)]⟩, ⟨none, none, (.prim (.extract 1)), [(.t 6)]⟩, ⟨(.some 4), none, (.prim .mv), [(.t 7)]⟩, ⟨none, none, (.prim .mv), [(.t 8)]⟩])
 (.region [⟨none, none, (.prim .mv), [(.v 2)]⟩, ⟨none, none, (.prim .mv), [(.v 4)]⟩, ⟨none, none, (.prim (.bslice 1 1 [(.cv (.int .i64 0))] [(0, 1)])), [(.t 1)]⟩, ⟨none, none, (.prim (.append 1 8)), [(.t 0), (.t 2)]⟩, ⟨(.some 2), none, (.prim .mv), [(.t 3)]⟩])))
 (.region [⟨none, none, (.prim .mv), [(.v 3)]⟩, ⟨none, none, (.prim (.bin .add .int)), [(.t 0), (.c (.cv (.int .i64 1)))]⟩, ⟨(.some 3), none, (.prim .mv), [(.t 1)]⟩])))
def ic42 : IC := (.seq (.region [⟨(.some 1), none, (.prim .mv), [(.c (.cv .nils))]⟩])
 (.seq (.region [⟨(.some 2), none, (.prim .mv), [(.c (.cv .nils))]⟩])
 (.seq (.seq (.region [⟨(.some 3), none, (.prim .mv), [(.c (.cv (.int .i64 0)))]⟩])
 (.block 0 (.loop ic42l0)))
 (.seq (.region [⟨none, none, (.prim .mv), [(.v 2)]⟩, ⟨(.some 1), none, (.prim .mv), [(.t 0)]⟩])
 .ret))))
theorem cc42 : compC Try.prog vs42 Try.f42.ntmps (Try.f42.body.getD .skip) = some ic42 := by kernel_rfl
abbrev rs42 : List RC := [(.v 1)]
theorem fok42 (p : Bool) : FnOk Try.prog 42 ⟨ic42, vs42, 27, rs42, p⟩ := FnOk.mk' Try.func42 hb42 (by kernel_rfl) cc42 (by kernel_rfl) (by kernel_rfl)

theorem hb43 : Try.f43.body = some (Try.f43.body.getD .skip) := by kernel_rfl
abbrev vs43 : List Nat := [0, 1, 2, 4, 5, 6, 7, 8, 9, 10, 15, 20, 27, 34, 53]
def ic43l0 : IC := (.seq (.seq (.region [⟨none, none, (.prim .mv), [(.v 9)]⟩, ⟨none, none, (.prim (.fadd 1)), [(.v 2)]⟩, ⟨none, none, (.prim .load1), [(.t 1)]⟩, ⟨none, none, (.prim (.len false)), [(.t 2)]⟩, ⟨(.some 13), none, (.prim (.bin .lss .int)), [(.t 0), (.t 3)]⟩])
 (.cond 13 .skip
 (.exit 4)))
 (.seq (.block 5 (.region [⟨none, none, (.prim .mv), [(.v 8)]⟩, ⟨none, none, (.prim .mv), [(.t 0)]⟩, ⟨none, (.some (1, false)), (.prim .mv), [(.v 1)]⟩, ⟨none, (.some (1, false)), (.prim .mv), [(.v 9)]⟩, ⟨none, (.some (1, false)), .call, [(.c (.fn (.func 45) [])), (.t 2), (.t 3)]⟩, ⟨none, (.some (1, false)), (.prim .mv), [(.t 4)]⟩, ⟨none, (.some (5, true)), (.prim (.fadd 1)), [(.v 2)]⟩, ⟨none, (.some (5, true)), (.prim .load1), [(.t 6)]⟩, ⟨none, (.some (5, true)), (.prim .mv), [(.v 9)]⟩, ⟨none, (.some (5, true)), (.prim (.iaS 1)), [(.t 7), (.t 8)]⟩, ⟨none, (.some (5, true)), (.prim .load1), [(.t 9)]⟩, ⟨none, (.some (5, true)), (.prim .mv), [(.v 7)]⟩, ⟨none, (.some (5, true)), .call, [(.c (.fn (.func 45) [])), (.t 10), (.t 11)]⟩, ⟨none, (.some (5, true)), (.prim .not), [(.t 12)]⟩, ⟨none, (.some (1, false)), (.prim .pick), [(.t 5), (.t 13), (.c (.cv (.bool false)))]⟩, ⟨none, none, (.prim .pick), [(.t 1), (.c (.cv (.bool true))), (.t 14)]⟩, ⟨(.some 8), none, (.prim .mv), [(.t 15)]⟩]))
 (.region [⟨none, none, (.prim .mv), [(.v 9)]⟩, ⟨none, none, (.prim (.bin .add .int)), [(.t 0), (.c (.cv (.int .i64 1)))]⟩, ⟨(.some 9), none, (.prim .mv), [(.t 1)]⟩])))
def ic43l1 : IC := (.seq (.seq (.region [⟨none, none, (.prim .mv), [(.v 7)]⟩, ⟨none, none, (.prim (.fadd 0)), [(.v 2)]⟩, ⟨none, none, (.prim .load1), [(.t 1)]⟩, ⟨none, none, (.prim (.len false)), [(.t 2)]⟩, ⟨(.some 12), none, (.prim (.bin .lss .int)), [(.t 0), (.t 3)]⟩])
 (.cond 12 .skip
 (.exit 2)))
 (.seq (.block 3 (.seq (.region [⟨(.some 8), none, (.prim .mv), [(.c (.cv (.bool false)))]⟩])
 (.seq (.seq (.region [⟨(.some 9), none, (.prim .mv), [(.c (.cv (.int .i64 0)))]⟩])
 (.block 4 (.loop ic43l0)))
 (.seq (.region [⟨(.some 14), none, (.prim .mv), [(.v 8)]⟩])
 (.cond 14 (.region [⟨none, none, (.prim .mv), [(.v 5)]⟩, ⟨none, none, (.prim (.fadd 0)), [(.v 2)]⟩, ⟨none, none, (.prim .load1), [(.t 1)]⟩, ⟨none, none, (.prim .mv), [(.v 7)]⟩, ⟨none, none, (.prim (.iaS 1)), [(.t 2), (.t 3)]⟩, ⟨none, none, (.prim .load1), [(.t 4)]⟩, ⟨none, none, (.prim (.bin .add .int)), [(.t 0), (.t 5)]⟩, ⟨(.some 5), none, (.prim .mv), [(.t 6)]⟩])
 .skip)))))
 (.region [⟨none, none, (.prim .mv), [(.v 7)]⟩, ⟨none, none, (.prim (.bin .add .int)), [(.t 0), (.c (.cv (.int .i64 1)))]⟩, ⟨(.some 7), none, (.prim .mv), [(.t 1)]⟩])))
def ic43l2 : IC := (.seq (.seq (.region [⟨none, none, (.prim .mv), [(.v 6)]⟩, ⟨none, none, (.prim (.fadd 1)), [(.v 2)]⟩, ⟨none, none, (.prim .load1), [(.t 1)]⟩, ⟨none, none, (.prim (.len false)), [(.t 2)]⟩, ⟨(.some 10), none, (.prim (.bin .lss .int)), [(.t 0), (.t 3)]⟩])
 (.cond 10 .skip
 (.exit 0)))
 (.seq (.block 1 (.seq (.region [⟨none, none, (.prim .mv), [(.v 1)]⟩, ⟨none, none, (.prim .mv), [(.v 6)]⟩, ⟨(.some 11), none, .call, [(.c (.fn (.func 45) [])), (.t 0), (.t 1)]⟩])
 (.cond 11 (.region [⟨none, none, (.prim .mv), [(.v 4)]⟩, ⟨none, none, (.prim (.bin .add .int)), [(.t 0), (.c (.cv (.int .i64 1)))]⟩, ⟨(.some 4), none, (.prim .mv), [(.t 1)]⟩])
 .skip)))
 (.region [⟨none, none, (.prim .mv), [(.v 6)]⟩, ⟨none, none, (.prim (.bin .add .int)), [(.t 0), (.c (.cv (.int .i64 1)))]⟩, ⟨(.some 6), none, (.prim .mv), [(.t 1)]⟩])))
def ic43 : IC := (.seq (.region [⟨(.some 2), none, (.prim .box), [(.v 0)]⟩, ⟨(.some 3), none, (.prim .mv), [(.c (.cv (.bool false)))]⟩])
 (.seq (.region [⟨(.some 4), none, (.prim .mv), [(.c (.cv (.int .i64 0)))]⟩, ⟨(.some 5), none, (.prim .mv), [(.c (.cv (.int .i64 0)))]⟩])
 (.seq (.seq (.region [⟨(.some 6), none, (.prim .mv), [(.c (.cv (.int .i64 0)))]⟩])
 (.block 0 (.loop ic43l2)))
 (.seq (.seq (.region [⟨(.some 7), none, (.prim .mv), [(.c (.cv (.int .i64 0)))]⟩])
 (.block 2 (.loop ic43l1)))
 (.seq (.region [⟨none, none, (.prim .mv), [(.v 5)]⟩, ⟨none, none, (.prim .mv), [(.v 4)]⟩, ⟨none, none, (.prim (.bin .lss .int)), [(.t 0), (.t 1)]⟩, ⟨(.some 3), none, (.prim .mv), [(.t 2)]⟩])
 .ret)))))
theorem cc43 : compC Try.prog vs43 Try.f43.ntmps (Try.f43.body.getD .skip) = some ic43 := by kernel_rfl
abbrev rs43 : List RC := [(.v 3)]
theorem fok43 (p : Bool) : FnOk Try.prog 43 ⟨ic43, vs43, 64, rs43, p⟩ := FnOk.mk' Try.func43 hb43 (by kernel_rfl) cc43 (by kernel_rfl) (by kernel_rfl)

theorem hb44 : Try.f44.body = some (Try.f44.body.getD .skip) := by kernel_rfl
abbrev vs44 : List Nat := [0, 2, 3, 4, 7]
def ic44l0 : IC := (.seq (.seq (.region [⟨none, none, (.prim .mv), [(.v 3)]⟩, ⟨none, none, (.prim .mv), [(.v 0)]⟩, ⟨(.some 4), none, (.prim (.bin .lss .int)), [(.t 0), (.t 1)]⟩])
 (.cond 4 .skip
 (.exit 0)))
 (.seq (.block 1 (.region [⟨none, none, (.prim .mv), [(.v 2)]⟩, ⟨none, none, (.prim (.bin .mul .int)), [(.c (.cv (.int .i64 2))), (.t 0)]⟩, ⟨(.some 2), none, (.prim .mv), [(.t 1)]⟩]))
 (.region [⟨none, none, (.prim .mv), [(.v 3)]⟩, ⟨none, none, (.prim (.bin .add .int)), [(.t 0), (.c (.cv (.int .i64 1)))]⟩, ⟨(.some 3), none, (.prim .mv), [(.t 1)]⟩])))
def ic44 : IC := (.seq (.region [⟨(.some 1), none, (.prim .mv), [(.c (.cv (.int .i64 0)))]⟩])
 (.seq (.region [⟨(.some 2), none, (.prim .mv), [(.c (.cv (.int .i64 1)))]⟩])
 (.seq (.seq (.region [⟨(.some 3), none, (.prim .mv), [(.c (.cv (.int .i64 0)))]⟩])
 (.block 0 (.loop ic44l0)))
 (.seq (.region [⟨none, none, (.prim .mv), [(.v 2)]⟩, ⟨(.some 1), none, (.prim .mv), [(.t 0)]⟩])
 .ret))))
theorem cc44 : compC Try.prog vs44 Try.f44.ntmps (Try.f44.body.getD .skip) = some ic44 := by kernel_rfl
abbrev rs44 : List RC := [(.v 1)]
theorem fok44 (p : Bool) : FnOk Try.prog 44 ⟨ic44, vs44, 13, rs44, p⟩ := FnOk.mk' Try.func44 hb44 (by kernel_rfl) cc44 (by kernel_rfl) (by kernel_rfl)

theorem hb45 : Try.f45.body = some (Try.f45.body.getD .skip) := by kernel_rfl
abbrev vs45 : List Nat := [0, 1, 4]
def ic45 : IC := (.seq (.region [⟨(.some 2), none, (.prim .mv), [(.c (.cv (.bool false)))]⟩])
 (.seq (.region [⟨none, none, (.prim .mv), [(.v 0)]⟩, ⟨none, none, (.prim .mv), [(.v 1)]⟩, ⟨none, none, .call, [(.c (.fn (.func 44) [])), (.t 1)]⟩, ⟨none, none, (.prim (.bin .quo .int)), [(.t 0), (.t 2)]⟩, ⟨none, none, (.prim (.bin .rem .int)), [(.t 3), (.c (.cv (.int .i64 2)))]⟩, ⟨none, none, (.prim (.bin .eql .int)), [(.t 4), (.c (.cv (.int .i64 1)))]⟩, ⟨(.some 2), none, (.prim .mv), [(.t 5)]⟩])
 .ret))
theorem cc45 : compC Try.prog vs45 Try.f45.ntmps (Try.f45.body.getD .skip) = some ic45 := by kernel_rfl
abbrev rs45 : List RC := [(.v 2)]
theorem fok45 (p : Bool) : FnOk Try.prog 45 ⟨ic45, vs45, 11, rs45, p⟩ := FnOk.mk' Try.func45 hb45 (by kernel_rfl) cc45 (by kernel_rfl) (by kernel_rfl)

theorem hb46 : Try.f46.body = some (Try.f46.body.getD .skip) := by kernel_rfl
abbrev vs46 : List Nat := [0, 1, 4, 7]
def ic46 : IC := (.seq (.region [⟨(.some 2), none, (.prim .mv), [(.c (.cv (.int .i64 0)))]⟩])
 (.seq (.seq (.region [⟨none, none, (.prim .mv), [(.v 0)]⟩, ⟨none, none, (.prim (.len false)), [(.t 0)]⟩, ⟨(.some 3), none, (.prim (.bin .eql .int)), [(.t 1), (.c (.cv (.int .i64 0)))]⟩])
 (.cond 3 (.seq (.region [⟨(.some 2), none, (.prim .mv), [(.c (.cv (.int .i64 0)))]⟩])
 .ret)
 .skip))
 (.seq (.region [⟨none, none, (.prim .mv), [(.v 0)]⟩, ⟨none, none, (.prim .mv), [(.v 1)]⟩, ⟨none, none, (.prim .mv), [(.v 0)]⟩, ⟨none, none, (.prim (.len false)), [(.t 2)]⟩, ⟨none, none, (.prim (.bin .rem .int)), [(.t 1), (.t 3)]⟩, ⟨none, none, (.prim (.iaS 1)), [(.t 0), (.t 4)]⟩, ⟨none, none, (.prim .load1), [(.t 5)]⟩, ⟨none, none, (.prim (.conv .i64)), [(.t 6)]⟩, ⟨(.some 2), none, (.prim .mv), [(.t 7)]⟩])
 .ret)))
theorem cc46 : compC Try.prog vs46 Try.f46.ntmps (Try.f46.body.getD .skip) = some ic46 := by kernel_rfl
abbrev rs46 : List RC := [(.v 2)]
theorem fok46 (p : Bool) : FnOk Try.prog 46 ⟨ic46, vs46, 16, rs46, p⟩ := FnOk.mk' Try.func46 hb46 (by kernel_rfl) cc46 (by kernel_rfl) (by kernel_rfl)

theorem hb47 : Try.f47.body = some (Try.f47.body.getD .skip) := by kernel_rfl
abbrev vs47 : List Nat := [0, 1, 2, 3, 4, 6]
def ic47 : IC := (.seq (.region [⟨(.some 3), none, (.prim .box), [(.v 0)]⟩, ⟨(.some 4), none, (.prim .box), [(.v 1)]⟩, ⟨(.some 5), none, (.prim .mv), [(.c (.cv (.bool false)))]⟩])
 (.seq (.region [⟨none, none, (.prim .mv), [(.v 2)]⟩, ⟨none, none, (.prim (.mkfn (.func 73))), [(.v 3), (.v 4)]⟩, ⟨none, none, .call, [(.c (.fn (.func 72) [])), (.t 0), (.t 1)]⟩, ⟨(.some 5), none, (.prim .mv), [(.t 2)]⟩])
 .ret))
theorem cc47 : compC Try.prog vs47 Try.f47.ntmps (Try.f47.body.getD .skip) = some ic47 := by kernel_rfl
abbrev rs47 : List RC := [(.v 5)]
theorem fok47 (p : Bool) : FnOk Try.prog 47 ⟨ic47, vs47, 10, rs47, p⟩ := FnOk.mk' Try.func47 hb47 (by kernel_rfl) cc47 (by kernel_rfl) (by kernel_rfl)

theorem hb48 : Try.f48.body = some (Try.f48.body.getD .skip) := by kernel_rfl
abbrev vs48 : List Nat := [0, 1, 2, 6]
def ic48 : IC := (.seq (.region [⟨(.some 3), none, (.prim .mv), [(.c (.cv (.bool false)))]⟩])
 (.seq (.region [⟨none, none, (.prim .mv), [(.v 0)]⟩, ⟨none, none, (.prim .mv), [(.v 1)]⟩, ⟨none, none, (.prim (.bin .geq .int)), [(.t 0), (.t 1)]⟩, ⟨none, none, (.prim .mv), [(.t 2)]⟩, ⟨none, (.some (3, true)), (.prim .mv), [(.v 0)]⟩, ⟨none, (.some (3, true)), (.prim .mv), [(.v 2)]⟩, ⟨none, (.some (3, true)), (.prim (.bin .leq .int)), [(.t 4), (.t 5)]⟩, ⟨none, none, (.prim .pick), [(.t 3), (.t 6), (.c (.cv (.bool false)))]⟩, ⟨(.some 3), none, (.prim .mv), [(.t 7)]⟩])
 .ret))
theorem cc48 : compC Try.prog vs48 Try.f48.ntmps (Try.f48.body.getD .skip) = some ic48 := by kernel_rfl
abbrev rs48 : List RC := [(.v 3)]
theorem fok48 (p : Bool) : FnOk Try.prog 48 ⟨ic48, vs48, 15, rs48, p⟩ := FnOk.mk' Try.func48 hb48 (by kernel_rfl) cc48 (by kernel_rfl) (by kernel_rfl)

theorem hb49 : Try.f49.body = some (Try.f49.body.getD .skip) := by kernel_rfl
abbrev vs49 : List Nat := [0, 1, 4, 5, 6, 14]
def ic49l0 : IC := (.seq (.seq (.region [⟨none, none, (.prim .mv), [(.v 4)]⟩, ⟨(.some 5), none, (.prim (.bin .lss .int)), [(.t 0), (.c (.cv (.int .i64 2)))]⟩])
 (.cond 5 .skip
 (.exit 0)))
 (.seq (.block 1 (.region [⟨none, none, (.prim .mv), [(.v 3)]⟩, ⟨none, none, (.prim .mv), [(.v 3)]⟩, ⟨none, none, (.prim (.bin .mul .int)), [(.t 0), (.t 1)]⟩, ⟨none, none, (.prim (.bin .add .int)), [(.t 2), (.c (.cv (.int .i64 12345)))]⟩, ⟨none, none, (.prim (.bin .rem .int)), [(.t 3), (.c (.cv (.int .i64 2147483647)))]⟩, ⟨(.some 3), none, (.prim .mv), [(.t 4)]⟩]))
 (.region [⟨none, none, (.prim .mv), [(.v 4)]⟩, ⟨none, none, (.prim (.bin .add .int)), [(.t 0), (.c (.cv (.int .i64 1)))]⟩, ⟨(.some 4), none, (.prim .mv), [(.t 1)]⟩])))
def ic49 : IC := (.seq (.region [⟨(.some 2), none, (.prim .mv), [(.c (.cv (.int .i64 0)))]⟩])
 (.seq (.region [⟨none, none, (.prim .mv), [(.v 1)]⟩, ⟨none, none, (.prim (.bin .add .int)), [(.t 0), (.c (.cv (.int .i64 1)))]⟩, ⟨none, none, (.prim .mv), [(.v 0)]⟩, ⟨none, none, (.prim (.bin .mul .int)), [(.c (.cv (.int .i64 7))), (.t 2)]⟩, ⟨none, none, (.prim (.bin .add .int)), [(.t 1), (.t 3)]⟩, ⟨none, none, (.prim (.bin .rem .int)), [(.t 4), (.c (.cv (.int .i64 2147483647)))]⟩, ⟨(.some 3), none, (.prim .mv), [(.t 5)]⟩])
 (.seq (.seq (.region [⟨(.some 4), none, (.prim .mv), [(.c (.cv (.int .i64 0)))]⟩])
 (.block 0 (.loop ic49l0)))
 (.seq (.region [⟨none, none, (.prim .mv), [(.v 3)]⟩, ⟨(.some 2), none, (.prim .mv), [(.t 0)]⟩])
 .ret))))
theorem cc49 : compC Try.prog vs49 Try.f49.ntmps (Try.f49.body.getD .skip) = some ic49 := by kernel_rfl
abbrev rs49 : List RC := [(.v 2)]
theorem fok49 (p : Bool) : FnOk Try.prog 49 ⟨ic49, vs49, 23, rs49, p⟩ := FnOk.mk' Try.func49 hb49 (by kernel_rfl) cc49 (by kernel_rfl) (by kernel_rfl)

theorem hb50 : Try.f50.body = some (Try.f50.body.getD .skip) := by kernel_rfl
abbrev vs50 : List Nat := [0, 2, 3, 8]
def ic50 : IC := (.seq (.region [⟨(.some 1), none, (.prim .mv), [(.c (.cv (.int .i64 0)))]⟩])
 (.seq (.block 0 (.seq (.region [⟨none, none, (.prim .mv), [(.v 0)]⟩, ⟨none, none, (.prim (.len false)), [(.t 0)]⟩, ⟨none, none, (.prim (.bslice 1 1 [(.cv (.int .i64 0))] [(0, 1)])), [(.t 1)]⟩, ⟨none, none, .call, [(.c (.fn (.func 47) [])), (.c (.cv (.int .i64 1))), (.c (.cv (.int .i64 8))), (.t 2)]⟩, ⟨(.some 2), none, (.prim .mv), [(.t 3)]⟩])
 (.cond 2 (.seq (.region [⟨(.some 1), none, (.prim .mv), [(.c (.cv (.int .i64 3)))]⟩])
 .ret)
 (.seq (.region [⟨none, none, (.prim .mv), [(.v 0)]⟩, ⟨none, none, .call, [(.c (.fn (.func 47) [])), (.c (.cv (.int .i64 0))), (.c (.cv (.int .i64 1000000000))), (.t 0)]⟩, ⟨(.some 3), none, (.prim .mv), [(.t 1)]⟩])
 (.cond 3 (.seq (.region [⟨(.some 1), none, (.prim .mv), [(.c (.cv (.int .i64 7)))]⟩])
 .ret)
 .skip)))))
 (.seq (.region [⟨(.some 1), none, (.prim .mv), [(.c (.cv (.int .i64 0)))]⟩])
 .ret)))
theorem cc50 : compC Try.prog vs50 Try.f50.ntmps (Try.f50.body.getD .skip) = some ic50 := by kernel_rfl
abbrev rs50 : List RC := [(.v 1)]
theorem fok50 (p : Bool) : FnOk Try.prog 50 ⟨ic50, vs50, 11, rs50, p⟩ := FnOk.mk' Try.func50 hb50 (by kernel_rfl) cc50 (by kernel_rfl) (by kernel_rfl)

theorem hb51 : Try.f51.body = some (Try.f51.body.getD .skip) := by kernel_rfl
abbrev vs51 : List Nat := [0, 1, 4, 5, 6, 17, 25, 33]
def ic51l0 : IC := (.seq (.seq (.region [⟨none, none, (.prim .mv), [(.v 4)]⟩, ⟨none, none, (.prim .mv), [(.v 0)]⟩, ⟨none, none, (.prim (.len false)), [(.t 1)]⟩, ⟨none, none, (.prim (.bin .lss .int)), [(.t 0), (.t 2)]⟩, ⟨none, none, (.prim .mv), [(.t 3)]⟩, ⟨none, (.some (4, true)), (.prim .mv), [(.v 3)]⟩, ⟨none, (.some (4, true)), (.prim (.bin .eql .int)), [(.t 5), (.c (.cv (.int .i64 0)))]⟩, ⟨(.some 6), none, (.prim .pick), [(.t 4), (.t 6), (.c (.cv (.bool false)))]⟩])
 (.cond 6 .skip
 (.exit 0)))
 (.seq (.block 1 (.seq (.region [⟨none, none, (.prim .mv), [(.v 0)]⟩, ⟨none, none, (.prim .mv), [(.v 4)]⟩, ⟨none, none, (.prim (.iaS 1)), [(.t 0), (.t 1)]⟩, ⟨none, none, (.prim .load1), [(.t 2)]⟩, ⟨none, none, .call, [(.c (.fn (.func 48) [])), (.t 3), (.c (.cv (.int .i64 0))), (.c (.cv (.int .i64 2147483646)))]⟩, ⟨(.some 7), none, (.prim .not), [(.t 4)]⟩])
 (.cond 7 (.region [⟨(.some 3), none, (.prim .mv), [(.c (.cv (.int .i64 7)))]⟩])
 .skip)))
 (.region [⟨none, none, (.prim .mv), [(.v 4)]⟩, ⟨none, none, (.prim (.bin .add .int)), [(.t 0), (.c (.cv (.int .i64 1)))]⟩, ⟨(.some 4), none, (.prim .mv), [(.t 1)]⟩])))
def ic51 : IC := (.seq (.region [⟨(.some 2), none, (.prim .mv), [(.c (.cv (.int .i64 0)))]⟩])
 (.seq (.region [⟨none, none, (.prim .mv), [(.v 1)]⟩, ⟨none, none, .call, [(.c (.fn (.func 41) [])), (.t 0)]⟩, ⟨(.some 3), none, (.prim .mv), [(.t 1)]⟩])
 (.seq (.seq (.region [⟨none, none, (.prim .mv), [(.v 3)]⟩, ⟨none, none, (.prim (.bin .eql .int)), [(.t 0), (.c (.cv (.int .i64 0)))]⟩, ⟨none, none, (.prim .mv), [(.t 1)]⟩, ⟨none, (.some (2, true)), (.prim .mv), [(.v 0)]⟩, ⟨none, (.some (2, true)), (.prim (.len false)), [(.t 3)]⟩, ⟨none, (.some (2, true)), (.prim .mv), [(.v 1)]⟩, ⟨none, (.some (2, true)), (.prim (.len false)), [(.t 5)]⟩, ⟨none, (.some (2, true)), (.prim (.bin .neq .int)), [(.t 4), (.t 6)]⟩, ⟨(.some 5), none, (.prim .pick), [(.t 2), (.t 7), (.c (.cv (.bool false)))]⟩])
 (.cond 5 (.region [⟨(.some 3), none, (.prim .mv), [(.c (.cv (.int .i64 3)))]⟩])
 .skip))
 (.seq (.seq (.region [⟨(.some 4), none, (.prim .mv), [(.c (.cv (.int .i64 0)))]⟩])
 (.block 0 (.loop ic51l0)))
 (.seq (.region [⟨none, none, (.prim .mv), [(.v 3)]⟩, ⟨(.some 2), none, (.prim .mv), [(.t 0)]⟩])
 .ret)))))
theorem cc51 : compC Try.prog vs51 Try.f51.ntmps (Try.f51.body.getD .skip) = some ic51 := by kernel_rfl
abbrev rs51 : List RC := [(.v 2)]
theorem fok51 (p : Bool) : FnOk Try.prog 51 ⟨ic51, vs51, 35, rs51, p⟩ := FnOk.mk' Try.func51 hb51 (by kernel_rfl) cc51 (by kernel_rfl) (by kernel_rfl)

theorem hb52 : Try.f52.body = some (Try.f52.body.getD .skip) := by kernel_rfl
abbrev vs52 : List Nat := [0, 1, 4, 5, 6, 10, 23]
def ic52l0 : IC := (.seq (.seq (.region [⟨none, none, (.prim .mv), [(.v 4)]⟩, ⟨none, none, (.prim .mv), [(.v 1)]⟩, ⟨none, none, (.prim (.len false)), [(.t 1)]⟩, ⟨(.some 5), none, (.prim (.bin .lss .int)), [(.t 0), (.t 2)]⟩])
 (.cond 5 .skip
 (.exit 0)))
 (.seq (.block 1 (.seq (.dr [[], [], [], [1, 2], [3], [0, 4], [], [], [6, 7], [8], [5, 9]] [⟨none, none, (.prim .mv), [(.v 4)]⟩, ⟨none, none, (.prim .mv), [(.v 1)]⟩, ⟨none, none, (.prim .mv), [(.v 4)]⟩, ⟨none, none, (.prim (.iaS 1)), [(.t 1), (.t 2)]⟩, ⟨none, none, (.prim .load1), [(.t 3)]⟩, ⟨none, none, .call, [(.c (.fn (.func 49) [])), (.t 0), (.t 4)]⟩, ⟨none, none, (.prim .mv), [(.v 0)]⟩, ⟨none, none, (.prim .mv), [(.v 4)]⟩, ⟨none, none, (.prim (.iaS 1)), [(.t 6), (.t 7)]⟩, ⟨none, none, (.prim .load1), [(.t 8)]⟩, ⟨(.some 6), none, (.prim (.bin .neq .int)), [(.t 5), (.t 9)]⟩])
 (.cond 6 (.region [⟨none, none, (.prim .mv), [(.v 3)]⟩, ⟨none, none, (.prim .mv), [(.v 4)]⟩, ⟨none, none, (.prim (.bslice 1 1 [(.cv (.int .i64 0))] [(0, 1)])), [(.t 1)]⟩, ⟨none, none, (.prim (.append 1 8)), [(.t 0), (.t 2)]⟩, ⟨(.some 3), none, (.prim .mv), [(.t 3)]⟩])
 .skip)))
 (.region [⟨none, none, (.prim .mv), [(.v 4)]⟩, ⟨none, none, (.prim (.bin .add .int)), [(.t 0), (.c (.cv (.int .i64 1)))]⟩, ⟨(.some 4), none, (.prim .mv), [(.t 1)]⟩])))
def ic52 : IC := (.seq (.region [⟨(.some 2), none, (.prim .mv), [(.c (.cv .nils))]⟩])
 (.seq (.region [⟨(.some 3), none, (.prim .mv), [(.c (.cv .nils))]⟩])
 (.seq (.seq (.region [⟨(.some 4), none, (.prim .mv), [(.c (.cv (.int .i64 0)))]⟩])
 (.block 0 (.loop ic52l0)))
 (.seq (.region [⟨none, none, (.prim .mv), [(.v 3)]⟩, ⟨(.some 2), none, (.prim .mv), [(.t 0)]⟩])
 .ret))))
theorem cc52 : compC Try.prog vs52 Try.f52.ntmps (Try.f52.body.getD .skip) = some ic52 := by kernel_rfl
abbrev rs52 : List RC := [(.v 2)]
theorem fok52 (p : Bool) : FnOk Try.prog 52 ⟨ic52, vs52, 29, rs52, p⟩ := FnOk.mk' Try.func52 hb52 (by kernel_rfl) cc52 (by kernel_rfl) (by kernel_rfl)

theorem hb53 : Try.f53.body = some (Try.f53.body.getD .skip) := by kernel_rfl
abbrev vs53 : List Nat := [0, 1, 2, 3, 6]
def ic53 : IC := (.seq (.region [⟨(.some 1), none, (.prim .box), [(.v 0)]⟩, ⟨(.some 2), none, (.prim .mv), [(.c (.cv .nilp))]⟩, ⟨(.some 3), none, (.prim .mv), [(.c (.cv (.int .i64 0)))]⟩])
 (.seq (.region [⟨none, none, (.prim (.loadN 2)), [(.v 1)]⟩, ⟨none, none, .call, [(.c (.fn (.func 24) [])), (.t 0)]⟩, ⟨none, none, (.prim .mv), [(.t 1)]⟩, ⟨none, none, (.prim (.extract 0)), [(.t 2)]⟩, ⟨none, none, (.prim (.extract 1)), [(.t 2)]⟩, ⟨none, none, (.prim (.extract 2)), [(.t 2)]⟩, ⟨none, none, (.prim .mv), [(.t 3)]⟩, ⟨none, none, (.prim .mv), [(.t 4)]⟩, ⟨(.some 4), none, (.prim .mv), [(.t 5)]⟩])
 (.seq (.region [⟨none, none, (.prim (.loadN 2)), [(.v 1)]⟩, ⟨none, none, (.prim .mkmap), []⟩, ⟨none, none, (.prim (.build [(.cv .nils), (.cv .nils), (.cv .nilm)] [(0, 2), (2, 1)])), [(.t 0), (.t 1)]⟩, ⟨none, none, (.prim .box), [(.t 2)]⟩, ⟨none, none, (.prim .mv), [(.v 4)]⟩, ⟨(.some 2), none, (.prim .mv), [(.t 3)]⟩, ⟨(.some 3), none, (.prim .mv), [(.t 4)]⟩])
 .ret)))
theorem cc53 : compC Try.prog vs53 Try.f53.ntmps (Try.f53.body.getD .skip) = some ic53 := by kernel_rfl
abbrev rs53 : List RC := [(.v 2), (.v 3)]
theorem fok53 (p : Bool) : FnOk Try.prog 53 ⟨ic53, vs53, 18, rs53, p⟩ := FnOk.mk' Try.func53 hb53 (by kernel_rfl) cc53 (by kernel_rfl) (by kernel_rfl)

theorem hb54 : Try.f54.body = some (Try.f54.body.getD .skip) := by kernel_rfl
abbrev vs54 : List Nat := [0, 1, 2, 3, 4, 5]
def ic54 : IC := (.seq (.region [⟨(.some 2), none, (.prim .box), [(.v 0)]⟩, ⟨(.some 3), none, (.prim .box), [(.v 1)]⟩, ⟨(.some 4), none, (.prim .mv), [(.c (.cv (.int .i64 0)))]⟩])
 (.seq (.region [⟨(.some 5), none, (.prim (.alloc [(.cv .nilf)])), []⟩])
 (.seq (.region [⟨none, none, (.prim (.mkfn (.func 74))), [(.v 2), (.v 5)]⟩, ⟨none, none, (.prim (.store 1)), [(.v 5), (.t 0)]⟩])
 (.seq (.region [⟨none, none, (.prim .load1), [(.v 5)]⟩, ⟨none, none, (.prim (.loadN 7)), [(.v 3)]⟩, ⟨none, none, .call, [(.t 0), (.t 1)]⟩, ⟨(.some 4), none, (.prim .mv), [(.t 2)]⟩])
 .ret))))
theorem cc54 : compC Try.prog vs54 Try.f54.ntmps (Try.f54.body.getD .skip) = some ic54 := by kernel_rfl
abbrev rs54 : List RC := [(.v 4)]
theorem fok54 (p : Bool) : FnOk Try.prog 54 ⟨ic54, vs54, 10, rs54, p⟩ := FnOk.mk' Try.func54 hb54 (by kernel_rfl) cc54 (by kernel_rfl) (by kernel_rfl)

theorem hb55 : Try.f55.body = some (Try.f55.body.getD .skip) := by kernel_rfl
abbrev vs55 : List Nat := [0, 2]
def ic55 : IC := (.seq (.region [⟨(.some 1), none, (.prim (.alloc [(.cv (.int .i64 0)), (.cv (.int .i64 0)), (.cv (.int .i64 0)), (.cv (.int .i64 0)), (.cv (.int .i64 0)), (.cv (.int .i64 0)), (.cv (.int .i64 0))])), []⟩])
 (.seq (.dr [[], [0], [], [2], [3], [4], [5], [1, 6]] [⟨none, none, (.prim (.fadd 1)), [(.v 1)]⟩, ⟨none, none, (.prim (.slA 6 1 false false)), [(.t 0)]⟩, ⟨none, none, (.prim .mv), [(.v 0)]⟩, ⟨none, none, (.prim .nilck), [(.t 2)]⟩, ⟨none, none, (.prim (.fadd 0)), [(.t 3)]⟩, ⟨none, none, (.prim (.fadd 0)), [(.t 4)]⟩, ⟨none, none, (.prim .load1), [(.t 5)]⟩, ⟨none, none, (.prim (.copy 1)), [(.t 1), (.t 6)]⟩])
 (.seq (.region [⟨none, none, (.prim (.loadN 7)), [(.v 1)]⟩, ⟨none, none, (.prim (.store 7)), [(.v 1), (.t 0)]⟩])
 .ret)))
theorem cc55 : compC Try.prog vs55 Try.f55.ntmps (Try.f55.body.getD .skip) = some ic55 := by kernel_rfl
abbrev rs55 : List RC := [(.lN 1 7)]
theorem fok55 (p : Bool) : FnOk Try.prog 55 ⟨ic55, vs55, 12, rs55, p⟩ := FnOk.mk' Try.func55 hb55 (by kernel_rfl) cc55 (by kernel_rfl) (by kernel_rfl)

theorem hb56 : Try.f56.body = some (Try.f56.body.getD .skip) := by kernel_rfl
abbrev vs56 : List Nat := [0, 1, 2, 3, 4, 8, 9, 10, 11, 12, 17, 21, 38, 49, 66]
def ic56l0 : IC := (.seq (.seq (.region [⟨none, none, (.prim .mv), [(.v 9)]⟩, ⟨none, none, (.prim .mv), [(.v 3)]⟩, ⟨none, none, (.prim (.len false)), [(.t 1)]⟩, ⟨(.some 13), none, (.prim (.bin .lss .int)), [(.t 0), (.t 2)]⟩])
 (.cond 13 .skip
 (.exit 2)))
 (.seq (.block 3 (.seq (.region [⟨none, none, (.prim .mv), [(.v 3)]⟩, ⟨none, none, (.prim .mv), [(.v 9)]⟩, ⟨none, none, (.prim (.iaS 1)), [(.t 0), (.t 1)]⟩, ⟨none, none, (.prim .load1), [(.t 2)]⟩, ⟨none, none, (.prim (.bin .gtr .int)), [(.t 3), (.c (.cv (.int .i64 0)))]⟩, ⟨none, none, (.prim .mv), [(.t 4)]⟩, ⟨none, (.some (5, true)), (.prim (.fadd 1)), [(.v 4)]⟩, ⟨none, (.some (5, true)), (.prim .load1), [(.t 6)]⟩, ⟨none, (.some (5, true)), (.prim .mv), [(.v 2)]⟩, ⟨none, (.some (5, true)), (.prim (.iaS 1)), [(.t 7), (.t 8)]⟩, ⟨none, (.some (5, true)), (.prim .load1), [(.t 9)]⟩, ⟨none, (.some (5, true)), (.prim .mv), [(.v 9)]⟩, ⟨none, (.some (5, true)), .call, [(.c (.fn (.func 45) [])), (.t 10), (.t 11)]⟩, ⟨none, (.some (5, true)), (.prim .not), [(.t 12)]⟩, ⟨(.some 14), none, (.prim .pick), [(.t 5), (.t 13), (.c (.cv (.bool false)))]⟩])
 (.cond 14 (.dr [[], [], [], [], [3], [], [], [5, 6], [1, 2, 4, 7, 7], [0, 8], [9, 8, 0, 1, 2, 3, 4, 5, 6, 7, 8, 9]] [⟨none, none, (.prim .mv), [(.v 8)]⟩, ⟨none, none, (.prim (.loadN 2)), [(.v 4)]⟩, ⟨none, none, (.prim .mv), [(.v 1)]⟩, ⟨none, none, (.prim .mv), [(.v 2)]⟩, ⟨none, none, (.prim (.bin .add .int)), [(.t 3), (.c (.cv (.int .i64 1)))]⟩, ⟨none, none, (.prim .mv), [(.v 3)]⟩, ⟨none, none, (.prim .mv), [(.v 9)]⟩, ⟨none, none, .call, [(.c (.fn (.func 61) [])), (.t 5), (.t 6)]⟩, ⟨none, none, .call, [(.c (.fn (.func 56) [])), (.t 1), (.t 2), (.t 4), (.t 7)]⟩, ⟨none, none, (.prim (.bin .add .int)), [(.t 0), (.t 8)]⟩, ⟨(.some 8), none, (.prim .mv), [(.t 9)]⟩])
 .skip)))
 (.region [⟨none, none, (.prim .mv), [(.v 9)]⟩, ⟨none, none, (.prim (.bin .add .int)), [(.t 0), (.c (.cv (.int .i64 1)))]⟩, ⟨(.some 9), none, (.prim .mv), [(.t 1)]⟩])))
def ic56l1 : IC := (.seq (.seq (.region [⟨none, none, (.prim .mv), [(.v 7)]⟩, ⟨none, none, (.prim .mv), [(.v 3)]⟩, ⟨none, none, (.prim (.len false)), [(.t 1)]⟩, ⟨(.some 11), none, (.prim (.bin .lss .int)), [(.t 0), (.t 2)]⟩])
 (.cond 11 .skip
 (.exit 0)))
 (.seq (.block 1 (.region [⟨none, none, (.prim .mv), [(.v 6)]⟩, ⟨none, none, (.prim (.bin .mul .int)), [(.t 0), (.c (.cv (.int .i64 5)))]⟩, ⟨none, none, (.prim .mv), [(.v 3)]⟩, ⟨none, none, (.prim .mv), [(.v 7)]⟩, ⟨none, none, (.prim (.iaS 1)), [(.t 2), (.t 3)]⟩, ⟨none, none, (.prim .load1), [(.t 4)]⟩, ⟨none, none, (.prim (.bin .add .int)), [(.t 1), (.t 5)]⟩, ⟨(.some 6), none, (.prim .mv), [(.t 6)]⟩]))
 (.region [⟨none, none, (.prim .mv), [(.v 7)]⟩, ⟨none, none, (.prim (.bin .add .int)), [(.t 0), (.c (.cv (.int .i64 1)))]⟩, ⟨(.some 7), none, (.prim .mv), [(.t 1)]⟩])))
def ic56 : IC := (.seq (.region [⟨(.some 4), none, (.prim .box), [(.v 0)]⟩, ⟨(.some 5), none, (.prim .mv), [(.c (.cv (.int .i64 0)))]⟩])
 (.seq (.seq (.region [⟨none, none, (.prim .mv), [(.v 2)]⟩, ⟨none, none, (.prim (.fadd 1)), [(.v 4)]⟩, ⟨none, none, (.prim .load1), [(.t 1)]⟩, ⟨none, none, (.prim (.len false)), [(.t 2)]⟩, ⟨(.some 10), none, (.prim (.bin .eql .int)), [(.t 0), (.t 3)]⟩])
 (.cond 10 (.seq (.region [⟨(.some 5), none, (.prim .mv), [(.c (.cv (.int .i64 1)))]⟩])
 .ret)
 .skip))
 (.seq (.region [⟨(.some 6), none, (.prim .mv), [(.c (.cv (.int .i64 0)))]⟩])
 (.seq (.seq (.region [⟨(.some 7), none, (.prim .mv), [(.c (.cv (.int .i64 0)))]⟩])
 (.block 0 (.loop ic56l1)))
 (.seq (.seq (.region [⟨none, none, (.prim .mv), [(.v 1)]⟩, ⟨none, none, (.prim .mv), [(.v 2)]⟩, ⟨none, none, (.prim (.iaS 1)), [(.t 0), (.t 1)]⟩, ⟨none, none, (.prim .load1), [(.t 2)]⟩, ⟨none, none, (.prim .mv), [(.v 6)]⟩, ⟨none, none, (.prim (.iaS 1)), [(.t 3), (.t 4)]⟩, ⟨none, none, (.prim .load1), [(.t 5)]⟩, ⟨(.some 12), none, (.prim (.bin .geq .int)), [(.t 6), (.c (.cv (.int .i64 0)))]⟩])
 (.cond 12 (.seq (.region [⟨none, none, (.prim .mv), [(.v 1)]⟩, ⟨none, none, (.prim .mv), [(.v 2)]⟩, ⟨none, none, (.prim (.iaS 1)), [(.t 0), (.t 1)]⟩, ⟨none, none, (.prim .load1), [(.t 2)]⟩, ⟨none, none, (.prim .mv), [(.v 6)]⟩, ⟨none, none, (.prim (.iaS 1)), [(.t 3), (.t 4)]⟩, ⟨none, none, (.prim .load1), [(.t 5)]⟩, ⟨(.some 5), none, (.prim .mv), [(.t 6)]⟩])
 .ret)
 .skip))
 (.seq (.region [⟨(.some 8), none, (.prim .mv), [(.c (.cv (.int .i64 0)))]⟩])
 (.seq (.seq (.region [⟨(.some 9), none, (.prim .mv), [(.c (.cv (.int .i64 0)))]⟩])
 (.block 2 (.loop ic56l0)))
 (.seq (.region [⟨none, none, (.prim .mv), [(.v 1)]⟩, ⟨none, none, (.prim .mv), [(.v 2)]⟩, ⟨none, none, (.prim (.iaS 1)), [(.t 0), (.t 1)]⟩, ⟨none, none, (.prim .load1), [(.t 2)]⟩, ⟨none, none, (.prim .mv), [(.v 6)]⟩, ⟨none, none, (.prim .mv), [(.v 8)]⟩, ⟨none, none, (.prim (.iaS 1)), [(.t 3), (.t 4)]⟩, ⟨none, none, (.prim (.store 1)), [(.t 6), (.t 5)]⟩])
 (.seq (.region [⟨none, none, (.prim .mv), [(.v 8)]⟩, ⟨(.some 5), none, (.prim .mv), [(.t 0)]⟩])
 .ret)))))))))
theorem cc56 : compC Try.prog vs56 Try.f56.ntmps (Try.f56.body.getD .skip) = some ic56 := by kernel_rfl
abbrev rs56 : List RC := [(.v 5)]
theorem fok56 (p : Bool) : FnOk Try.prog 56 ⟨ic56, vs56, 85, rs56, p⟩ := FnOk.mk' Try.func56 hb56 (by kernel_rfl) cc56 (by kernel_rfl) (by kernel_rfl)

theorem hb57 : Try.f57.body = some (Try.f57.body.getD .skip) := by kernel_rfl
abbrev vs57 : List Nat := [0, 1, 2, 3, 4, 5, 6, 7, 12, 24, 34]
def ic57l0 : IC := (.seq (.seq (.region [⟨none, none, (.prim .mv), [(.v 7)]⟩, ⟨none, none, (.prim .mv), [(.v 3)]⟩, ⟨(.some 10), none, (.prim (.bin .lss .int)), [(.t 0), (.t 1)]⟩])
 (.cond 10 .skip
 (.exit 4)))
 (.seq (.block 5 (.region [⟨none, none, (.prim .mv), [(.v 5)]⟩, ⟨none, none, (.prim .mv), [(.v 6)]⟩, ⟨none, none, (.prim (.iaS 1)), [(.t 0), (.t 1)]⟩, ⟨none, none, (.prim .load1), [(.t 2)]⟩, ⟨none, none, (.prim .mv), [(.v 7)]⟩, ⟨none, none, (.prim (.iaS 1)), [(.t 3), (.t 4)]⟩, ⟨none, none, (.prim (.store 1)), [(.t 5), (.c (.cv (.int .i64 (-1))))]⟩]))
 (.region [⟨none, none, (.prim .mv), [(.v 7)]⟩, ⟨none, none, (.prim (.bin .add .int)), [(.t 0), (.c (.cv (.int .i64 1)))]⟩, ⟨(.some 7), none, (.prim .mv), [(.t 1)]⟩])))
def ic57l1 : IC := (.seq (.seq (.region [⟨none, none, (.prim .mv), [(.v 6)]⟩, ⟨none, none, (.prim .mv), [(.v 5)]⟩, ⟨none, none, (.prim (.len false)), [(.t 1)]⟩, ⟨(.some 9), none, (.prim (.bin .lss .int)), [(.t 0), (.t 2)]⟩])
 (.cond 9 .skip
 (.exit 2)))
 (.seq (.block 3 (.seq (.region [⟨none, none, (.prim .mv), [(.v 5)]⟩, ⟨none, none, (.prim .mv), [(.v 6)]⟩, ⟨none, none, (.prim .mv), [(.v 3)]⟩, ⟨none, none, (.prim (.mkslice 1 8 [(.cv (.int .i64 0))])), [(.t 2), (.t 2)]⟩, ⟨none, none, (.prim (.iaS 1)), [(.t 0), (.t 1)]⟩, ⟨none, none, (.prim (.store 1)), [(.t 4), (.t 3)]⟩])
 (.seq (.region [⟨(.some 7), none, (.prim .mv), [(.c (.cv (.int .i64 0)))]⟩])
 (.block 4 (.loop ic57l0)))))
 (.region [⟨none, none, (.prim .mv), [(.v 6)]⟩, ⟨none, none, (.prim (.bin .add .int)), [(.t 0), (.c (.cv (.int .i64 1)))]⟩, ⟨(.some 6), none, (.prim .mv), [(.t 1)]⟩])))
def ic57l2 : IC := (.seq (.seq (.region [⟨none, none, (.prim .mv), [(.v 4)]⟩, ⟨none, none, (.prim (.fadd 0)), [(.v 1)]⟩, ⟨none, none, (.prim .load1), [(.t 1)]⟩, ⟨none, none, (.prim (.len false)), [(.t 2)]⟩, ⟨(.some 8), none, (.prim (.bin .lss .int)), [(.t 0), (.t 3)]⟩])
 (.cond 8 .skip
 (.exit 0)))
 (.seq (.block 1 (.region [⟨none, none, (.prim .mv), [(.v 3)]⟩, ⟨none, none, (.prim (.bin .mul .int)), [(.t 0), (.c (.cv (.int .i64 5)))]⟩, ⟨(.some 3), none, (.prim .mv), [(.t 1)]⟩]))
 (.region [⟨none, none, (.prim .mv), [(.v 4)]⟩, ⟨none, none, (.prim (.bin .add .int)), [(.t 0), (.c (.cv (.int .i64 1)))]⟩, ⟨(.some 4), none, (.prim .mv), [(.t 1)]⟩])))
def ic57 : IC := (.seq (.region [⟨(.some 1), none, (.prim .box), [(.v 0)]⟩, ⟨(.some 2), none, (.prim .mv), [(.c (.cv .nils))]⟩])
 (.seq (.region [⟨(.some 3), none, (.prim .mv), [(.c (.cv (.int .i64 1)))]⟩])
 (.seq (.seq (.region [⟨(.some 4), none, (.prim .mv), [(.c (.cv (.int .i64 0)))]⟩])
 (.block 0 (.loop ic57l2)))
 (.seq (.region [⟨none, none, (.prim (.fadd 1)), [(.v 1)]⟩, ⟨none, none, (.prim .load1), [(.t 0)]⟩, ⟨none, none, (.prim (.len false)), [(.t 1)]⟩, ⟨none, none, (.prim (.mkslice 1 24 [(.cv .nils)])), [(.t 2), (.t 2)]⟩, ⟨(.some 5), none, (.prim .mv), [(.t 3)]⟩])
 (.seq (.seq (.region [⟨(.some 6), none, (.prim .mv), [(.c (.cv (.int .i64 0)))]⟩])
 (.block 2 (.loop ic57l1)))
 (.seq (.region [⟨none, none, (.prim .mv), [(.v 5)]⟩, ⟨(.some 2), none, (.prim .mv), [(.t 0)]⟩])
 .ret))))))
theorem cc57 : compC Try.prog vs57 Try.f57.ntmps (Try.f57.body.getD .skip) = some ic57 := by kernel_rfl
abbrev rs57 : List RC := [(.v 2)]
theorem fok57 (p : Bool) : FnOk Try.prog 57 ⟨ic57, vs57, 44, rs57, p⟩ := FnOk.mk' Try.func57 hb57 (by kernel_rfl) cc57 (by kernel_rfl) (by kernel_rfl)

theorem hb58 : Try.f58.body = some (Try.f58.body.getD .skip) := by kernel_rfl
abbrev vs58 : List Nat := [0, 1, 2, 3, 4, 5, 6, 7, 8, 16, 17, 18, 21, 22, 23, 29]
def ic58l0 (b58 : Code) : IC := (.seq (.region [⟨(.some 11), none, (.prim (.bin .lss .int)), [(.v 10), (.v 9)]⟩])
 (.seq (.cond 11 .skip
 (.exit 0))
 (.seq (.block 1 (.seq (.region [⟨none, none, (.prim .load1), [(.v 2)]⟩, ⟨none, none, (.prim (.loadN 7)), [(.v 5)]⟩, ⟨(.some 12), none, .call, [(.c (.fn (.func 60) [])), (.t 0), (.t 1)]⟩])
 (.block 2 (.rangef (.v 12) #[22, 23] (nav [1, 0, 1, 1, 0, 1, 0, 0, 1, 1, 0, 0, 1, 0, 2] b58) (nav [1, 0, 1, 1, 0, 1, 0, 0, 1, 1, 0, 0, 1, 0, 3] b58) (.seq (.region [⟨(.some 6), none, (.prim .mv), [(.v 13)]⟩])
 (.region [⟨(.some 7), none, (.prim (.alloc [(.cv (.int .i64 0)), (.cv (.int .i64 0)), (.cv (.int .i64 0)), (.cv (.int .i64 0)), (.cv (.int .i64 0)), (.cv (.int .i64 0)), (.cv (.int .i64 0))])), []⟩, ⟨none, none, (.prim (.store 7)), [(.v 7), (.v 14)]⟩]))
 (.block 3 (.seq (.seq (.region [⟨none, none, (.prim .load1), [(.v 2)]⟩, ⟨none, none, (.prim (.loadN 7)), [(.v 7)]⟩, ⟨none, none, .call, [(.c (.fn (.func 54) [])), (.t 0), (.t 1)]⟩, ⟨(.some 8), none, (.prim .mv), [(.t 2)]⟩])
 (.seq (.region [⟨none, none, (.prim .load1), [(.v 3)]⟩, ⟨none, none, (.prim .mv), [(.v 8)]⟩, ⟨(.some 15), none, (.prim (.bin .geq .int)), [(.t 0), (.t 1)]⟩])
 (.cond 15 (.seq (.region [⟨none, none, (.prim .load1), [(.v 3)]⟩, ⟨none, none, (.prim .mv), [(.v 8)]⟩, ⟨none, none, (.prim (.bin .sub .int)), [(.t 0), (.t 1)]⟩, ⟨none, none, (.prim (.store 1)), [(.v 3), (.t 2)]⟩])
 (.exit 3))
 .skip)))
 (.seq (.dr [[], [], [1], [0, 2], [], [3, 3, 0, 1, 2, 3], [4, 5, 0, 1, 2, 3, 4, 5]] [⟨none, none, (.prim .load1), [(.v 4)]⟩, ⟨none, none, (.prim .mv), [(.v 6)]⟩, ⟨none, none, (.prim (.bslice 1 1 [(.cv (.int .i64 0))] [(0, 1)])), [(.t 1)]⟩, ⟨none, none, (.prim (.append 1 8)), [(.t 0), (.t 2)]⟩, ⟨none, none, (.prim (.loadN 7)), [(.v 7)]⟩, ⟨none, none, (.prim (.store 1)), [(.v 4), (.t 3)]⟩, ⟨none, none, (.prim (.store 7)), [(.v 5), (.t 4)]⟩])
 (.exit 1))))))))
 (.region [⟨none, none, (.prim (.bin .add .int)), [(.v 10), (.c (.cv (.int .i64 1)))]⟩, ⟨(.some 10), none, (.prim .mv), [(.t 0)]⟩]))))
def ic58 (b58 : Code) : IC := (.seq (.region [⟨(.some 2), none, (.prim .box), [(.v 0)]⟩, ⟨(.some 3), none, (.prim .box), [(.v 1)]⟩, ⟨(.some 4), none, (.prim (.alloc [(.cv .nils)])), []⟩])
 (.scope (.seq (.region [⟨none, none, (.prim .load1), [(.v 2)]⟩, ⟨none, none, .call, [(.c (.fn (.func 55) [])), (.t 0)]⟩, ⟨(.some 5), none, (.prim (.alloc [(.cv (.int .i64 0)), (.cv (.int .i64 0)), (.cv (.int .i64 0)), (.cv (.int .i64 0)), (.cv (.int .i64 0)), (.cv (.int .i64 0)), (.cv (.int .i64 0))])), []⟩, ⟨none, none, (.prim (.store 7)), [(.v 5), (.t 1)]⟩])
 (.seq (.label 0)
 (.seq (.seq (.region [⟨none, none, (.prim .load1), [(.v 2)]⟩, ⟨none, none, (.prim .nilck), [(.t 0)]⟩, ⟨none, none, (.prim (.fadd 0)), [(.t 1)]⟩, ⟨none, none, (.prim (.fadd 1)), [(.t 2)]⟩, ⟨none, none, (.prim .load1), [(.t 3)]⟩, ⟨(.some 9), none, (.prim (.len false)), [(.t 4)]⟩, ⟨(.some 10), none, (.prim .mv), [(.c (.cv (.int .i64 0)))]⟩])
 (.block 0 (.loop  (ic58l0 b58))))
 (.seq (.region [⟨none, none, (.prim .load1), [(.v 4)]⟩, ⟨none, none, (.prim (.store 1)), [(.v 4), (.t 0)]⟩])
 .ret))))))
theorem cc58 : compC Try.prog vs58 Try.f58.ntmps (Try.f58.body.getD .skip) = some (ic58 (Try.f58.body.getD .skip)) := by kernel_rfl
abbrev rs58 : List RC := [(.l1 4)]
theorem fok58 (p : Bool) : FnOk Try.prog 58 ⟨ic58 (Try.f58.body.getD .skip), vs58, 40, rs58, p⟩ := FnOk.mk' Try.func58 hb58 (by kernel_rfl) cc58 (by kernel_rfl) (by kernel_rfl)

theorem hb59 : Try.f59.body = some (Try.f59.body.getD .skip) := by kernel_rfl
abbrev vs59 : List Nat := [0, 1, 2, 4, 5, 6, 7, 8, 9, 10, 19, 25, 41, 52]
def ic59l0 : IC := (.seq (.seq (.region [⟨none, none, (.prim .mv), [(.v 8)]⟩, ⟨none, none, (.prim .mv), [(.v 5)]⟩, ⟨none, none, (.prim (.len false)), [(.t 1)]⟩, ⟨(.some 11), none, (.prim (.bin .lss .int)), [(.t 0), (.t 2)]⟩])
 (.cond 11 .skip
 (.exit 2)))
 (.seq (.block 3 (.seq (.seq (.region [⟨none, none, (.prim .mv), [(.v 5)]⟩, ⟨none, none, (.prim .mv), [(.v 8)]⟩, ⟨none, none, (.prim (.iaS 1)), [(.t 0), (.t 1)]⟩, ⟨none, none, (.prim .load1), [(.t 2)]⟩, ⟨none, none, (.prim (.bin .eql .int)), [(.t 3), (.c (.cv (.int .i64 0)))]⟩, ⟨none, none, (.prim .mv), [(.t 4)]⟩, ⟨none, (.some (5, false)), (.prim (.fadd 1)), [(.v 2)]⟩, ⟨none, (.some (5, false)), (.prim .load1), [(.t 6)]⟩, ⟨none, (.some (5, false)), (.prim .mv), [(.v 7)]⟩, ⟨none, (.some (5, false)), (.prim (.iaS 1)), [(.t 7), (.t 8)]⟩, ⟨none, (.some (5, false)), (.prim .load1), [(.t 9)]⟩, ⟨none, (.some (5, false)), (.prim .mv), [(.v 8)]⟩, ⟨none, (.some (5, false)), .call, [(.c (.fn (.func 45) [])), (.t 10), (.t 11)]⟩, ⟨(.some 12), none, (.prim .pick), [(.t 5), (.c (.cv (.bool true))), (.t 12)]⟩])
 (.cond 12 (.exit 3)
 .skip))
 (.seq (.dr [[], [], [], [2], [], [], [4, 5], [0, 1, 3, 6, 6], [7, 7, 0, 1, 2, 3, 4, 5, 6, 7]] [⟨none, none, (.prim (.loadN 2)), [(.v 2)]⟩, ⟨none, none, (.prim .mv), [(.v 4)]⟩, ⟨none, none, (.prim .mv), [(.v 7)]⟩, ⟨none, none, (.prim (.bin .add .int)), [(.t 2), (.c (.cv (.int .i64 1)))]⟩, ⟨none, none, (.prim .mv), [(.v 5)]⟩, ⟨none, none, (.prim .mv), [(.v 8)]⟩, ⟨none, none, .call, [(.c (.fn (.func 61) [])), (.t 4), (.t 5)]⟩, ⟨none, none, .call, [(.c (.fn (.func 56) [])), (.t 0), (.t 1), (.t 3), (.t 6)]⟩, ⟨(.some 9), none, (.prim .mv), [(.t 7)]⟩])
 (.seq (.seq (.region [⟨none, none, (.prim .mv), [(.v 1)]⟩, ⟨none, none, (.prim .mv), [(.v 9)]⟩, ⟨(.some 13), none, (.prim (.bin .lss .int)), [(.t 0), (.t 1)]⟩])
 (.cond 13 (.seq (.region [⟨none, none, (.prim .mv), [(.v 6)]⟩, ⟨none, none, (.prim .mv), [(.v 8)]⟩, ⟨none, none, (.prim (.bslice 1 1 [(.cv (.int .i64 0))] [(0, 1)])), [(.t 1)]⟩, ⟨none, none, (.prim (.append 1 8)), [(.t 0), (.t 2)]⟩, ⟨none, none, (.prim .mv), [(.v 5)]⟩, ⟨none, none, (.prim .mv), [(.v 8)]⟩, ⟨none, none, .call, [(.c (.fn (.func 61) [])), (.t 4), (.t 5)]⟩, ⟨(.some 6), none, (.prim .mv), [(.t 3)]⟩, ⟨(.some 5), none, (.prim .mv), [(.t 6)]⟩])
 (.exit 2))
 .skip))
 (.region [⟨none, none, (.prim .mv), [(.v 1)]⟩, ⟨none, none, (.prim .mv), [(.v 9)]⟩, ⟨none, none, (.prim (.bin .sub .int)), [(.t 0), (.t 1)]⟩, ⟨(.some 1), none, (.prim .mv), [(.t 2)]⟩])))))
 (.region [⟨none, none, (.prim .mv), [(.v 8)]⟩, ⟨none, none, (.prim (.bin .add .int)), [(.t 0), (.c (.cv (.int .i64 1)))]⟩, ⟨(.some 8), none, (.prim .mv), [(.t 1)]⟩])))
def ic59l1 : IC := (.seq (.seq (.region [⟨none, none, (.prim .mv), [(.v 7)]⟩, ⟨none, none, (.prim (.fadd 1)), [(.v 2)]⟩, ⟨none, none, (.prim .load1), [(.t 1)]⟩, ⟨none, none, (.prim (.len false)), [(.t 2)]⟩, ⟨(.some 10), none, (.prim (.bin .lss .int)), [(.t 0), (.t 3)]⟩])
 (.cond 10 .skip
 (.exit 0)))
 (.seq (.block 1 (.seq (.region [⟨(.some 8), none, (.prim .mv), [(.c (.cv (.int .i64 0)))]⟩])
 (.block 2 (.loop ic59l0))))
 (.region [⟨none, none, (.prim .mv), [(.v 7)]⟩, ⟨none, none, (.prim (.bin .add .int)), [(.t 0), (.c (.cv (.int .i64 1)))]⟩, ⟨(.some 7), none, (.prim .mv), [(.t 1)]⟩])))
def ic59 : IC := (.seq (.region [⟨(.some 2), none, (.prim .box), [(.v 0)]⟩, ⟨(.some 3), none, (.prim .mv), [(.c (.cv .nils))]⟩])
 (.seq (.region [⟨none, none, (.prim (.loadN 2)), [(.v 2)]⟩, ⟨none, none, .call, [(.c (.fn (.func 57) [])), (.t 0)]⟩, ⟨(.some 4), none, (.prim .mv), [(.t 1)]⟩])
 (.seq (.region [⟨none, none, (.prim (.fadd 0)), [(.v 2)]⟩, ⟨none, none, (.prim .load1), [(.t 0)]⟩, ⟨(.some 5), none, (.prim .mv), [(.t 1)]⟩])
 (.seq (.region [⟨(.some 6), none, (.prim .mv), [(.c (.cv .nils))]⟩])
 (.seq (.seq (.region [⟨(.some 7), none, (.prim .mv), [(.c (.cv (.int .i64 0)))]⟩])
 (.block 0 (.loop ic59l1)))
 (.seq (.region [⟨none, none, (.prim .mv), [(.v 6)]⟩, ⟨(.some 3), none, (.prim .mv), [(.t 0)]⟩])
 .ret))))))
theorem cc59 : compC Try.prog vs59 Try.f59.ntmps (Try.f59.body.getD .skip) = some ic59 := by kernel_rfl
abbrev rs59 : List RC := [(.v 3)]
theorem fok59 (p : Bool) : FnOk Try.prog 59 ⟨ic59, vs59, 64, rs59, p⟩ := FnOk.mk' Try.func59 hb59 (by kernel_rfl) cc59 (by kernel_rfl) (by kernel_rfl)

theorem hb60 : Try.f60.body = some (Try.f60.body.getD .skip) := by kernel_rfl
abbrev vs60 : List Nat := [0, 1, 2, 3, 4]
def ic60 : IC := (.seq (.region [⟨(.some 2), none, (.prim .box), [(.v 0)]⟩, ⟨(.some 3), none, (.prim .box), [(.v 1)]⟩, ⟨(.some 4), none, (.prim .mv), [(.c (.cv .nilf))]⟩])
 (.seq (.region [⟨none, none, (.prim (.mkfn (.func 75))), [(.v 2), (.v 3)]⟩, ⟨(.some 4), none, (.prim .mv), [(.t 0)]⟩])
 .ret))
theorem cc60 : compC Try.prog vs60 Try.f60.ntmps (Try.f60.body.getD .skip) = some ic60 := by kernel_rfl
abbrev rs60 : List RC := [(.v 4)]
theorem fok60 (p : Bool) : FnOk Try.prog 60 ⟨ic60, vs60, 6, rs60, p⟩ := FnOk.mk' Try.func60 hb60 (by kernel_rfl) cc60 (by kernel_rfl) (by kernel_rfl)

theorem hb61 : Try.f61.body = some (Try.f61.body.getD .skip) := by kernel_rfl
abbrev vs61 : List Nat := [0, 1, 4, 5]
def ic61 : IC := (.seq (.region [⟨(.some 2), none, (.prim .mv), [(.c (.cv .nils))]⟩])
 (.seq (.region [⟨none, none, (.prim (.bslice 1 0 [] [])), []⟩, ⟨none, none, (.prim .mv), [(.v 0)]⟩, ⟨none, none, (.prim (.append 1 8)), [(.t 0), (.t 1)]⟩, ⟨(.some 3), none, (.prim .mv), [(.t 2)]⟩])
 (.seq (.region [⟨none, none, (.prim .mv), [(.v 3)]⟩, ⟨none, none, (.prim .mv), [(.v 1)]⟩, ⟨none, none, (.prim (.iaS 1)), [(.t 0), (.t 1)]⟩, ⟨none, none, (.prim .load1), [(.t 2)]⟩, ⟨none, none, (.prim (.bin .sub .int)), [(.t 3), (.c (.cv (.int .i64 1)))]⟩, ⟨none, none, (.prim (.iaS 1)), [(.t 0), (.t 1)]⟩, ⟨none, none, (.prim (.store 1)), [(.t 5), (.t 4)]⟩])
 (.seq (.region [⟨none, none, (.prim .mv), [(.v 3)]⟩, ⟨(.some 2), none, (.prim .mv), [(.t 0)]⟩])
 .ret))))
theorem cc61 : compC Try.prog vs61 Try.f61.ntmps (Try.f61.body.getD .skip) = some ic61 := by kernel_rfl
abbrev rs61 : List RC := [(.v 2)]
theorem fok61 (p : Bool) : FnOk Try.prog 61 ⟨ic61, vs61, 16, rs61, p⟩ := FnOk.mk' Try.func61 hb61 (by kernel_rfl) cc61 (by kernel_rfl) (by kernel_rfl)

end Go.Proofs.Ytphdemhopihpnaa.AM

namespace Go.Proofs.Ytphdemhopihpnaa.AM
open Go
set_option linter.unusedVariables false

theorem hb62 : Try.f62.body = some (Try.f62.body.getD .skip) := by kernel_rfl
abbrev vs62 : List Nat := [0, 1, 4]
def ic62 : IC := (.seq (.region [⟨none, none, (.prim .mv), [(.v 0)]⟩, ⟨none, none, (.prim (.len false)), [(.t 0)]⟩, ⟨(.some 2), none, (.prim .mv), [(.t 1)]⟩])
 (.region [⟨none, none, (.prim .mv), [(.v 0)]⟩, ⟨none, none, (.prim .mv), [(.v 2)]⟩, ⟨none, none, (.prim .mv), [(.v 2)]⟩, ⟨none, none, (.prim (.conv .u64)), [(.t 2)]⟩, ⟨none, none, .call, [(.c (.fn (.func 77) [])), (.t 3)]⟩, ⟨none, none, (.prim .mv), [(.v 1)]⟩, ⟨none, none, .call, [(.c (.fn (.func 76) [])), (.t 0), (.c (.cv (.int .i64 0))), (.t 1), (.t 4), (.t 5)]⟩]))
theorem cc62 : compC Try.prog vs62 Try.f62.ntmps (Try.f62.body.getD .skip) = some ic62 := by kernel_rfl
abbrev rs62 : List RC := []
theorem fok62 (p : Bool) : FnOk Try.prog 62 ⟨ic62, vs62, 14, rs62, p⟩ := FnOk.mk' Try.func62 hb62 (by kernel_rfl) cc62 (by kernel_rfl) (by kernel_rfl)

theorem hb63 : Try.f63.body = some (Try.f63.body.getD .skip) := by kernel_rfl
abbrev vs63 : List Nat := [0, 1, 4]
def ic63 : IC := (.seq (.region [⟨(.some 2), none, (.prim .mv), [(.c (.cv (.int .i64 0)))]⟩])
 (.seq (.region [⟨none, none, (.prim .mv), [(.v 0)]⟩, ⟨none, none, (.prim (.len false)), [(.t 0)]⟩, ⟨none, none, (.prim .mv), [(.v 1)]⟩, ⟨none, none, (.prim (.len false)), [(.t 2)]⟩, ⟨none, none, .call, [(.c (.fn (.func 65) [])), (.t 1), (.t 3)]⟩, ⟨none, none, (.prim .mv), [(.v 0)]⟩, ⟨none, none, (.prim .mv), [(.v 1)]⟩, ⟨none, none, .call, [(.c (.fn (.func 66) [])), (.t 5), (.t 6)]⟩, ⟨none, none, (.prim (.bslice 1 2 [(.cv (.int .i64 0)), (.cv (.int .i64 0))] [(0, 1), (1, 1)])), [(.t 4), (.t 7)]⟩, ⟨none, none, .call, [(.c (.fn (.func 64) [])), (.t 8)]⟩, ⟨(.some 2), none, (.prim .mv), [(.t 9)]⟩])
 .ret))
theorem cc63 : compC Try.prog vs63 Try.f63.ntmps (Try.f63.body.getD .skip) = some ic63 := by kernel_rfl
abbrev rs63 : List RC := [(.v 2)]
theorem fok63 (p : Bool) : FnOk Try.prog 63 ⟨ic63, vs63, 15, rs63, p⟩ := FnOk.mk' Try.func63 hb63 (by kernel_rfl) cc63 (by kernel_rfl) (by kernel_rfl)

theorem hb64 : Try.f64.body = some (Try.f64.body.getD .skip) := by kernel_rfl
abbrev vs64 : List Nat := [0, 2, 3, 5, 6, 7, 8, 9, 14]
def ic64l0 : IC := (.seq (.region [⟨(.some 7), none, (.prim (.bin .lss .int)), [(.v 6), (.v 5)]⟩])
 (.seq (.cond 7 .skip
 (.exit 0))
 (.seq (.block 1 (.seq (.region [⟨none, none, (.prim (.iaS 1)), [(.v 4), (.v 6)]⟩, ⟨none, none, (.prim .load1), [(.t 0)]⟩, ⟨(.some 3), none, (.prim .mv), [(.t 1)]⟩])
 (.seq (.region [⟨none, none, (.prim .mv), [(.v 3)]⟩, ⟨none, none, (.prim .mv), [(.v 2)]⟩, ⟨(.some 8), none, (.prim (.bin .neq .int)), [(.t 0), (.t 1)]⟩])
 (.cond 8 (.seq (.region [⟨none, none, (.prim .mv), [(.v 3)]⟩, ⟨(.some 1), none, (.prim .mv), [(.t 0)]⟩])
 .ret)
 .skip))))
 (.region [⟨none, none, (.prim (.bin .add .int)), [(.v 6), (.c (.cv (.int .i64 1)))]⟩, ⟨(.some 6), none, (.prim .mv), [(.t 0)]⟩]))))
def ic64 : IC := (.seq (.region [⟨(.some 1), none, (.prim .mv), [(.c (.cv (.int .i64 0)))]⟩])
 (.seq (.region [⟨(.some 2), none, (.prim .mv), [(.c (.cv (.int .i64 0)))]⟩])
 (.seq (.seq (.region [⟨(.some 4), none, (.prim .mv), [(.v 0)]⟩, ⟨(.some 5), none, (.prim (.len false)), [(.v 4)]⟩, ⟨(.some 6), none, (.prim .mv), [(.c (.cv (.int .i64 0)))]⟩])
 (.block 0 (.loop ic64l0)))
 (.seq (.region [⟨none, none, (.prim .mv), [(.v 2)]⟩, ⟨(.some 1), none, (.prim .mv), [(.t 0)]⟩])
 .ret))))
theorem cc64 : compC Try.prog vs64 Try.f64.ntmps (Try.f64.body.getD .skip) = some ic64 := by kernel_rfl
abbrev rs64 : List RC := [(.v 1)]
theorem fok64 (p : Bool) : FnOk Try.prog 64 ⟨ic64, vs64, 18, rs64, p⟩ := FnOk.mk' Try.func64 hb64 (by kernel_rfl) cc64 (by kernel_rfl) (by kernel_rfl)

theorem hb65 : Try.f65.body = some (Try.f65.body.getD .skip) := by kernel_rfl
abbrev vs65 : List Nat := [0, 1, 4, 5, 6, 11, 12, 13, 16, 19]
def ic65 : IC := (.seq (.region [⟨(.some 2), none, (.prim .mv), [(.c (.cv (.int .i64 0)))]⟩])
 (.seq (.region [⟨none, none, (.prim .mv), [(.v 0)]⟩, ⟨none, none, .call, [(.c (.fn (.func 78) [])), (.t 0)]⟩, ⟨(.some 3), none, (.prim .mv), [(.t 1)]⟩])
 (.seq (.region [⟨none, none, (.prim .mv), [(.v 1)]⟩, ⟨none, none, .call, [(.c (.fn (.func 78) [])), (.t 0)]⟩, ⟨(.some 4), none, (.prim .mv), [(.t 1)]⟩])
 (.seq (.seq (.region [⟨(.some 5), none, (.prim .mv), [(.v 3)]⟩])
 (.cond 5 (.seq (.seq (.region [⟨(.some 6), none, (.prim .mv), [(.v 4)]⟩])
 (.cond 6 (.seq (.region [⟨(.some 2), none, (.prim .mv), [(.c (.cv (.int .i64 0)))]⟩])
 .ret)
 .skip))
 (.seq (.region [⟨(.some 2), none, (.prim .mv), [(.c (.cv (.int .i64 (-1))))]⟩])
 .ret))
 .skip))
 (.seq (.seq (.region [⟨(.some 7), none, (.prim .mv), [(.v 4)]⟩])
 (.cond 7 (.seq (.region [⟨(.some 2), none, (.prim .mv), [(.c (.cv (.int .i64 1)))]⟩])
 .ret)
 .skip))
 (.seq (.seq (.region [⟨none, none, (.prim .mv), [(.v 0)]⟩, ⟨none, none, (.prim .mv), [(.v 1)]⟩, ⟨(.some 8), none, (.prim (.bin .lss .int)), [(.t 0), (.t 1)]⟩])
 (.cond 8 (.seq (.region [⟨(.some 2), none, (.prim .mv), [(.c (.cv (.int .i64 (-1))))]⟩])
 .ret)
 .skip))
 (.seq (.seq (.region [⟨none, none, (.prim .mv), [(.v 0)]⟩, ⟨none, none, (.prim .mv), [(.v 1)]⟩, ⟨(.some 9), none, (.prim (.bin .gtr .int)), [(.t 0), (.t 1)]⟩])
 (.cond 9 (.seq (.region [⟨(.some 2), none, (.prim .mv), [(.c (.cv (.int .i64 1)))]⟩])
 .ret)
 .skip))
 (.seq (.region [⟨(.some 2), none, (.prim .mv), [(.c (.cv (.int .i64 0)))]⟩])
 .ret))))))))
theorem cc65 : compC Try.prog vs65 Try.f65.ntmps (Try.f65.body.getD .skip) = some ic65 := by kernel_rfl
abbrev rs65 : List RC := [(.v 2)]
theorem fok65 (p : Bool) : FnOk Try.prog 65 ⟨ic65, vs65, 20, rs65, p⟩ := FnOk.mk' Try.func65 hb65 (by kernel_rfl) cc65 (by kernel_rfl) (by kernel_rfl)

theorem hb66 : Try.f66.body = some (Try.f66.body.getD .skip) := by kernel_rfl
abbrev vs66 : List Nat := [0, 1, 4, 5, 6, 7, 8, 9, 10, 11, 12, 19, 28, 35]
def ic66l0 : IC := (.seq (.region [⟨(.some 10), none, (.prim (.bin .lss .int)), [(.v 9), (.v 8)]⟩])
 (.seq (.cond 10 .skip
 (.exit 0))
 (.seq (.block 1 (.seq (.region [⟨none, none, (.prim .mv), [(.v 9)]⟩, ⟨none, none, (.prim (.iaS 1)), [(.v 7), (.v 9)]⟩, ⟨none, none, (.prim .load1), [(.t 1)]⟩, ⟨(.some 3), none, (.prim .mv), [(.t 0)]⟩, ⟨(.some 4), none, (.prim .mv), [(.t 2)]⟩])
 (.seq (.seq (.region [⟨none, none, (.prim .mv), [(.v 3)]⟩, ⟨none, none, (.prim .mv), [(.v 1)]⟩, ⟨none, none, (.prim (.len false)), [(.t 1)]⟩, ⟨(.some 11), none, (.prim (.bin .geq .int)), [(.t 0), (.t 2)]⟩])
 (.cond 11 (.seq (.region [⟨(.some 2), none, (.prim .mv), [(.c (.cv (.int .i64 1)))]⟩])
 .ret)
 .skip))
 (.seq (.region [⟨none, none, (.prim .mv), [(.v 1)]⟩, ⟨none, none, (.prim .mv), [(.v 3)]⟩, ⟨none, none, (.prim (.iaS 1)), [(.t 0), (.t 1)]⟩, ⟨none, none, (.prim .load1), [(.t 2)]⟩, ⟨(.some 5), none, (.prim .mv), [(.t 3)]⟩])
 (.seq (.region [⟨none, none, (.prim .mv), [(.v 4)]⟩, ⟨none, none, (.prim .mv), [(.v 5)]⟩, ⟨none, none, .call, [(.c (.fn (.func 65) [])), (.t 0), (.t 1)]⟩, ⟨(.some 6), none, (.prim .mv), [(.t 2)]⟩])
 (.seq (.region [⟨none, none, (.prim .mv), [(.v 6)]⟩, ⟨(.some 12), none, (.prim (.bin .neq .int)), [(.t 0), (.c (.cv (.int .i64 0)))]⟩])
 (.cond 12 (.seq (.region [⟨none, none, (.prim .mv), [(.v 6)]⟩, ⟨(.some 2), none, (.prim .mv), [(.t 0)]⟩])
 .ret)
 .skip)))))))
 (.region [⟨none, none, (.prim (.bin .add .int)), [(.v 9), (.c (.cv (.int .i64 1)))]⟩, ⟨(.some 9), none, (.prim .mv), [(.t 0)]⟩]))))
def ic66 : IC := (.seq (.region [⟨(.some 2), none, (.prim .mv), [(.c (.cv (.int .i64 0)))]⟩])
 (.seq (.seq (.region [⟨(.some 7), none, (.prim .mv), [(.v 0)]⟩, ⟨(.some 8), none, (.prim (.len false)), [(.v 7)]⟩, ⟨(.some 9), none, (.prim .mv), [(.c (.cv (.int .i64 0)))]⟩])
 (.block 0 (.loop ic66l0)))
 (.seq (.seq (.region [⟨none, none, (.prim .mv), [(.v 0)]⟩, ⟨none, none, (.prim (.len false)), [(.t 0)]⟩, ⟨none, none, (.prim .mv), [(.v 1)]⟩, ⟨none, none, (.prim (.len false)), [(.t 2)]⟩, ⟨(.some 13), none, (.prim (.bin .lss .int)), [(.t 1), (.t 3)]⟩])
 (.cond 13 (.seq (.region [⟨(.some 2), none, (.prim .mv), [(.c (.cv (.int .i64 (-1))))]⟩])
 .ret)
 .skip))
 (.seq (.region [⟨(.some 2), none, (.prim .mv), [(.c (.cv (.int .i64 0)))]⟩])
 .ret))))
theorem cc66 : compC Try.prog vs66 Try.f66.ntmps (Try.f66.body.getD .skip) = some ic66 := by kernel_rfl
abbrev rs66 : List RC := [(.v 2)]
theorem fok66 (p : Bool) : FnOk Try.prog 66 ⟨ic66, vs66, 36, rs66, p⟩ := FnOk.mk' Try.func66 hb66 (by kernel_rfl) cc66 (by kernel_rfl) (by kernel_rfl)

theorem hb67 : Try.f67.body = some (Try.f67.body.getD .skip) := by kernel_rfl
abbrev vs67 : List Nat := [0, 1, 4, 5, 10]
def ic67 : IC := (.seq (.region [⟨(.some 2), none, (.prim .mv), [(.c (.cv .nils))]⟩])
 (.seq (.seq (.region [⟨none, none, (.prim .mv), [(.v 0)]⟩, ⟨none, none, (.prim .mv), [(.v 1)]⟩, ⟨none, none, .call, [(.c (.fn (.func 79) [])), (.t 0), (.t 1)]⟩, ⟨(.some 3), none, (.prim .mv), [(.t 2)]⟩])
 (.seq (.region [⟨none, none, (.prim .mv), [(.v 3)]⟩, ⟨(.some 4), none, (.prim (.bin .geq .int)), [(.t 0), (.c (.cv (.int .i64 0)))]⟩])
 (.cond 4 (.region [⟨none, none, (.prim .mv), [(.v 0)]⟩, ⟨none, none, (.prim .mv), [(.v 3)]⟩, ⟨none, none, (.prim (.iaS 1)), [(.t 0), (.t 1)]⟩, ⟨none, none, (.prim .load1), [(.t 2)]⟩, ⟨(.some 2), none, (.prim .mv), [(.t 3)]⟩])
 .skip)))
 (.seq (.region [⟨none, none, (.prim .mv), [(.v 2)]⟩, ⟨(.some 2), none, (.prim .mv), [(.t 0)]⟩])
 .ret)))
theorem cc67 : compC Try.prog vs67 Try.f67.ntmps (Try.f67.body.getD .skip) = some ic67 := by kernel_rfl
abbrev rs67 : List RC := [(.v 2)]
theorem fok67 (p : Bool) : FnOk Try.prog 67 ⟨ic67, vs67, 16, rs67, p⟩ := FnOk.mk' Try.func67 hb67 (by kernel_rfl) cc67 (by kernel_rfl) (by kernel_rfl)

theorem hb68 : Try.f68.body = some (Try.f68.body.getD .skip) := by kernel_rfl
abbrev vs68 : List Nat := [0, 1, 2, 4, 5, 6, 7, 14, 15, 16, 17, 23]
def ic68l0 : IC := (.seq (.region [⟨(.some 10), none, (.prim (.bin .lss .int)), [(.v 9), (.v 8)]⟩])
 (.seq (.cond 10 .skip
 (.exit 0))
 (.seq (.block 1 (.seq (.region [⟨none, none, (.prim .mv), [(.v 9)]⟩, ⟨none, none, (.prim (.iaS 1)), [(.v 7), (.v 9)]⟩, ⟨none, none, (.prim .load1), [(.t 1)]⟩, ⟨(.some 5), none, (.prim (.alloc [(.cv (.int .i64 0))])), []⟩, ⟨none, none, (.prim (.store 1)), [(.v 5), (.t 0)]⟩, ⟨(.some 6), none, (.prim .mv), [(.t 2)]⟩])
 (.seq (.region [⟨none, none, (.prim .mv), [(.v 1)]⟩, ⟨none, none, (.prim (.mkfn (.func 80))), [(.v 2), (.v 5)]⟩, ⟨(.some 11), none, .call, [(.c (.fn (.func 72) [])), (.t 0), (.t 1)]⟩])
 (.cond 11 (.region [⟨none, none, (.prim .mv), [(.v 4)]⟩, ⟨none, none, (.prim .mv), [(.v 6)]⟩, ⟨none, none, (.prim (.bin .sub .int)), [(.t 0), (.t 1)]⟩, ⟨(.some 4), none, (.prim .mv), [(.t 2)]⟩])
 .skip))))
 (.region [⟨none, none, (.prim (.bin .add .int)), [(.v 9), (.c (.cv (.int .i64 1)))]⟩, ⟨(.some 9), none, (.prim .mv), [(.t 0)]⟩]))))
def ic68 : IC := (.seq (.region [⟨(.some 2), none, (.prim .box), [(.v 0)]⟩, ⟨(.some 3), none, (.prim .mv), [(.c (.cv (.bool false)))]⟩])
 (.seq (.region [⟨none, none, (.prim .mv), [(.v 1)]⟩, ⟨none, none, (.prim (.len false)), [(.t 0)]⟩, ⟨(.some 4), none, (.prim .mv), [(.t 1)]⟩])
 (.seq (.seq (.region [⟨none, none, (.prim .load1), [(.v 2)]⟩, ⟨none, none, (.prim .nilck), [(.t 0)]⟩, ⟨none, none, (.prim (.fadd 0)), [(.t 1)]⟩, ⟨none, none, (.prim (.fadd 0)), [(.t 2)]⟩, ⟨(.some 7), none, (.prim .load1), [(.t 3)]⟩, ⟨(.some 8), none, (.prim (.len false)), [(.v 7)]⟩, ⟨(.some 9), none, (.prim .mv), [(.c (.cv (.int .i64 0)))]⟩])
 (.block 0 (.loop ic68l0)))
 (.seq (.region [⟨none, none, (.prim .mv), [(.v 4)]⟩, ⟨none, none, (.prim (.bin .gtr .int)), [(.t 0), (.c (.cv (.int .i64 0)))]⟩, ⟨(.some 3), none, (.prim .mv), [(.t 1)]⟩])
 .ret))))
theorem cc68 : compC Try.prog vs68 Try.f68.ntmps (Try.f68.body.getD .skip) = some ic68 := by kernel_rfl
abbrev rs68 : List RC := [(.v 3)]
theorem fok68 (p : Bool) : FnOk Try.prog 68 ⟨ic68, vs68, 30, rs68, p⟩ := FnOk.mk' Try.func68 hb68 (by kernel_rfl) cc68 (by kernel_rfl) (by kernel_rfl)

theorem hb69 : Try.f69.body = some (Try.f69.body.getD .skip) := by kernel_rfl
abbrev vs69 : List Nat := [0, 1, 4, 5, 10, 19, 30]
def ic69l0 : IC := (.seq (.seq (.region [⟨none, none, (.prim .mv), [(.v 3)]⟩, ⟨none, none, (.prim .mv), [(.v 0)]⟩, ⟨none, none, (.prim (.len false)), [(.t 1)]⟩, ⟨(.some 5), none, (.prim (.bin .lss .int)), [(.t 0), (.t 2)]⟩])
 (.cond 5 .skip
 (.exit 0)))
 (.seq (.block 1 (.seq (.dr [[], [], [0, 1], [2], [], [], [4, 5], [6], [3, 7]] [⟨none, none, (.prim .mv), [(.v 0)]⟩, ⟨none, none, (.prim .mv), [(.v 3)]⟩, ⟨none, none, (.prim (.iaS 1)), [(.t 0), (.t 1)]⟩, ⟨none, none, (.prim .load1), [(.t 2)]⟩, ⟨none, none, (.prim .mv), [(.v 1)]⟩, ⟨none, none, (.prim .mv), [(.v 3)]⟩, ⟨none, none, (.prim (.iaS 1)), [(.t 4), (.t 5)]⟩, ⟨none, none, (.prim .load1), [(.t 6)]⟩, ⟨(.some 6), none, (.prim (.bin .neq .int)), [(.t 3), (.t 7)]⟩])
 (.cond 6 (.seq (.dr [[], [], [0, 1], [2], [], [], [4, 5], [6], [3, 7], [8, 0, 1, 2, 3, 4, 5, 6, 7, 8]] [⟨none, none, (.prim .mv), [(.v 0)]⟩, ⟨none, none, (.prim .mv), [(.v 3)]⟩, ⟨none, none, (.prim (.iaS 1)), [(.t 0), (.t 1)]⟩, ⟨none, none, (.prim .load1), [(.t 2)]⟩, ⟨none, none, (.prim .mv), [(.v 1)]⟩, ⟨none, none, (.prim .mv), [(.v 3)]⟩, ⟨none, none, (.prim (.iaS 1)), [(.t 4), (.t 5)]⟩, ⟨none, none, (.prim .load1), [(.t 6)]⟩, ⟨none, none, (.prim (.bin .lss .int)), [(.t 3), (.t 7)]⟩, ⟨(.some 2), none, (.prim .mv), [(.t 8)]⟩])
 .ret)
 .skip)))
 (.region [⟨none, none, (.prim .mv), [(.v 3)]⟩, ⟨none, none, (.prim (.bin .add .int)), [(.t 0), (.c (.cv (.int .i64 1)))]⟩, ⟨(.some 3), none, (.prim .mv), [(.t 1)]⟩])))
def ic69 : IC := (.seq (.region [⟨(.some 2), none, (.prim .mv), [(.c (.cv (.bool false)))]⟩])
 (.seq (.seq (.region [⟨none, none, (.prim .mv), [(.v 0)]⟩, ⟨none, none, (.prim (.len false)), [(.t 0)]⟩, ⟨none, none, (.prim .mv), [(.v 1)]⟩, ⟨none, none, (.prim (.len false)), [(.t 2)]⟩, ⟨(.some 4), none, (.prim (.bin .neq .int)), [(.t 1), (.t 3)]⟩])
 (.cond 4 (.seq (.region [⟨none, none, (.prim .mv), [(.v 0)]⟩, ⟨none, none, (.prim (.len false)), [(.t 0)]⟩, ⟨none, none, (.prim .mv), [(.v 1)]⟩, ⟨none, none, (.prim (.len false)), [(.t 2)]⟩, ⟨none, none, (.prim (.bin .lss .int)), [(.t 1), (.t 3)]⟩, ⟨(.some 2), none, (.prim .mv), [(.t 4)]⟩])
 .ret)
 .skip))
 (.seq (.seq (.region [⟨(.some 3), none, (.prim .mv), [(.c (.cv (.int .i64 0)))]⟩])
 (.block 0 (.loop ic69l0)))
 (.seq (.region [⟨(.some 2), none, (.prim .mv), [(.c (.cv (.bool false)))]⟩])
 .ret))))
theorem cc69 : compC Try.prog vs69 Try.f69.ntmps (Try.f69.body.getD .skip) = some ic69 := by kernel_rfl
abbrev rs69 : List RC := [(.v 2)]
theorem fok69 (p : Bool) : FnOk Try.prog 69 ⟨ic69, vs69, 40, rs69, p⟩ := FnOk.mk' Try.func69 hb69 (by kernel_rfl) cc69 (by kernel_rfl) (by kernel_rfl)

theorem hb70 : Try.f70.body = some (Try.f70.body.getD .skip) := by kernel_rfl
abbrev vs70 : List Nat := [0, 2, 3, 4, 6, 11]
def ic70l0 : IC := (.seq (.seq (.region [⟨none, none, (.prim .mv), [(.v 3)]⟩, ⟨(.some 4), none, (.prim (.bin .lss .int)), [(.t 0), (.c (.cv (.int .i64 8)))]⟩])
 (.cond 4 .skip
 (.exit 0)))
 (.seq (.block 1 (.seq (.region [⟨none, none, (.prim .mv), [(.v 0)]⟩, ⟨none, none, (.prim .mv), [(.v 3)]⟩, ⟨(.some 5), none, .call, [(.c (.fn (.func 45) [])), (.t 0), (.t 1)]⟩])
 (.cond 5 (.region [⟨none, none, (.prim .mv), [(.v 2)]⟩, ⟨none, none, (.prim .mv), [(.v 3)]⟩, ⟨none, none, (.prim (.bslice 1 1 [(.cv (.int .i64 0))] [(0, 1)])), [(.t 1)]⟩, ⟨none, none, (.prim (.append 1 8)), [(.t 0), (.t 2)]⟩, ⟨(.some 2), none, (.prim .mv), [(.t 3)]⟩])
 .skip)))
 (.region [⟨none, none, (.prim .mv), [(.v 3)]⟩, ⟨none, none, (.prim (.bin .add .int)), [(.t 0), (.c (.cv (.int .i64 1)))]⟩, ⟨(.some 3), none, (.prim .mv), [(.t 1)]⟩])))
def ic70 : IC := (.seq (.region [⟨(.some 1), none, (.prim .mv), [(.c (.cv .nils))]⟩])
 (.seq (.region [⟨(.some 2), none, (.prim .mv), [(.c (.cv .nils))]⟩])
 (.seq (.seq (.region [⟨(.some 3), none, (.prim .mv), [(.c (.cv (.int .i64 0)))]⟩])
 (.block 0 (.loop ic70l0)))
 (.seq (.region [⟨none, none, (.prim .mv), [(.v 2)]⟩, ⟨(.some 1), none, (.prim .mv), [(.t 0)]⟩])
 .ret))))
theorem cc70 : compC Try.prog vs70 Try.f70.ntmps (Try.f70.body.getD .skip) = some ic70 := by kernel_rfl
abbrev rs70 : List RC := [(.v 1)]
theorem fok70 (p : Bool) : FnOk Try.prog 70 ⟨ic70, vs70, 17, rs70, p⟩ := FnOk.mk' Try.func70 hb70 (by kernel_rfl) cc70 (by kernel_rfl) (by kernel_rfl)

theorem hb71 : Try.f71.body = some (Try.f71.body.getD .skip) := by kernel_rfl
abbrev vs71 : List Nat := [0, 1, 4, 5, 10, 12, 13, 14, 24]
def ic71l0 : IC := (.seq (.region [⟨(.some 7), none, (.prim (.bin .lss .int)), [(.v 6), (.v 5)]⟩])
 (.seq (.cond 7 .skip
 (.exit 0))
 (.seq (.block 1 (.seq (.region [⟨none, none, (.prim .mv), [(.v 6)]⟩, ⟨(.some 3), none, (.prim .mv), [(.t 0)]⟩])
 (.seq (.dr [[], [], [0, 1], [2], [], [], [4, 5], [6], [3, 7]] [⟨none, none, (.prim .mv), [(.v 0)]⟩, ⟨none, none, (.prim .mv), [(.v 3)]⟩, ⟨none, none, (.prim (.iaS 1)), [(.t 0), (.t 1)]⟩, ⟨none, none, (.prim .load1), [(.t 2)]⟩, ⟨none, none, (.prim .mv), [(.v 1)]⟩, ⟨none, none, (.prim .mv), [(.v 3)]⟩, ⟨none, none, (.prim (.iaS 1)), [(.t 4), (.t 5)]⟩, ⟨none, none, (.prim .load1), [(.t 6)]⟩, ⟨(.some 8), none, (.prim (.bin .neq .int)), [(.t 3), (.t 7)]⟩])
 (.cond 8 (.seq (.region [⟨(.some 2), none, (.prim .mv), [(.c (.cv (.bool false)))]⟩])
 .ret)
 .skip))))
 (.region [⟨none, none, (.prim (.bin .add .int)), [(.v 6), (.c (.cv (.int .i64 1)))]⟩, ⟨(.some 6), none, (.prim .mv), [(.t 0)]⟩]))))
def ic71 : IC := (.seq (.region [⟨(.some 2), none, (.prim .mv), [(.c (.cv (.bool false)))]⟩])
 (.seq (.seq (.region [⟨none, none, (.prim .mv), [(.v 0)]⟩, ⟨none, none, (.prim (.len false)), [(.t 0)]⟩, ⟨none, none, (.prim .mv), [(.v 1)]⟩, ⟨none, none, (.prim (.len false)), [(.t 2)]⟩, ⟨(.some 4), none, (.prim (.bin .neq .int)), [(.t 1), (.t 3)]⟩])
 (.cond 4 (.seq (.region [⟨(.some 2), none, (.prim .mv), [(.c (.cv (.bool false)))]⟩])
 .ret)
 .skip))
 (.seq (.seq (.region [⟨none, none, (.prim .mv), [(.v 0)]⟩, ⟨(.some 5), none, (.prim (.len false)), [(.t 0)]⟩, ⟨(.some 6), none, (.prim .mv), [(.c (.cv (.int .i64 0)))]⟩])
 (.block 0 (.loop ic71l0)))
 (.seq (.region [⟨(.some 2), none, (.prim .mv), [(.c (.cv (.bool true)))]⟩])
 .ret))))
theorem cc71 : compC Try.prog vs71 Try.f71.ntmps (Try.f71.body.getD .skip) = some ic71 := by kernel_rfl
abbrev rs71 : List RC := [(.v 2)]
theorem fok71 (p : Bool) : FnOk Try.prog 71 ⟨ic71, vs71, 26, rs71, p⟩ := FnOk.mk' Try.func71 hb71 (by kernel_rfl) cc71 (by kernel_rfl) (by kernel_rfl)

theorem hb72 : Try.f72.body = some (Try.f72.body.getD .skip) := by kernel_rfl
abbrev vs72 : List Nat := [0, 1, 4]
def ic72 : IC := (.seq (.region [⟨(.some 2), none, (.prim .mv), [(.c (.cv (.bool false)))]⟩])
 (.seq (.region [⟨none, none, (.prim .mv), [(.v 0)]⟩, ⟨none, none, (.prim .mv), [(.v 1)]⟩, ⟨none, none, .call, [(.c (.fn (.func 81) [])), (.t 0), (.t 1)]⟩, ⟨none, none, (.prim (.bin .geq .int)), [(.t 2), (.c (.cv (.int .i64 0)))]⟩, ⟨(.some 2), none, (.prim .mv), [(.t 3)]⟩])
 .ret))
theorem cc72 : compC Try.prog vs72 Try.f72.ntmps (Try.f72.body.getD .skip) = some ic72 := by kernel_rfl
abbrev rs72 : List RC := [(.v 2)]
theorem fok72 (p : Bool) : FnOk Try.prog 72 ⟨ic72, vs72, 9, rs72, p⟩ := FnOk.mk' Try.func72 hb72 (by kernel_rfl) cc72 (by kernel_rfl) (by kernel_rfl)

theorem hb73 : Try.f73.body = some (Try.f73.body.getD .skip) := by kernel_rfl
abbrev vs73 : List Nat := [0, 1, 2, 4]
def ic73 : IC := (.seq (.region [⟨(.some 3), none, (.prim .mv), [(.c (.cv (.bool false)))]⟩])
 (.seq (.region [⟨none, none, (.prim .mv), [(.v 0)]⟩, ⟨none, none, (.prim .load1), [(.v 1)]⟩, ⟨none, none, (.prim (.bin .lss .int)), [(.t 0), (.t 1)]⟩, ⟨none, none, (.prim .mv), [(.t 2)]⟩, ⟨none, (.some (3, false)), (.prim .mv), [(.v 0)]⟩, ⟨none, (.some (3, false)), (.prim .load1), [(.v 2)]⟩, ⟨none, (.some (3, false)), (.prim (.bin .gtr .int)), [(.t 4), (.t 5)]⟩, ⟨none, none, (.prim .pick), [(.t 3), (.c (.cv (.bool true))), (.t 6)]⟩, ⟨(.some 3), none, (.prim .mv), [(.t 7)]⟩])
 .ret))
theorem cc73 : compC Try.prog vs73 Try.f73.ntmps (Try.f73.body.getD .skip) = some ic73 := by kernel_rfl
abbrev rs73 : List RC := [(.v 3)]
theorem fok73 (p : Bool) : FnOk Try.prog 73 ⟨ic73, vs73, 13, rs73, p⟩ := FnOk.mk' Try.func73 hb73 (by kernel_rfl) cc73 (by kernel_rfl) (by kernel_rfl)

theorem hb74 : Try.f74.body = some (Try.f74.body.getD .skip) := by kernel_rfl
abbrev vs74 : List Nat := [0, 1, 2, 3, 4, 5, 7, 16, 26, 30, 31, 32]
def ic74 (b74 : Code) : IC := (.seq (.region [⟨(.some 3), none, (.prim .box), [(.v 0)]⟩, ⟨(.some 4), none, (.prim (.alloc [(.cv (.int .i64 0))])), []⟩])
 (.seq (.seq (.dr [[], [0], [], [2], [3], [4], [5], [6], [1, 7]] [⟨none, none, (.prim (.fadd 0)), [(.v 3)]⟩, ⟨none, none, (.prim .load1), [(.t 0)]⟩, ⟨none, none, (.prim .load1), [(.v 1)]⟩, ⟨none, none, (.prim .nilck), [(.t 2)]⟩, ⟨none, none, (.prim (.fadd 0)), [(.t 3)]⟩, ⟨none, none, (.prim (.fadd 1)), [(.t 4)]⟩, ⟨none, none, (.prim .load1), [(.t 5)]⟩, ⟨none, none, (.prim (.len false)), [(.t 6)]⟩, ⟨(.some 7), none, (.prim (.bin .eql .int)), [(.t 1), (.t 7)]⟩])
 (.cond 7 (.seq (.region [⟨none, none, (.prim (.store 1)), [(.v 4), (.c (.cv (.int .i64 1)))]⟩])
 .ret)
 .skip))
 (.seq (.dr [[], [0], [1], [2], [], [3, 4], [5], [6], [6], [7, 0, 1, 2, 3, 4, 5, 6, 7], [8, 9, 0, 1, 2, 3, 4, 5, 6, 7, 8, 9]] [⟨none, none, (.prim .load1), [(.v 1)]⟩, ⟨none, none, (.prim .nilck), [(.t 0)]⟩, ⟨none, none, (.prim (.fadd 2)), [(.t 1)]⟩, ⟨none, none, (.prim .load1), [(.t 2)]⟩, ⟨none, none, (.prim (.loadN 7)), [(.v 3)]⟩, ⟨none, none, (.prim (.lookup (true, [(.int .i64), (.int .i64), (.int .i64), (.int .i64), (.int .i64), (.int .i64), (.int .i64)]) (.cv (.int .i64 0)) true)), [(.t 3), (.t 4)]⟩, ⟨none, none, (.prim .mv), [(.t 5)]⟩, ⟨none, none, (.prim (.extract 0)), [(.t 6)]⟩, ⟨none, none, (.prim (.extract 1)), [(.t 6)]⟩, ⟨none, none, (.prim (.store 1)), [(.v 4), (.t 7)]⟩, ⟨(.some 5), none, (.prim .mv), [(.t 8)]⟩])
 (.seq (.seq (.region [⟨(.some 8), none, (.prim .mv), [(.v 5)]⟩])
 (.cond 8 (.seq (.region [⟨none, none, (.prim .load1), [(.v 4)]⟩, ⟨none, none, (.prim (.store 1)), [(.v 4), (.t 0)]⟩])
 .ret)
 .skip))
 (.seq (.seq (.region [⟨none, none, (.prim .load1), [(.v 1)]⟩, ⟨none, none, (.prim (.loadN 7)), [(.v 3)]⟩, ⟨(.some 9), none, .call, [(.c (.fn (.func 60) [])), (.t 0), (.t 1)]⟩])
 (.block 0 (.rangef (.v 9) #[31, 32] (nav [1, 1, 1, 1, 0, 1, 0, 2] b74) (nav [1, 1, 1, 1, 0, 1, 0, 3] b74) (.region [⟨(.some 6), none, (.prim (.alloc [(.cv (.int .i64 0)), (.cv (.int .i64 0)), (.cv (.int .i64 0)), (.cv (.int .i64 0)), (.cv (.int .i64 0)), (.cv (.int .i64 0)), (.cv (.int .i64 0))])), []⟩, ⟨none, none, (.prim (.store 7)), [(.v 6), (.v 11)]⟩])
 (.block 1 (.dr [[], [], [], [1, 2], [0, 3], [4, 3, 0, 1, 2, 3, 4]] [⟨none, none, (.prim .load1), [(.v 4)]⟩, ⟨none, none, (.prim .load1), [(.v 2)]⟩, ⟨none, none, (.prim (.loadN 7)), [(.v 6)]⟩, ⟨none, none, .call, [(.t 1), (.t 2)]⟩, ⟨none, none, (.prim (.bin .add .int)), [(.t 0), (.t 3)]⟩, ⟨none, none, (.prim (.store 1)), [(.v 4), (.t 4)]⟩])))))
 (.seq (.dr [[], [0], [1], [2], [], [], [3, 4, 5, 0, 1, 2, 3, 4, 5]] [⟨none, none, (.prim .load1), [(.v 1)]⟩, ⟨none, none, (.prim .nilck), [(.t 0)]⟩, ⟨none, none, (.prim (.fadd 2)), [(.t 1)]⟩, ⟨none, none, (.prim .load1), [(.t 2)]⟩, ⟨none, none, (.prim (.loadN 7)), [(.v 3)]⟩, ⟨none, none, (.prim .load1), [(.v 4)]⟩, ⟨none, none, (.prim (.mapset (true, [(.int .i64), (.int .i64), (.int .i64), (.int .i64), (.int .i64), (.int .i64), (.int .i64)]))), [(.t 3), (.t 4), (.t 5)]⟩])
 (.seq (.region [⟨none, none, (.prim .load1), [(.v 4)]⟩, ⟨none, none, (.prim (.store 1)), [(.v 4), (.t 0)]⟩])
 .ret)))))))
theorem cc74 : compC Try.prog vs74 Try.f74.ntmps (Try.f74.body.getD .skip) = some (ic74 (Try.f74.body.getD .skip)) := by kernel_rfl
abbrev rs74 : List RC := [(.l1 4)]
theorem fok74 (p : Bool) : FnOk Try.prog 74 ⟨ic74 (Try.f74.body.getD .skip), vs74, 45, rs74, p⟩ := FnOk.mk' Try.func74 hb74 (by kernel_rfl) cc74 (by kernel_rfl) (by kernel_rfl)

theorem hb75 : Try.f75.body = some (Try.f75.body.getD .skip) := by kernel_rfl
abbrev vs75 : List Nat := [0, 1, 2, 4, 5, 11, 12, 13, 54]
def ic75l0 : IC := (.seq (.region [⟨(.some 7), none, (.prim (.bin .lss .int)), [(.v 6), (.v 5)]⟩])
 (.seq (.cond 7 .skip
 (.exit 0))
 (.seq (.block 1 (.seq (.region [⟨none, none, (.prim .mv), [(.v 6)]⟩, ⟨(.some 3), none, (.prim .mv), [(.t 0)]⟩])
 (.seq (.region [⟨none, none, (.prim (.fadd 0)), [(.v 2)]⟩, ⟨none, none, (.prim .load1), [(.t 0)]⟩, ⟨none, none, (.prim (.bin .add .int)), [(.t 1), (.c (.cv (.int .i64 1)))]⟩, ⟨none, none, (.prim (.fadd 1)), [(.v 2)]⟩, ⟨none, none, (.prim (.loadN 6)), [(.t 3)]⟩, ⟨none, none, (.prim (.build [(.cv (.int .i64 0)), (.cv (.int .i64 0)), (.cv (.int .i64 0)), (.cv (.int .i64 0)), (.cv (.int .i64 0)), (.cv (.int .i64 0)), (.cv (.int .i64 0))] [(0, 1), (1, 6)])), [(.t 2), (.t 4)]⟩, ⟨(.some 4), none, (.prim (.alloc [(.cv (.int .i64 0)), (.cv (.int .i64 0)), (.cv (.int .i64 0)), (.cv (.int .i64 0)), (.cv (.int .i64 0)), (.cv (.int .i64 0)), (.cv (.int .i64 0))])), []⟩, ⟨none, none, (.prim (.store 7)), [(.v 4), (.t 5)]⟩])
 (.seq (.region [⟨none, none, (.prim .mv), [(.v 3)]⟩, ⟨none, none, (.prim (.fadd 1)), [(.v 4)]⟩, ⟨none, none, (.prim (.iaA 6 1)), [(.t 1), (.t 0)]⟩, ⟨none, none, (.prim .load1), [(.t 2)]⟩, ⟨none, none, (.prim (.bin .sub .int)), [(.t 3), (.c (.cv (.int .i64 1)))]⟩, ⟨none, none, (.prim (.fadd 1)), [(.v 4)]⟩, ⟨none, none, (.prim (.iaA 6 1)), [(.t 5), (.t 0)]⟩, ⟨none, none, (.prim (.store 1)), [(.t 6), (.t 4)]⟩])
 (.seq (.dr [[], [0], [1], [2], [3], [], [5], [4, 6], [7], [], [8, 9], [10], [11], [12], [13], [13], [15, 14, 13], [16, 13], [17, 13], [13, 18], [19, 13], [20], [20], [20], [21, 22, 23, 20, 20], [24, 20], [20, 25]] [⟨none, none, (.prim .load1), [(.v 1)]⟩, ⟨none, none, (.prim .nilck), [(.t 0)]⟩, ⟨none, none, (.prim (.fadd 0)), [(.t 1)]⟩, ⟨none, none, (.prim (.fadd 1)), [(.t 2)]⟩, ⟨none, none, (.prim .load1), [(.t 3)]⟩, ⟨none, none, (.prim (.fadd 0)), [(.v 2)]⟩, ⟨none, none, (.prim .load1), [(.t 5)]⟩, ⟨none, none, (.prim (.iaS 1)), [(.t 4), (.t 6)]⟩, ⟨none, none, (.prim .load1), [(.t 7)]⟩, ⟨none, none, (.prim .mv), [(.v 3)]⟩, ⟨none, none, (.prim (.bin .shr .int)), [(.t 8), (.t 9)]⟩, ⟨none, none, (.prim (.bin .and .int)), [(.t 10), (.c (.cv (.int .i64 1)))]⟩, ⟨none, none, (.prim (.bin .eql .int)), [(.t 11), (.c (.cv (.int .i64 0)))]⟩, ⟨none, none, (.prim .mv), [(.t 12)]⟩, ⟨none, (.some (13, true)), (.prim .mv), [(.v 3)]⟩, ⟨none, (.some (13, true)), (.prim (.fadd 1)), [(.v 4)]⟩, ⟨none, (.some (13, true)), (.prim (.iaA 6 1)), [(.t 15), (.t 14)]⟩, ⟨none, (.some (13, true)), (.prim .load1), [(.t 16)]⟩, ⟨none, (.some (13, true)), (.prim (.bin .geq .int)), [(.t 17), (.c (.cv (.int .i64 0)))]⟩, ⟨none, none, (.prim .pick), [(.t 13), (.t 18), (.c (.cv (.bool false)))]⟩, ⟨none, none, (.prim .mv), [(.t 19)]⟩, ⟨none, (.some (20, true)), (.prim .mv), [(.v 0)]⟩, ⟨none, (.some (20, true)), (.prim .mv), [(.v 3)]⟩, ⟨none, (.some (20, true)), (.prim (.loadN 7)), [(.v 4)]⟩, ⟨none, (.some (20, true)), .call, [(.t 21), (.t 22), (.t 23)]⟩, ⟨none, (.some (20, true)), (.prim .not), [(.t 24)]⟩, ⟨(.some 8), none, (.prim .pick), [(.t 20), (.t 25), (.c (.cv (.bool false)))]⟩])
 (.cond 8 .ret
 .skip))))))
 (.region [⟨none, none, (.prim (.bin .add .int)), [(.v 6), (.c (.cv (.int .i64 1)))]⟩, ⟨(.some 6), none, (.prim .mv), [(.t 0)]⟩]))))
def ic75 : IC := (.seq (.region [⟨none, none, (.prim .load1), [(.v 1)]⟩, ⟨none, none, (.prim .nilck), [(.t 0)]⟩, ⟨none, none, (.prim (.fadd 0)), [(.t 1)]⟩, ⟨none, none, (.prim (.fadd 0)), [(.t 2)]⟩, ⟨none, none, (.prim .load1), [(.t 3)]⟩, ⟨(.some 5), none, (.prim (.len false)), [(.t 4)]⟩, ⟨(.some 6), none, (.prim .mv), [(.c (.cv (.int .i64 0)))]⟩])
 (.block 0 (.loop ic75l0)))
theorem cc75 : compC Try.prog vs75 Try.f75.ntmps (Try.f75.body.getD .skip) = some ic75 := by kernel_rfl
abbrev rs75 : List RC := []
theorem fok75 (p : Bool) : FnOk Try.prog 75 ⟨ic75, vs75, 56, rs75, p⟩ := FnOk.mk' Try.func75 hb75 (by kernel_rfl) cc75 (by kernel_rfl) (by kernel_rfl)

theorem hb76 : Try.f76.body = some (Try.f76.body.getD .skip) := by kernel_rfl
abbrev vs76 : List Nat := [0, 1, 2, 3, 4, 10, 11, 12, 13, 14, 15, 16, 17, 18, 19, 20, 25, 32, 39, 56, 75, 80, 97, 125]
def ic76l0 : IC := (.block 1 (.seq (.region [⟨none, none, (.prim .mv), [(.v 2)]⟩, ⟨none, none, (.prim .mv), [(.v 1)]⟩, ⟨none, none, (.prim (.bin .sub .int)), [(.t 0), (.t 1)]⟩, ⟨(.some 7), none, (.prim .mv), [(.t 2)]⟩])
 (.seq (.seq (.region [⟨none, none, (.prim .mv), [(.v 7)]⟩, ⟨(.some 16), none, (.prim (.bin .leq .int)), [(.t 0), (.c (.cv (.int .i64 12)))]⟩])
 (.cond 16 (.seq (.region [⟨none, none, (.prim .mv), [(.v 0)]⟩, ⟨none, none, (.prim .mv), [(.v 1)]⟩, ⟨none, none, (.prim .mv), [(.v 2)]⟩, ⟨none, none, (.prim .mv), [(.v 4)]⟩, ⟨none, none, .call, [(.c (.fn (.func 82) [])), (.t 0), (.t 1), (.t 2), (.t 3)]⟩])
 .ret)
 .skip))
 (.seq (.seq (.region [⟨none, none, (.prim .mv), [(.v 3)]⟩, ⟨(.some 17), none, (.prim (.bin .eql .int)), [(.t 0), (.c (.cv (.int .i64 0)))]⟩])
 (.cond 17 (.seq (.region [⟨none, none, (.prim .mv), [(.v 0)]⟩, ⟨none, none, (.prim .mv), [(.v 1)]⟩, ⟨none, none, (.prim .mv), [(.v 2)]⟩, ⟨none, none, (.prim .mv), [(.v 4)]⟩, ⟨none, none, .call, [(.c (.fn (.func 83) [])), (.t 0), (.t 1), (.t 2), (.t 3)]⟩])
 .ret)
 .skip))
 (.seq (.seq (.region [⟨none, none, (.prim .mv), [(.v 5)]⟩, ⟨(.some 18), none, (.prim .not), [(.t 0)]⟩])
 (.cond 18 (.seq (.region [⟨none, none, (.prim .mv), [(.v 0)]⟩, ⟨none, none, (.prim .mv), [(.v 1)]⟩, ⟨none, none, (.prim .mv), [(.v 2)]⟩, ⟨none, none, (.prim .mv), [(.v 4)]⟩, ⟨none, none, .call, [(.c (.fn (.func 84) [])), (.t 0), (.t 1), (.t 2), (.t 3)]⟩])
 (.region [⟨none, none, (.prim .mv), [(.v 3)]⟩, ⟨none, none, (.prim (.bin .sub .int)), [(.t 0), (.c (.cv (.int .i64 1)))]⟩, ⟨(.some 3), none, (.prim .mv), [(.t 1)]⟩]))
 .skip))
 (.seq (.region [⟨none, none, (.prim .mv), [(.v 0)]⟩, ⟨none, none, (.prim .mv), [(.v 1)]⟩, ⟨none, none, (.prim .mv), [(.v 2)]⟩, ⟨none, none, (.prim .mv), [(.v 4)]⟩, ⟨none, none, .call, [(.c (.fn (.func 85) [])), (.t 0), (.t 1), (.t 2), (.t 3)]⟩, ⟨none, none, (.prim .mv), [(.t 4)]⟩, ⟨none, none, (.prim (.extract 0)), [(.t 5)]⟩, ⟨none, none, (.prim (.extract 1)), [(.t 5)]⟩, ⟨(.some 8), none, (.prim .mv), [(.t 6)]⟩, ⟨(.some 9), none, (.prim .mv), [(.t 7)]⟩])
 (.seq (.seq (.region [⟨none, none, (.prim .mv), [(.v 9)]⟩, ⟨(.some 19), none, (.prim (.bin .eql .int)), [(.t 0), (.c (.cv (.int .i64 2)))]⟩])
 (.cond 19 (.seq (.region [⟨none, none, (.prim .mv), [(.v 0)]⟩, ⟨none, none, (.prim .mv), [(.v 1)]⟩, ⟨none, none, (.prim .mv), [(.v 2)]⟩, ⟨none, none, (.prim .mv), [(.v 4)]⟩, ⟨none, none, .call, [(.c (.fn (.func 86) [])), (.t 0), (.t 1), (.t 2), (.t 3)]⟩])
 (.seq (.region [⟨none, none, (.prim .mv), [(.v 2)]⟩, ⟨none, none, (.prim (.bin .sub .int)), [(.t 0), (.c (.cv (.int .i64 1)))]⟩, ⟨none, none, (.prim .mv), [(.v 8)]⟩, ⟨none, none, (.prim .mv), [(.v 1)]⟩, ⟨none, none, (.prim (.bin .sub .int)), [(.t 2), (.t 3)]⟩, ⟨none, none, (.prim (.bin .sub .int)), [(.t 1), (.t 4)]⟩, ⟨(.some 8), none, (.prim .mv), [(.t 5)]⟩])
 (.region [⟨(.some 9), none, (.prim .mv), [(.c (.cv (.int .i64 1)))]⟩])))
 .skip))
 (.seq (.seq (.region [⟨none, none, (.prim .mv), [(.v 5)]⟩, ⟨none, none, (.prim .mv), [(.t 0)]⟩, ⟨none, (.some (1, true)), (.prim .mv), [(.v 6)]⟩, ⟨none, none, (.prim .pick), [(.t 1), (.t 2), (.c (.cv (.bool false)))]⟩, ⟨none, none, (.prim .mv), [(.t 3)]⟩, ⟨none, (.some (4, true)), (.prim .mv), [(.v 9)]⟩, ⟨none, (.some (4, true)), (.prim (.bin .eql .int)), [(.t 5), (.c (.cv (.int .i64 1)))]⟩, ⟨(.some 20), none, (.prim .pick), [(.t 4), (.t 6), (.c (.cv (.bool false)))]⟩])
 (.cond 20 (.seq (.region [⟨none, none, (.prim .mv), [(.v 0)]⟩, ⟨none, none, (.prim .mv), [(.v 1)]⟩, ⟨none, none, (.prim .mv), [(.v 2)]⟩, ⟨none, none, (.prim .mv), [(.v 4)]⟩, ⟨(.some 21), none, .call, [(.c (.fn (.func 87) [])), (.t 0), (.t 1), (.t 2), (.t 3)]⟩])
 (.cond 21 .ret
 .skip))
 .skip))
 (.seq (.seq (.dr [[], [0], [1], [2], [2], [2], [5, 2], [4, 6, 2], [7, 2], [2], [2], [9, 10, 2], [11, 2], [3, 8, 12, 2, 2], [13, 2], [14, 2], [2, 15]] [⟨none, none, (.prim .mv), [(.v 1)]⟩, ⟨none, none, (.prim (.bin .gtr .int)), [(.t 0), (.c (.cv (.int .i64 0)))]⟩, ⟨none, none, (.prim .mv), [(.t 1)]⟩, ⟨none, (.some (2, true)), (.prim .mv), [(.v 4)]⟩, ⟨none, (.some (2, true)), (.prim .mv), [(.v 0)]⟩, ⟨none, (.some (2, true)), (.prim .mv), [(.v 1)]⟩, ⟨none, (.some (2, true)), (.prim (.bin .sub .int)), [(.t 5), (.c (.cv (.int .i64 1)))]⟩, ⟨none, (.some (2, true)), (.prim (.iaS 1)), [(.t 4), (.t 6)]⟩, ⟨none, (.some (2, true)), (.prim .load1), [(.t 7)]⟩, ⟨none, (.some (2, true)), (.prim .mv), [(.v 0)]⟩, ⟨none, (.some (2, true)), (.prim .mv), [(.v 8)]⟩, ⟨none, (.some (2, true)), (.prim (.iaS 1)), [(.t 9), (.t 10)]⟩, ⟨none, (.some (2, true)), (.prim .load1), [(.t 11)]⟩, ⟨none, (.some (2, true)), .call, [(.t 3), (.t 8), (.t 12)]⟩, ⟨none, (.some (2, true)), (.prim (.bin .lss .int)), [(.t 13), (.c (.cv (.int .i64 0)))]⟩, ⟨none, (.some (2, true)), (.prim .not), [(.t 14)]⟩, ⟨(.some 22), none, (.prim .pick), [(.t 2), (.t 15), (.c (.cv (.bool false)))]⟩])
 (.cond 22 (.seq (.region [⟨none, none, (.prim .mv), [(.v 0)]⟩, ⟨none, none, (.prim .mv), [(.v 1)]⟩, ⟨none, none, (.prim .mv), [(.v 2)]⟩, ⟨none, none, (.prim .mv), [(.v 8)]⟩, ⟨none, none, (.prim .mv), [(.v 4)]⟩, ⟨none, none, .call, [(.c (.fn (.func 88) [])), (.t 0), (.t 1), (.t 2), (.t 3), (.t 4)]⟩, ⟨(.some 10), none, (.prim .mv), [(.t 5)]⟩])
 (.seq (.region [⟨none, none, (.prim .mv), [(.v 10)]⟩, ⟨(.some 1), none, (.prim .mv), [(.t 0)]⟩])
 (.exit 1)))
 .skip))
 (.seq (.region [⟨none, none, (.prim .mv), [(.v 0)]⟩, ⟨none, none, (.prim .mv), [(.v 1)]⟩, ⟨none, none, (.prim .mv), [(.v 2)]⟩, ⟨none, none, (.prim .mv), [(.v 8)]⟩, ⟨none, none, (.prim .mv), [(.v 4)]⟩, ⟨none, none, .call, [(.c (.fn (.func 89) [])), (.t 0), (.t 1), (.t 2), (.t 3), (.t 4)]⟩, ⟨none, none, (.prim .mv), [(.t 5)]⟩, ⟨none, none, (.prim (.extract 0)), [(.t 6)]⟩, ⟨none, none, (.prim (.extract 1)), [(.t 6)]⟩, ⟨(.some 11), none, (.prim .mv), [(.t 7)]⟩, ⟨(.some 12), none, (.prim .mv), [(.t 8)]⟩])
 (.seq (.region [⟨none, none, (.prim .mv), [(.v 12)]⟩, ⟨(.some 6), none, (.prim .mv), [(.t 0)]⟩])
 (.seq (.region [⟨none, none, (.prim .mv), [(.v 11)]⟩, ⟨none, none, (.prim .mv), [(.v 1)]⟩, ⟨none, none, (.prim (.bin .sub .int)), [(.t 0), (.t 1)]⟩, ⟨none, none, (.prim .mv), [(.v 2)]⟩, ⟨none, none, (.prim .mv), [(.v 11)]⟩, ⟨none, none, (.prim (.bin .sub .int)), [(.t 3), (.t 4)]⟩, ⟨(.some 13), none, (.prim .mv), [(.t 2)]⟩, ⟨(.some 14), none, (.prim .mv), [(.t 5)]⟩])
 (.seq (.region [⟨none, none, (.prim .mv), [(.v 7)]⟩, ⟨none, none, (.prim (.bin .quo .int)), [(.t 0), (.c (.cv (.int .i64 8)))]⟩, ⟨(.some 15), none, (.prim .mv), [(.t 1)]⟩])
 (.seq (.region [⟨none, none, (.prim .mv), [(.v 13)]⟩, ⟨none, none, (.prim .mv), [(.v 14)]⟩, ⟨(.some 23), none, (.prim (.bin .lss .int)), [(.t 0), (.t 1)]⟩])
 (.cond 23 (.seq (.region [⟨none, none, (.prim .mv), [(.v 13)]⟩, ⟨none, none, (.prim .mv), [(.v 15)]⟩, ⟨none, none, (.prim (.bin .geq .int)), [(.t 0), (.t 1)]⟩, ⟨(.some 5), none, (.prim .mv), [(.t 2)]⟩])
 (.seq (.region [⟨none, none, (.prim .mv), [(.v 0)]⟩, ⟨none, none, (.prim .mv), [(.v 1)]⟩, ⟨none, none, (.prim .mv), [(.v 11)]⟩, ⟨none, none, (.prim .mv), [(.v 3)]⟩, ⟨none, none, (.prim .mv), [(.v 4)]⟩, ⟨none, none, .call, [(.c (.fn (.func 76) [])), (.t 0), (.t 1), (.t 2), (.t 3), (.t 4)]⟩])
 (.region [⟨none, none, (.prim .mv), [(.v 11)]⟩, ⟨none, none, (.prim (.bin .add .int)), [(.t 0), (.c (.cv (.int .i64 1)))]⟩, ⟨(.some 1), none, (.prim .mv), [(.t 1)]⟩])))
 (.seq (.region [⟨none, none, (.prim .mv), [(.v 14)]⟩, ⟨none, none, (.prim .mv), [(.v 15)]⟩, ⟨none, none, (.prim (.bin .geq .int)), [(.t 0), (.t 1)]⟩, ⟨(.some 5), none, (.prim .mv), [(.t 2)]⟩])
 (.seq (.region [⟨none, none, (.prim .mv), [(.v 0)]⟩, ⟨none, none, (.prim .mv), [(.v 11)]⟩, ⟨none, none, (.prim (.bin .add .int)), [(.t 1), (.c (.cv (.int .i64 1)))]⟩, ⟨none, none, (.prim .mv), [(.v 2)]⟩, ⟨none, none, (.prim .mv), [(.v 3)]⟩, ⟨none, none, (.prim .mv), [(.v 4)]⟩, ⟨none, none, .call, [(.c (.fn (.func 76) [])), (.t 0), (.t 2), (.t 3), (.t 4), (.t 5)]⟩])
 (.region [⟨none, none, (.prim .mv), [(.v 11)]⟩, ⟨(.some 2), none, (.prim .mv), [(.t 0)]⟩]))))))))))))))))))
def ic76 : IC := (.seq (.region [⟨(.some 5), none, (.prim .mv), [(.c (.cv (.bool true)))]⟩])
 (.seq (.region [⟨(.some 6), none, (.prim .mv), [(.c (.cv (.bool true)))]⟩])
 (.block 0 (.loop ic76l0))))
theorem cc76 : compC Try.prog vs76 Try.f76.ntmps (Try.f76.body.getD .skip) = some ic76 := by kernel_rfl
abbrev rs76 : List RC := []
theorem fok76 (p : Bool) : FnOk Try.prog 76 ⟨ic76, vs76, 148, rs76, p⟩ := FnOk.mk' Try.func76 hb76 (by kernel_rfl) cc76 (by kernel_rfl) (by kernel_rfl)

theorem hb77 : Try.f77.body = some (Try.f77.body.getD .skip) := by kernel_rfl
abbrev vs77 : List Nat := [0, 2]
def ic77 : IC := (.seq (.region [⟨(.some 1), none, (.prim .mv), [(.c (.cv (.int .i64 0)))]⟩])
 (.seq .skip
 (.seq (.region [⟨none, none, (.prim .mv), [(.v 0)]⟩, ⟨none, none, .call, [(.c (.fn (.func 91) [])), (.t 0)]⟩, ⟨(.some 1), none, (.prim .mv), [(.t 1)]⟩])
 .ret)))
theorem cc77 : compC Try.prog vs77 Try.f77.ntmps (Try.f77.body.getD .skip) = some ic77 := by kernel_rfl
abbrev rs77 : List RC := [(.v 1)]
theorem fok77 (p : Bool) : FnOk Try.prog 77 ⟨ic77, vs77, 8, rs77, p⟩ := FnOk.mk' Try.func77 hb77 (by kernel_rfl) cc77 (by kernel_rfl) (by kernel_rfl)

theorem hb78 : Try.f78.body = some (Try.f78.body.getD .skip) := by kernel_rfl
abbrev vs78 : List Nat := [0, 2]
def ic78 : IC := (.seq (.region [⟨(.some 1), none, (.prim .mv), [(.c (.cv (.bool false)))]⟩])
 (.seq (.region [⟨none, none, (.prim .mv), [(.v 0)]⟩, ⟨none, none, (.prim .mv), [(.v 0)]⟩, ⟨none, none, (.prim (.bin .neq .int)), [(.t 0), (.t 1)]⟩, ⟨(.some 1), none, (.prim .mv), [(.t 2)]⟩])
 .ret))
theorem cc78 : compC Try.prog vs78 Try.f78.ntmps (Try.f78.body.getD .skip) = some ic78 := by kernel_rfl
abbrev rs78 : List RC := [(.v 1)]
theorem fok78 (p : Bool) : FnOk Try.prog 78 ⟨ic78, vs78, 6, rs78, p⟩ := FnOk.mk' Try.func78 hb78 (by kernel_rfl) cc78 (by kernel_rfl) (by kernel_rfl)

theorem hb79 : Try.f79.body = some (Try.f79.body.getD .skip) := by kernel_rfl
abbrev vs79 : List Nat := [0, 1, 4, 5, 7, 8, 9, 16]
def ic79l0 : IC := (.seq (.region [⟨(.some 6), none, (.prim (.bin .lss .int)), [(.v 5), (.v 4)]⟩])
 (.seq (.cond 6 .skip
 (.exit 0))
 (.seq (.block 1 (.seq (.region [⟨none, none, (.prim .mv), [(.v 5)]⟩, ⟨(.some 3), none, (.prim .mv), [(.t 0)]⟩])
 (.seq (.region [⟨none, none, (.prim .mv), [(.v 1)]⟩, ⟨none, none, (.prim .mv), [(.v 0)]⟩, ⟨none, none, (.prim .mv), [(.v 3)]⟩, ⟨none, none, (.prim (.iaS 1)), [(.t 1), (.t 2)]⟩, ⟨none, none, (.prim .load1), [(.t 3)]⟩, ⟨(.some 7), none, .call, [(.t 0), (.t 4)]⟩])
 (.cond 7 (.seq (.region [⟨none, none, (.prim .mv), [(.v 3)]⟩, ⟨(.some 2), none, (.prim .mv), [(.t 0)]⟩])
 .ret)
 .skip))))
 (.region [⟨none, none, (.prim (.bin .add .int)), [(.v 5), (.c (.cv (.int .i64 1)))]⟩, ⟨(.some 5), none, (.prim .mv), [(.t 0)]⟩]))))
def ic79 : IC := (.seq (.region [⟨(.some 2), none, (.prim .mv), [(.c (.cv (.int .i64 0)))]⟩])
 (.seq (.seq (.region [⟨none, none, (.prim .mv), [(.v 0)]⟩, ⟨(.some 4), none, (.prim (.len false)), [(.t 0)]⟩, ⟨(.some 5), none, (.prim .mv), [(.c (.cv (.int .i64 0)))]⟩])
 (.block 0 (.loop ic79l0)))
 (.seq (.region [⟨(.some 2), none, (.prim .mv), [(.c (.cv (.int .i64 (-1))))]⟩])
 .ret)))
theorem cc79 : compC Try.prog vs79 Try.f79.ntmps (Try.f79.body.getD .skip) = some ic79 := by kernel_rfl
abbrev rs79 : List RC := [(.v 2)]
theorem fok79 (p : Bool) : FnOk Try.prog 79 ⟨ic79, vs79, 19, rs79, p⟩ := FnOk.mk' Try.func79 hb79 (by kernel_rfl) cc79 (by kernel_rfl) (by kernel_rfl)

theorem hb80 : Try.f80.body = some (Try.f80.body.getD .skip) := by kernel_rfl
abbrev vs80 : List Nat := [0, 1, 2, 4]
def ic80 : IC := (.seq (.region [⟨(.some 3), none, (.prim .mv), [(.c (.cv (.bool false)))]⟩])
 (.seq (.dr [[], [0], [1], [2], [3], [], [4, 5], [6], [], [7, 8], [9], [10], [11, 0, 1, 2, 3, 4, 5, 6, 7, 8, 9, 10, 11]] [⟨none, none, (.prim .load1), [(.v 1)]⟩, ⟨none, none, (.prim .nilck), [(.t 0)]⟩, ⟨none, none, (.prim (.fadd 0)), [(.t 1)]⟩, ⟨none, none, (.prim (.fadd 1)), [(.t 2)]⟩, ⟨none, none, (.prim .load1), [(.t 3)]⟩, ⟨none, none, (.prim .mv), [(.v 0)]⟩, ⟨none, none, (.prim (.iaS 1)), [(.t 4), (.t 5)]⟩, ⟨none, none, (.prim .load1), [(.t 6)]⟩, ⟨none, none, (.prim .load1), [(.v 2)]⟩, ⟨none, none, (.prim (.bin .shr .int)), [(.t 7), (.t 8)]⟩, ⟨none, none, (.prim (.bin .and .int)), [(.t 9), (.c (.cv (.int .i64 1)))]⟩, ⟨none, none, (.prim (.bin .eql .int)), [(.t 10), (.c (.cv (.int .i64 0)))]⟩, ⟨(.some 3), none, (.prim .mv), [(.t 11)]⟩])
 .ret))
theorem cc80 : compC Try.prog vs80 Try.f80.ntmps (Try.f80.body.getD .skip) = some ic80 := by kernel_rfl
abbrev rs80 : List RC := [(.v 3)]
theorem fok80 (p : Bool) : FnOk Try.prog 80 ⟨ic80, vs80, 17, rs80, p⟩ := FnOk.mk' Try.func80 hb80 (by kernel_rfl) cc80 (by kernel_rfl) (by kernel_rfl)

theorem hb81 : Try.f81.body = some (Try.f81.body.getD .skip) := by kernel_rfl
abbrev vs81 : List Nat := [0, 1, 4, 5, 7, 8, 9, 16]
def ic81l0 : IC := (.seq (.region [⟨(.some 6), none, (.prim (.bin .lss .int)), [(.v 5), (.v 4)]⟩])
 (.seq (.cond 6 .skip
 (.exit 0))
 (.seq (.block 1 (.seq (.region [⟨none, none, (.prim .mv), [(.v 5)]⟩, ⟨(.some 3), none, (.prim .mv), [(.t 0)]⟩])
 (.seq (.region [⟨none, none, (.prim .mv), [(.v 1)]⟩, ⟨none, none, (.prim .mv), [(.v 0)]⟩, ⟨none, none, (.prim .mv), [(.v 3)]⟩, ⟨none, none, (.prim (.iaS 1)), [(.t 1), (.t 2)]⟩, ⟨none, none, (.prim .load1), [(.t 3)]⟩, ⟨(.some 7), none, .call, [(.t 0), (.t 4)]⟩])
 (.cond 7 (.seq (.region [⟨none, none, (.prim .mv), [(.v 3)]⟩, ⟨(.some 2), none, (.prim .mv), [(.t 0)]⟩])
 .ret)
 .skip))))
 (.region [⟨none, none, (.prim (.bin .add .int)), [(.v 5), (.c (.cv (.int .i64 1)))]⟩, ⟨(.some 5), none, (.prim .mv), [(.t 0)]⟩]))))
def ic81 : IC := (.seq (.region [⟨(.some 2), none, (.prim .mv), [(.c (.cv (.int .i64 0)))]⟩])
 (.seq (.seq (.region [⟨none, none, (.prim .mv), [(.v 0)]⟩, ⟨(.some 4), none, (.prim (.len false)), [(.t 0)]⟩, ⟨(.some 5), none, (.prim .mv), [(.c (.cv (.int .i64 0)))]⟩])
 (.block 0 (.loop ic81l0)))
 (.seq (.region [⟨(.some 2), none, (.prim .mv), [(.c (.cv (.int .i64 (-1))))]⟩])
 .ret)))
theorem cc81 : compC Try.prog vs81 Try.f81.ntmps (Try.f81.body.getD .skip) = some ic81 := by kernel_rfl
abbrev rs81 : List RC := [(.v 2)]
theorem fok81 (p : Bool) : FnOk Try.prog 81 ⟨ic81, vs81, 19, rs81, p⟩ := FnOk.mk' Try.func81 hb81 (by kernel_rfl) cc81 (by kernel_rfl) (by kernel_rfl)

theorem hb82 : Try.f82.body = some (Try.f82.body.getD .skip) := by kernel_rfl
abbrev vs82 : List Nat := [0, 1, 2, 3, 8, 9, 14, 34]
def ic82l0 : IC := (.seq (.seq (.dr [[], [], [0, 1], [2], [3], [3], [3], [5, 6, 3], [7, 3], [3], [3], [10, 3], [9, 11, 3], [12, 3], [4, 8, 13, 3, 3], [14, 3], [3, 15]] [⟨none, none, (.prim .mv), [(.v 5)]⟩, ⟨none, none, (.prim .mv), [(.v 1)]⟩, ⟨none, none, (.prim (.bin .gtr .int)), [(.t 0), (.t 1)]⟩, ⟨none, none, (.prim .mv), [(.t 2)]⟩, ⟨none, (.some (3, true)), (.prim .mv), [(.v 3)]⟩, ⟨none, (.some (3, true)), (.prim .mv), [(.v 0)]⟩, ⟨none, (.some (3, true)), (.prim .mv), [(.v 5)]⟩, ⟨none, (.some (3, true)), (.prim (.iaS 1)), [(.t 5), (.t 6)]⟩, ⟨none, (.some (3, true)), (.prim .load1), [(.t 7)]⟩, ⟨none, (.some (3, true)), (.prim .mv), [(.v 0)]⟩, ⟨none, (.some (3, true)), (.prim .mv), [(.v 5)]⟩, ⟨none, (.some (3, true)), (.prim (.bin .sub .int)), [(.t 10), (.c (.cv (.int .i64 1)))]⟩, ⟨none, (.some (3, true)), (.prim (.iaS 1)), [(.t 9), (.t 11)]⟩, ⟨none, (.some (3, true)), (.prim .load1), [(.t 12)]⟩, ⟨none, (.some (3, true)), .call, [(.t 4), (.t 8), (.t 13)]⟩, ⟨none, (.some (3, true)), (.prim (.bin .lss .int)), [(.t 14), (.c (.cv (.int .i64 0)))]⟩, ⟨(.some 7), none, (.prim .pick), [(.t 3), (.t 15), (.c (.cv (.bool false)))]⟩])
 (.cond 7 .skip
 (.exit 2)))
 (.seq (.block 3 (.dr [[], [], [], [], [3], [], [], [6], [5, 7], [8], [], [], [10, 11], [12], [0, 1, 0, 1, 5, 6, 7, 8, 9, 13], [14, 9, 0, 1, 5, 6, 7, 8, 9, 13], [2, 4, 0, 1, 2, 3, 4, 5, 6, 7, 8, 9, 10, 11, 12, 13, 14, 15], [16, 13, 15, 0, 1, 2, 3, 4, 5, 6, 7, 8, 9, 10, 11, 12, 13, 14, 15]] [⟨none, none, (.prim .mv), [(.v 0)]⟩, ⟨none, none, (.prim .mv), [(.v 5)]⟩, ⟨none, none, (.prim .mv), [(.v 0)]⟩, ⟨none, none, (.prim .mv), [(.v 5)]⟩, ⟨none, none, (.prim (.bin .sub .int)), [(.t 3), (.c (.cv (.int .i64 1)))]⟩, ⟨none, none, (.prim .mv), [(.v 0)]⟩, ⟨none, none, (.prim .mv), [(.v 5)]⟩, ⟨none, none, (.prim (.bin .sub .int)), [(.t 6), (.c (.cv (.int .i64 1)))]⟩, ⟨none, none, (.prim (.iaS 1)), [(.t 5), (.t 7)]⟩, ⟨none, none, (.prim .load1), [(.t 8)]⟩, ⟨none, none, (.prim .mv), [(.v 0)]⟩, ⟨none, none, (.prim .mv), [(.v 5)]⟩, ⟨none, none, (.prim (.iaS 1)), [(.t 10), (.t 11)]⟩, ⟨none, none, (.prim .load1), [(.t 12)]⟩, ⟨none, none, (.prim (.iaS 1)), [(.t 0), (.t 1)]⟩, ⟨none, none, (.prim (.store 1)), [(.t 14), (.t 9)]⟩, ⟨none, none, (.prim (.iaS 1)), [(.t 2), (.t 4)]⟩, ⟨none, none, (.prim (.store 1)), [(.t 16), (.t 13)]⟩]))
 (.region [⟨none, none, (.prim .mv), [(.v 5)]⟩, ⟨none, none, (.prim (.bin .sub .int)), [(.t 0), (.c (.cv (.int .i64 1)))]⟩, ⟨(.some 5), none, (.prim .mv), [(.t 1)]⟩])))
def ic82l1 : IC := (.seq (.seq (.region [⟨none, none, (.prim .mv), [(.v 4)]⟩, ⟨none, none, (.prim .mv), [(.v 2)]⟩, ⟨(.some 6), none, (.prim (.bin .lss .int)), [(.t 0), (.t 1)]⟩])
 (.cond 6 .skip
 (.exit 0)))
 (.seq (.block 1 (.seq (.region [⟨none, none, (.prim .mv), [(.v 4)]⟩, ⟨(.some 5), none, (.prim .mv), [(.t 0)]⟩])
 (.block 2 (.loop ic82l0))))
 (.region [⟨none, none, (.prim .mv), [(.v 4)]⟩, ⟨none, none, (.prim (.bin .add .int)), [(.t 0), (.c (.cv (.int .i64 1)))]⟩, ⟨(.some 4), none, (.prim .mv), [(.t 1)]⟩])))
def ic82 : IC := (.seq (.region [⟨none, none, (.prim .mv), [(.v 1)]⟩, ⟨none, none, (.prim (.bin .add .int)), [(.t 0), (.c (.cv (.int .i64 1)))]⟩, ⟨(.some 4), none, (.prim .mv), [(.t 1)]⟩])
 (.block 0 (.loop ic82l1)))
theorem cc82 : compC Try.prog vs82 Try.f82.ntmps (Try.f82.body.getD .skip) = some ic82 := by kernel_rfl
abbrev rs82 : List RC := []
theorem fok82 (p : Bool) : FnOk Try.prog 82 ⟨ic82, vs82, 53, rs82, p⟩ := FnOk.mk' Try.func82 hb82 (by kernel_rfl) cc82 (by kernel_rfl) (by kernel_rfl)

theorem hb83 : Try.f83.body = some (Try.f83.body.getD .skip) := by kernel_rfl
abbrev vs83 : List Nat := [0, 1, 2, 3, 8, 9, 10, 11, 12, 21, 33]
def ic83l0 : IC := (.seq (.seq (.region [⟨none, none, (.prim .mv), [(.v 8)]⟩, ⟨(.some 10), none, (.prim (.bin .geq .int)), [(.t 0), (.c (.cv (.int .i64 0)))]⟩])
 (.cond 10 .skip
 (.exit 2)))
 (.seq (.block 3 (.seq (.dr [[], [], [], [], [], [3, 4], [], [], [], [7, 8], [6, 9], [10], [], [], [12, 13], [14], [0, 1, 0, 1, 6, 7, 8, 9, 10, 11, 15], [16, 11, 0, 1, 6, 7, 8, 9, 10, 11, 15], [2, 5, 0, 1, 2, 3, 4, 5, 6, 7, 8, 9, 10, 11, 12, 13, 14, 15, 16, 17], [18, 15, 17, 0, 1, 2, 3, 4, 5, 6, 7, 8, 9, 10, 11, 12, 13, 14, 15, 16, 17]] [⟨none, none, (.prim .mv), [(.v 0)]⟩, ⟨none, none, (.prim .mv), [(.v 4)]⟩, ⟨none, none, (.prim .mv), [(.v 0)]⟩, ⟨none, none, (.prim .mv), [(.v 4)]⟩, ⟨none, none, (.prim .mv), [(.v 8)]⟩, ⟨none, none, (.prim (.bin .add .int)), [(.t 3), (.t 4)]⟩, ⟨none, none, (.prim .mv), [(.v 0)]⟩, ⟨none, none, (.prim .mv), [(.v 4)]⟩, ⟨none, none, (.prim .mv), [(.v 8)]⟩, ⟨none, none, (.prim (.bin .add .int)), [(.t 7), (.t 8)]⟩, ⟨none, none, (.prim (.iaS 1)), [(.t 6), (.t 9)]⟩, ⟨none, none, (.prim .load1), [(.t 10)]⟩, ⟨none, none, (.prim .mv), [(.v 0)]⟩, ⟨none, none, (.prim .mv), [(.v 4)]⟩, ⟨none, none, (.prim (.iaS 1)), [(.t 12), (.t 13)]⟩, ⟨none, none, (.prim .load1), [(.t 14)]⟩, ⟨none, none, (.prim (.iaS 1)), [(.t 0), (.t 1)]⟩, ⟨none, none, (.prim (.store 1)), [(.t 16), (.t 11)]⟩, ⟨none, none, (.prim (.iaS 1)), [(.t 2), (.t 5)]⟩, ⟨none, none, (.prim (.store 1)), [(.t 18), (.t 15)]⟩])
 (.region [⟨none, none, (.prim .mv), [(.v 0)]⟩, ⟨none, none, (.prim .mv), [(.v 5)]⟩, ⟨none, none, (.prim .mv), [(.v 8)]⟩, ⟨none, none, (.prim .mv), [(.v 4)]⟩, ⟨none, none, (.prim .mv), [(.v 3)]⟩, ⟨none, none, .call, [(.c (.fn (.func 92) [])), (.t 0), (.t 1), (.t 2), (.t 3), (.t 4)]⟩])))
 (.region [⟨none, none, (.prim .mv), [(.v 8)]⟩, ⟨none, none, (.prim (.bin .sub .int)), [(.t 0), (.c (.cv (.int .i64 1)))]⟩, ⟨(.some 8), none, (.prim .mv), [(.t 1)]⟩])))
def ic83l1 : IC := (.seq (.seq (.region [⟨none, none, (.prim .mv), [(.v 7)]⟩, ⟨(.some 9), none, (.prim (.bin .geq .int)), [(.t 0), (.c (.cv (.int .i64 0)))]⟩])
 (.cond 9 .skip
 (.exit 0)))
 (.seq (.block 1 (.region [⟨none, none, (.prim .mv), [(.v 0)]⟩, ⟨none, none, (.prim .mv), [(.v 7)]⟩, ⟨none, none, (.prim .mv), [(.v 6)]⟩, ⟨none, none, (.prim .mv), [(.v 4)]⟩, ⟨none, none, (.prim .mv), [(.v 3)]⟩, ⟨none, none, .call, [(.c (.fn (.func 92) [])), (.t 0), (.t 1), (.t 2), (.t 3), (.t 4)]⟩]))
 (.region [⟨none, none, (.prim .mv), [(.v 7)]⟩, ⟨none, none, (.prim (.bin .sub .int)), [(.t 0), (.c (.cv (.int .i64 1)))]⟩, ⟨(.some 7), none, (.prim .mv), [(.t 1)]⟩])))
def ic83 : IC := (.seq (.region [⟨none, none, (.prim .mv), [(.v 1)]⟩, ⟨(.some 4), none, (.prim .mv), [(.t 0)]⟩])
 (.seq (.region [⟨(.some 5), none, (.prim .mv), [(.c (.cv (.int .i64 0)))]⟩])
 (.seq (.region [⟨none, none, (.prim .mv), [(.v 2)]⟩, ⟨none, none, (.prim .mv), [(.v 1)]⟩, ⟨none, none, (.prim (.bin .sub .int)), [(.t 0), (.t 1)]⟩, ⟨(.some 6), none, (.prim .mv), [(.t 2)]⟩])
 (.seq (.seq (.region [⟨none, none, (.prim .mv), [(.v 6)]⟩, ⟨none, none, (.prim (.bin .sub .int)), [(.t 0), (.c (.cv (.int .i64 1)))]⟩, ⟨none, none, (.prim (.bin .quo .int)), [(.t 1), (.c (.cv (.int .i64 2)))]⟩, ⟨(.some 7), none, (.prim .mv), [(.t 2)]⟩])
 (.block 0 (.loop ic83l1)))
 (.seq (.region [⟨none, none, (.prim .mv), [(.v 6)]⟩, ⟨none, none, (.prim (.bin .sub .int)), [(.t 0), (.c (.cv (.int .i64 1)))]⟩, ⟨(.some 8), none, (.prim .mv), [(.t 1)]⟩])
 (.block 2 (.loop ic83l0)))))))
theorem cc83 : compC Try.prog vs83 Try.f83.ntmps (Try.f83.body.getD .skip) = some ic83 := by kernel_rfl
abbrev rs83 : List RC := []
theorem fok83 (p : Bool) : FnOk Try.prog 83 ⟨ic83, vs83, 60, rs83, p⟩ := FnOk.mk' Try.func83 hb83 (by kernel_rfl) cc83 (by kernel_rfl) (by kernel_rfl)

theorem hb84 : Try.f84.body = some (Try.f84.body.getD .skip) := by kernel_rfl
abbrev vs84 : List Nat := [0, 1, 2, 3, 8, 9, 10, 11, 12, 17, 35, 45]
def ic84l0 : IC := (.seq (.seq (.region [⟨none, none, (.prim .mv), [(.v 7)]⟩, ⟨none, none, (.prim .mv), [(.v 1)]⟩, ⟨none, none, (.prim .mv), [(.v 4)]⟩, ⟨none, none, (.prim (.bin .quo .int)), [(.t 2), (.c (.cv (.int .i64 4)))]⟩, ⟨none, none, (.prim (.bin .mul .int)), [(.t 3), (.c (.cv (.int .i64 2)))]⟩, ⟨none, none, (.prim (.bin .add .int)), [(.t 1), (.t 4)]⟩, ⟨none, none, (.prim (.bin .add .int)), [(.t 5), (.c (.cv (.int .i64 1)))]⟩, ⟨(.some 10), none, (.prim (.bin .leq .int)), [(.t 0), (.t 6)]⟩])
 (.cond 10 .skip
 (.exit 0)))
 (.seq (.block 1 (.seq (.region [⟨none, none, .call, [(.c (.fn (.func 94) [])), (.v 5)]⟩, ⟨none, none, (.prim .mv), [(.v 6)]⟩, ⟨none, none, (.prim (.bin .sub .int)), [(.t 1), (.c (.cv (.int .u64 1)))]⟩, ⟨none, none, (.prim (.bin .and .int)), [(.t 0), (.t 2)]⟩, ⟨none, none, (.prim (.conv .i64)), [(.t 3)]⟩, ⟨(.some 8), none, (.prim .mv), [(.t 4)]⟩])
 (.seq (.seq (.region [⟨none, none, (.prim .mv), [(.v 8)]⟩, ⟨none, none, (.prim .mv), [(.v 4)]⟩, ⟨(.some 11), none, (.prim (.bin .geq .int)), [(.t 0), (.t 1)]⟩])
 (.cond 11 (.region [⟨none, none, (.prim .mv), [(.v 8)]⟩, ⟨none, none, (.prim .mv), [(.v 4)]⟩, ⟨none, none, (.prim (.bin .sub .int)), [(.t 0), (.t 1)]⟩, ⟨(.some 8), none, (.prim .mv), [(.t 2)]⟩])
 .skip))
 (.dr [[], [], [], [], [], [3, 4], [], [], [], [7, 8], [6, 9], [10], [], [], [12, 13], [14], [0, 1, 0, 1, 6, 7, 8, 9, 10, 11, 15], [16, 11, 0, 1, 6, 7, 8, 9, 10, 11, 15], [2, 5, 0, 1, 2, 3, 4, 5, 6, 7, 8, 9, 10, 11, 12, 13, 14, 15, 16, 17], [18, 15, 17, 0, 1, 2, 3, 4, 5, 6, 7, 8, 9, 10, 11, 12, 13, 14, 15, 16, 17]] [⟨none, none, (.prim .mv), [(.v 0)]⟩, ⟨none, none, (.prim .mv), [(.v 7)]⟩, ⟨none, none, (.prim .mv), [(.v 0)]⟩, ⟨none, none, (.prim .mv), [(.v 1)]⟩, ⟨none, none, (.prim .mv), [(.v 8)]⟩, ⟨none, none, (.prim (.bin .add .int)), [(.t 3), (.t 4)]⟩, ⟨none, none, (.prim .mv), [(.v 0)]⟩, ⟨none, none, (.prim .mv), [(.v 1)]⟩, ⟨none, none, (.prim .mv), [(.v 8)]⟩, ⟨none, none, (.prim (.bin .add .int)), [(.t 7), (.t 8)]⟩, ⟨none, none, (.prim (.iaS 1)), [(.t 6), (.t 9)]⟩, ⟨none, none, (.prim .load1), [(.t 10)]⟩, ⟨none, none, (.prim .mv), [(.v 0)]⟩, ⟨none, none, (.prim .mv), [(.v 7)]⟩, ⟨none, none, (.prim (.iaS 1)), [(.t 12), (.t 13)]⟩, ⟨none, none, (.prim .load1), [(.t 14)]⟩, ⟨none, none, (.prim (.iaS 1)), [(.t 0), (.t 1)]⟩, ⟨none, none, (.prim (.store 1)), [(.t 16), (.t 11)]⟩, ⟨none, none, (.prim (.iaS 1)), [(.t 2), (.t 5)]⟩, ⟨none, none, (.prim (.store 1)), [(.t 18), (.t 15)]⟩]))))
 (.region [⟨none, none, (.prim .mv), [(.v 7)]⟩, ⟨none, none, (.prim (.bin .add .int)), [(.t 0), (.c (.cv (.int .i64 1)))]⟩, ⟨(.some 7), none, (.prim .mv), [(.t 1)]⟩])))
def ic84 : IC := (.seq (.region [⟨none, none, (.prim .mv), [(.v 2)]⟩, ⟨none, none, (.prim .mv), [(.v 1)]⟩, ⟨none, none, (.prim (.bin .sub .int)), [(.t 0), (.t 1)]⟩, ⟨(.some 4), none, (.prim .mv), [(.t 2)]⟩])
 (.seq (.region [⟨none, none, (.prim .mv), [(.v 4)]⟩, ⟨(.some 9), none, (.prim (.bin .geq .int)), [(.t 0), (.c (.cv (.int .i64 8)))]⟩])
 (.cond 9 (.seq (.region [⟨none, none, (.prim .mv), [(.v 4)]⟩, ⟨none, none, (.prim (.conv .u64)), [(.t 0)]⟩, ⟨(.some 5), none, (.prim (.alloc [(.cv (.int .u64 0))])), []⟩, ⟨none, none, (.prim (.store 1)), [(.v 5), (.t 1)]⟩])
 (.seq (.region [⟨none, none, (.prim .mv), [(.v 4)]⟩, ⟨none, none, .call, [(.c (.fn (.func 93) [])), (.t 0)]⟩, ⟨(.some 6), none, (.prim .mv), [(.t 1)]⟩])
 (.seq (.region [⟨none, none, (.prim .mv), [(.v 1)]⟩, ⟨none, none, (.prim .mv), [(.v 4)]⟩, ⟨none, none, (.prim (.bin .quo .int)), [(.t 1), (.c (.cv (.int .i64 4)))]⟩, ⟨none, none, (.prim (.bin .mul .int)), [(.t 2), (.c (.cv (.int .i64 2)))]⟩, ⟨none, none, (.prim (.bin .add .int)), [(.t 0), (.t 3)]⟩, ⟨none, none, (.prim (.bin .sub .int)), [(.t 4), (.c (.cv (.int .i64 1)))]⟩, ⟨(.some 7), none, (.prim .mv), [(.t 5)]⟩])
 (.block 0 (.loop ic84l0)))))
 .skip)))
theorem cc84 : compC Try.prog vs84 Try.f84.ntmps (Try.f84.body.getD .skip) = some ic84 := by kernel_rfl
abbrev rs84 : List RC := []
theorem fok84 (p : Bool) : FnOk Try.prog 84 ⟨ic84, vs84, 67, rs84, p⟩ := FnOk.mk' Try.func84 hb84 (by kernel_rfl) cc84 (by kernel_rfl) (by kernel_rfl)

theorem hb85 : Try.f85.body = some (Try.f85.body.getD .skip) := by kernel_rfl
abbrev vs85 : List Nat := [0, 1, 2, 3, 8, 9, 10, 11, 12, 13, 14, 34, 36, 55, 57, 60]
def ic85 : IC := (.seq (.region [⟨(.some 4), none, (.prim .mv), [(.c (.cv (.int .i64 0)))]⟩, ⟨(.some 5), none, (.prim .mv), [(.c (.cv (.int .i64 0)))]⟩])
 (.seq (.region [⟨none, none, (.prim .mv), [(.v 2)]⟩, ⟨none, none, (.prim .mv), [(.v 1)]⟩, ⟨none, none, (.prim (.bin .sub .int)), [(.t 0), (.t 1)]⟩, ⟨(.some 6), none, (.prim .mv), [(.t 2)]⟩])
 (.seq (.region [⟨(.some 7), none, (.prim (.alloc [(.cv (.int .i64 0))])), []⟩])
 (.seq (.region [⟨none, none, (.prim .mv), [(.v 1)]⟩, ⟨none, none, (.prim .mv), [(.v 6)]⟩, ⟨none, none, (.prim (.bin .quo .int)), [(.t 1), (.c (.cv (.int .i64 4)))]⟩, ⟨none, none, (.prim (.bin .mul .int)), [(.t 2), (.c (.cv (.int .i64 1)))]⟩, ⟨none, none, (.prim (.bin .add .int)), [(.t 0), (.t 3)]⟩, ⟨(.some 8), none, (.prim .mv), [(.t 4)]⟩])
 (.seq (.region [⟨none, none, (.prim .mv), [(.v 1)]⟩, ⟨none, none, (.prim .mv), [(.v 6)]⟩, ⟨none, none, (.prim (.bin .quo .int)), [(.t 1), (.c (.cv (.int .i64 4)))]⟩, ⟨none, none, (.prim (.bin .mul .int)), [(.t 2), (.c (.cv (.int .i64 2)))]⟩, ⟨none, none, (.prim (.bin .add .int)), [(.t 0), (.t 3)]⟩, ⟨(.some 9), none, (.prim .mv), [(.t 4)]⟩])
 (.seq (.region [⟨none, none, (.prim .mv), [(.v 1)]⟩, ⟨none, none, (.prim .mv), [(.v 6)]⟩, ⟨none, none, (.prim (.bin .quo .int)), [(.t 1), (.c (.cv (.int .i64 4)))]⟩, ⟨none, none, (.prim (.bin .mul .int)), [(.t 2), (.c (.cv (.int .i64 3)))]⟩, ⟨none, none, (.prim (.bin .add .int)), [(.t 0), (.t 3)]⟩, ⟨(.some 10), none, (.prim .mv), [(.t 4)]⟩])
 (.seq (.seq (.region [⟨none, none, (.prim .mv), [(.v 6)]⟩, ⟨(.some 11), none, (.prim (.bin .geq .int)), [(.t 0), (.c (.cv (.int .i64 8)))]⟩])
 (.cond 11 (.seq (.seq (.region [⟨none, none, (.prim .mv), [(.v 6)]⟩, ⟨(.some 12), none, (.prim (.bin .geq .int)), [(.t 0), (.c (.cv (.int .i64 50)))]⟩])
 (.cond 12 (.seq (.region [⟨none, none, (.prim .mv), [(.v 0)]⟩, ⟨none, none, (.prim .mv), [(.v 8)]⟩, ⟨none, none, (.prim .mv), [(.v 3)]⟩, ⟨none, none, .call, [(.c (.fn (.func 95) [])), (.t 0), (.t 1), (.v 7), (.t 2)]⟩, ⟨(.some 8), none, (.prim .mv), [(.t 3)]⟩])
 (.seq (.region [⟨none, none, (.prim .mv), [(.v 0)]⟩, ⟨none, none, (.prim .mv), [(.v 9)]⟩, ⟨none, none, (.prim .mv), [(.v 3)]⟩, ⟨none, none, .call, [(.c (.fn (.func 95) [])), (.t 0), (.t 1), (.v 7), (.t 2)]⟩, ⟨(.some 9), none, (.prim .mv), [(.t 3)]⟩])
 (.region [⟨none, none, (.prim .mv), [(.v 0)]⟩, ⟨none, none, (.prim .mv), [(.v 10)]⟩, ⟨none, none, (.prim .mv), [(.v 3)]⟩, ⟨none, none, .call, [(.c (.fn (.func 95) [])), (.t 0), (.t 1), (.v 7), (.t 2)]⟩, ⟨(.some 10), none, (.prim .mv), [(.t 3)]⟩])))
 .skip))
 (.region [⟨none, none, (.prim .mv), [(.v 0)]⟩, ⟨none, none, (.prim .mv), [(.v 8)]⟩, ⟨none, none, (.prim .mv), [(.v 9)]⟩, ⟨none, none, (.prim .mv), [(.v 10)]⟩, ⟨none, none, (.prim .mv), [(.v 3)]⟩, ⟨none, none, .call, [(.c (.fn (.func 96) [])), (.t 0), (.t 1), (.t 2), (.t 3), (.v 7), (.t 4)]⟩, ⟨(.some 9), none, (.prim .mv), [(.t 5)]⟩]))
 .skip))
 (.seq (.region [⟨(.some 13), none, (.prim .load1), [(.v 7)]⟩])
 (.block 0 (.seq (.region [⟨none, none, (.prim (.bin .eql .int)), [(.v 13), (.c (.cv (.int .i64 0)))]⟩, ⟨(.some 14), none, (.prim .mv), [(.t 0)]⟩])
 (.cond 14 (.seq (.region [⟨none, none, (.prim .mv), [(.v 9)]⟩, ⟨(.some 4), none, (.prim .mv), [(.t 0)]⟩, ⟨(.some 5), none, (.prim .mv), [(.c (.cv (.int .i64 1)))]⟩])
 .ret)
 (.seq (.region [⟨none, none, (.prim (.bin .eql .int)), [(.v 13), (.c (.cv (.int .i64 12)))]⟩, ⟨(.some 15), none, (.prim .mv), [(.t 0)]⟩])
 (.cond 15 (.seq (.region [⟨none, none, (.prim .mv), [(.v 9)]⟩, ⟨(.some 4), none, (.prim .mv), [(.t 0)]⟩, ⟨(.some 5), none, (.prim .mv), [(.c (.cv (.int .i64 2)))]⟩])
 .ret)
 (.seq (.region [⟨none, none, (.prim .mv), [(.v 9)]⟩, ⟨(.some 4), none, (.prim .mv), [(.t 0)]⟩, ⟨(.some 5), none, (.prim .mv), [(.c (.cv (.int .i64 0)))]⟩])
 .ret))))))))))))))
theorem cc85 : compC Try.prog vs85 Try.f85.ntmps (Try.f85.body.getD .skip) = some ic85 := by kernel_rfl
abbrev rs85 : List RC := [(.v 4), (.v 5)]
theorem fok85 (p : Bool) : FnOk Try.prog 85 ⟨ic85, vs85, 63, rs85, p⟩ := FnOk.mk' Try.func85 hb85 (by kernel_rfl) cc85 (by kernel_rfl) (by kernel_rfl)

theorem hb86 : Try.f86.body = some (Try.f86.body.getD .skip) := by kernel_rfl
abbrev vs86 : List Nat := [0, 1, 2, 3, 8, 9, 15]
def ic86l0 : IC := (.seq (.seq (.region [⟨none, none, (.prim .mv), [(.v 4)]⟩, ⟨none, none, (.prim .mv), [(.v 5)]⟩, ⟨(.some 6), none, (.prim (.bin .lss .int)), [(.t 0), (.t 1)]⟩])
 (.cond 6 .skip
 (.exit 0)))
 (.block 1 (.seq (.dr [[], [], [], [], [], [], [4, 5], [6], [], [], [8, 9], [10], [0, 1, 0, 1, 4, 5, 6, 7, 11], [12, 7, 0, 1, 4, 5, 6, 7, 11], [2, 3, 0, 1, 2, 3, 4, 5, 6, 7, 8, 9, 10, 11, 12, 13], [14, 11, 13, 0, 1, 2, 3, 4, 5, 6, 7, 8, 9, 10, 11, 12, 13]] [⟨none, none, (.prim .mv), [(.v 0)]⟩, ⟨none, none, (.prim .mv), [(.v 4)]⟩, ⟨none, none, (.prim .mv), [(.v 0)]⟩, ⟨none, none, (.prim .mv), [(.v 5)]⟩, ⟨none, none, (.prim .mv), [(.v 0)]⟩, ⟨none, none, (.prim .mv), [(.v 5)]⟩, ⟨none, none, (.prim (.iaS 1)), [(.t 4), (.t 5)]⟩, ⟨none, none, (.prim .load1), [(.t 6)]⟩, ⟨none, none, (.prim .mv), [(.v 0)]⟩, ⟨none, none, (.prim .mv), [(.v 4)]⟩, ⟨none, none, (.prim (.iaS 1)), [(.t 8), (.t 9)]⟩, ⟨none, none, (.prim .load1), [(.t 10)]⟩, ⟨none, none, (.prim (.iaS 1)), [(.t 0), (.t 1)]⟩, ⟨none, none, (.prim (.store 1)), [(.t 12), (.t 7)]⟩, ⟨none, none, (.prim (.iaS 1)), [(.t 2), (.t 3)]⟩, ⟨none, none, (.prim (.store 1)), [(.t 14), (.t 11)]⟩])
 (.seq (.region [⟨none, none, (.prim .mv), [(.v 4)]⟩, ⟨none, none, (.prim (.bin .add .int)), [(.t 0), (.c (.cv (.int .i64 1)))]⟩, ⟨(.some 4), none, (.prim .mv), [(.t 1)]⟩])
 (.region [⟨none, none, (.prim .mv), [(.v 5)]⟩, ⟨none, none, (.prim (.bin .sub .int)), [(.t 0), (.c (.cv (.int .i64 1)))]⟩, ⟨(.some 5), none, (.prim .mv), [(.t 1)]⟩])))))
def ic86 : IC := (.seq (.region [⟨none, none, (.prim .mv), [(.v 1)]⟩, ⟨(.some 4), none, (.prim .mv), [(.t 0)]⟩])
 (.seq (.region [⟨none, none, (.prim .mv), [(.v 2)]⟩, ⟨none, none, (.prim (.bin .sub .int)), [(.t 0), (.c (.cv (.int .i64 1)))]⟩, ⟨(.some 5), none, (.prim .mv), [(.t 1)]⟩])
 (.block 0 (.loop ic86l0))))
theorem cc86 : compC Try.prog vs86 Try.f86.ntmps (Try.f86.body.getD .skip) = some ic86 := by kernel_rfl
abbrev rs86 : List RC := []
theorem fok86 (p : Bool) : FnOk Try.prog 86 ⟨ic86, vs86, 34, rs86, p⟩ := FnOk.mk' Try.func86 hb86 (by kernel_rfl) cc86 (by kernel_rfl) (by kernel_rfl)

theorem hb87 : Try.f87.body = some (Try.f87.body.getD .skip) := by kernel_rfl
abbrev vs87 : List Nat := [0, 1, 2, 3, 8, 9, 10, 11, 12, 16, 36, 41, 45, 65, 69, 84, 104, 109, 124]
def ic87l0 : IC := (.seq (.seq (.region [⟨none, none, (.prim .mv), [(.v 8)]⟩, ⟨none, none, (.prim .mv), [(.v 2)]⟩, ⟨(.some 17), none, (.prim (.bin .lss .int)), [(.t 0), (.t 1)]⟩])
 (.cond 17 .skip
 (.exit 6)))
 (.seq (.block 7 (.seq (.seq (.dr [[], [], [], [1, 2], [3], [], [], [6], [5, 7], [8], [0, 4, 9], [10], [11]] [⟨none, none, (.prim .mv), [(.v 3)]⟩, ⟨none, none, (.prim .mv), [(.v 0)]⟩, ⟨none, none, (.prim .mv), [(.v 8)]⟩, ⟨none, none, (.prim (.iaS 1)), [(.t 1), (.t 2)]⟩, ⟨none, none, (.prim .load1), [(.t 3)]⟩, ⟨none, none, (.prim .mv), [(.v 0)]⟩, ⟨none, none, (.prim .mv), [(.v 8)]⟩, ⟨none, none, (.prim (.bin .sub .int)), [(.t 6), (.c (.cv (.int .i64 1)))]⟩, ⟨none, none, (.prim (.iaS 1)), [(.t 5), (.t 7)]⟩, ⟨none, none, (.prim .load1), [(.t 8)]⟩, ⟨none, none, .call, [(.t 0), (.t 4), (.t 9)]⟩, ⟨none, none, (.prim (.bin .lss .int)), [(.t 10), (.c (.cv (.int .i64 0)))]⟩, ⟨(.some 18), none, (.prim .not), [(.t 11)]⟩])
 (.cond 18 (.exit 6)
 .skip))
 (.dr [[], [], [], [], [3], [], [], [6], [5, 7], [8], [], [], [10, 11], [12], [0, 1, 0, 1, 5, 6, 7, 8, 9, 13], [14, 9, 0, 1, 5, 6, 7, 8, 9, 13], [2, 4, 0, 1, 2, 3, 4, 5, 6, 7, 8, 9, 10, 11, 12, 13, 14, 15], [16, 13, 15, 0, 1, 2, 3, 4, 5, 6, 7, 8, 9, 10, 11, 12, 13, 14, 15]] [⟨none, none, (.prim .mv), [(.v 0)]⟩, ⟨none, none, (.prim .mv), [(.v 8)]⟩, ⟨none, none, (.prim .mv), [(.v 0)]⟩, ⟨none, none, (.prim .mv), [(.v 8)]⟩, ⟨none, none, (.prim (.bin .sub .int)), [(.t 3), (.c (.cv (.int .i64 1)))]⟩, ⟨none, none, (.prim .mv), [(.v 0)]⟩, ⟨none, none, (.prim .mv), [(.v 8)]⟩, ⟨none, none, (.prim (.bin .sub .int)), [(.t 6), (.c (.cv (.int .i64 1)))]⟩, ⟨none, none, (.prim (.iaS 1)), [(.t 5), (.t 7)]⟩, ⟨none, none, (.prim .load1), [(.t 8)]⟩, ⟨none, none, (.prim .mv), [(.v 0)]⟩, ⟨none, none, (.prim .mv), [(.v 8)]⟩, ⟨none, none, (.prim (.iaS 1)), [(.t 10), (.t 11)]⟩, ⟨none, none, (.prim .load1), [(.t 12)]⟩, ⟨none, none, (.prim (.iaS 1)), [(.t 0), (.t 1)]⟩, ⟨none, none, (.prim (.store 1)), [(.t 14), (.t 9)]⟩, ⟨none, none, (.prim (.iaS 1)), [(.t 2), (.t 4)]⟩, ⟨none, none, (.prim (.store 1)), [(.t 16), (.t 13)]⟩])))
 (.region [⟨none, none, (.prim .mv), [(.v 8)]⟩, ⟨none, none, (.prim (.bin .add .int)), [(.t 0), (.c (.cv (.int .i64 1)))]⟩, ⟨(.some 8), none, (.prim .mv), [(.t 1)]⟩])))
def ic87l1 : IC := (.seq (.seq (.region [⟨none, none, (.prim .mv), [(.v 7)]⟩, ⟨(.some 14), none, (.prim (.bin .geq .int)), [(.t 0), (.c (.cv (.int .i64 1)))]⟩])
 (.cond 14 .skip
 (.exit 4)))
 (.seq (.block 5 (.seq (.seq (.dr [[], [], [], [1, 2], [3], [], [], [6], [5, 7], [8], [0, 4, 9], [10], [11]] [⟨none, none, (.prim .mv), [(.v 3)]⟩, ⟨none, none, (.prim .mv), [(.v 0)]⟩, ⟨none, none, (.prim .mv), [(.v 7)]⟩, ⟨none, none, (.prim (.iaS 1)), [(.t 1), (.t 2)]⟩, ⟨none, none, (.prim .load1), [(.t 3)]⟩, ⟨none, none, (.prim .mv), [(.v 0)]⟩, ⟨none, none, (.prim .mv), [(.v 7)]⟩, ⟨none, none, (.prim (.bin .sub .int)), [(.t 6), (.c (.cv (.int .i64 1)))]⟩, ⟨none, none, (.prim (.iaS 1)), [(.t 5), (.t 7)]⟩, ⟨none, none, (.prim .load1), [(.t 8)]⟩, ⟨none, none, .call, [(.t 0), (.t 4), (.t 9)]⟩, ⟨none, none, (.prim (.bin .lss .int)), [(.t 10), (.c (.cv (.int .i64 0)))]⟩, ⟨(.some 15), none, (.prim .not), [(.t 11)]⟩])
 (.cond 15 (.exit 4)
 .skip))
 (.dr [[], [], [], [], [3], [], [], [6], [5, 7], [8], [], [], [10, 11], [12], [0, 1, 0, 1, 5, 6, 7, 8, 9, 13], [14, 9, 0, 1, 5, 6, 7, 8, 9, 13], [2, 4, 0, 1, 2, 3, 4, 5, 6, 7, 8, 9, 10, 11, 12, 13, 14, 15], [16, 13, 15, 0, 1, 2, 3, 4, 5, 6, 7, 8, 9, 10, 11, 12, 13, 14, 15]] [⟨none, none, (.prim .mv), [(.v 0)]⟩, ⟨none, none, (.prim .mv), [(.v 7)]⟩, ⟨none, none, (.prim .mv), [(.v 0)]⟩, ⟨none, none, (.prim .mv), [(.v 7)]⟩, ⟨none, none, (.prim (.bin .sub .int)), [(.t 3), (.c (.cv (.int .i64 1)))]⟩, ⟨none, none, (.prim .mv), [(.v 0)]⟩, ⟨none, none, (.prim .mv), [(.v 7)]⟩, ⟨none, none, (.prim (.bin .sub .int)), [(.t 6), (.c (.cv (.int .i64 1)))]⟩, ⟨none, none, (.prim (.iaS 1)), [(.t 5), (.t 7)]⟩, ⟨none, none, (.prim .load1), [(.t 8)]⟩, ⟨none, none, (.prim .mv), [(.v 0)]⟩, ⟨none, none, (.prim .mv), [(.v 7)]⟩, ⟨none, none, (.prim (.iaS 1)), [(.t 10), (.t 11)]⟩, ⟨none, none, (.prim .load1), [(.t 12)]⟩, ⟨none, none, (.prim (.iaS 1)), [(.t 0), (.t 1)]⟩, ⟨none, none, (.prim (.store 1)), [(.t 14), (.t 9)]⟩, ⟨none, none, (.prim (.iaS 1)), [(.t 2), (.t 4)]⟩, ⟨none, none, (.prim (.store 1)), [(.t 16), (.t 13)]⟩])))
 (.region [⟨none, none, (.prim .mv), [(.v 7)]⟩, ⟨none, none, (.prim (.bin .sub .int)), [(.t 0), (.c (.cv (.int .i64 1)))]⟩, ⟨(.some 7), none, (.prim .mv), [(.t 1)]⟩])))
def ic87l2 : IC := (.seq (.seq (.dr [[], [], [0, 1], [2], [3], [3], [3], [5, 6, 3], [7, 3], [3], [3], [10, 3], [9, 11, 3], [12, 3], [4, 8, 13, 3, 3], [14, 3], [15, 3], [3, 16]] [⟨none, none, (.prim .mv), [(.v 5)]⟩, ⟨none, none, (.prim .mv), [(.v 2)]⟩, ⟨none, none, (.prim (.bin .lss .int)), [(.t 0), (.t 1)]⟩, ⟨none, none, (.prim .mv), [(.t 2)]⟩, ⟨none, (.some (3, true)), (.prim .mv), [(.v 3)]⟩, ⟨none, (.some (3, true)), (.prim .mv), [(.v 0)]⟩, ⟨none, (.some (3, true)), (.prim .mv), [(.v 5)]⟩, ⟨none, (.some (3, true)), (.prim (.iaS 1)), [(.t 5), (.t 6)]⟩, ⟨none, (.some (3, true)), (.prim .load1), [(.t 7)]⟩, ⟨none, (.some (3, true)), (.prim .mv), [(.v 0)]⟩, ⟨none, (.some (3, true)), (.prim .mv), [(.v 5)]⟩, ⟨none, (.some (3, true)), (.prim (.bin .sub .int)), [(.t 10), (.c (.cv (.int .i64 1)))]⟩, ⟨none, (.some (3, true)), (.prim (.iaS 1)), [(.t 9), (.t 11)]⟩, ⟨none, (.some (3, true)), (.prim .load1), [(.t 12)]⟩, ⟨none, (.some (3, true)), .call, [(.t 4), (.t 8), (.t 13)]⟩, ⟨none, (.some (3, true)), (.prim (.bin .lss .int)), [(.t 14), (.c (.cv (.int .i64 0)))]⟩, ⟨none, (.some (3, true)), (.prim .not), [(.t 15)]⟩, ⟨(.some 10), none, (.prim .pick), [(.t 3), (.t 16), (.c (.cv (.bool false)))]⟩])
 (.cond 10 .skip
 (.exit 2)))
 (.block 3 (.region [⟨none, none, (.prim .mv), [(.v 5)]⟩, ⟨none, none, (.prim (.bin .add .int)), [(.t 0), (.c (.cv (.int .i64 1)))]⟩, ⟨(.some 5), none, (.prim .mv), [(.t 1)]⟩])))
def ic87l3 : IC := (.seq (.seq (.region [⟨none, none, (.prim .mv), [(.v 6)]⟩, ⟨(.some 9), none, (.prim (.bin .lss .int)), [(.t 0), (.c (.cv (.int .i64 5)))]⟩])
 (.cond 9 .skip
 (.exit 0)))
 (.seq (.block 1 (.seq (.block 2 (.loop ic87l2))
 (.seq (.seq (.region [⟨none, none, (.prim .mv), [(.v 5)]⟩, ⟨none, none, (.prim .mv), [(.v 2)]⟩, ⟨(.some 11), none, (.prim (.bin .eql .int)), [(.t 0), (.t 1)]⟩])
 (.cond 11 (.seq (.region [⟨(.some 4), none, (.prim .mv), [(.c (.cv (.bool true)))]⟩])
 .ret)
 .skip))
 (.seq (.seq (.region [⟨none, none, (.prim .mv), [(.v 2)]⟩, ⟨none, none, (.prim .mv), [(.v 1)]⟩, ⟨none, none, (.prim (.bin .sub .int)), [(.t 0), (.t 1)]⟩, ⟨(.some 12), none, (.prim (.bin .lss .int)), [(.t 2), (.c (.cv (.int .i64 50)))]⟩])
 (.cond 12 (.seq (.region [⟨(.some 4), none, (.prim .mv), [(.c (.cv (.bool false)))]⟩])
 .ret)
 .skip))
 (.seq (.dr [[], [], [], [], [3], [], [], [6], [5, 7], [8], [], [], [10, 11], [12], [0, 1, 0, 1, 5, 6, 7, 8, 9, 13], [14, 9, 0, 1, 5, 6, 7, 8, 9, 13], [2, 4, 0, 1, 2, 3, 4, 5, 6, 7, 8, 9, 10, 11, 12, 13, 14, 15], [16, 13, 15, 0, 1, 2, 3, 4, 5, 6, 7, 8, 9, 10, 11, 12, 13, 14, 15]] [⟨none, none, (.prim .mv), [(.v 0)]⟩, ⟨none, none, (.prim .mv), [(.v 5)]⟩, ⟨none, none, (.prim .mv), [(.v 0)]⟩, ⟨none, none, (.prim .mv), [(.v 5)]⟩, ⟨none, none, (.prim (.bin .sub .int)), [(.t 3), (.c (.cv (.int .i64 1)))]⟩, ⟨none, none, (.prim .mv), [(.v 0)]⟩, ⟨none, none, (.prim .mv), [(.v 5)]⟩, ⟨none, none, (.prim (.bin .sub .int)), [(.t 6), (.c (.cv (.int .i64 1)))]⟩, ⟨none, none, (.prim (.iaS 1)), [(.t 5), (.t 7)]⟩, ⟨none, none, (.prim .load1), [(.t 8)]⟩, ⟨none, none, (.prim .mv), [(.v 0)]⟩, ⟨none, none, (.prim .mv), [(.v 5)]⟩, ⟨none, none, (.prim (.iaS 1)), [(.t 10), (.t 11)]⟩, ⟨none, none, (.prim .load1), [(.t 12)]⟩, ⟨none, none, (.prim (.iaS 1)), [(.t 0), (.t 1)]⟩, ⟨none, none, (.prim (.store 1)), [(.t 14), (.t 9)]⟩, ⟨none, none, (.prim (.iaS 1)), [(.t 2), (.t 4)]⟩, ⟨none, none, (.prim (.store 1)), [(.t 16), (.t 13)]⟩])
 (.seq (.seq (.region [⟨none, none, (.prim .mv), [(.v 5)]⟩, ⟨none, none, (.prim .mv), [(.v 1)]⟩, ⟨none, none, (.prim (.bin .sub .int)), [(.t 0), (.t 1)]⟩, ⟨(.some 13), none, (.prim (.bin .geq .int)), [(.t 2), (.c (.cv (.int .i64 2)))]⟩])
 (.cond 13 (.seq (.region [⟨none, none, (.prim .mv), [(.v 5)]⟩, ⟨none, none, (.prim (.bin .sub .int)), [(.t 0), (.c (.cv (.int .i64 1)))]⟩, ⟨(.some 7), none, (.prim .mv), [(.t 1)]⟩])
 (.block 4 (.loop ic87l1)))
 .skip))
 (.seq (.region [⟨none, none, (.prim .mv), [(.v 2)]⟩, ⟨none, none, (.prim .mv), [(.v 5)]⟩, ⟨none, none, (.prim (.bin .sub .int)), [(.t 0), (.t 1)]⟩, ⟨(.some 16), none, (.prim (.bin .geq .int)), [(.t 2), (.c (.cv (.int .i64 2)))]⟩])
 (.cond 16 (.seq (.region [⟨none, none, (.prim .mv), [(.v 5)]⟩, ⟨none, none, (.prim (.bin .add .int)), [(.t 0), (.c (.cv (.int .i64 1)))]⟩, ⟨(.some 8), none, (.prim .mv), [(.t 1)]⟩])
 (.block 6 (.loop ic87l0)))
 .skip))))))))
 (.region [⟨none, none, (.prim .mv), [(.v 6)]⟩, ⟨none, none, (.prim (.bin .add .int)), [(.t 0), (.c (.cv (.int .i64 1)))]⟩, ⟨(.some 6), none, (.prim .mv), [(.t 1)]⟩])))
def ic87 : IC := (.seq (.region [⟨(.some 4), none, (.prim .mv), [(.c (.cv (.bool false)))]⟩])
 (.seq (.region [⟨none, none, (.prim .mv), [(.v 1)]⟩, ⟨none, none, (.prim (.bin .add .int)), [(.t 0), (.c (.cv (.int .i64 1)))]⟩, ⟨(.some 5), none, (.prim .mv), [(.t 1)]⟩])
 (.seq (.seq (.region [⟨(.some 6), none, (.prim .mv), [(.c (.cv (.int .i64 0)))]⟩])
 (.block 0 (.loop ic87l3)))
 (.seq (.region [⟨(.some 4), none, (.prim .mv), [(.c (.cv (.bool false)))]⟩])
 .ret))))
theorem cc87 : compC Try.prog vs87 Try.f87.ntmps (Try.f87.body.getD .skip) = some ic87 := by kernel_rfl
abbrev rs87 : List RC := [(.v 4)]
theorem fok87 (p : Bool) : FnOk Try.prog 87 ⟨ic87, vs87, 141, rs87, p⟩ := FnOk.mk' Try.func87 hb87 (by kernel_rfl) cc87 (by kernel_rfl) (by kernel_rfl)

theorem hb88 : Try.f88.body = some (Try.f88.body.getD .skip) := by kernel_rfl
abbrev vs88 : List Nat := [0, 1, 2, 3, 4, 10, 11, 12, 47, 65, 70]
def ic88l0 : IC := (.seq (.seq (.dr [[], [], [0, 1], [2], [3], [3], [3], [5, 6, 3], [7, 3], [3], [3], [9, 10, 3], [11, 3], [4, 8, 12, 3, 3], [13, 3], [3, 14]] [⟨none, none, (.prim .mv), [(.v 6)]⟩, ⟨none, none, (.prim .mv), [(.v 7)]⟩, ⟨none, none, (.prim (.bin .leq .int)), [(.t 0), (.t 1)]⟩, ⟨none, none, (.prim .mv), [(.t 2)]⟩, ⟨none, (.some (3, true)), (.prim .mv), [(.v 4)]⟩, ⟨none, (.some (3, true)), (.prim .mv), [(.v 0)]⟩, ⟨none, (.some (3, true)), (.prim .mv), [(.v 1)]⟩, ⟨none, (.some (3, true)), (.prim (.iaS 1)), [(.t 5), (.t 6)]⟩, ⟨none, (.some (3, true)), (.prim .load1), [(.t 7)]⟩, ⟨none, (.some (3, true)), (.prim .mv), [(.v 0)]⟩, ⟨none, (.some (3, true)), (.prim .mv), [(.v 7)]⟩, ⟨none, (.some (3, true)), (.prim (.iaS 1)), [(.t 9), (.t 10)]⟩, ⟨none, (.some (3, true)), (.prim .load1), [(.t 11)]⟩, ⟨none, (.some (3, true)), .call, [(.t 4), (.t 8), (.t 12)]⟩, ⟨none, (.some (3, true)), (.prim (.bin .lss .int)), [(.t 13), (.c (.cv (.int .i64 0)))]⟩, ⟨(.some 9), none, (.prim .pick), [(.t 3), (.t 14), (.c (.cv (.bool false)))]⟩])
 (.cond 9 .skip
 (.exit 4)))
 (.block 5 (.region [⟨none, none, (.prim .mv), [(.v 7)]⟩, ⟨none, none, (.prim (.bin .sub .int)), [(.t 0), (.c (.cv (.int .i64 1)))]⟩, ⟨(.some 7), none, (.prim .mv), [(.t 1)]⟩])))
def ic88l1 : IC := (.seq (.seq (.dr [[], [], [0, 1], [2], [3], [3], [3], [5, 6, 3], [7, 3], [3], [3], [9, 10, 3], [11, 3], [4, 8, 12, 3, 3], [13, 3], [14, 3], [3, 15]] [⟨none, none, (.prim .mv), [(.v 6)]⟩, ⟨none, none, (.prim .mv), [(.v 7)]⟩, ⟨none, none, (.prim (.bin .leq .int)), [(.t 0), (.t 1)]⟩, ⟨none, none, (.prim .mv), [(.t 2)]⟩, ⟨none, (.some (3, true)), (.prim .mv), [(.v 4)]⟩, ⟨none, (.some (3, true)), (.prim .mv), [(.v 0)]⟩, ⟨none, (.some (3, true)), (.prim .mv), [(.v 1)]⟩, ⟨none, (.some (3, true)), (.prim (.iaS 1)), [(.t 5), (.t 6)]⟩, ⟨none, (.some (3, true)), (.prim .load1), [(.t 7)]⟩, ⟨none, (.some (3, true)), (.prim .mv), [(.v 0)]⟩, ⟨none, (.some (3, true)), (.prim .mv), [(.v 6)]⟩, ⟨none, (.some (3, true)), (.prim (.iaS 1)), [(.t 9), (.t 10)]⟩, ⟨none, (.some (3, true)), (.prim .load1), [(.t 11)]⟩, ⟨none, (.some (3, true)), .call, [(.t 4), (.t 8), (.t 12)]⟩, ⟨none, (.some (3, true)), (.prim (.bin .lss .int)), [(.t 13), (.c (.cv (.int .i64 0)))]⟩, ⟨none, (.some (3, true)), (.prim .not), [(.t 14)]⟩, ⟨(.some 8), none, (.prim .pick), [(.t 3), (.t 15), (.c (.cv (.bool false)))]⟩])
 (.cond 8 .skip
 (.exit 2)))
 (.block 3 (.region [⟨none, none, (.prim .mv), [(.v 6)]⟩, ⟨none, none, (.prim (.bin .add .int)), [(.t 0), (.c (.cv (.int .i64 1)))]⟩, ⟨(.some 6), none, (.prim .mv), [(.t 1)]⟩])))
def ic88l2 : IC := (.block 1 (.seq (.block 2 (.loop ic88l1))
 (.seq (.block 4 (.loop ic88l0))
 (.seq (.seq (.region [⟨none, none, (.prim .mv), [(.v 6)]⟩, ⟨none, none, (.prim .mv), [(.v 7)]⟩, ⟨(.some 10), none, (.prim (.bin .gtr .int)), [(.t 0), (.t 1)]⟩])
 (.cond 10 (.exit 0)
 .skip))
 (.seq (.dr [[], [], [], [], [], [], [4, 5], [6], [], [], [8, 9], [10], [0, 1, 0, 1, 4, 5, 6, 7, 11], [12, 7, 0, 1, 4, 5, 6, 7, 11], [2, 3, 0, 1, 2, 3, 4, 5, 6, 7, 8, 9, 10, 11, 12, 13], [14, 11, 13, 0, 1, 2, 3, 4, 5, 6, 7, 8, 9, 10, 11, 12, 13]] [⟨none, none, (.prim .mv), [(.v 0)]⟩, ⟨none, none, (.prim .mv), [(.v 6)]⟩, ⟨none, none, (.prim .mv), [(.v 0)]⟩, ⟨none, none, (.prim .mv), [(.v 7)]⟩, ⟨none, none, (.prim .mv), [(.v 0)]⟩, ⟨none, none, (.prim .mv), [(.v 7)]⟩, ⟨none, none, (.prim (.iaS 1)), [(.t 4), (.t 5)]⟩, ⟨none, none, (.prim .load1), [(.t 6)]⟩, ⟨none, none, (.prim .mv), [(.v 0)]⟩, ⟨none, none, (.prim .mv), [(.v 6)]⟩, ⟨none, none, (.prim (.iaS 1)), [(.t 8), (.t 9)]⟩, ⟨none, none, (.prim .load1), [(.t 10)]⟩, ⟨none, none, (.prim (.iaS 1)), [(.t 0), (.t 1)]⟩, ⟨none, none, (.prim (.store 1)), [(.t 12), (.t 7)]⟩, ⟨none, none, (.prim (.iaS 1)), [(.t 2), (.t 3)]⟩, ⟨none, none, (.prim (.store 1)), [(.t 14), (.t 11)]⟩])
 (.seq (.region [⟨none, none, (.prim .mv), [(.v 6)]⟩, ⟨none, none, (.prim (.bin .add .int)), [(.t 0), (.c (.cv (.int .i64 1)))]⟩, ⟨(.some 6), none, (.prim .mv), [(.t 1)]⟩])
 (.region [⟨none, none, (.prim .mv), [(.v 7)]⟩, ⟨none, none, (.prim (.bin .sub .int)), [(.t 0), (.c (.cv (.int .i64 1)))]⟩, ⟨(.some 7), none, (.prim .mv), [(.t 1)]⟩])))))))
def ic88 : IC := (.seq (.region [⟨(.some 5), none, (.prim .mv), [(.c (.cv (.int .i64 0)))]⟩])
 (.seq (.dr [[], [], [], [], [], [], [4, 5], [6], [], [], [8, 9], [10], [0, 1, 0, 1, 4, 5, 6, 7, 11], [12, 7, 0, 1, 4, 5, 6, 7, 11], [2, 3, 0, 1, 2, 3, 4, 5, 6, 7, 8, 9, 10, 11, 12, 13], [14, 11, 13, 0, 1, 2, 3, 4, 5, 6, 7, 8, 9, 10, 11, 12, 13]] [⟨none, none, (.prim .mv), [(.v 0)]⟩, ⟨none, none, (.prim .mv), [(.v 1)]⟩, ⟨none, none, (.prim .mv), [(.v 0)]⟩, ⟨none, none, (.prim .mv), [(.v 3)]⟩, ⟨none, none, (.prim .mv), [(.v 0)]⟩, ⟨none, none, (.prim .mv), [(.v 3)]⟩, ⟨none, none, (.prim (.iaS 1)), [(.t 4), (.t 5)]⟩, ⟨none, none, (.prim .load1), [(.t 6)]⟩, ⟨none, none, (.prim .mv), [(.v 0)]⟩, ⟨none, none, (.prim .mv), [(.v 1)]⟩, ⟨none, none, (.prim (.iaS 1)), [(.t 8), (.t 9)]⟩, ⟨none, none, (.prim .load1), [(.t 10)]⟩, ⟨none, none, (.prim (.iaS 1)), [(.t 0), (.t 1)]⟩, ⟨none, none, (.prim (.store 1)), [(.t 12), (.t 7)]⟩, ⟨none, none, (.prim (.iaS 1)), [(.t 2), (.t 3)]⟩, ⟨none, none, (.prim (.store 1)), [(.t 14), (.t 11)]⟩])
 (.seq (.region [⟨none, none, (.prim .mv), [(.v 1)]⟩, ⟨none, none, (.prim (.bin .add .int)), [(.t 0), (.c (.cv (.int .i64 1)))]⟩, ⟨none, none, (.prim .mv), [(.v 2)]⟩, ⟨none, none, (.prim (.bin .sub .int)), [(.t 2), (.c (.cv (.int .i64 1)))]⟩, ⟨(.some 6), none, (.prim .mv), [(.t 1)]⟩, ⟨(.some 7), none, (.prim .mv), [(.t 3)]⟩])
 (.seq (.block 0 (.loop ic88l2))
 (.seq (.region [⟨none, none, (.prim .mv), [(.v 6)]⟩, ⟨(.some 5), none, (.prim .mv), [(.t 0)]⟩])
 .ret)))))
theorem cc88 : compC Try.prog vs88 Try.f88.ntmps (Try.f88.body.getD .skip) = some ic88 := by kernel_rfl
abbrev rs88 : List RC := [(.v 5)]
theorem fok88 (p : Bool) : FnOk Try.prog 88 ⟨ic88, vs88, 90, rs88, p⟩ := FnOk.mk' Try.func88 hb88 (by kernel_rfl) cc88 (by kernel_rfl) (by kernel_rfl)

theorem hb89 : Try.f89.body = some (Try.f89.body.getD .skip) := by kernel_rfl
abbrev vs89 : List Nat := [0, 1, 2, 3, 4, 10, 11, 12, 13, 47, 66, 71, 120, 139, 144]
def ic89l0 : IC := (.seq (.seq (.dr [[], [], [0, 1], [2], [3], [3], [3], [5, 6, 3], [7, 3], [3], [3], [9, 10, 3], [11, 3], [4, 8, 12, 3, 3], [13, 3], [14, 3], [3, 15]] [⟨none, none, (.prim .mv), [(.v 7)]⟩, ⟨none, none, (.prim .mv), [(.v 8)]⟩, ⟨none, none, (.prim (.bin .leq .int)), [(.t 0), (.t 1)]⟩, ⟨none, none, (.prim .mv), [(.t 2)]⟩, ⟨none, (.some (3, true)), (.prim .mv), [(.v 4)]⟩, ⟨none, (.some (3, true)), (.prim .mv), [(.v 0)]⟩, ⟨none, (.some (3, true)), (.prim .mv), [(.v 8)]⟩, ⟨none, (.some (3, true)), (.prim (.iaS 1)), [(.t 5), (.t 6)]⟩, ⟨none, (.some (3, true)), (.prim .load1), [(.t 7)]⟩, ⟨none, (.some (3, true)), (.prim .mv), [(.v 0)]⟩, ⟨none, (.some (3, true)), (.prim .mv), [(.v 1)]⟩, ⟨none, (.some (3, true)), (.prim (.iaS 1)), [(.t 9), (.t 10)]⟩, ⟨none, (.some (3, true)), (.prim .load1), [(.t 11)]⟩, ⟨none, (.some (3, true)), .call, [(.t 4), (.t 8), (.t 12)]⟩, ⟨none, (.some (3, true)), (.prim (.bin .lss .int)), [(.t 13), (.c (.cv (.int .i64 0)))]⟩, ⟨none, (.some (3, true)), (.prim .not), [(.t 14)]⟩, ⟨(.some 13), none, (.prim .pick), [(.t 3), (.t 15), (.c (.cv (.bool false)))]⟩])
 (.cond 13 .skip
 (.exit 8)))
 (.block 9 (.region [⟨none, none, (.prim .mv), [(.v 8)]⟩, ⟨none, none, (.prim (.bin .sub .int)), [(.t 0), (.c (.cv (.int .i64 1)))]⟩, ⟨(.some 8), none, (.prim .mv), [(.t 1)]⟩])))
def ic89l1 : IC := (.seq (.seq (.dr [[], [], [0, 1], [2], [3], [3], [3], [5, 6, 3], [7, 3], [3], [3], [9, 10, 3], [11, 3], [4, 8, 12, 3, 3], [13, 3], [3, 14]] [⟨none, none, (.prim .mv), [(.v 7)]⟩, ⟨none, none, (.prim .mv), [(.v 8)]⟩, ⟨none, none, (.prim (.bin .leq .int)), [(.t 0), (.t 1)]⟩, ⟨none, none, (.prim .mv), [(.t 2)]⟩, ⟨none, (.some (3, true)), (.prim .mv), [(.v 4)]⟩, ⟨none, (.some (3, true)), (.prim .mv), [(.v 0)]⟩, ⟨none, (.some (3, true)), (.prim .mv), [(.v 7)]⟩, ⟨none, (.some (3, true)), (.prim (.iaS 1)), [(.t 5), (.t 6)]⟩, ⟨none, (.some (3, true)), (.prim .load1), [(.t 7)]⟩, ⟨none, (.some (3, true)), (.prim .mv), [(.v 0)]⟩, ⟨none, (.some (3, true)), (.prim .mv), [(.v 1)]⟩, ⟨none, (.some (3, true)), (.prim (.iaS 1)), [(.t 9), (.t 10)]⟩, ⟨none, (.some (3, true)), (.prim .load1), [(.t 11)]⟩, ⟨none, (.some (3, true)), .call, [(.t 4), (.t 8), (.t 12)]⟩, ⟨none, (.some (3, true)), (.prim (.bin .lss .int)), [(.t 13), (.c (.cv (.int .i64 0)))]⟩, ⟨(.some 12), none, (.prim .pick), [(.t 3), (.t 14), (.c (.cv (.bool false)))]⟩])
 (.cond 12 .skip
 (.exit 6)))
 (.block 7 (.region [⟨none, none, (.prim .mv), [(.v 7)]⟩, ⟨none, none, (.prim (.bin .add .int)), [(.t 0), (.c (.cv (.int .i64 1)))]⟩, ⟨(.some 7), none, (.prim .mv), [(.t 1)]⟩])))
def ic89l2 : IC := (.block 5 (.seq (.block 6 (.loop ic89l1))
 (.seq (.block 8 (.loop ic89l0))
 (.seq (.seq (.region [⟨none, none, (.prim .mv), [(.v 7)]⟩, ⟨none, none, (.prim .mv), [(.v 8)]⟩, ⟨(.some 14), none, (.prim (.bin .gtr .int)), [(.t 0), (.t 1)]⟩])
 (.cond 14 (.exit 4)
 .skip))
 (.seq (.dr [[], [], [], [], [], [], [4, 5], [6], [], [], [8, 9], [10], [0, 1, 0, 1, 4, 5, 6, 7, 11], [12, 7, 0, 1, 4, 5, 6, 7, 11], [2, 3, 0, 1, 2, 3, 4, 5, 6, 7, 8, 9, 10, 11, 12, 13], [14, 11, 13, 0, 1, 2, 3, 4, 5, 6, 7, 8, 9, 10, 11, 12, 13]] [⟨none, none, (.prim .mv), [(.v 0)]⟩, ⟨none, none, (.prim .mv), [(.v 7)]⟩, ⟨none, none, (.prim .mv), [(.v 0)]⟩, ⟨none, none, (.prim .mv), [(.v 8)]⟩, ⟨none, none, (.prim .mv), [(.v 0)]⟩, ⟨none, none, (.prim .mv), [(.v 8)]⟩, ⟨none, none, (.prim (.iaS 1)), [(.t 4), (.t 5)]⟩, ⟨none, none, (.prim .load1), [(.t 6)]⟩, ⟨none, none, (.prim .mv), [(.v 0)]⟩, ⟨none, none, (.prim .mv), [(.v 7)]⟩, ⟨none, none, (.prim (.iaS 1)), [(.t 8), (.t 9)]⟩, ⟨none, none, (.prim .load1), [(.t 10)]⟩, ⟨none, none, (.prim (.iaS 1)), [(.t 0), (.t 1)]⟩, ⟨none, none, (.prim (.store 1)), [(.t 12), (.t 7)]⟩, ⟨none, none, (.prim (.iaS 1)), [(.t 2), (.t 3)]⟩, ⟨none, none, (.prim (.store 1)), [(.t 14), (.t 11)]⟩])
 (.seq (.region [⟨none, none, (.prim .mv), [(.v 7)]⟩, ⟨none, none, (.prim (.bin .add .int)), [(.t 0), (.c (.cv (.int .i64 1)))]⟩, ⟨(.some 7), none, (.prim .mv), [(.t 1)]⟩])
 (.region [⟨none, none, (.prim .mv), [(.v 8)]⟩, ⟨none, none, (.prim (.bin .sub .int)), [(.t 0), (.c (.cv (.int .i64 1)))]⟩, ⟨(.some 8), none, (.prim .mv), [(.t 1)]⟩])))))))
def ic89l3 : IC := (.seq (.seq (.dr [[], [], [0, 1], [2], [3], [3], [3], [5, 6, 3], [7, 3], [3], [3], [9, 10, 3], [11, 3], [4, 8, 12, 3, 3], [13, 3], [14, 3], [3, 15]] [⟨none, none, (.prim .mv), [(.v 7)]⟩, ⟨none, none, (.prim .mv), [(.v 8)]⟩, ⟨none, none, (.prim (.bin .leq .int)), [(.t 0), (.t 1)]⟩, ⟨none, none, (.prim .mv), [(.t 2)]⟩, ⟨none, (.some (3, true)), (.prim .mv), [(.v 4)]⟩, ⟨none, (.some (3, true)), (.prim .mv), [(.v 0)]⟩, ⟨none, (.some (3, true)), (.prim .mv), [(.v 8)]⟩, ⟨none, (.some (3, true)), (.prim (.iaS 1)), [(.t 5), (.t 6)]⟩, ⟨none, (.some (3, true)), (.prim .load1), [(.t 7)]⟩, ⟨none, (.some (3, true)), (.prim .mv), [(.v 0)]⟩, ⟨none, (.some (3, true)), (.prim .mv), [(.v 1)]⟩, ⟨none, (.some (3, true)), (.prim (.iaS 1)), [(.t 9), (.t 10)]⟩, ⟨none, (.some (3, true)), (.prim .load1), [(.t 11)]⟩, ⟨none, (.some (3, true)), .call, [(.t 4), (.t 8), (.t 12)]⟩, ⟨none, (.some (3, true)), (.prim (.bin .lss .int)), [(.t 13), (.c (.cv (.int .i64 0)))]⟩, ⟨none, (.some (3, true)), (.prim .not), [(.t 14)]⟩, ⟨(.some 10), none, (.prim .pick), [(.t 3), (.t 15), (.c (.cv (.bool false)))]⟩])
 (.cond 10 .skip
 (.exit 2)))
 (.block 3 (.region [⟨none, none, (.prim .mv), [(.v 8)]⟩, ⟨none, none, (.prim (.bin .sub .int)), [(.t 0), (.c (.cv (.int .i64 1)))]⟩, ⟨(.some 8), none, (.prim .mv), [(.t 1)]⟩])))
def ic89l4 : IC := (.seq (.seq (.dr [[], [], [0, 1], [2], [3], [3], [3], [5, 6, 3], [7, 3], [3], [3], [9, 10, 3], [11, 3], [4, 8, 12, 3, 3], [13, 3], [3, 14]] [⟨none, none, (.prim .mv), [(.v 7)]⟩, ⟨none, none, (.prim .mv), [(.v 8)]⟩, ⟨none, none, (.prim (.bin .leq .int)), [(.t 0), (.t 1)]⟩, ⟨none, none, (.prim .mv), [(.t 2)]⟩, ⟨none, (.some (3, true)), (.prim .mv), [(.v 4)]⟩, ⟨none, (.some (3, true)), (.prim .mv), [(.v 0)]⟩, ⟨none, (.some (3, true)), (.prim .mv), [(.v 7)]⟩, ⟨none, (.some (3, true)), (.prim (.iaS 1)), [(.t 5), (.t 6)]⟩, ⟨none, (.some (3, true)), (.prim .load1), [(.t 7)]⟩, ⟨none, (.some (3, true)), (.prim .mv), [(.v 0)]⟩, ⟨none, (.some (3, true)), (.prim .mv), [(.v 1)]⟩, ⟨none, (.some (3, true)), (.prim (.iaS 1)), [(.t 9), (.t 10)]⟩, ⟨none, (.some (3, true)), (.prim .load1), [(.t 11)]⟩, ⟨none, (.some (3, true)), .call, [(.t 4), (.t 8), (.t 12)]⟩, ⟨none, (.some (3, true)), (.prim (.bin .lss .int)), [(.t 13), (.c (.cv (.int .i64 0)))]⟩, ⟨(.some 9), none, (.prim .pick), [(.t 3), (.t 14), (.c (.cv (.bool false)))]⟩])
 (.cond 9 .skip
 (.exit 0)))
 (.block 1 (.region [⟨none, none, (.prim .mv), [(.v 7)]⟩, ⟨none, none, (.prim (.bin .add .int)), [(.t 0), (.c (.cv (.int .i64 1)))]⟩, ⟨(.some 7), none, (.prim .mv), [(.t 1)]⟩])))
def ic89 : IC := (.seq (.region [⟨(.some 5), none, (.prim .mv), [(.c (.cv (.int .i64 0)))]⟩, ⟨(.some 6), none, (.prim .mv), [(.c (.cv (.bool false)))]⟩])
 (.seq (.dr [[], [], [], [], [], [], [4, 5], [6], [], [], [8, 9], [10], [0, 1, 0, 1, 4, 5, 6, 7, 11], [12, 7, 0, 1, 4, 5, 6, 7, 11], [2, 3, 0, 1, 2, 3, 4, 5, 6, 7, 8, 9, 10, 11, 12, 13], [14, 11, 13, 0, 1, 2, 3, 4, 5, 6, 7, 8, 9, 10, 11, 12, 13]] [⟨none, none, (.prim .mv), [(.v 0)]⟩, ⟨none, none, (.prim .mv), [(.v 1)]⟩, ⟨none, none, (.prim .mv), [(.v 0)]⟩, ⟨none, none, (.prim .mv), [(.v 3)]⟩, ⟨none, none, (.prim .mv), [(.v 0)]⟩, ⟨none, none, (.prim .mv), [(.v 3)]⟩, ⟨none, none, (.prim (.iaS 1)), [(.t 4), (.t 5)]⟩, ⟨none, none, (.prim .load1), [(.t 6)]⟩, ⟨none, none, (.prim .mv), [(.v 0)]⟩, ⟨none, none, (.prim .mv), [(.v 1)]⟩, ⟨none, none, (.prim (.iaS 1)), [(.t 8), (.t 9)]⟩, ⟨none, none, (.prim .load1), [(.t 10)]⟩, ⟨none, none, (.prim (.iaS 1)), [(.t 0), (.t 1)]⟩, ⟨none, none, (.prim (.store 1)), [(.t 12), (.t 7)]⟩, ⟨none, none, (.prim (.iaS 1)), [(.t 2), (.t 3)]⟩, ⟨none, none, (.prim (.store 1)), [(.t 14), (.t 11)]⟩])
 (.seq (.region [⟨none, none, (.prim .mv), [(.v 1)]⟩, ⟨none, none, (.prim (.bin .add .int)), [(.t 0), (.c (.cv (.int .i64 1)))]⟩, ⟨none, none, (.prim .mv), [(.v 2)]⟩, ⟨none, none, (.prim (.bin .sub .int)), [(.t 2), (.c (.cv (.int .i64 1)))]⟩, ⟨(.some 7), none, (.prim .mv), [(.t 1)]⟩, ⟨(.some 8), none, (.prim .mv), [(.t 3)]⟩])
 (.seq (.block 0 (.loop ic89l4))
 (.seq (.block 2 (.loop ic89l3))
 (.seq (.seq (.region [⟨none, none, (.prim .mv), [(.v 7)]⟩, ⟨none, none, (.prim .mv), [(.v 8)]⟩, ⟨(.some 11), none, (.prim (.bin .gtr .int)), [(.t 0), (.t 1)]⟩])
 (.cond 11 (.seq (.dr [[], [], [], [], [], [], [4, 5], [6], [], [], [8, 9], [10], [0, 1, 0, 1, 4, 5, 6, 7, 11], [12, 7, 0, 1, 4, 5, 6, 7, 11], [2, 3, 0, 1, 2, 3, 4, 5, 6, 7, 8, 9, 10, 11, 12, 13], [14, 11, 13, 0, 1, 2, 3, 4, 5, 6, 7, 8, 9, 10, 11, 12, 13]] [⟨none, none, (.prim .mv), [(.v 0)]⟩, ⟨none, none, (.prim .mv), [(.v 8)]⟩, ⟨none, none, (.prim .mv), [(.v 0)]⟩, ⟨none, none, (.prim .mv), [(.v 1)]⟩, ⟨none, none, (.prim .mv), [(.v 0)]⟩, ⟨none, none, (.prim .mv), [(.v 1)]⟩, ⟨none, none, (.prim (.iaS 1)), [(.t 4), (.t 5)]⟩, ⟨none, none, (.prim .load1), [(.t 6)]⟩, ⟨none, none, (.prim .mv), [(.v 0)]⟩, ⟨none, none, (.prim .mv), [(.v 8)]⟩, ⟨none, none, (.prim (.iaS 1)), [(.t 8), (.t 9)]⟩, ⟨none, none, (.prim .load1), [(.t 10)]⟩, ⟨none, none, (.prim (.iaS 1)), [(.t 0), (.t 1)]⟩, ⟨none, none, (.prim (.store 1)), [(.t 12), (.t 7)]⟩, ⟨none, none, (.prim (.iaS 1)), [(.t 2), (.t 3)]⟩, ⟨none, none, (.prim (.store 1)), [(.t 14), (.t 11)]⟩])
 (.seq (.region [⟨none, none, (.prim .mv), [(.v 8)]⟩, ⟨(.some 5), none, (.prim .mv), [(.t 0)]⟩, ⟨(.some 6), none, (.prim .mv), [(.c (.cv (.bool true)))]⟩])
 .ret))
 .skip))
 (.seq (.dr [[], [], [], [], [], [], [4, 5], [6], [], [], [8, 9], [10], [0, 1, 0, 1, 4, 5, 6, 7, 11], [12, 7, 0, 1, 4, 5, 6, 7, 11], [2, 3, 0, 1, 2, 3, 4, 5, 6, 7, 8, 9, 10, 11, 12, 13], [14, 11, 13, 0, 1, 2, 3, 4, 5, 6, 7, 8, 9, 10, 11, 12, 13]] [⟨none, none, (.prim .mv), [(.v 0)]⟩, ⟨none, none, (.prim .mv), [(.v 7)]⟩, ⟨none, none, (.prim .mv), [(.v 0)]⟩, ⟨none, none, (.prim .mv), [(.v 8)]⟩, ⟨none, none, (.prim .mv), [(.v 0)]⟩, ⟨none, none, (.prim .mv), [(.v 8)]⟩, ⟨none, none, (.prim (.iaS 1)), [(.t 4), (.t 5)]⟩, ⟨none, none, (.prim .load1), [(.t 6)]⟩, ⟨none, none, (.prim .mv), [(.v 0)]⟩, ⟨none, none, (.prim .mv), [(.v 7)]⟩, ⟨none, none, (.prim (.iaS 1)), [(.t 8), (.t 9)]⟩, ⟨none, none, (.prim .load1), [(.t 10)]⟩, ⟨none, none, (.prim (.iaS 1)), [(.t 0), (.t 1)]⟩, ⟨none, none, (.prim (.store 1)), [(.t 12), (.t 7)]⟩, ⟨none, none, (.prim (.iaS 1)), [(.t 2), (.t 3)]⟩, ⟨none, none, (.prim (.store 1)), [(.t 14), (.t 11)]⟩])
 (.seq (.region [⟨none, none, (.prim .mv), [(.v 7)]⟩, ⟨none, none, (.prim (.bin .add .int)), [(.t 0), (.c (.cv (.int .i64 1)))]⟩, ⟨(.some 7), none, (.prim .mv), [(.t 1)]⟩])
 (.seq (.region [⟨none, none, (.prim .mv), [(.v 8)]⟩, ⟨none, none, (.prim (.bin .sub .int)), [(.t 0), (.c (.cv (.int .i64 1)))]⟩, ⟨(.some 8), none, (.prim .mv), [(.t 1)]⟩])
 (.seq (.block 4 (.loop ic89l2))
 (.seq (.dr [[], [], [], [], [], [], [4, 5], [6], [], [], [8, 9], [10], [0, 1, 0, 1, 4, 5, 6, 7, 11], [12, 7, 0, 1, 4, 5, 6, 7, 11], [2, 3, 0, 1, 2, 3, 4, 5, 6, 7, 8, 9, 10, 11, 12, 13], [14, 11, 13, 0, 1, 2, 3, 4, 5, 6, 7, 8, 9, 10, 11, 12, 13]] [⟨none, none, (.prim .mv), [(.v 0)]⟩, ⟨none, none, (.prim .mv), [(.v 8)]⟩, ⟨none, none, (.prim .mv), [(.v 0)]⟩, ⟨none, none, (.prim .mv), [(.v 1)]⟩, ⟨none, none, (.prim .mv), [(.v 0)]⟩, ⟨none, none, (.prim .mv), [(.v 1)]⟩, ⟨none, none, (.prim (.iaS 1)), [(.t 4), (.t 5)]⟩, ⟨none, none, (.prim .load1), [(.t 6)]⟩, ⟨none, none, (.prim .mv), [(.v 0)]⟩, ⟨none, none, (.prim .mv), [(.v 8)]⟩, ⟨none, none, (.prim (.iaS 1)), [(.t 8), (.t 9)]⟩, ⟨none, none, (.prim .load1), [(.t 10)]⟩, ⟨none, none, (.prim (.iaS 1)), [(.t 0), (.t 1)]⟩, ⟨none, none, (.prim (.store 1)), [(.t 12), (.t 7)]⟩, ⟨none, none, (.prim (.iaS 1)), [(.t 2), (.t 3)]⟩, ⟨none, none, (.prim (.store 1)), [(.t 14), (.t 11)]⟩])
 (.seq (.region [⟨none, none, (.prim .mv), [(.v 8)]⟩, ⟨(.some 5), none, (.prim .mv), [(.t 0)]⟩, ⟨(.some 6), none, (.prim .mv), [(.c (.cv (.bool false)))]⟩])
 .ret))))))))))))
theorem cc89 : compC Try.prog vs89 Try.f89.ntmps (Try.f89.body.getD .skip) = some ic89 := by kernel_rfl
abbrev rs89 : List RC := [(.v 5), (.v 6)]
theorem fok89 (p : Bool) : FnOk Try.prog 89 ⟨ic89, vs89, 178, rs89, p⟩ := FnOk.mk' Try.func89 hb89 (by kernel_rfl) cc89 (by kernel_rfl) (by kernel_rfl)

theorem hb90 : Try.f90.body = some (Try.f90.body.getD .skip) := by kernel_rfl
abbrev vs90 : List Nat := [0, 2, 4, 8]
def ic90 : IC := (.seq (.region [⟨(.some 1), none, (.prim .mv), [(.c (.cv (.int .i64 0)))]⟩])
 (.seq (.seq (.region [⟨none, none, (.prim .mv), [(.v 0)]⟩, ⟨(.some 2), none, (.prim (.bin .geq .int)), [(.t 0), (.c (.cv (.int .u32 65536)))]⟩])
 (.cond 2 (.seq (.region [⟨none, none, (.prim .mv), [(.v 0)]⟩, ⟨none, none, (.prim (.bin .shr .int)), [(.t 0), (.c (.cv (.int .u64 16)))]⟩, ⟨(.some 0), none, (.prim .mv), [(.t 1)]⟩])
 (.region [⟨(.some 1), none, (.prim .mv), [(.c (.cv (.int .i64 16)))]⟩]))
 .skip))
 (.seq (.seq (.region [⟨none, none, (.prim .mv), [(.v 0)]⟩, ⟨(.some 3), none, (.prim (.bin .geq .int)), [(.t 0), (.c (.cv (.int .u32 256)))]⟩])
 (.cond 3 (.seq (.region [⟨none, none, (.prim .mv), [(.v 0)]⟩, ⟨none, none, (.prim (.bin .shr .int)), [(.t 0), (.c (.cv (.int .u64 8)))]⟩, ⟨(.some 0), none, (.prim .mv), [(.t 1)]⟩])
 (.region [⟨none, none, (.prim .mv), [(.v 1)]⟩, ⟨none, none, (.prim (.bin .add .int)), [(.t 0), (.c (.cv (.int .i64 8)))]⟩, ⟨(.some 1), none, (.prim .mv), [(.t 1)]⟩]))
 .skip))
 (.seq (.region [⟨none, none, (.prim .mv), [(.v 1)]⟩, ⟨none, none, (.prim .mv), [(.v 0)]⟩, ⟨none, none, (.prim (.conv .u8)), [(.t 1)]⟩, ⟨none, none, (.prim .ixStr), [(.c (.cv (.str (bts [0, 1, 2, 2, 3, 3, 3, 3, 4, 4, 4, 4, 4, 4, 4, 4, 5, 5, 5, 5, 5, 5, 5, 5, 5, 5, 5, 5, 5, 5, 5, 5, 6, 6, 6, 6, 6, 6, 6, 6, 6, 6, 6, 6, 6, 6, 6, 6, 6, 6, 6, 6, 6, 6, 6, 6, 6, 6, 6, 6, 6, 6, 6, 6, 7, 7, 7, 7, 7, 7, 7, 7, 7, 7, 7, 7, 7, 7, 7, 7, 7, 7, 7, 7, 7, 7, 7, 7, 7, 7, 7, 7, 7, 7, 7, 7, 7, 7, 7, 7, 7, 7, 7, 7, 7, 7, 7, 7, 7, 7, 7, 7, 7, 7, 7, 7, 7, 7, 7, 7, 7, 7, 7, 7, 7, 7, 7, 7, 8, 8, 8, 8, 8, 8, 8, 8, 8, 8, 8, 8, 8, 8, 8, 8, 8, 8, 8, 8, 8, 8, 8, 8, 8, 8, 8, 8, 8, 8, 8, 8, 8, 8, 8, 8, 8, 8, 8, 8, 8, 8, 8, 8, 8, 8, 8, 8, 8, 8, 8, 8, 8, 8, 8, 8, 8, 8, 8, 8, 8, 8, 8, 8, 8, 8, 8, 8, 8, 8, 8, 8, 8, 8, 8, 8, 8, 8, 8, 8, 8, 8, 8, 8, 8, 8, 8, 8, 8, 8, 8, 8, 8, 8, 8, 8, 8, 8, 8, 8, 8, 8, 8, 8, 8, 8, 8, 8, 8, 8, 8, 8, 8, 8, 8, 8, 8, 8, 8, 8, 8, 8, 8, 8, 8, 8, 8, 8])))), (.t 2)]⟩, ⟨none, none, (.prim (.conv .i64)), [(.t 3)]⟩, ⟨none, none, (.prim (.bin .add .int)), [(.t 0), (.t 4)]⟩, ⟨(.some 1), none, (.prim .mv), [(.t 5)]⟩])
 .ret))))
theorem cc90 : compC Try.prog vs90 Try.f90.ntmps (Try.f90.body.getD .skip) = some ic90 := by kernel_rfl
abbrev rs90 : List RC := [(.v 1)]
theorem fok90 (p : Bool) : FnOk Try.prog 90 ⟨ic90, vs90, 19, rs90, p⟩ := FnOk.mk' Try.func90 hb90 (by kernel_rfl) cc90 (by kernel_rfl) (by kernel_rfl)

theorem hb91 : Try.f91.body = some (Try.f91.body.getD .skip) := by kernel_rfl
abbrev vs91 : List Nat := [0, 2, 4, 8, 14]
def ic91 : IC := (.seq (.region [⟨(.some 1), none, (.prim .mv), [(.c (.cv (.int .i64 0)))]⟩])
 (.seq (.seq (.region [⟨none, none, (.prim .mv), [(.v 0)]⟩, ⟨(.some 2), none, (.prim (.bin .geq .int)), [(.t 0), (.c (.cv (.int .u64 4294967296)))]⟩])
 (.cond 2 (.seq (.region [⟨none, none, (.prim .mv), [(.v 0)]⟩, ⟨none, none, (.prim (.bin .shr .int)), [(.t 0), (.c (.cv (.int .u64 32)))]⟩, ⟨(.some 0), none, (.prim .mv), [(.t 1)]⟩])
 (.region [⟨(.some 1), none, (.prim .mv), [(.c (.cv (.int .i64 32)))]⟩]))
 .skip))
 (.seq (.seq (.region [⟨none, none, (.prim .mv), [(.v 0)]⟩, ⟨(.some 3), none, (.prim (.bin .geq .int)), [(.t 0), (.c (.cv (.int .u64 65536)))]⟩])
 (.cond 3 (.seq (.region [⟨none, none, (.prim .mv), [(.v 0)]⟩, ⟨none, none, (.prim (.bin .shr .int)), [(.t 0), (.c (.cv (.int .u64 16)))]⟩, ⟨(.some 0), none, (.prim .mv), [(.t 1)]⟩])
 (.region [⟨none, none, (.prim .mv), [(.v 1)]⟩, ⟨none, none, (.prim (.bin .add .int)), [(.t 0), (.c (.cv (.int .i64 16)))]⟩, ⟨(.some 1), none, (.prim .mv), [(.t 1)]⟩]))
 .skip))
 (.seq (.seq (.region [⟨none, none, (.prim .mv), [(.v 0)]⟩, ⟨(.some 4), none, (.prim (.bin .geq .int)), [(.t 0), (.c (.cv (.int .u64 256)))]⟩])
 (.cond 4 (.seq (.region [⟨none, none, (.prim .mv), [(.v 0)]⟩, ⟨none, none, (.prim (.bin .shr .int)), [(.t 0), (.c (.cv (.int .u64 8)))]⟩, ⟨(.some 0), none, (.prim .mv), [(.t 1)]⟩])
 (.region [⟨none, none, (.prim .mv), [(.v 1)]⟩, ⟨none, none, (.prim (.bin .add .int)), [(.t 0), (.c (.cv (.int .i64 8)))]⟩, ⟨(.some 1), none, (.prim .mv), [(.t 1)]⟩]))
 .skip))
 (.seq (.region [⟨none, none, (.prim .mv), [(.v 1)]⟩, ⟨none, none, (.prim .mv), [(.v 0)]⟩, ⟨none, none, (.prim (.conv .u8)), [(.t 1)]⟩, ⟨none, none, (.prim .ixStr), [(.c (.cv (.str (bts [0, 1, 2, 2, 3, 3, 3, 3, 4, 4, 4, 4, 4, 4, 4, 4, 5, 5, 5, 5, 5, 5, 5, 5, 5, 5, 5, 5, 5, 5, 5, 5, 6, 6, 6, 6, 6, 6, 6, 6, 6, 6, 6, 6, 6, 6, 6, 6, 6, 6, 6, 6, 6, 6, 6, 6, 6, 6, 6, 6, 6, 6, 6, 6, 7, 7, 7, 7, 7, 7, 7, 7, 7, 7, 7, 7, 7, 7, 7, 7, 7, 7, 7, 7, 7, 7, 7, 7, 7, 7, 7, 7, 7, 7, 7, 7, 7, 7, 7, 7, 7, 7, 7, 7, 7, 7, 7, 7, 7, 7, 7, 7, 7, 7, 7, 7, 7, 7, 7, 7, 7, 7, 7, 7, 7, 7, 7, 7, 8, 8, 8, 8, 8, 8, 8, 8, 8, 8, 8, 8, 8, 8, 8, 8, 8, 8, 8, 8, 8, 8, 8, 8, 8, 8, 8, 8, 8, 8, 8, 8, 8, 8, 8, 8, 8, 8, 8, 8, 8, 8, 8, 8, 8, 8, 8, 8, 8, 8, 8, 8, 8, 8, 8, 8, 8, 8, 8, 8, 8, 8, 8, 8, 8, 8, 8, 8, 8, 8, 8, 8, 8, 8, 8, 8, 8, 8, 8, 8, 8, 8, 8, 8, 8, 8, 8, 8, 8, 8, 8, 8, 8, 8, 8, 8, 8, 8, 8, 8, 8, 8, 8, 8, 8, 8, 8, 8, 8, 8, 8, 8, 8, 8, 8, 8, 8, 8, 8, 8, 8, 8, 8, 8, 8, 8, 8, 8])))), (.t 2)]⟩, ⟨none, none, (.prim (.conv .i64)), [(.t 3)]⟩, ⟨none, none, (.prim (.bin .add .int)), [(.t 0), (.t 4)]⟩, ⟨(.some 1), none, (.prim .mv), [(.t 5)]⟩])
 .ret)))))
theorem cc91 : compC Try.prog vs91 Try.f91.ntmps (Try.f91.body.getD .skip) = some ic91 := by kernel_rfl
abbrev rs91 : List RC := [(.v 1)]
theorem fok91 (p : Bool) : FnOk Try.prog 91 ⟨ic91, vs91, 25, rs91, p⟩ := FnOk.mk' Try.func91 hb91 (by kernel_rfl) cc91 (by kernel_rfl) (by kernel_rfl)

theorem hb92 : Try.f92.body = some (Try.f92.body.getD .skip) := by kernel_rfl
abbrev vs92 : List Nat := [0, 1, 2, 3, 4, 10, 11, 18, 40, 58]
def ic92l0 : IC := (.block 1 (.seq (.region [⟨none, none, (.prim .mv), [(.v 5)]⟩, ⟨none, none, (.prim (.bin .mul .int)), [(.c (.cv (.int .i64 2))), (.t 0)]⟩, ⟨none, none, (.prim (.bin .add .int)), [(.t 1), (.c (.cv (.int .i64 1)))]⟩, ⟨(.some 6), none, (.prim .mv), [(.t 2)]⟩])
 (.seq (.seq (.region [⟨none, none, (.prim .mv), [(.v 6)]⟩, ⟨none, none, (.prim .mv), [(.v 2)]⟩, ⟨(.some 7), none, (.prim (.bin .geq .int)), [(.t 0), (.t 1)]⟩])
 (.cond 7 (.exit 0)
 .skip))
 (.seq (.seq (.dr [[], [0], [], [1, 2], [3], [4], [4], [4], [4], [7, 8, 4], [6, 9, 4], [10, 4], [4], [4], [4], [13, 14, 4], [15, 4], [12, 16, 4], [17, 4], [5, 11, 18, 4, 4], [19, 4], [4, 20]] [⟨none, none, (.prim .mv), [(.v 6)]⟩, ⟨none, none, (.prim (.bin .add .int)), [(.t 0), (.c (.cv (.int .i64 1)))]⟩, ⟨none, none, (.prim .mv), [(.v 2)]⟩, ⟨none, none, (.prim (.bin .lss .int)), [(.t 1), (.t 2)]⟩, ⟨none, none, (.prim .mv), [(.t 3)]⟩, ⟨none, (.some (4, true)), (.prim .mv), [(.v 4)]⟩, ⟨none, (.some (4, true)), (.prim .mv), [(.v 0)]⟩, ⟨none, (.some (4, true)), (.prim .mv), [(.v 3)]⟩, ⟨none, (.some (4, true)), (.prim .mv), [(.v 6)]⟩, ⟨none, (.some (4, true)), (.prim (.bin .add .int)), [(.t 7), (.t 8)]⟩, ⟨none, (.some (4, true)), (.prim (.iaS 1)), [(.t 6), (.t 9)]⟩, ⟨none, (.some (4, true)), (.prim .load1), [(.t 10)]⟩, ⟨none, (.some (4, true)), (.prim .mv), [(.v 0)]⟩, ⟨none, (.some (4, true)), (.prim .mv), [(.v 3)]⟩, ⟨none, (.some (4, true)), (.prim .mv), [(.v 6)]⟩, ⟨none, (.some (4, true)), (.prim (.bin .add .int)), [(.t 13), (.t 14)]⟩, ⟨none, (.some (4, true)), (.prim (.bin .add .int)), [(.t 15), (.c (.cv (.int .i64 1)))]⟩, ⟨none, (.some (4, true)), (.prim (.iaS 1)), [(.t 12), (.t 16)]⟩, ⟨none, (.some (4, true)), (.prim .load1), [(.t 17)]⟩, ⟨none, (.some (4, true)), .call, [(.t 5), (.t 11), (.t 18)]⟩, ⟨none, (.some (4, true)), (.prim (.bin .lss .int)), [(.t 19), (.c (.cv (.int .i64 0)))]⟩, ⟨(.some 8), none, (.prim .pick), [(.t 4), (.t 20), (.c (.cv (.bool false)))]⟩])
 (.cond 8 (.region [⟨none, none, (.prim .mv), [(.v 6)]⟩, ⟨none, none, (.prim (.bin .add .int)), [(.t 0), (.c (.cv (.int .i64 1)))]⟩, ⟨(.some 6), none, (.prim .mv), [(.t 1)]⟩])
 .skip))
 (.seq (.seq (.dr [[], [], [], [], [2, 3], [1, 4], [5], [], [], [], [8, 9], [7, 10], [11], [0, 6, 12], [13], [14]] [⟨none, none, (.prim .mv), [(.v 4)]⟩, ⟨none, none, (.prim .mv), [(.v 0)]⟩, ⟨none, none, (.prim .mv), [(.v 3)]⟩, ⟨none, none, (.prim .mv), [(.v 5)]⟩, ⟨none, none, (.prim (.bin .add .int)), [(.t 2), (.t 3)]⟩, ⟨none, none, (.prim (.iaS 1)), [(.t 1), (.t 4)]⟩, ⟨none, none, (.prim .load1), [(.t 5)]⟩, ⟨none, none, (.prim .mv), [(.v 0)]⟩, ⟨none, none, (.prim .mv), [(.v 3)]⟩, ⟨none, none, (.prim .mv), [(.v 6)]⟩, ⟨none, none, (.prim (.bin .add .int)), [(.t 8), (.t 9)]⟩, ⟨none, none, (.prim (.iaS 1)), [(.t 7), (.t 10)]⟩, ⟨none, none, (.prim .load1), [(.t 11)]⟩, ⟨none, none, .call, [(.t 0), (.t 6), (.t 12)]⟩, ⟨none, none, (.prim (.bin .lss .int)), [(.t 13), (.c (.cv (.int .i64 0)))]⟩, ⟨(.some 9), none, (.prim .not), [(.t 14)]⟩])
 (.cond 9 .ret
 .skip))
 (.seq (.dr [[], [], [], [1, 2], [], [], [], [5, 6], [], [], [], [9, 10], [8, 11], [12], [], [], [], [15, 16], [14, 17], [18], [0, 3, 0, 1, 2, 3, 8, 9, 10, 11, 12, 13, 19], [20, 13, 0, 1, 2, 3, 8, 9, 10, 11, 12, 13, 19], [4, 7, 0, 1, 2, 3, 4, 5, 6, 7, 8, 9, 10, 11, 12, 13, 14, 15, 16, 17, 18, 19, 20, 21], [22, 19, 21, 0, 1, 2, 3, 4, 5, 6, 7, 8, 9, 10, 11, 12, 13, 14, 15, 16, 17, 18, 19, 20, 21]] [⟨none, none, (.prim .mv), [(.v 0)]⟩, ⟨none, none, (.prim .mv), [(.v 3)]⟩, ⟨none, none, (.prim .mv), [(.v 5)]⟩, ⟨none, none, (.prim (.bin .add .int)), [(.t 1), (.t 2)]⟩, ⟨none, none, (.prim .mv), [(.v 0)]⟩, ⟨none, none, (.prim .mv), [(.v 3)]⟩, ⟨none, none, (.prim .mv), [(.v 6)]⟩, ⟨none, none, (.prim (.bin .add .int)), [(.t 5), (.t 6)]⟩, ⟨none, none, (.prim .mv), [(.v 0)]⟩, ⟨none, none, (.prim .mv), [(.v 3)]⟩, ⟨none, none, (.prim .mv), [(.v 6)]⟩, ⟨none, none, (.prim (.bin .add .int)), [(.t 9), (.t 10)]⟩, ⟨none, none, (.prim (.iaS 1)), [(.t 8), (.t 11)]⟩, ⟨none, none, (.prim .load1), [(.t 12)]⟩, ⟨none, none, (.prim .mv), [(.v 0)]⟩, ⟨none, none, (.prim .mv), [(.v 3)]⟩, ⟨none, none, (.prim .mv), [(.v 5)]⟩, ⟨none, none, (.prim (.bin .add .int)), [(.t 15), (.t 16)]⟩, ⟨none, none, (.prim (.iaS 1)), [(.t 14), (.t 17)]⟩, ⟨none, none, (.prim .load1), [(.t 18)]⟩, ⟨none, none, (.prim (.iaS 1)), [(.t 0), (.t 3)]⟩, ⟨none, none, (.prim (.store 1)), [(.t 20), (.t 13)]⟩, ⟨none, none, (.prim (.iaS 1)), [(.t 4), (.t 7)]⟩, ⟨none, none, (.prim (.store 1)), [(.t 22), (.t 19)]⟩])
 (.region [⟨none, none, (.prim .mv), [(.v 6)]⟩, ⟨(.some 5), none, (.prim .mv), [(.t 0)]⟩])))))))
def ic92 : IC := (.seq (.region [⟨none, none, (.prim .mv), [(.v 1)]⟩, ⟨(.some 5), none, (.prim .mv), [(.t 0)]⟩])
 (.block 0 (.loop ic92l0)))
theorem cc92 : compC Try.prog vs92 Try.f92.ntmps (Try.f92.body.getD .skip) = some ic92 := by kernel_rfl
abbrev rs92 : List RC := []
theorem fok92 (p : Bool) : FnOk Try.prog 92 ⟨ic92, vs92, 82, rs92, p⟩ := FnOk.mk' Try.func92 hb92 (by kernel_rfl) cc92 (by kernel_rfl) (by kernel_rfl)

theorem hb93 : Try.f93.body = some (Try.f93.body.getD .skip) := by kernel_rfl
abbrev vs93 : List Nat := [0, 2]
def ic93 : IC := (.seq (.region [⟨(.some 1), none, (.prim .mv), [(.c (.cv (.int .u64 0)))]⟩])
 (.seq (.region [⟨none, none, (.prim .mv), [(.v 0)]⟩, ⟨none, none, (.prim (.conv .u64)), [(.t 0)]⟩, ⟨none, none, .call, [(.c (.fn (.func 77) [])), (.t 1)]⟩, ⟨none, none, (.prim (.bin .shl .int)), [(.c (.cv (.int .u64 1))), (.t 2)]⟩, ⟨(.some 1), none, (.prim .mv), [(.t 3)]⟩])
 .ret))
theorem cc93 : compC Try.prog vs93 Try.f93.ntmps (Try.f93.body.getD .skip) = some ic93 := by kernel_rfl
abbrev rs93 : List RC := [(.v 1)]
theorem fok93 (p : Bool) : FnOk Try.prog 93 ⟨ic93, vs93, 7, rs93, p⟩ := FnOk.mk' Try.func93 hb93 (by kernel_rfl) cc93 (by kernel_rfl) (by kernel_rfl)

theorem hb94 : Try.f94.body = some (Try.f94.body.getD .skip) := by kernel_rfl
abbrev vs94 : List Nat := [0, 2]
def ic94 : IC := (.seq (.region [⟨(.some 1), none, (.prim .mv), [(.c (.cv (.int .u64 0)))]⟩])
 (.seq (.dr [[], [0], [1], [], [3], [4], [5], [2, 6], [0, 0, 1, 2, 3, 4, 5, 6, 7], [8, 7, 0, 1, 2, 3, 4, 5, 6, 7]] [⟨none, none, (.prim .mv), [(.v 0)]⟩, ⟨none, none, (.prim .nilck), [(.t 0)]⟩, ⟨none, none, (.prim .load1), [(.t 1)]⟩, ⟨none, none, (.prim .mv), [(.v 0)]⟩, ⟨none, none, (.prim .nilck), [(.t 3)]⟩, ⟨none, none, (.prim .load1), [(.t 4)]⟩, ⟨none, none, (.prim (.bin .shl .int)), [(.t 5), (.c (.cv (.int .u64 13)))]⟩, ⟨none, none, (.prim (.bin .xor .int)), [(.t 2), (.t 6)]⟩, ⟨none, none, (.prim .nilck), [(.t 0)]⟩, ⟨none, none, (.prim (.store 1)), [(.t 8), (.t 7)]⟩])
 (.seq (.dr [[], [0], [1], [], [3], [4], [5], [2, 6], [0, 0, 1, 2, 3, 4, 5, 6, 7], [8, 7, 0, 1, 2, 3, 4, 5, 6, 7]] [⟨none, none, (.prim .mv), [(.v 0)]⟩, ⟨none, none, (.prim .nilck), [(.t 0)]⟩, ⟨none, none, (.prim .load1), [(.t 1)]⟩, ⟨none, none, (.prim .mv), [(.v 0)]⟩, ⟨none, none, (.prim .nilck), [(.t 3)]⟩, ⟨none, none, (.prim .load1), [(.t 4)]⟩, ⟨none, none, (.prim (.bin .shr .int)), [(.t 5), (.c (.cv (.int .u64 7)))]⟩, ⟨none, none, (.prim (.bin .xor .int)), [(.t 2), (.t 6)]⟩, ⟨none, none, (.prim .nilck), [(.t 0)]⟩, ⟨none, none, (.prim (.store 1)), [(.t 8), (.t 7)]⟩])
 (.seq (.dr [[], [0], [1], [], [3], [4], [5], [2, 6], [0, 0, 1, 2, 3, 4, 5, 6, 7], [8, 7, 0, 1, 2, 3, 4, 5, 6, 7]] [⟨none, none, (.prim .mv), [(.v 0)]⟩, ⟨none, none, (.prim .nilck), [(.t 0)]⟩, ⟨none, none, (.prim .load1), [(.t 1)]⟩, ⟨none, none, (.prim .mv), [(.v 0)]⟩, ⟨none, none, (.prim .nilck), [(.t 3)]⟩, ⟨none, none, (.prim .load1), [(.t 4)]⟩, ⟨none, none, (.prim (.bin .shl .int)), [(.t 5), (.c (.cv (.int .u64 17)))]⟩, ⟨none, none, (.prim (.bin .xor .int)), [(.t 2), (.t 6)]⟩, ⟨none, none, (.prim .nilck), [(.t 0)]⟩, ⟨none, none, (.prim (.store 1)), [(.t 8), (.t 7)]⟩])
 (.seq (.region [⟨none, none, (.prim .mv), [(.v 0)]⟩, ⟨none, none, (.prim .nilck), [(.t 0)]⟩, ⟨none, none, (.prim .load1), [(.t 1)]⟩, ⟨(.some 1), none, (.prim .mv), [(.t 2)]⟩])
 .ret)))))
theorem cc94 : compC Try.prog vs94 Try.f94.ntmps (Try.f94.body.getD .skip) = some ic94 := by kernel_rfl
abbrev rs94 : List RC := [(.v 1)]
theorem fok94 (p : Bool) : FnOk Try.prog 94 ⟨ic94, vs94, 33, rs94, p⟩ := FnOk.mk' Try.func94 hb94 (by kernel_rfl) cc94 (by kernel_rfl) (by kernel_rfl)

theorem hb95 : Try.f95.body = some (Try.f95.body.getD .skip) := by kernel_rfl
abbrev vs95 : List Nat := [0, 1, 2, 3, 8]
def ic95 : IC := (.seq (.region [⟨(.some 4), none, (.prim .mv), [(.c (.cv (.int .i64 0)))]⟩])
 (.seq (.region [⟨none, none, (.prim .mv), [(.v 0)]⟩, ⟨none, none, (.prim .mv), [(.v 1)]⟩, ⟨none, none, (.prim (.bin .sub .int)), [(.t 1), (.c (.cv (.int .i64 1)))]⟩, ⟨none, none, (.prim .mv), [(.v 1)]⟩, ⟨none, none, (.prim .mv), [(.v 1)]⟩, ⟨none, none, (.prim (.bin .add .int)), [(.t 4), (.c (.cv (.int .i64 1)))]⟩, ⟨none, none, (.prim .mv), [(.v 2)]⟩, ⟨none, none, (.prim .mv), [(.v 3)]⟩, ⟨none, none, .call, [(.c (.fn (.func 96) [])), (.t 0), (.t 2), (.t 3), (.t 5), (.t 6), (.t 7)]⟩, ⟨(.some 4), none, (.prim .mv), [(.t 8)]⟩])
 .ret))
theorem cc95 : compC Try.prog vs95 Try.f95.ntmps (Try.f95.body.getD .skip) = some ic95 := by kernel_rfl
abbrev rs95 : List RC := [(.v 4)]
theorem fok95 (p : Bool) : FnOk Try.prog 95 ⟨ic95, vs95, 18, rs95, p⟩ := FnOk.mk' Try.func95 hb95 (by kernel_rfl) cc95 (by kernel_rfl) (by kernel_rfl)

theorem hb96 : Try.f96.body = some (Try.f96.body.getD .skip) := by kernel_rfl
abbrev vs96 : List Nat := [0, 1, 2, 3, 4, 5, 12]
def ic96 : IC := (.seq (.region [⟨(.some 6), none, (.prim .mv), [(.c (.cv (.int .i64 0)))]⟩])
 (.seq (.region [⟨none, none, (.prim .mv), [(.v 0)]⟩, ⟨none, none, (.prim .mv), [(.v 1)]⟩, ⟨none, none, (.prim .mv), [(.v 2)]⟩, ⟨none, none, (.prim .mv), [(.v 4)]⟩, ⟨none, none, (.prim .mv), [(.v 5)]⟩, ⟨none, none, .call, [(.c (.fn (.func 97) [])), (.t 0), (.t 1), (.t 2), (.t 3), (.t 4)]⟩, ⟨none, none, (.prim .mv), [(.t 5)]⟩, ⟨none, none, (.prim (.extract 0)), [(.t 6)]⟩, ⟨none, none, (.prim (.extract 1)), [(.t 6)]⟩, ⟨(.some 1), none, (.prim .mv), [(.t 7)]⟩, ⟨(.some 2), none, (.prim .mv), [(.t 8)]⟩])
 (.seq (.region [⟨none, none, (.prim .mv), [(.v 0)]⟩, ⟨none, none, (.prim .mv), [(.v 2)]⟩, ⟨none, none, (.prim .mv), [(.v 3)]⟩, ⟨none, none, (.prim .mv), [(.v 4)]⟩, ⟨none, none, (.prim .mv), [(.v 5)]⟩, ⟨none, none, .call, [(.c (.fn (.func 97) [])), (.t 0), (.t 1), (.t 2), (.t 3), (.t 4)]⟩, ⟨none, none, (.prim .mv), [(.t 5)]⟩, ⟨none, none, (.prim (.extract 0)), [(.t 6)]⟩, ⟨none, none, (.prim (.extract 1)), [(.t 6)]⟩, ⟨(.some 2), none, (.prim .mv), [(.t 7)]⟩, ⟨(.some 3), none, (.prim .mv), [(.t 8)]⟩])
 (.seq (.region [⟨none, none, (.prim .mv), [(.v 0)]⟩, ⟨none, none, (.prim .mv), [(.v 1)]⟩, ⟨none, none, (.prim .mv), [(.v 2)]⟩, ⟨none, none, (.prim .mv), [(.v 4)]⟩, ⟨none, none, (.prim .mv), [(.v 5)]⟩, ⟨none, none, .call, [(.c (.fn (.func 97) [])), (.t 0), (.t 1), (.t 2), (.t 3), (.t 4)]⟩, ⟨none, none, (.prim .mv), [(.t 5)]⟩, ⟨none, none, (.prim (.extract 0)), [(.t 6)]⟩, ⟨none, none, (.prim (.extract 1)), [(.t 6)]⟩, ⟨(.some 1), none, (.prim .mv), [(.t 7)]⟩, ⟨(.some 2), none, (.prim .mv), [(.t 8)]⟩])
 (.seq (.region [⟨none, none, (.prim .mv), [(.v 2)]⟩, ⟨(.some 6), none, (.prim .mv), [(.t 0)]⟩])
 .ret)))))
theorem cc96 : compC Try.prog vs96 Try.f96.ntmps (Try.f96.body.getD .skip) = some ic96 := by kernel_rfl
abbrev rs96 : List RC := [(.v 6)]
theorem fok96 (p : Bool) : FnOk Try.prog 96 ⟨ic96, vs96, 41, rs96, p⟩ := FnOk.mk' Try.func96 hb96 (by kernel_rfl) cc96 (by kernel_rfl) (by kernel_rfl)

theorem hb97 : Try.f97.body = some (Try.f97.body.getD .skip) := by kernel_rfl
abbrev vs97 : List Nat := [0, 1, 2, 3, 4, 10, 11, 22]
def ic97 : IC := (.seq (.region [⟨(.some 5), none, (.prim .mv), [(.c (.cv (.int .i64 0)))]⟩, ⟨(.some 6), none, (.prim .mv), [(.c (.cv (.int .i64 0)))]⟩])
 (.seq (.seq (.dr [[], [], [], [1, 2], [3], [], [], [5, 6], [7], [0, 4, 8], [9]] [⟨none, none, (.prim .mv), [(.v 4)]⟩, ⟨none, none, (.prim .mv), [(.v 0)]⟩, ⟨none, none, (.prim .mv), [(.v 2)]⟩, ⟨none, none, (.prim (.iaS 1)), [(.t 1), (.t 2)]⟩, ⟨none, none, (.prim .load1), [(.t 3)]⟩, ⟨none, none, (.prim .mv), [(.v 0)]⟩, ⟨none, none, (.prim .mv), [(.v 1)]⟩, ⟨none, none, (.prim (.iaS 1)), [(.t 5), (.t 6)]⟩, ⟨none, none, (.prim .load1), [(.t 7)]⟩, ⟨none, none, .call, [(.t 0), (.t 4), (.t 8)]⟩, ⟨(.some 7), none, (.prim (.bin .lss .int)), [(.t 9), (.c (.cv (.int .i64 0)))]⟩])
 (.cond 7 (.seq (.region [⟨none, none, (.prim .mv), [(.v 3)]⟩, ⟨none, none, (.prim .nilck), [(.t 0)]⟩, ⟨none, none, (.prim .load1), [(.t 1)]⟩, ⟨none, none, (.prim (.bin .add .int)), [(.t 2), (.c (.cv (.int .i64 1)))]⟩, ⟨none, none, (.prim .nilck), [(.t 0)]⟩, ⟨none, none, (.prim (.store 1)), [(.t 4), (.t 3)]⟩])
 (.seq (.region [⟨none, none, (.prim .mv), [(.v 2)]⟩, ⟨none, none, (.prim .mv), [(.v 1)]⟩, ⟨(.some 5), none, (.prim .mv), [(.t 0)]⟩, ⟨(.some 6), none, (.prim .mv), [(.t 1)]⟩])
 .ret))
 .skip))
 (.seq (.region [⟨none, none, (.prim .mv), [(.v 1)]⟩, ⟨none, none, (.prim .mv), [(.v 2)]⟩, ⟨(.some 5), none, (.prim .mv), [(.t 0)]⟩, ⟨(.some 6), none, (.prim .mv), [(.t 1)]⟩])
 .ret)))
theorem cc97 : compC Try.prog vs97 Try.f97.ntmps (Try.f97.body.getD .skip) = some ic97 := by kernel_rfl
abbrev rs97 : List RC := [(.v 5), (.v 6)]
theorem fok97 (p : Bool) : FnOk Try.prog 97 ⟨ic97, vs97, 32, rs97, p⟩ := FnOk.mk' Try.func97 hb97 (by kernel_rfl) cc97 (by kernel_rfl) (by kernel_rfl)

end Go.Proofs.Ytphdemhopihpnaa.AM

namespace Go.Proofs.Ytphdemhopihpnaa.AM
open Go
set_option linter.unusedVariables false

theorem hb12 : Try.f12.body = some (Try.f12.body.getD .skip) := by kernel_rfl
abbrev vs12 : List Nat := [0, 1, 2, 6, 7, 8, 9, 10, 11, 12, 20]
def ic12 : IC := (.seq (.region [⟨(.some 3), none, (.prim .mv), [(.c (.cv (.bool false)))]⟩])
 (.seq (.region [⟨none, none, (.prim .mv), [(.v 0)]⟩, ⟨none, none, .call, [(.c (.fn (.func 21) [])), (.t 0)]⟩, ⟨none, none, (.prim .mv), [(.t 1)]⟩, ⟨none, none, (.prim (.extract 0)), [(.t 2)]⟩, ⟨none, none, (.prim (.extract 1)), [(.t 2)]⟩, ⟨(.some 4), none, (.prim .mv), [(.t 3)]⟩, ⟨(.some 5), none, (.prim .mv), [(.t 4)]⟩])
 (.seq (.seq (.region [⟨none, none, (.prim .mv), [(.v 0)]⟩, ⟨none, none, .call, [(.c (.fn (.func 41) [])), (.t 0)]⟩, ⟨(.some 10), none, (.prim (.bin .neq .int)), [(.t 1), (.c (.cv (.int .i64 0)))]⟩])
 (.cond 10 (.seq (.region [⟨none, none, (.prim .mv), [(.v 5)]⟩, ⟨none, none, (.prim (.bin .neq .int)), [(.t 0), (.c (.cv (.int .i64 0)))]⟩, ⟨none, none, (.prim .mv), [(.t 1)]⟩, ⟨none, (.some (2, true)), (.prim .mv), [(.v 4)]⟩, ⟨none, (.some (2, true)), (.prim (.bin .eql .int)), [(.t 3), (.c (.cv (.int .i64 0)))]⟩, ⟨none, none, (.prim .pick), [(.t 2), (.t 4), (.c (.cv (.bool false)))]⟩, ⟨none, none, (.prim .mv), [(.t 5)]⟩, ⟨none, (.some (6, true)), .call, [(.c (.fn (.func 23) []))]⟩, ⟨none, none, (.prim .pick), [(.t 6), (.t 7), (.c (.cv (.bool false)))]⟩, ⟨(.some 3), none, (.prim .mv), [(.t 8)]⟩])
 .ret)
 .skip))
 (.seq (.region [⟨none, none, (.prim (.bslice 1 0 [] [])), []⟩, ⟨none, none, (.prim .mv), [(.v 0)]⟩, ⟨none, none, (.prim (.append 1 8)), [(.t 0), (.t 1)]⟩, ⟨(.some 6), none, (.prim .mv), [(.t 2)]⟩])
 (.seq (.region [⟨none, none, (.prim .mv), [(.v 1)]⟩, ⟨none, none, (.prim (.conv .i64)), [(.t 0)]⟩, ⟨none, none, (.prim .mv), [(.v 6)]⟩, ⟨none, none, (.prim (.len false)), [(.t 2)]⟩, ⟨none, none, (.prim (.bin .rem .int)), [(.t 1), (.t 3)]⟩, ⟨(.some 7), none, (.prim .mv), [(.t 4)]⟩])
 (.seq (.region [⟨none, none, (.prim .mv), [(.v 6)]⟩, ⟨none, none, (.prim .mv), [(.v 7)]⟩, ⟨none, none, (.prim .mv), [(.v 2)]⟩, ⟨none, none, (.prim (.conv .i64)), [(.t 2)]⟩, ⟨none, none, (.prim (.bin .rem .int)), [(.t 3), (.c (.cv (.int .i64 1000000001)))]⟩, ⟨none, none, (.prim (.iaS 1)), [(.t 0), (.t 1)]⟩, ⟨none, none, (.prim (.store 1)), [(.t 5), (.t 4)]⟩])
 (.seq (.region [⟨none, none, (.prim .mv), [(.v 6)]⟩, ⟨none, none, .call, [(.c (.fn (.func 21) [])), (.t 0)]⟩, ⟨none, none, (.prim .mv), [(.t 1)]⟩, ⟨none, none, (.prim (.extract 0)), [(.t 2)]⟩, ⟨none, none, (.prim (.extract 1)), [(.t 2)]⟩, ⟨(.some 8), none, (.prim .mv), [(.t 3)]⟩, ⟨(.some 9), none, (.prim .mv), [(.t 4)]⟩])
 (.seq (.dr [[], [0], [1], [2], [3, 2], [2, 4], [5, 2], [6], [6], [7, 8, 6], [6], [6], [10, 11, 6], [12, 6], [6], [6], [14, 15, 6], [16, 6], [13, 17, 6], [9, 18, 6], [6, 19], [20, 6], [21], [22, 21], [21, 23], [24, 21], [25], [26, 25], [25, 27], [28, 25], [29, 29], [29, 30], [31, 30, 0, 1, 2, 3, 4, 5, 6, 7, 8, 9, 10, 11, 12, 13, 14, 15, 16, 17, 18, 19, 20, 21, 22, 23, 24, 25, 26, 27, 28, 29, 30, 31]] [⟨none, none, (.prim .mv), [(.v 5)]⟩, ⟨none, none, (.prim (.bin .eql .int)), [(.t 0), (.c (.cv (.int .i64 0)))]⟩, ⟨none, none, (.prim .mv), [(.t 1)]⟩, ⟨none, (.some (2, true)), (.prim .mv), [(.v 9)]⟩, ⟨none, (.some (2, true)), (.prim (.bin .eql .int)), [(.t 3), (.c (.cv (.int .i64 0)))]⟩, ⟨none, none, (.prim .pick), [(.t 2), (.t 4), (.c (.cv (.bool false)))]⟩, ⟨none, none, (.prim .mv), [(.t 5)]⟩, ⟨none, (.some (6, true)), (.prim .mv), [(.v 4)]⟩, ⟨none, (.some (6, true)), (.prim .mv), [(.v 8)]⟩, ⟨none, (.some (6, true)), (.prim (.bin .eql .int)), [(.t 7), (.t 8)]⟩, ⟨none, (.some (6, true)), (.prim .mv), [(.v 6)]⟩, ⟨none, (.some (6, true)), (.prim .mv), [(.v 7)]⟩, ⟨none, (.some (6, true)), (.prim (.iaS 1)), [(.t 10), (.t 11)]⟩, ⟨none, (.some (6, true)), (.prim .load1), [(.t 12)]⟩, ⟨none, (.some (6, true)), (.prim .mv), [(.v 0)]⟩, ⟨none, (.some (6, true)), (.prim .mv), [(.v 7)]⟩, ⟨none, (.some (6, true)), (.prim (.iaS 1)), [(.t 14), (.t 15)]⟩, ⟨none, (.some (6, true)), (.prim .load1), [(.t 16)]⟩, ⟨none, (.some (6, true)), (.prim (.bin .eql .int)), [(.t 13), (.t 17)]⟩, ⟨none, (.some (6, true)), (.prim (.bin .eql .bool)), [(.t 9), (.t 18)]⟩, ⟨none, none, (.prim .pick), [(.t 6), (.t 19), (.c (.cv (.bool false)))]⟩, ⟨none, none, (.prim .mv), [(.t 20)]⟩, ⟨none, (.some (21, true)), (.prim .mv), [(.v 4)]⟩, ⟨none, (.some (21, true)), (.prim (.bin .geq .int)), [(.t 22), (.c (.cv (.int .i64 0)))]⟩, ⟨none, none, (.prim .pick), [(.t 21), (.t 23), (.c (.cv (.bool false)))]⟩, ⟨none, none, (.prim .mv), [(.t 24)]⟩, ⟨none, (.some (25, true)), (.prim .mv), [(.v 4)]⟩, ⟨none, (.some (25, true)), (.prim (.bin .lss .int)), [(.t 26), (.c (.cv (.int .i64 2147483647)))]⟩, ⟨none, none, (.prim .pick), [(.t 25), (.t 27), (.c (.cv (.bool false)))]⟩, ⟨none, none, (.prim .mv), [(.t 28)]⟩, ⟨none, (.some (29, true)), .call, [(.c (.fn (.func 23) []))]⟩, ⟨none, none, (.prim .pick), [(.t 29), (.t 30), (.c (.cv (.bool false)))]⟩, ⟨(.some 3), none, (.prim .mv), [(.t 31)]⟩])
 .ret))))))))
theorem cc12 : compC Try.prog vs12 Try.f12.ntmps (Try.f12.body.getD .skip) = some ic12 := by kernel_rfl
abbrev rs12 : List RC := [(.v 3)]
theorem fok12 (p : Bool) : FnOk Try.prog 12 ⟨ic12, vs12, 81, rs12, p⟩ := FnOk.mk' Try.func12 hb12 (by kernel_rfl) cc12 (by kernel_rfl) (by kernel_rfl)

end Go.Proofs.Ytphdemhopihpnaa.AM


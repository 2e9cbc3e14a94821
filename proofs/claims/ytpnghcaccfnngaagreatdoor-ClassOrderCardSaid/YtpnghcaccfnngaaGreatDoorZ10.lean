/- Parts of the proof, joined: PatA to LibA. -/
import Derived.Test.YtpnghcaccfnngaaGreatDoorZ9
set_option linter.unusedVariables false
set_option linter.unusedSimpArgs false
set_option linter.unusedSectionVars false
set_option linter.defProp false
namespace Go.Proofs.YtpnghcaccfnngaaGreatDoor.AM
variable [Dr]
open Go
abbrev ints (zs : List Int) : AV := .cv (.rsl (zs.map (.int .i64)) zs.length)
theorem ints_addr {kd : IntKind} {zs : List Int} {n : Nat} {k : Nat} (h : k < n) (σ : List AObj) : f_iaS 1 [.cv (.rsl (zs.map (.int kd)) n), .cv (.int .i64 k)] σ = some (.cv (.rp (zs.map (.int kd)) k), σ) := by
 simp [f_iaS, h]
theorem ints_load {kd : IntKind} {zs : List Int} {k : Nat} (h : k < zs.length) : (zs.map (CV.int kd))[k]? = some (.int kd (zs.getD k 0)) := by
 simp [List.getD, h]
theorem wrap_in {n : Int} (h : -9223372036854775808 ≤ n ∧ n ≤ 9223372036854775807) : IntKind.i64.wrap n = n := by
 simp [IntKind.wrap, IntKind.bits, IntKind.signed, Int.bmod]
 omega
theorem AC.run {P : Program} {f : FuncId} {args : List AV} {v : AV} {σ τ : List AObj} {K : AV → List AObj → Prop} (h : AC P f args σ fun r τ' => r = v ∧ τ' = τ) (hk : K v τ) : AC P f args σ K := h.mono fun r τ ⟨h1, h2⟩ => by rw [h1, h2]; exact hk
theorem CallV.run {P : Program} {fv : AV} {args : List AV} {v : AV} {σ τ : List AObj} {K : AV → List AObj → Prop} (h : CallV P fv args σ fun r τ' => r = v ∧ τ' = τ) (hk : K v τ) : CallV P fv args σ K := h.mono fun r τ ⟨h1, h2⟩ => by rw [h1, h2]; exact hk
theorem frzCs_ints {p : CV → Prop} {σ : List AObj} (hp : ∀ z, p (.int .i64 z)) : ∀ zs : List Int, FrzCs p σ (zs.map AV.i) (zs.map (.int .i64))
 | [] => .nil
 | z :: zs => .cons (.c _ (hp z)) (frzCs_ints hp zs)
theorem frz_ints {p : CV → Prop} (hp : ∀ z, p (.int .i64 z)) {σ : List AObj} {zs : List Int} {l : Nat} (hr : rowOf σ l = some (zs.map AV.i)) : FrzV p σ (.sl l 0 zs.length 1) (ints zs) := by
 refine .c (.sl l 0 zs.length 1 _ _ hr (by simp) ?_)
 have : ((zs.map AV.i).drop 0).take (zs.length * 1) = zs.map AV.i := by rw [List.drop_zero]; exact List.take_of_length_le (by simp)
 rw [this]
 exact frzCs_ints hp zs
theorem frz_ints' {p : CV → Prop} (hp : ∀ z, p (.int .i64 z)) {σ : List AObj} {zs : List Int} {l n : Nat} (hn : n = zs.length) (hr : rowOf σ l = some (zs.map AV.i)) : FrzV p σ (.sl l 0 n 1) (ints zs) := by subst hn; exact frz_ints hp hr
theorem sl_addr {l off n k : Nat} (h : k < n) (σ : List AObj) : f_iaS 1 [.sl l off n 1, .cv (.int .i64 k)] σ = some (.ptr l (off + k), σ) := by
 simp [f_iaS, h]
theorem slc_addr {l off n c k : Nat} (h : k < n) (σ : List AObj) : f_iaS 1 [.slc l off n c 1, .cv (.int .i64 k)] σ = some (.ptr l (off + k), σ) := by
 simp [f_iaS, h]
theorem av_load {zs : List Int} {k : Nat} (h : k < zs.length) : (zs.map AV.i)[k]? = some (.i (zs[k]?.getD 0)) := by simp [h]
theorem set_ints {zs : List Int} {k : Nat} {o : Int} : (zs.map AV.i).set k (.cv (.int .i64 o)) = (zs.set k o).map AV.i := List.map_set.symm
theorem frz_ints_nl {p : CV → Prop} {σ : List AObj} : FrzV p σ (.cv .nils) (ints []) := .c .nl
theorem rowOf_z {cs : List AV} {σ : List AObj} : rowOf (AObj.cells cs :: σ) 0 = some cs := rfl
theorem rowOf_s {o : AObj} {σ : List AObj} {n : Nat} : rowOf (o :: σ) (n + 1) = rowOf σ n := rfl
theorem setRange_z {cs : List AV} {n : Nat} : setRange cs n [] = cs := rfl
theorem setRange_s {cs : List AV} {n : Nat} {v : AV} {vs : List AV} : setRange cs n (v :: vs) = setRange (cs.set n v) (n + 1) vs := rfl
def AccAt (σ : List AObj) (v : AV) (zs : List Int) : Prop := (v = .cv .nils ∧ zs = []) ∨ ∃ l, v = .sl l 0 zs.length 1 ∧ rowOf σ l = some (zs.map AV.i)
theorem rowOf_push {σ : List AObj} {l : Nat} {cs : List AV} (h : rowOf σ l = some cs) (x : AObj) : rowOf (σ ++ [x]) l = some cs := by
 have h := rowOf_some h
 unfold rowOf; rw [List.getElem?_append_left (List.getElem?_eq_some_iff.1 h).1, h]
theorem rowOf_last (σ : List AObj) (cs : List AV) : rowOf (σ ++ [.cells cs]) σ.length = some cs := by simp [rowOf]
theorem AccAt.nil (σ : List AObj) : AccAt σ (.cv .nils) [] := .inl ⟨rfl, rfl⟩
theorem acc_append {σ : List AObj} {v : AV} {zs : List Int} (z : Int) (h : AccAt σ v zs) (hl : zs.length < 2 ^ 40) :
  ∃ (v' : AV) (σ' : List AObj), f_append 1 8 [v, .sl σ.length 0 1 1] (σ ++ [AObj.cells [.i z]]) = some (v', σ') ∧ AccAt σ' v' (zs ++ [z]) := by
 have hsrc : srcCells (σ ++ [AObj.cells [.i z]]) 1 (.sl σ.length 0 1 1) = some [.i z] := by simp [srcCells, rowOf]
 rcases h with ⟨rfl, rfl⟩ | ⟨l, rfl, hr⟩
 ·refine ⟨.sl (σ ++ [AObj.cells [.i z]]).length 0 1 1, (σ ++ [AObj.cells [.i z]]) ++ [AObj.cells [.i z]], ?_, .inr ⟨_, rfl, ?_⟩⟩
  ·simp only [f_append, hsrc, lenF, Option.bind_some]
   rfl
  ·rw [rowOf_last]; rfl
 ·have hr' := rowOf_push hr (AObj.cells [.i z])
  refine ⟨.sl (σ ++ [AObj.cells [.i z]]).length 0 (zs.length + 1) 1, (σ ++ [AObj.cells [.i z]]).set l AObj.dead ++ [AObj.cells (zs.map AV.i ++ [.i z])], ?_, .inr ⟨(σ ++ [AObj.cells [.i z]]).length, by simp, ?_⟩⟩
  ·simp only [f_append, hr', hsrc, lenF, Option.bind_some]
   have hp : (2 : Nat) ^ 40 = 1099511627776 := by decide
   have hp2 : (2 : Nat) ^ 44 = 17592186044416 := by decide
   have hc : (True ∧ zs.length * 1 ≤ (zs.map AV.i).length ∧ 1 * 1 = [AV.i z].length ∧ (zs.length + 1) * 8 ≤ 2 ^ 44 ∧ zs.length + 1 ≤ 2 ^ 44 ∧ [AV.i z].all AV.isSc = true) := by
    refine ⟨trivial, by simp, rfl, by omega, by omega, rfl⟩
   rw [if_pos hc, Nat.mul_one, List.take_of_length_le (by simp)]
  ·have : (σ ++ [AObj.cells [.i z]]).length = ((σ ++ [AObj.cells [.i z]]).set l AObj.dead).length := by simp
   rw [this, rowOf_last]; simp
theorem rowOf_set_ne {σ : List AObj} {l l' : Nat} (h : l ≠ l') (x : AObj) : rowOf (σ.set l x) l' = rowOf σ l' := by unfold rowOf; rw [List.getElem?_set_ne h]
theorem rowOf_set_self {σ : List AObj} {l : Nat} {cs cs' : List AV} (h : rowOf σ l = some cs) : rowOf (σ.set l (AObj.cells cs')) l = some cs' := by
 have h := (List.getElem?_eq_some_iff.1 (rowOf_some h)).1
 unfold rowOf; rw [List.getElem?_set_self h]
theorem acc_frz {p : CV → Prop} (hp : ∀ z, p (.int .i64 z)) {σ : List AObj} {v : AV} {zs : List Int} (h : AccAt σ v zs) : FrzV p σ v (ints zs) := by
 rcases h with ⟨rfl, rfl⟩ | ⟨l, rfl, hr⟩
 ·exact frz_ints_nl
 ·exact frz_ints hp hr
theorem bTF : (true == false) = false := rfl
theorem bFT : (false == true) = false := rfl
theorem bTT : (true == true) = true := rfl
theorem bFF : (false == false) = true := rfl
def frzA := And.intro (And.intro (And.intro (@Nat.mul_one) (@Nat.one_mul)) (And.intro (@List.drop_zero.{0}) (@List.take_succ_cons.{0}))) (And.intro (And.intro (@List.take_zero.{0}) (And.intro (@List.map_cons.{0, 0}) (@List.map_nil.{0, 0}))) (And.intro (@List.cons_append.{0}) (And.intro (@List.nil_append.{0}) (@List.append_nil.{0}))))
def ev0 := And.intro (And.intro (And.intro (And.intro (@IS_skip) (And.intro (@IS_label) (@IS_exit))) (And.intro (@IS_ret) (And.intro (@IS_seq) (@IS_block)))) (And.intro (And.intro (@IS_cond) (And.intro (@IS_loop) (@IS_scope))) (And.intro (@IS_region) (And.intro (And.intro (@IS_draw) (@IS_dr)) (@IS_rangef))))) (And.intro (And.intro (And.intro (@kSeq_n) (And.intro (@kSeq_x) (@kSeq_r))) (And.intro (@kBlock_n) (And.intro (@kBlock_x) (@kBlock_r)))) (And.intro (And.intro (@kScope_n) (And.intro (@kScope_x) (@kScope_r))) (And.intro (@kReg_n) (And.intro (@kEnd_n) (@kEnd_r)))))
def ev1 := And.intro (And.intro (And.intro (And.intro (@kUn_n) (And.intro (@kUn_x) (@kUn_r))) (And.intro (@kFor_x) (And.intro (@kFor_r) (@RS_n)))) (And.intro (And.intro (@RS_c) (And.intro (@RSx_n) (@RSx_c))) (And.intro (@gdOk.eq_1) (And.intro (@gdOk.eq_2) (@gK_t))))) (And.intro (And.intro (And.intro (@gK_f) (And.intro (@pK_s) (@cK_t))) (And.intro (@cK_f) (And.intro (@callK_c) (@oK_p)))) (And.intro (And.intro (@oK_c) (And.intro (@oX_p) (@oX_c))) (And.intro (@rK_s) (And.intro (@CallV_yld) (@plOf.eq_1)))))
def ev2 := And.intro (And.intro (And.intro (And.intro (@plLocs.eq_1) (And.intro (@plLocs.eq_2) (@xOne.eq_1))) (And.intro (@xOne.eq_2) (And.intro (@newLoc.eq_1) (@newLoc.eq_2)))) (And.intro (And.intro (@kindOf.eq_1) (And.intro (@kindOf.eq_2) (@kindOf.eq_3))) (And.intro (@kindOf.eq_4) (And.intro (@kindOf.eq_5) (@kindOf.eq_6))))) (And.intro (And.intro (And.intro (@kindOf.eq_7) (And.intro (@kindOf.eq_8) (@kindOf.eq_9))) (And.intro (@kindOf.eq_10) (And.intro (@kindOf.eq_11) (@kindOf.eq_12)))) (And.intro (And.intro (@kindOf.eq_13) (And.intro (@kindOf.eq_14) (@kindOf.eq_15))) (And.intro (@kindOf.eq_16) (And.intro (@kindOf.eq_17) (@kindOf.eq_18)))))
def ev3 := And.intro (And.intro (And.intro (And.intro (@kindOf.eq_19) (And.intro (@kindOf.eq_20) (@kindOf.eq_21))) (And.intro (@kindOf.eq_22) (And.intro (@kindOf.eq_23) (@kindOf.eq_24)))) (And.intro (And.intro (@kindOf.eq_25) (And.intro (@kindOf.eq_26) (@kindOf.eq_27))) (And.intro (@locOf.eq_1) (And.intro (@locOf.eq_2) (@locOf.eq_3))))) (And.intro (And.intro (And.intro (@locOf.eq_4) (And.intro (@List.flatMap_cons.{0, 0}) (@List.flatMap_nil.{0, 0}))) (And.intro (@List.map_cons.{0, 0}) (And.intro (@List.map_nil.{0, 0}) (@evalO.eq_1)))) (And.intro (And.intro (@evalO.eq_2) (And.intro (@evalO.eq_3) (@stepF.eq_1))) (And.intro (@stepF.eq_2) (And.intro (@stepF.eq_3) (@stepF.eq_4)))))
def ev4 := And.intro (And.intro (And.intro (And.intro (@stepF.eq_5) (And.intro (@stepF.eq_6) (@stepF.eq_7))) (And.intro (@stepF.eq_8) (And.intro (@stepF.eq_9) (@stepF.eq_10)))) (And.intro (And.intro (@stepF.eq_11) (And.intro (@stepF.eq_12) (@stepF.eq_13))) (And.intro (@stepF.eq_14) (And.intro (@stepF.eq_15) (@stepF.eq_16))))) (And.intro (And.intro (And.intro (@stepF.eq_17) (And.intro (@stepF.eq_18) (@stepF.eq_19))) (And.intro (@stepF.eq_20) (And.intro (@stepF.eq_21) (@stepF.eq_22)))) (And.intro (And.intro (@stepF.eq_23) (And.intro (@stepF.eq_24) (@stepF.eq_25))) (And.intro (@stepF.eq_26) (And.intro (@stepF.eq_27) (@stepF.eq_28)))))
def ev5 := And.intro (And.intro (And.intro (And.intro (@stepF.eq_29) (And.intro (@stepF.eq_30) (@stepF.eq_31))) (And.intro (@stepF.eq_32) (And.intro (@stepF.eq_33) (@stepF.eq_34)))) (And.intro (And.intro (@stepF.eq_35) (And.intro (@stepF.eq_36) (@f_mv.eq_1))) (And.intro (@f_mv.eq_2) (And.intro (@f_pick.eq_1) (@f_pick.eq_2))))) (And.intro (And.intro (And.intro (@f_not.eq_1) (And.intro (@f_not.eq_2) (@f_bin.eq_1))) (And.intro (@f_bin.eq_2) (And.intro (@f_conv.eq_1) (@f_conv.eq_2)))) (And.intro (And.intro (@f_alloc.eq_1) (And.intro (@f_alloc.eq_2) (@f_box.eq_1))) (And.intro (@f_box.eq_2) (And.intro (@f_build.eq_1) (@f_bslice.eq_1)))))
def ev6 := And.intro (And.intro (And.intro (And.intro (@f_load1.eq_1) (And.intro (@f_load1.eq_2) (@f_load1.eq_3))) (And.intro (@f_loadN.eq_1) (And.intro (@f_loadN.eq_2) (@f_loadN.eq_3)))) (And.intro (And.intro (@f_store.eq_1) (And.intro (@f_store.eq_2) (@f_nilck.eq_1))) (And.intro (@f_nilck.eq_2) (And.intro (@f_nilck.eq_3) (@f_nilck.eq_4))))) (And.intro (And.intro (And.intro (@f_mkfn.eq_1) (And.intro (@f_mkbm.eq_1) (@f_len.eq_1))) (And.intro (@f_len.eq_2) (And.intro (@f_len.eq_3) (@f_len.eq_4)))) (And.intro (And.intro (@f_len.eq_5) (And.intro (@f_fadd.eq_1) (@f_fadd.eq_2))) (And.intro (@f_fadd.eq_3) (And.intro (@f_fld.eq_1) (@f_fld.eq_2)))))
def ev7 := And.intro (And.intro (And.intro (And.intro (@f_fld.eq_3) (And.intro (@f_extract.eq_1) (@f_extract.eq_2))) (And.intro (@f_min2.eq_1) (And.intro (@f_min2.eq_2) (@f_max2.eq_1)))) (And.intro (And.intro (@f_max2.eq_2) (And.intro (@binF.eq_1) (@binF.eq_2))) (And.intro (@binF.eq_3) (And.intro (@binF.eq_4) (@binF.eq_5))))) (And.intro (And.intro (And.intro (@binF.eq_6) (And.intro (@binF.eq_7) (@binF.eq_8))) (And.intro (@binF.eq_9) (And.intro (@binF.eq_10) (@isShift.eq_1)))) (And.intro (And.intro (@isShift.eq_2) (And.intro (@isShift.eq_3) (@binI.eq_1))) (And.intro (@binI.eq_2) (And.intro (@binI.eq_3) (@binI.eq_4)))))
def ev8 := And.intro (And.intro (And.intro (And.intro (@binI.eq_5) (And.intro (@binI.eq_6) (@binI.eq_7))) (And.intro (@binI.eq_8) (And.intro (@binI.eq_9) (@binI.eq_10)))) (And.intro (And.intro (@binI.eq_11) (And.intro (@binI.eq_12) (@binI.eq_13))) (And.intro (@binI.eq_14) (And.intro (@binI.eq_15) (@binI.eq_16))))) (And.intro (And.intro (And.intro (@eqNil.eq_1) (And.intro (@eqNil.eq_2) (@eqNil.eq_3))) (And.intro (@setD.eq_1) (And.intro (@setD.eq_2) (@initVals.eq_1)))) (And.intro (And.intro (@cellsOf.eq_1) (And.intro (@cellsOf.eq_2) (@fillF.eq_1))) (And.intro (@fillF.eq_2) (And.intro (@fillF.eq_3) (@setRange_z)))))
def ev9 := And.intro (And.intro (And.intro (And.intro (@setRange_s) (And.intro (@rowOf_z) (@rowOf_s))) (And.intro (@AV.isUndef.eq_1) (And.intro (@AV.isUndef.eq_2) (@AV.isSc.eq_1)))) (And.intro (And.intro (@AV.isSc.eq_2) (And.intro (@AV.isSc.eq_3) (@AV.isSc.eq_4))) (And.intro (@CallV_fn) (And.intro (@CallV_bm) (@resEs.eq_1))))) (And.intro (And.intro (And.intro (@resEs.eq_2) (And.intro (@resE.eq_1) (@resE.eq_2))) (And.intro (@resE.eq_3) (And.intro (@mapO.eq_1) (@mapO.eq_2)))) (And.intro (And.intro (@List.getD_eq_getElem?_getD.{0}) (And.intro (@List.set_cons_zero.{0}) (@List.set_cons_succ.{0}))) (And.intro (@List.getElem?_cons_zero.{0}) (And.intro (@List.getElem?_cons_succ.{0}) (@List.nil_append.{0})))))
def ev10 := And.intro (And.intro (And.intro (And.intro (@List.cons_append.{0}) (And.intro (@List.append_nil.{0}) (@Option.getD_some.{0}))) (And.intro (@List.getElem?_nil.{0}) (And.intro (@Option.getD_none.{0}) (@Option.map_some.{0, 0})))) (And.intro (And.intro (@Option.bind_some.{0, 0}) (And.intro (@Bool.false_eq_true) (@List.length_cons.{0}))) (And.intro (@List.length_nil.{0}) (And.intro (@List.take_succ_cons.{0}) (@List.take_zero.{0}))))) (And.intro (And.intro (And.intro (@List.drop_zero.{0}) (And.intro (@List.drop_succ_cons.{0}) (@Bool.true_and))) (And.intro (@Bool.and_true) (And.intro (@Bool.false_and) (@Bool.and_false)))) (And.intro (And.intro (@Bool.true_or) (And.intro (@Bool.or_true) (@Bool.false_or))) (And.intro (@Bool.or_false) (And.intro (@Bool.not_true) (@Bool.not_false)))))
def ev11 := And.intro (And.intro (And.intro (And.intro (@Bool.not_not) (And.intro (@beq_self_eq_true.{0}) (@List.all_cons.{0}))) (And.intro (@List.all_nil.{0}) (And.intro (@Nat.zero_add) (@Nat.add_zero)))) (And.intro (And.intro (@AV.cv.injEq) (And.intro (@CV.bool.injEq) (@CV.int.injEq))) (And.intro (@exists_eq_left'.{1}) (And.intro (@exists_eq_left.{1}) (@decide_true))))) (And.intro (And.intro (And.intro (@decide_false) (And.intro (@true_and) (@and_true))) (And.intro (@and_self) (And.intro (@Int.toNat_natCast) (@Go.Exit.exit.injEq)))) (And.intro (And.intro (@ints_addr) (And.intro (@ints_load) (@sl_addr))) (And.intro (@av_load) (And.intro (@set_ints) (@List.length_map.{0, 0})))))
def ev12 := And.intro (And.intro (And.intro (@List.length_set.{0}) (And.intro (@Nat.mul_one) (@beq_true))) (And.intro (And.intro (@Option.some.injEq.{0}) (@bne_self_eq_false.{0})) (And.intro (@List.contains_cons.{0}) (@List.contains_nil.{0})))) (And.intro (And.intro (@xAll.eq_1) (And.intro (@xAll.eq_2) (@wrap_in))) (And.intro (And.intro (@bTF) (@bFT)) (And.intro (@bTT) (@bFF))))
def ev13 := And.intro (And.intro (And.intro (@stepF.eq_37) (@stepF.eq_38)) (And.intro (@stepF.eq_39) (@stepF.eq_41))) (And.intro (And.intro (@kindOf.eq_28) (@f_rstr.eq_1)) (And.intro (@f_eqS.eq_1) (@kindOf.eq_27)))
def ev14 := And.intro (And.intro (And.intro (@stepF.eq_42) (@stepF.eq_43)) (And.intro (And.intro (@stepF.eq_44) (@stepF.eq_45)) (@kindOf.eq_29))) (And.intro (And.intro (@kindOf.eq_30) (And.intro (@f_len.eq_6) (@slc_addr))) (And.intro (@f_cap.eq_1) (And.intro (@locOf.eq_5) (And.intro (@binF.eq_11) (@binF.eq_12)))))
def evj := And.intro (And.intro (And.intro (And.intro (@jS.eq_1) (And.intro (@jB.eq_1) (@jn.eq_1))) (And.intro (@jq.eq_1) (And.intro (@jw.eq_1) (@jg.eq_1)))) (And.intro (And.intro (@jk.eq_1) (And.intro (@jd.eq_1) (@jf.eq_1))) (And.intro (@jv.eq_1) (And.intro (@jt.eq_1) (@jl.eq_1))))) (And.intro (And.intro (And.intro (@jL.eq_1) (And.intro (@je.eq_1) (@jc.eq_1))) (And.intro (@ja.eq_1) (And.intro (@jF.eq_1) (@jG.eq_1)))) (And.intro (And.intro (@jx.eq_1) (And.intro (@jN.eq_1) (@jm.eq_1))) (And.intro (And.intro (@jz.eq_1) (@jb.eq_1)) (And.intro (@jh.eq_1) (@ji.eq_1)))))
def evA := And.intro (And.intro (And.intro ev14 evj) (ev13)) (And.intro (And.intro (And.intro (ev0) (And.intro (ev1) (ev2))) (And.intro (ev3) (And.intro (ev4) (ev5)))) (And.intro (And.intro (ev6) (And.intro (ev7) (ev8))) (And.intro (And.intro (ev9) (ev10)) (And.intro (ev11) (ev12)))))
theorem frz {P : Prop} (h : P := by (try dsimp only); repeat (first | exact trivial | rfl | exact frz_ints_nl | (apply frz_ints (fun _ => trivial); first | rfl | (simp [rowOf]; done)) | constructor | simp only [frzA])) : P := h
def inB (n lo hi : Int) : Bool := decide (n ≥ lo) && decide (n ≤ hi)
theorem inB_iff {n lo hi : Int} : inB n lo hi = true ↔ lo ≤ n ∧ n ≤ hi := by simp [inB]
def outF (lo hi : Int) (zs : List Int) : Bool := zs.any fun z => decide (z < lo) || decide (z > hi)
theorem outF_one (lo hi z : Int) : outF lo hi [z] = !inB z lo hi := by
 simp only [outF, inB, List.any_cons, List.any_nil, Bool.or_false]
 by_cases h1 : z < lo <;> by_cases h2 : z > hi <;> simp [h1, h2] <;> omega
theorem outF_false {lo hi : Int} {zs : List Int} : outF lo hi zs = false ↔ ∀ j, j < zs.length → inB (zs[j]?.getD 0) lo hi = true := by
 simp only [outF, List.any_eq_false, inB, Bool.and_eq_true, decide_eq_true_eq, Bool.or_eq_true, not_or]
 constructor
 ·intro h j hj
  have := h zs[j] (List.getElem_mem hj)
  simp [hj]; omega
 ·intro h x hx
  obtain ⟨j, hj, rfl⟩ := List.mem_iff_getElem.1 hx
  have := h j hj
  simp [hj] at this; omega
theorem outF_true {lo hi : Int} {zs : List Int} {j : Nat} (hj : j < zs.length) (h : inB (zs[j]?.getD 0) lo hi = false) : outF lo hi zs = true := by
 cases ho : outF lo hi zs with
 | true => rfl
 | false => rw [outF_false.1 ho j hj] at h; cases h
def idxN (p : Nat → Bool) (n : Nat) : Int := match (List.range n).find? p with | some i => i | none => -1
theorem idxN_some {p : Nat → Bool} {n i : Nat} (h : i < n) (hall : ∀ j, j < i → p j = false) (hp : p i = true) : idxN p n = i := by
 have : (List.range n).find? p = some i := by
  rw [List.find?_range_eq_some]
  exact ⟨hp, List.mem_range.2 h, fun j hj => by rw [hall j hj]; rfl⟩
 simp [idxN, this]
theorem idxN_none {p : Nat → Bool} {n : Nat} (hall : ∀ j, j < n → p j = false) : idxN p n = -1 := by
 have : (List.range n).find? p = none := by
  rw [List.find?_eq_none]
  intro x hx
  rw [hall x (by simpa using hx)]; simp
 simp [idxN, this]
def anyN (p : Nat → Bool) (n : Nat) : Bool := (List.range n).any p
theorem idxN_ge (p : Nat → Bool) (n : Nat) : decide (idxN p n ≥ 0) = anyN p n := by
 unfold idxN anyN
 cases h : (List.range n).find? p with
 | none =>
  rw [List.find?_eq_none] at h
  have : (List.range n).any p = false := by rw [List.any_eq_false]; exact h
  rw [this]; simp
 | some i =>
  have h1 := List.find?_some h
  have h2 := List.mem_of_find?_eq_some h
  have : (List.range n).any p = true := List.any_eq_true.2 ⟨i, h2, h1⟩
  rw [this]; simp
theorem anyN_succ (p : Nat → Bool) (n : Nat) : anyN p (n + 1) = (anyN p n || p n) := by simp [anyN, List.range_succ]
theorem anyN_false {p : Nat → Bool} {n : Nat} : anyN p n = false ↔ ∀ i, i < n → p i = false := by
 unfold anyN; rw [List.any_eq_false]; simp
theorem anyN_true {p : Nat → Bool} {n : Nat} : anyN p n = true ↔ ∃ i, i < n ∧ p i = true := by
 unfold anyN; rw [List.any_eq_true]; simp
end Go.Proofs.YtpnghcaccfnngaaGreatDoor.AM

/- Parts of the proof, joined: PatA to LibA. -/
import Derived.Test.YtogjcmnopidfpaaGreatZ8
set_option linter.unusedVariables false
set_option linter.unusedSimpArgs false
set_option linter.unusedSectionVars false
set_option linter.defProp false
namespace Go.Proofs.YtogjcmnopidfpaaGreat.AM
variable [Dr]
open Go
abbrev ints (zs:List Int):AV:=.cv (.rsl (zs.map (.int .i64)) zs.length)
theorem J5 {kd:IntKind} {zs:List Int} {n:Nat} {k:Nat} (h:k<n) (σ:List AObj):VP 1 [.cv (.rsl (zs.map (.int kd)) n),.cv (.int .i64 k)] σ=some (.cv (.rp (zs.map (.int kd)) k),σ):=by
 simp[VP,h]
theorem J4 {kd:IntKind} {zs:List Int} {k:Nat} (h:k<zs.length):(zs.map (CV.int kd))[k]? = some (.int kd (zs.getD k 0)):=by
 simp[List.getD,h]
theorem ZC {n:Int} (h:-9223372036854775808≤n∧n≤9223372036854775807):IntKind.i64.wrap n=n:=by
 simp[IntKind.wrap,IntKind.bits,IntKind.signed,Int.bmod]
 omega
theorem AC.run {P:Program} {f:FuncId} {args:List AV} {v:AV} {σ τ:List AObj} {K:AV→List AObj→Prop} (h:AC P f args σ fun r τ'=>r=v∧τ'=τ) (hk:K v τ):AC P f args σ K:=h.mono fun r τ ⟨h1,h2⟩=>by rw[h1,h2];exact hk
theorem X0.run {P:Program} {fv:AV} {args:List AV} {v:AV} {σ τ:List AObj} {K:AV→List AObj→Prop} (h:X0 P fv args σ fun r τ'=>r=v∧τ'=τ) (hk:K v τ):X0 P fv args σ K:=h.mono fun r τ ⟨h1,h2⟩=>by rw[h1,h2];exact hk
theorem P2 {p:CV→Prop} {σ:List AObj} (hp:∀ z,p (.int .i64 z)):∀ zs:List Int,HL p σ (zs.map AV.i) (zs.map (.int .i64))
 | []=>.nil
 | z::zs=>.cons (.c _ (hp z)) (P2 hp zs)
theorem TN {p:CV→Prop} (hp:∀ z,p (.int .i64 z)) {σ:List AObj} {zs:List Int} {l:Nat} (hr:rowOf σ l=some (zs.map AV.i)):FrzV p σ (.sl l 0 zs.length 1) (ints zs):=by
 refine .c (.sl l 0 zs.length 1 _ _ hr (by simp) ?_)
 have:((zs.map AV.i).drop 0).take (zs.length*1)=zs.map AV.i:=by rw[YO];exact Q5 (by simp)
 rw[this]
 exact P2 hp zs
theorem U4 {p:CV→Prop} (hp:∀ z,p (.int .i64 z)) {σ:List AObj} {zs:List Int} {l n:Nat} (hn:n=zs.length) (hr:rowOf σ l=some (zs.map AV.i)):FrzV p σ (.sl l 0 n 1) (ints zs):=by subst hn;exact TN hp hr
theorem frz_one {p:CV→Prop} (hp:∀ z,p (.int .i64 z)) {σ:List AObj} {z:Int} {l:Nat} (hr:rowOf σ l=some [AV.i z]):FrzV p σ (.sl l 0 1 1) (ints [z]):=TN hp (zs:=[z]) hr
theorem W9 {l off n k:Nat} (h:k<n) (σ:List AObj):VP 1 [.sl l off n 1,.cv (.int .i64 k)] σ=some (.ptr l (off+k),σ):=by
 simp[VP,h]
theorem slc_addr {l off n c k:Nat} (h:k<n) (σ:List AObj):VP 1 [.slc l off n c 1,.cv (.int .i64 k)] σ=some (.ptr l (off+k),σ):=by
 simp[VP,h]
theorem V1 {zs:List Int} {k:Nat} (h:k<zs.length):(zs.map AV.i)[k]? = some (.i (zs[k]?.getD 0)):=by simp[h]
theorem GC {zs:List Int} {k:Nat} {o:Int}:(zs.map AV.i).set k (.cv (.int .i64 o))=(zs.set k o).map AV.i:=List.map_set.symm
theorem RY {p:CV→Prop} {σ:List AObj}:FrzV p σ (.cv .nils) (ints []):=.c .nl
theorem HE {cs:List AV} {σ:List AObj}:rowOf (AObj.cells cs::σ) 0=some cs:=rfl
theorem MK {o:AObj} {σ:List AObj} {n:Nat}:rowOf (o::σ) (n+1)=rowOf σ n:=rfl
theorem Qc8 {cs:List AV} {n:Nat}:setRange cs n []=cs:=rfl
theorem BQ {cs:List AV} {n:Nat} {v:AV} {vs:List AV}:setRange cs n (v::vs)=setRange (cs.set n v) (n+1) vs:=rfl
def SB (σ:List AObj) (v:AV) (zs:List Int):Prop:=(v=.cv .nils∧zs=[])∨∃ l,v=.sl l 0 zs.length 1∧rowOf σ l=some (zs.map AV.i)
theorem FU {σ:List AObj} {l:Nat} {cs:List AV} (h:rowOf σ l=some cs) (x:AObj):rowOf (σ++[x]) l=some cs:=by
 have h:=WO h
 unfold rowOf;rw[QE (QH.1 h).1,h]
theorem XH (σ:List AObj) (cs:List AV):rowOf (σ++[.cells cs]) σ.length=some cs:=by simp[rowOf]
theorem SB.nil (σ:List AObj):SB σ (.cv .nils) []:=.inl ⟨rfl,rfl⟩
theorem QdK {σ:List AObj} {v:AV} {zs:List Int} (z:Int) (h:SB σ v zs) (hl:zs.length<2 ^ 40) :
  ∃ (v':AV) (σ':List AObj),ZX 1 8 [v,.sl σ.length 0 1 1] (σ++[AObj.cells [.i z]])=some (v',σ')∧SB σ' v' (zs++[z]):=by
 have hsrc:Z9 (σ++[AObj.cells [.i z]]) 1 (.sl σ.length 0 1 1)=some [.i z]:=by simp[Z9,rowOf]
 rcases h with ⟨rfl,rfl⟩ | ⟨l,rfl,hr⟩
 ·refine ⟨.sl (σ++[AObj.cells [.i z]]).length 0 1 1,(σ++[AObj.cells [.i z]])++[AObj.cells [.i z]],?_,.inr ⟨_,rfl,?_⟩⟩
  ·simp only[ZX,hsrc,lenF,Option.bind_some]
   rfl
  ·rw[XH];rfl
 ·have hr':=FU hr (AObj.cells [.i z])
  refine ⟨.sl (σ++[AObj.cells [.i z]]).length 0 (zs.length+1) 1,(σ++[AObj.cells [.i z]]).set l AObj.dead++[AObj.cells (zs.map AV.i++[.i z])],?_,.inr ⟨(σ++[AObj.cells [.i z]]).length,by simp,?_⟩⟩
  ·simp only[ZX,hr',hsrc,lenF,Option.bind_some]
   have hp:(2:Nat) ^ 40=1099511627776:=by decide
   have hp2:(2:Nat) ^ 44=17592186044416:=by decide
   have hc:(True∧zs.length*1≤(zs.map AV.i).length∧1*1=[AV.i z].length∧(zs.length+1)*8≤2 ^ 44∧zs.length+1≤2 ^ 44∧[AV.i z].all AV.isSc=true):=by
    refine ⟨trivial,by simp,rfl,by omega,by omega,rfl⟩
   rw[if_pos hc,W3,Q5 (by simp)]
  ·have:(σ++[AObj.cells [.i z]]).length=((σ++[AObj.cells [.i z]]).set l AObj.dead).length:=by simp
   rw[this,XH];simp
def G9 (b:Nat) (σ:List AObj) (v:AV) (zs:List Int):Prop:=b≤σ.length∧((v=.cv .nils∧zs=[])∨∃ l,b≤l∧v=.sl l 0 zs.length 1∧rowOf σ l=some (zs.map AV.i))
theorem G9.acc {b:Nat} {σ:List AObj} {v:AV} {zs:List Int} (h:G9 b σ v zs):SB σ v zs:=h.2.imp id fun ⟨l,_,h1,h2⟩=>⟨l,h1,h2⟩
theorem G9.nil {b:Nat} {σ:List AObj} (h:b≤σ.length):G9 b σ (.cv .nils) []:=⟨h,.inl ⟨rfl,rfl⟩⟩
theorem QX {σ:List AObj} {l l':Nat} (h:l≠l') (x:AObj):rowOf (σ.set l x) l'=rowOf σ l':=by unfold rowOf;rw[QU h]
theorem W0 {σ:List AObj} {l:Nat} {cs cs':List AV} (h:rowOf σ l=some cs):rowOf (σ.set l (AObj.cells cs')) l=some cs':=by
 have h:=(QH.1 (WO h)).1
 unfold rowOf;rw[Z2 h]
theorem acc_frz {p:CV→Prop} (hp:∀ z,p (.int .i64 z)) {σ:List AObj} {v:AV} {zs:List Int} (h:SB σ v zs):FrzV p σ v (ints zs):=by
 rcases h with ⟨rfl,rfl⟩ | ⟨l,rfl,hr⟩
 ·exact RY
 ·exact TN hp hr
theorem bTF:(true == false)=false:=rfl
theorem bFT:(false == true)=false:=rfl
theorem bTT:(true == true)=true:=rfl
theorem bFF:(false == false)=true:=rfl
def frzA:=And.intro (And.intro (And.intro (@W3) (@Nat.one_mul)) (And.intro (@YO.{0}) (@List.take_succ_cons.{0}))) (And.intro (And.intro (@List.take_zero.{0}) (And.intro (@Q0.{0,0}) (@WS.{0,0}))) (And.intro (@List.cons_append.{0}) (And.intro (@List.nil_append.{0}) (@ZU.{0}))))
def ev0:=And.intro (And.intro (And.intro (And.intro (@IS_skip) (And.intro (@IS_label) (@IS_exit))) (And.intro (@IS_ret) (And.intro (@IS_seq) (@IS_block)))) (And.intro (And.intro (@IS_cond) (And.intro (@IS_loop) (@IS_scope))) (And.intro (@QfG) (And.intro (And.intro (@IS_draw) (@IS_dr)) (@QfH))))) (And.intro (And.intro (And.intro (@kSeq_n) (And.intro (@kSeq_x) (@kSeq_r))) (And.intro (@kBlock_n) (And.intro (@kBlock_x) (@kBlock_r)))) (And.intro (And.intro (@kScope_n) (And.intro (@kScope_x) (@kScope_r))) (And.intro (@kReg_n) (And.intro (@kEnd_n) (@kEnd_r)))))
def ev1:=And.intro (And.intro (And.intro (And.intro (@kUn_n) (And.intro (@kUn_x) (@kUn_r))) (And.intro (@kFor_x) (And.intro (@kFor_r) (@RS_n)))) (And.intro (And.intro (@RS_c) (And.intro (@RSx_n) (@RSx_c))) (And.intro (@gdOk.eq_1) (And.intro (@gdOk.eq_2) (@gK_t))))) (And.intro (And.intro (And.intro (@gK_f) (And.intro (@pK_s) (@cK_t))) (And.intro (@cK_f) (And.intro (@callK_c) (@oK_p)))) (And.intro (And.intro (@oK_c) (And.intro (@oX_p) (@oX_c))) (And.intro (@rK_s) (And.intro (@QfJ) (@plOf.eq_1)))))
def ev2:=And.intro (And.intro (And.intro (And.intro (@YX.eq_1) (And.intro (@YX.eq_2) (@xOne.eq_1))) (And.intro (@xOne.eq_2) (And.intro (@O4.eq_1) (@O4.eq_2)))) (And.intro (And.intro (@kindOf.eq_1) (And.intro (@kindOf.eq_2) (@kindOf.eq_3))) (And.intro (@kindOf.eq_4) (And.intro (@kindOf.eq_5) (@kindOf.eq_6))))) (And.intro (And.intro (And.intro (@kindOf.eq_7) (And.intro (@kindOf.eq_8) (@kindOf.eq_9))) (And.intro (@kindOf.eq_10) (And.intro (@kindOf.eq_11) (@kindOf.eq_12)))) (And.intro (And.intro (@kindOf.eq_13) (And.intro (@kindOf.eq_14) (@kindOf.eq_15))) (And.intro (@kindOf.eq_16) (And.intro (@kindOf.eq_17) (@kindOf.eq_18)))))
def ev3:=And.intro (And.intro (And.intro (And.intro (@kindOf.eq_19) (And.intro (@kindOf.eq_20) (@kindOf.eq_21))) (And.intro (@kindOf.eq_22) (And.intro (@kindOf.eq_23) (@kindOf.eq_24)))) (And.intro (And.intro (@kindOf.eq_25) (And.intro (@kindOf.eq_26) (@kindOf.eq_27))) (And.intro (@JJ.eq_1) (And.intro (@JJ.eq_2) (@JJ.eq_3))))) (And.intro (And.intro (And.intro (@JJ.eq_4) (And.intro (@YH.{0,0}) (@List.flatMap_nil.{0,0}))) (And.intro (@Q0.{0,0}) (And.intro (@WS.{0,0}) (@WY.eq_1)))) (And.intro (And.intro (@WY.eq_2) (And.intro (@WY.eq_3) (@ZQ.eq_1))) (And.intro (@ZQ.eq_2) (And.intro (@ZQ.eq_3) (@ZQ.eq_4)))))
def ev4:=And.intro (And.intro (And.intro (And.intro (@ZQ.eq_5) (And.intro (@ZQ.eq_6) (@ZQ.eq_7))) (And.intro (@ZQ.eq_8) (And.intro (@ZQ.eq_9) (@ZQ.eq_10)))) (And.intro (And.intro (@ZQ.eq_11) (And.intro (@ZQ.eq_12) (@ZQ.eq_13))) (And.intro (@ZQ.eq_14) (And.intro (@ZQ.eq_15) (@ZQ.eq_16))))) (And.intro (And.intro (And.intro (@ZQ.eq_17) (And.intro (@ZQ.eq_18) (@ZQ.eq_19))) (And.intro (@ZQ.eq_20) (And.intro (@ZQ.eq_21) (@ZQ.eq_22)))) (And.intro (And.intro (@ZQ.eq_23) (And.intro (@ZQ.eq_24) (@ZQ.eq_25))) (And.intro (@ZQ.eq_26) (And.intro (@ZQ.eq_27) (@ZQ.eq_28)))))
def ev5:=And.intro (And.intro (And.intro (And.intro (@ZQ.eq_29) (And.intro (@ZQ.eq_30) (@ZQ.eq_31))) (And.intro (@ZQ.eq_32) (And.intro (@ZQ.eq_33) (@ZQ.eq_34)))) (And.intro (And.intro (@ZQ.eq_35) (And.intro (@ZQ.eq_36) (@f_mv.eq_1))) (And.intro (@f_mv.eq_2) (And.intro (@P4.eq_1) (@P4.eq_2))))) (And.intro (And.intro (And.intro (@CN.eq_1) (And.intro (@CN.eq_2) (@OJ.eq_1))) (And.intro (And.intro (@OJ.eq_2) (@OJ.eq_3)) (And.intro (@P5.eq_1) (@P5.eq_2)))) (And.intro (And.intro (@UO.eq_1) (And.intro (@UO.eq_2) (@WI.eq_1))) (And.intro (@WI.eq_2) (And.intro (@DL.eq_1) (@V4.eq_1)))))
def ev6:=And.intro (And.intro (And.intro (And.intro (@KZ.eq_1) (And.intro (@KZ.eq_2) (@KZ.eq_3))) (And.intro (@YF.eq_1) (And.intro (@YF.eq_2) (@YF.eq_3)))) (And.intro (And.intro (@UM.eq_1) (And.intro (@UM.eq_2) (@G4.eq_1))) (And.intro (@G4.eq_2) (And.intro (@G4.eq_3) (@G4.eq_4))))) (And.intro (And.intro (And.intro (@NI.eq_1) (And.intro (@NJ.eq_1) (@RZ.eq_1))) (And.intro (@RZ.eq_2) (And.intro (@RZ.eq_3) (@RZ.eq_4)))) (And.intro (And.intro (@RZ.eq_5) (And.intro (@DK.eq_1) (@DK.eq_2))) (And.intro (@DK.eq_3) (And.intro (@OH.eq_1) (@OH.eq_2)))))
def ev7:=And.intro (And.intro (And.intro (And.intro (@OH.eq_3) (And.intro (@U6.eq_1) (@U6.eq_2))) (And.intro (@DJ.eq_1) (And.intro (@DJ.eq_2) (@GT.eq_1)))) (And.intro (And.intro (And.intro (@GT.eq_2) (@GT.eq_3)) (And.intro (@binF.eq_1) (@binF.eq_2))) (And.intro (@binF.eq_3) (And.intro (@binF.eq_4) (@binF.eq_5))))) (And.intro (And.intro (And.intro (@binF.eq_6) (And.intro (@binF.eq_7) (@binF.eq_8))) (And.intro (@binF.eq_9) (And.intro (@binF.eq_10) (@RV.eq_1)))) (And.intro (And.intro (@RV.eq_2) (And.intro (@RV.eq_3) (@binI.eq_1))) (And.intro (@binI.eq_2) (And.intro (@binI.eq_3) (@binI.eq_4)))))
def ev8:=And.intro (And.intro (And.intro (And.intro (@binI.eq_5) (And.intro (@binI.eq_6) (@binI.eq_7))) (And.intro (@binI.eq_8) (And.intro (@binI.eq_9) (@binI.eq_10)))) (And.intro (And.intro (@binI.eq_11) (And.intro (@binI.eq_12) (@binI.eq_13))) (And.intro (@binI.eq_14) (And.intro (@binI.eq_15) (@binI.eq_16))))) (And.intro (And.intro (And.intro (@K8.eq_1) (And.intro (@K8.eq_2) (@K8.eq_3))) (And.intro (@setD.eq_1) (And.intro (@setD.eq_2) (@Y5.eq_1)))) (And.intro (And.intro (@cellsOf.eq_1) (And.intro (@cellsOf.eq_2) (@HW.eq_1))) (And.intro (@HW.eq_2) (And.intro (@HW.eq_3) (@Qc8)))))
def ev9:=And.intro (And.intro (And.intro (And.intro (@BQ) (And.intro (@HE) (@MK))) (And.intro (@AV.isUndef.eq_1) (And.intro (@AV.isUndef.eq_2) (@AV.isSc.eq_1)))) (And.intro (And.intro (@AV.isSc.eq_2) (And.intro (@AV.isSc.eq_3) (@AV.isSc.eq_4))) (And.intro (@CallV_fn) (And.intro (@CallV_bm) (@RL.eq_1))))) (And.intro (And.intro (And.intro (@RL.eq_2) (And.intro (@resE.eq_1) (@resE.eq_2))) (And.intro (@resE.eq_3) (And.intro (@mapO.eq_1) (@mapO.eq_2)))) (And.intro (And.intro (@WA.{0}) (And.intro (@List.set_cons_zero.{0}) (@List.set_cons_succ.{0}))) (And.intro (@List.getElem?_cons_zero.{0}) (And.intro (@List.getElem?_cons_succ.{0}) (@List.nil_append.{0})))))
def ev10:=And.intro (And.intro (And.intro (And.intro (@List.cons_append.{0}) (And.intro (@ZU.{0}) (@Option.getD_some.{0}))) (And.intro (@List.getElem?_nil.{0}) (And.intro (@Option.getD_none.{0}) (@Option.map_some.{0,0})))) (And.intro (And.intro (@Option.bind_some.{0,0}) (And.intro (@QT) (@List.length_cons.{0}))) (And.intro (@List.length_nil.{0}) (And.intro (@List.take_succ_cons.{0}) (@List.take_zero.{0}))))) (And.intro (And.intro (And.intro (@YO.{0}) (And.intro (@List.drop_succ_cons.{0}) (@XI))) (And.intro (@WH) (And.intro (@Bool.false_and) (@UA)))) (And.intro (And.intro (@US) (And.intro (@Bool.or_true) (@Y3))) (And.intro (@Bool.or_false) (And.intro (@Y2) (@ZY)))))
def ev11:=And.intro (And.intro (And.intro (And.intro (@Bool.not_not) (And.intro (@beq_self_eq_true.{0}) (@List.all_cons.{0}))) (And.intro (@List.all_nil.{0}) (And.intro (@ZV) (@Nat.add_zero)))) (And.intro (And.intro (@AV.cv.injEq) (And.intro (@CV.bool.injEq) (@CV.int.injEq))) (And.intro (@exists_eq_left'.{1}) (And.intro (@exists_eq_left.{1}) (@decide_true))))) (And.intro (And.intro (And.intro (@decide_false) (And.intro (@true_and) (@and_true))) (And.intro (@and_self) (And.intro (@Int.toNat_natCast) (@Go.Exit.exit.injEq)))) (And.intro (And.intro (@J5) (And.intro (@J4) (@W9))) (And.intro (@V1) (And.intro (@GC) (@ZK.{0,0})))))
def ev12:=And.intro (And.intro (And.intro (@WE.{0}) (And.intro (@W3) (@beq_true))) (And.intro (And.intro (@Option.some.injEq.{0}) (@bne_self_eq_false.{0})) (And.intro (@List.contains_cons.{0}) (@List.contains_nil.{0})))) (And.intro (And.intro (@xAll.eq_1) (And.intro (@xAll.eq_2) (@ZC))) (And.intro (And.intro (@bTF) (@bFT)) (And.intro (@bTT) (@bFF))))
def ev13:=And.intro (And.intro (And.intro (@ZQ.eq_37) (@ZQ.eq_38)) (And.intro (@ZQ.eq_39) (@ZQ.eq_41))) (And.intro (And.intro (@kindOf.eq_28) (@F6.eq_1)) (And.intro (@OI.eq_1) (@kindOf.eq_27)))
def ev14:=And.intro (And.intro (And.intro (@ZQ.eq_42) (@ZQ.eq_43)) (And.intro (And.intro (@ZQ.eq_44) (@ZQ.eq_45)) (@kindOf.eq_29))) (And.intro (And.intro (@kindOf.eq_30) (And.intro (@RZ.eq_6) (@slc_addr))) (And.intro (@NZ.eq_1) (And.intro (@JJ.eq_5) (And.intro (@binF.eq_11) (@binF.eq_12)))))
def evj:=And.intro (And.intro (And.intro (And.intro (@jS.eq_1) (And.intro (@jB.eq_1) (@jn.eq_1))) (And.intro (@jq.eq_1) (And.intro (@jw.eq_1) (@jg.eq_1)))) (And.intro (And.intro (@jk.eq_1) (And.intro (@jd.eq_1) (@jf.eq_1))) (And.intro (@jv.eq_1) (And.intro (@jt.eq_1) (@jl.eq_1))))) (And.intro (And.intro (And.intro (@jL.eq_1) (And.intro (@je.eq_1) (@jc.eq_1))) (And.intro (@ja.eq_1) (And.intro (@jF.eq_1) (@jG.eq_1)))) (And.intro (And.intro (@jx.eq_1) (And.intro (@jN.eq_1) (@jm.eq_1))) (And.intro (And.intro (@jz.eq_1) (@jb.eq_1)) (And.intro (@jh.eq_1) (@ji.eq_1)))))
def evA:=And.intro (And.intro (And.intro (And.intro ev14 evj) (ev13)) (And.intro (And.intro (And.intro (ev0) (And.intro (ev1) (ev2))) (And.intro (ev3) (And.intro (ev4) (ev5)))) (And.intro (And.intro (ev6) (And.intro (ev7) (ev8))) (And.intro (And.intro (ev9) (ev10)) (And.intro (ev11) (ev12)))))) (And.intro @if_true.{1} (And.intro @if_false.{1} @QaK))
theorem frz {P:Prop} (h:P:=by (try dsimp only);repeat (first | exact trivial | rfl | exact RY | (apply TN (fun _=>trivial);first | rfl | (simp[rowOf];done)) | constructor | simp only[frzA])):P:=h
def inB (n lo hi:Int):Bool:=decide (n≥lo)&&decide (n≤hi)
theorem VB {n lo hi:Int}:inB n lo hi=true↔lo≤n∧n≤hi:=by simp[inB]
def outF (lo hi:Int) (zs:List Int):Bool:=zs.any fun z=>decide (z<lo)||decide (z>hi)
theorem FW (lo hi z:Int):outF lo hi [z] = !inB z lo hi:=by
 simp only[outF,inB,List.any_cons,List.any_nil,Bool.or_false]
 by_cases h1:z<lo <;> by_cases h2:z>hi <;> simp[h1,h2] <;> omega
theorem PW {lo hi:Int} {zs:List Int}:outF lo hi zs=false↔∀ j,j<zs.length→inB (zs[j]?.getD 0) lo hi=true:=by
 simp only[outF,W6,inB,QD,decide_eq_true_eq,WR,not_or]
 constructor
 ·intro h j hj
  have:=h zs[j] (Q2 hj)
  simp[hj];omega
 ·intro h x hx
  obtain ⟨j,hj,rfl⟩:=WN.1 hx
  have:=h j hj
  simp[hj] at this;omega
theorem Qeg {lo hi:Int} {zs:List Int} {j:Nat} (hj:j<zs.length) (h:inB (zs[j]?.getD 0) lo hi=false):outF lo hi zs=true:=by
 cases ho:outF lo hi zs with
 | true=>rfl
 | false=>rw[PW.1 ho j hj] at h;cases h
def idxN (p:Nat→Bool) (n:Nat):Int:=match (List.range n).find? p with | some i=>i | none=>-1
theorem EK {p:Nat→Bool} {n i:Nat} (h:i<n) (hall:∀ j,j<i→p j=false) (hp:p i=true):idxN p n=i:=by
 have:(List.range n).find? p=some i:=by
  rw[List.find?_range_eq_some]
  exact ⟨hp,ZI.2 h,fun j hj=>by rw[hall j hj];rfl⟩
 simp[idxN,this]
theorem EL {p:Nat→Bool} {n:Nat} (hall:∀ j,j<n→p j=false):idxN p n = -1:=by
 have:(List.range n).find? p=none:=by
  rw[List.find?_eq_none]
  intro x hx
  rw[hall x (by simpa using hx)];simp
 simp[idxN,this]
def anyN (p:Nat→Bool) (n:Nat):Bool:=(List.range n).any p
theorem OA (p:Nat→Bool) (n:Nat):decide (idxN p n≥0)=anyN p n:=by
 unfold idxN anyN
 cases h:(List.range n).find? p with
 | none =>
  rw[List.find?_eq_none] at h
  have:(List.range n).any p=false:=by rw[W6];exact h
  rw[this];simp
 | some i =>
  have h1:=List.find?_some h
  have h2:=List.mem_of_find?_eq_some h
  have:(List.range n).any p=true:=ZZ.2 ⟨i,h2,h1⟩
  rw[this];simp
theorem beq_f {a b:Int} (h:¬ a=b):(a == b)=false:=by simpa using h
theorem bne_t {a b:Int} (h:¬ a=b):(a != b)=true:=by simpa using h
end Go.Proofs.YtogjcmnopidfpaaGreat.AM

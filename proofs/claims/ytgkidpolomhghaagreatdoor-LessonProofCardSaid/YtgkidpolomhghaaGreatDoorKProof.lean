/- Parts of the proof of Proof. -/
import Derived.Test.YtgkidpolomhghaaGreatDoorProg
import Derived.Test.YtgkidpolomhghaaGreatDoorRows
import Derived.WalkKit
import Derived.ProofKit
import Derived.OpenShut
import Derived.Carry
import Derived.Test.YtgkidpolomhghaaGreatDoorZ27
set_option linter.unusedVariables false
set_option linter.unusedSimpArgs false
set_option linter.unusedSectionVars false
set_option linter.defProp false
namespace Go.Proofs.YtgkidpolomhghaaGreatDoor.AM
variable [Dr]
open Go
abbrev vs24:List Nat:=[0,1,2,3,4,5,6,7,8,19,24,31,38,49]
def ic24l0:IC:=(.seq (.seq (.region [jv 7,jF 1 1,jl 1,je 2,jw 12 (.bin .lss .int) [.t 0,.t 3]])
 (.cond 12 .skip
 (.exit 2)))
 (.seq (.block 3 (.seq (.dr [[],[],[1],[],[2,3],[4],[0,5],[6,6,0,1,2,3,4,5,6]] [jN 2 1,jF 1 1,jl 1,jv 7,ja 7 2 3,jq (.loadN 7) [.t 4],jk 71 [.t 0,.t 5],jm 8 6])
 (.seq (.region [jv 8,jw 13 (.bin .neq .int) [.t 0,jn 0]])
 (.cond 13 (.seq (.region [jv 7,jv 8,jz 2 3,jm 3 0,jm 4 1])
 .ret)
 .skip))))
 (.region [jv 7,jq (.bin .add .int) [.t 0,jn 1],jm 7 1])))
def ic24l1:IC:=(.seq (.seq (.region [jv 5,jF 0 1,jl 1,je 2,jw 10 (.bin .lss .int) [.t 0,.t 3]])
 (.cond 10 .skip
 (.exit 0)))
 (.seq (.block 1 (.seq (.region [jN 2 1,jv 5,jk 70 [.t 0,.t 1],jm 6 2])
 (.seq (.region [jv 6,jw 11 (.bin .neq .int) [.t 0,jn 0]])
 (.cond 11 (.seq (.region [jv 5,jv 6,jz 2 2,jm 3 0,jm 4 1])
 .ret)
 .skip))))
 (.region [jv 5,jq (.bin .add .int) [.t 0,jn 1],jm 5 1])))
def ic24:IC:=(.seq (.region [jb 1 0,jz 2 0,jz 3 0,jz 4 0])
 (.seq (.seq (.region [jF 0 1,jl 0,je 1,jk 64 [.t 2,jn 1,jn 16],jq .not [.t 3],jt 4,jg 5 false (.fadd 1) [.v 1],ji 5 false 6,jg 5 false (.len false) [.t 7],jg 5 false (.bin .gtr .int) [.t 8,jn 12],jw 9 .pick [.t 5,jB true,.t 9]])
 (.cond 9 (.seq (.region [jz 2 1,jz 3 0,jz 4 3])
 .ret)
 .skip))
 (.seq (.seq (.region [jz 5 0])
 (.block 0 (.loop ic24l1)))
 (.seq (.seq (.region [jz 7 0])
 (.block 2 (.loop ic24l0)))
 (.seq (.region [jz 2 0,jz 3 0,jz 4 0])
 .ret)))))
abbrev rs24:List RC:=[(.v 2),(.v 3),(.v 4)]
theorem fok24 (p:Bool):FnOk Tryz.prog 24 ⟨ic24,vs24,52,rs24,p⟩:=.mk2 Tryz.func24 (by kernel_rfl) (by kernel_rfl) (by kernel_rfl) (by kernel_rfl) (by kernel_rfl)
abbrev vs48:List Nat:=[0,1,2,5]
def ic48:IC:=(.seq (.region [jb 1 0,jw 2 .mv [jB false]])
 (.seq (.region [jN 2 1,jk 24 [.t 0],jt 1,jx 0 2,jx 1 2,jx 2 2,jt 3,jt 4,jm 3 5])
 (.seq (.region [jv 3,jq (.bin .eql .int) [.t 0,jn 0],jm 2 1])
 .ret)))
abbrev rs48:List RC:=[(.v 2)]
theorem fok48 (p:Bool):FnOk Tryz.prog 48 ⟨ic48,vs48,14,rs48,p⟩:=.mk2 Tryz.func48 (by kernel_rfl) (by kernel_rfl) (by kernel_rfl) (by kernel_rfl) (by kernel_rfl)
abbrev vs50:List Nat:=[0,1,2,4,5,6,7,8,9,10,11,12,17,42,60,66,78,85,101]
def ic50l0:IC:=(.seq (.seq (.region [jv 10,jv 7,je 1,jw 15 (.bin .lss .int) [.t 0,.t 2]])
 (.cond 15 .skip
 (.exit 6)))
 (.seq (.block 7 (.seq (.dr [[],[],[],[1,2],[3],[],[],[5,6],[7],[0,4,8]] [jN 2 2,jv 7,jv 10,ja 1 1 2,jl 3,jv 4,jv 8,ja 1 5 6,jl 7,jd 16 51 [.t 0,.t 4,.t 8]])
 (.cond 16 (.region [jv 9,jv 10,jq (.bslice 1 1 [(.cv (.int .i64 0))] [(0,1)]) [.t 1],jq (.append 1 8) [.t 0,.t 2],jm 9 3])
 .skip)))
 (.region [jv 10,jq (.bin .add .int) [.t 0,jn 1],jm 10 1])))
def ic50l1:IC:=(.seq (.seq (.region [jv 8,jv 4,je 1,jw 14 (.bin .lss .int) [.t 0,.t 2]])
 (.cond 14 .skip
 (.exit 4)))
 (.seq (.block 5 (.seq (.region [jw 9 .mv [jS]])
 (.seq (.seq (.region [jz 10 0])
 (.block 6 (.loop ic50l0)))
 (.seq (.region [jz 11 0])
 (.seq (.seq (.region [jv 1,je 0,jw 17 (.bin .gtr .int) [.t 1,jn 0]])
 (.cond 17 (.region [jv 1,jv 8,jv 1,je 2,jq (.bin .rem .int) [.t 1,.t 3],ja 1 0 4,jl 5,jq (.conv .i64) [.t 6],jm 11 7])
 .skip))
 (.seq (.region [jv 9,je 0,jq (.bin .eql .int) [.t 1,jn 0],jt 2,jh 3 false 11,jg 3 false (.bin .rem .int) [.t 4,jn 8],jg 3 false (.bin .eql .int) [.t 5,jn 7],jw 18 .pick [.t 3,jB true,.t 6]])
 (.cond 18 (.region [jv 7,jv 4,jv 8,ja 1 1 2,jl 3,jq (.bslice 1 1 [(.cv (.int .i64 0))] [(0,1)]) [.t 4],jq (.append 1 8) [.t 0,.t 5],jm 7 6])
 (.dr [[],[],[],[],[3],[2,4],[1,5],[6],[],[],[8,9],[10],[0,7,0,1,2,3,4,5,6,7,8,9,10,11],[12,11,0,1,2,3,4,5,6,7,8,9,10,11]] [jv 7,jv 9,jv 11,jv 9,je 3,jq (.bin .rem .int) [.t 2,.t 4],ja 1 1 5,jl 6,jv 4,jv 8,ja 1 8 9,jl 10,ja 1 0 7,jq (.store 1) [.t 12,.t 11]]))))))))
 (.region [jv 8,jq (.bin .add .int) [.t 0,jn 1],jm 8 1])))
def ic50l2:IC:=(.seq (.seq (.dr [[],[0],[1],[2],[3,2],[2],[2],[6,2],[5,7,2],[8,2],[4,9,2],[10,2],[11,2],[2],[13,2],[2],[14,15,2],[16,2],[17,2],[12,18,2],[2,19]] [jv 6,jq (.bin .gtr .int) [.t 0,jn 0],jt 1,jg 2 true (.fadd 1) [.v 2],ji 2 true 3,jh 2 true 4,jh 2 true 6,jg 2 true (.bin .sub .int) [.t 6,jn 1],jg 2 true (.iaS 1) [.t 5,.t 7],ji 2 true 8,jg 2 true (.iaS 7) [.t 4,.t 9],jg 2 true (.fadd 3) [.t 10],ji 2 true 11,jg 2 true (.fadd 1) [.v 2],ji 2 true 13,jh 2 true 5,jg 2 true (.iaS 7) [.t 14,.t 15],jg 2 true (.fadd 3) [.t 16],ji 2 true 17,jg 2 true (.bin .gtr .int) [.t 12,.t 18],jw 13 .pick [.t 2,.t 19,jB false]])
 (.cond 13 .skip
 (.exit 2)))
 (.block 3 (.region [jv 6,jq (.bin .sub .int) [.t 0,jn 1],jm 6 1])))
def ic50l3:IC:=(.seq (.seq (.region [jv 5,jF 1 2,jl 1,je 2,jw 12 (.bin .lss .int) [.t 0,.t 3]])
 (.cond 12 .skip
 (.exit 0)))
 (.seq (.block 1 (.seq (.region [jv 4,je 0,jm 6 1])
 (.seq (.block 2 (.loop ic50l2))
 (.dr [[],[],[],[1,2],[0,3],[],[5],[4,6,4],[],[],[8,9],[7,10,7],[11,11,0,1,2,3,4,5,6,7,8,9,10,11]] [jq (.bslice 1 0 [] []) [],jv 4,jv 6,jq (.slS 1 false true) [.t 1,.t 2],jq (.append 1 8) [.t 0,.t 3],jv 5,jq (.bslice 1 1 [(.cv (.int .i64 0))] [(0,1)]) [.t 5],jq (.append 1 8) [.t 4,.t 6],jv 4,jv 6,jq (.slS 1 true false) [.t 8,.t 9],jq (.append 1 8) [.t 7,.t 10],jm 4 11]))))
 (.region [jv 5,jq (.bin .add .int) [.t 0,jn 1],jm 5 1])))
def ic50:IC:=(.seq (.region [jb 2 0,jz 3 0])
 (.seq (.region [jw 4 .mv [jS]])
 (.seq (.seq (.region [jz 5 0])
 (.block 0 (.loop ic50l3)))
 (.seq (.region [jw 7 .mv [jS]])
 (.seq (.seq (.region [jz 8 0])
 (.block 4 (.loop ic50l1)))
 (.seq (.region [jv 7,je 0,jm 3 1])
 .ret))))))
abbrev rs50:List RC:=[(.v 3)]
theorem fok50 (p:Bool):FnOk Tryz.prog 50 ⟨ic50,vs50,124,rs50,p⟩:=.mk2 Tryz.func50 (by kernel_rfl) (by kernel_rfl) (by kernel_rfl) (by kernel_rfl) (by kernel_rfl)
abbrev vs51:List Nat:=[0,1,2,3,6,7,8]
def ic51:IC:=(.seq (.region [jb 3 0,jw 4 .mv [jB false]])
 (.seq (.dr [[],[0],[],[1,2],[3],[],[5],[],[6,7],[8],[],[],[10,4,0,1,2,3,4,10,11],[11,9,12,0,1,2,3,4,5,6,7,8,9,10,11,12]] [jF 1 3,jl 0,jv 1,ja 7 1 2,jq (.loadN 7) [.t 3],jF 1 3,jl 5,jv 2,ja 7 6 7,jq (.loadN 7) [.t 8],jw 5 (.alloc [(.cv (.int .i64 0)),(.cv (.int .i64 0)),(.cv (.int .i64 0)),(.cv (.int .i64 0)),(.cv (.int .i64 0)),(.cv (.int .i64 0)),(.cv (.int .i64 0))]) [],jw 6 (.alloc [(.cv (.int .i64 0)),(.cv (.int .i64 0)),(.cv (.int .i64 0)),(.cv (.int .i64 0)),(.cv (.int .i64 0)),(.cv (.int .i64 0)),(.cv (.int .i64 0))]) [],jq (.store 7) [.v 5,.t 4],jq (.store 7) [.v 6,.t 9]])
 (.seq (.dr [[],[0],[],[2],[],[4],[3,5],[6],[],[8],[7,9],[10],[1,11],[],[13],[12,14],[15,0,1,2,3,4,5,6,7,8,9,10,11,12,13,14,15]] [jF 4 5,jl 0,jF 0 3,jl 2,jF 6 5,jl 4,ja 1 3 5,jl 6,jF 5 6,jl 8,ja 1 7 9,jl 10,jq (.bin .add .int) [.t 1,.t 11],jF 3 6,jl 13,jq (.bin .leq .int) [.t 12,.t 14],jm 4 15])
 .ret)))
abbrev rs51:List RC:=[(.v 4)]
theorem fok51 (p:Bool):FnOk Tryz.prog 51 ⟨ic51,vs51,35,rs51,p⟩:=.mk2 Tryz.func51 (by kernel_rfl) (by kernel_rfl) (by kernel_rfl) (by kernel_rfl) (by kernel_rfl)
abbrev vs64:List Nat:=[0,1,2,6]
def ic64:IC:=(.seq (.region [jw 3 .mv [jB false]])
 (.seq (.region [jv 0,jv 1,jq (.bin .geq .int) [.t 0,.t 1],jt 2,jh 3 true 0,jh 3 true 2,jg 3 true (.bin .leq .int) [.t 4,.t 5],jq .pick [.t 3,.t 6,jB false],jm 3 7])
 .ret))
abbrev rs64:List RC:=[(.v 3)]
theorem fok64 (p:Bool):FnOk Tryz.prog 64 ⟨ic64,vs64,15,rs64,p⟩:=.mk2 Tryz.func64 (by kernel_rfl) (by kernel_rfl) (by kernel_rfl) (by kernel_rfl) (by kernel_rfl)
abbrev vs70:List Nat:=[0,1,2,4,5,6,17,21,29,34]
def ic70l0:IC:=(.seq (.seq (.region [jv 5,jv 4,je 1,jw 7 (.bin .lss .int) [.t 0,.t 2]])
 (.cond 7 .skip
 (.exit 0)))
 (.seq (.block 1 (.seq (.region [jv 4,jv 5,ja 1 0 1,jl 2,jk 64 [.t 3,jn 0,jn 120],jw 8 .not [.t 4]])
 (.cond 8 (.seq (.region [jz 3 7])
 .ret)
 .skip)))
 (.region [jv 5,jq (.bin .add .int) [.t 0,jn 1],jm 5 1])))
def ic70:IC:=(.seq (.region [jb 2 0,jz 3 0])
 (.seq (.region [jF 0 2,jl 0,jv 1,ja 1 1 2,jl 3,jm 4 4])
 (.seq (.seq (.region [jv 4,je 0,jF 0 2,jl 2,je 3,jw 6 (.bin .neq .int) [.t 1,.t 4]])
 (.cond 6 (.seq (.region [jz 3 3])
 .ret)
 .skip))
 (.seq (.seq (.region [jz 5 0])
 (.block 0 (.loop ic70l0)))
 (.seq (.seq (.region [jv 4,jv 1,ja 1 0 1,jl 2,jw 9 (.bin .neq .int) [.t 3,jn 0]])
 (.cond 9 (.seq (.region [jz 3 2])
 .ret)
 .skip))
 (.seq (.region [jz 3 0])
 .ret))))))
abbrev rs70:List RC:=[(.v 3)]
theorem fok70 (p:Bool):FnOk Tryz.prog 70 ⟨ic70,vs70,35,rs70,p⟩:=.mk2 Tryz.func70 (by kernel_rfl) (by kernel_rfl) (by kernel_rfl) (by kernel_rfl) (by kernel_rfl)
abbrev vs71:List Nat:=[0,1,2,3,4,5,6,23,25,33,38,56]
def ic71l0:IC:=(.seq (.seq (.region [jv 6,jw 8 (.bin .lss .int) [.t 0,jn 3]])
 (.cond 8 .skip
 (.exit 0)))
 (.seq (.block 1 (.seq (.region [jv 5,jv 6,ja 1 0 1,jl 2,jk 64 [.t 3,jn 0,jn 7],jw 9 .not [.t 4]])
 (.cond 9 (.seq (.region [jz 4 7])
 .ret)
 .skip)))
 (.region [jv 6,jq (.bin .add .int) [.t 0,jn 1],jm 6 1])))
def ic71:IC:=(.seq (.region [jb 2 0,jb 3 1,jz 4 0])
 (.seq (.region [jF 0 3,jl 0,jF 1 3,jl 2,jF 2 3,jl 4,jq (.bslice 1 3 [(.cv (.int .i64 0)),(.cv (.int .i64 0)),(.cv (.int .i64 0))] [(0,1),(1,1),(2,1)]) [.t 1,.t 3,.t 5],jm 5 6])
 (.seq (.seq (.region [jF 3 3,jl 0,jk 64 [.t 1,jn 0,jn 1440],jq .not [.t 2],jt 3,jg 4 false (.fadd 4) [.v 3],ji 4 false 5,jf 4 false 64 [.t 6,jn 0,jn 1440],jg 4 false .not [.t 7],jw 7 .pick [.t 4,jB true,.t 8]])
 (.cond 7 (.seq (.region [jz 4 7])
 .ret)
 .skip))
 (.seq (.seq (.region [jz 6 0])
 (.block 0 (.loop ic71l0)))
 (.seq (.seq (.region [jF 3 3,jl 0,jF 4 3,jl 2,jw 10 (.bin .geq .int) [.t 1,.t 3]])
 (.cond 10 (.seq (.region [jz 4 2])
 .ret)
 .skip))
 (.seq (.seq (.region [jF 5 3,jl 0,jF 0 2,jl 2,je 3,jq (.bin .sub .int) [.t 4,jn 1],jk 64 [.t 1,jn 0,.t 5],jq .not [.t 6],jt 7,jg 8 false (.fadd 6) [.v 3],ji 8 false 9,jg 8 false (.fadd 0) [.v 2],ji 8 false 11,jg 8 false (.len false) [.t 12],jg 8 false (.bin .sub .int) [.t 13,jn 1],jf 8 false 64 [.t 10,jn 0,.t 14],jg 8 false .not [.t 15],jw 11 .pick [.t 8,jB true,.t 16]])
 (.cond 11 (.seq (.region [jz 4 4])
 .ret)
 .skip))
 (.seq (.region [jz 4 0])
 .ret)))))))
abbrev rs71:List RC:=[(.v 4)]
theorem fok71 (p:Bool):FnOk Tryz.prog 71 ⟨ic71,vs71,57,rs71,p⟩:=.mk2 Tryz.func71 (by kernel_rfl) (by kernel_rfl) (by kernel_rfl) (by kernel_rfl) (by kernel_rfl)
theorem accFrom_append {b:Nat} {σ:List AObj} {v:AV} {zs:List Int} (z:Int) (h:G9 b σ v zs) (hl:zs.length<2 ^ 40) :
  ∃ (v':AV) (σ':List AObj),ZX 1 8 [v,.sl σ.length 0 1 1] (σ++[AObj.cells [.i z]])=some (v',σ')∧G9 b σ' v' (zs++[z])∧∀ l,l<b→rowOf σ' l=rowOf σ l:=by
 have hsrc:Z9 (σ++[AObj.cells [.i z]]) 1 (.sl σ.length 0 1 1)=some [.i z]:=by simp[Z9,rowOf]
 have low:∀ l,l<b→rowOf (σ++[AObj.cells [.i z]]) l=rowOf σ l:=fun l hl=>by
  unfold rowOf;rw[QE (by have:=h.1;omega)]
 have hb:=h.1
 rcases h.2 with ⟨rfl,rfl⟩ | ⟨l,hbl,rfl,hr⟩
 ·refine ⟨.sl (σ++[AObj.cells [.i z]]).length 0 1 1,(σ++[AObj.cells [.i z]])++[AObj.cells [.i z]],?_,⟨by simp;omega,.inr ⟨(σ++[AObj.cells [.i z]]).length,by simp;omega,rfl,?_⟩⟩,fun l hl=>?_⟩
  ·simp only[ZX,hsrc,lenF,Option.bind_some]
   rfl
  ·rw[XH];rfl
  ·rw[← low l hl];unfold rowOf;rw[QE (by simp;omega)]
 ·have hr':=FU hr (AObj.cells [.i z])
  refine ⟨.sl (σ++[AObj.cells [.i z]]).length 0 (zs.length+1) 1,(σ++[AObj.cells [.i z]]).set l AObj.dead++[AObj.cells (zs.map AV.i++[.i z])],?_,⟨by simp;omega,.inr ⟨(σ++[AObj.cells [.i z]]).length,by simp;omega,by simp,?_⟩⟩,fun l' hl'=>?_⟩
  ·simp only[ZX,hr',hsrc,lenF,Option.bind_some]
   have hp:(2:Nat) ^ 40=1099511627776:=by decide
   have hp2:(2:Nat) ^ 44=17592186044416:=by decide
   have hc:(True∧zs.length*1≤(zs.map AV.i).length∧1*1=[AV.i z].length∧(zs.length+1)*8≤2 ^ 44∧zs.length+1≤2 ^ 44∧[AV.i z].all AV.isSc=true):=by
    refine ⟨trivial,by simp,rfl,by omega,by omega,rfl⟩
   rw[if_pos hc,W3,Q5 (by simp)]
  ·have:(σ++[AObj.cells [.i z]]).length=((σ++[AObj.cells [.i z]]).set l AObj.dead).length:=by simp
   rw[this,XH];simp
  ·rw[← low l' hl']
   have:rowOf ((σ++[AObj.cells [.i z]]).set l AObj.dead) l'=rowOf (σ++[AObj.cells [.i z]]) l':=QX (by omega) _
   rw[← this];unfold rowOf;rw[QE (by simp;omega)]
end Go.Proofs.YtgkidpolomhghaaGreatDoor.AM
namespace Go.Proofs.YtgkidpolomhghaaGreatDoor.AM
variable [Dr]
open Go
variable {P:Program} {fx:Fx} {s:St} {Q:Exit→St→Prop} {f:FuncId}
theorem WB.later {m:LM} {X:Nat→Prop} {en:En} {w:World} {c:Code} {s':St} {m':LM} {w':World} {ac':Act} (h:WB f P fx c s' Q) (hr:rok fx m) (hs':SRel fx m' X en s' ac' w') (hst:Step fx.n0 m X w m' w') :
  InF f (fen m fx.r) 0 P c (Lift fx m X en w Q) ac' w':=by
 rw[← EQ hr hst]
 exact InF.mono (h m' X en ac' w' hs' (EH hr hst)) fun e ac2 w2 ⟨s2,m2,h1,h2,h3⟩=>⟨s2,m2,h1,h2,hst.trans h3⟩
end Go.Proofs.YtgkidpolomhghaaGreatDoor.AM
namespace Go.Proofs.YtgkidpolomhghaaGreatDoor.Pl
section
variable (can:Nat→Nat→Bool) (n:Nat)
variable {can n}
end
section
variable (nx:List Int)
variable {nx} {can:Nat→Nat→Bool} {rk:Nat→Int} {n:Nat}
theorem LG (h:nx.length=n) {i:Nat}:V3 nx i=false↔∃ p,p<n∧gI nx p=(i:Int):=by
 unfold V3
 rw[Bool.not_eq_false',XS]
 constructor
 ·intro hm
  obtain ⟨p,hp,e⟩:=List.getElem_of_mem hm
  exact ⟨p,by omega,by simp[gI,hp,e]⟩
 ·rintro ⟨p,hp,e⟩
  have:nx[p]'(by omega)=(i:Int):=by simpa[gI,show p<nx.length by omega] using e
  rw[← this];exact Q2 _
theorem heads_len (h:NxW can rk n nx):(DD nx n).length+cnt n (fun j=>decide (0≤gI nx j))=n:=by
 have e1:(DD nx n).length=cnt n (V3 nx):=by
  unfold DD
  have key:∀ m,((List.range m).filter (V3 nx)).length=cnt m (V3 nx):=by
   intro m
   induction m with
   | zero=>rfl
   | succ m ih =>
    rw[WM,List.filter_append,QM,ih,cnt]
    by_cases hm:V3 nx m=true
    ·simp[hm]
    ·simp[hm]
  exact key n
 have e2:cnt n (fun j=>decide (0≤gI nx j))=cnt n (fun i=>!V3 nx i):=by
  refine Nat.le_antisymm (G6 (fun j=>(gI nx j).toNat) (fun j hj hp=>?_) fun j j' hj hj' hp hp' e=>?_) ?_
  ·simp only[decide_eq_true_eq] at hp
   rcases h.ok j hj with h1 | ⟨k,h1,h2,_⟩
   ·omega
   ·refine ⟨by omega,?_⟩
    rw[(LG h.len).2 ⟨j,hj,by omega⟩];rfl
  ·simp only[decide_eq_true_eq] at hp hp'
   exact h.inj j j' hj hj' (by omega) hp
  ·have hex:∀ i:Nat,∃ p:Nat,V3 nx i=false→p<n∧gI nx p=(i:Int):=fun i=>by
    cases hh:V3 nx i with
    | false=>obtain ⟨p,hp⟩:=(LG h.len).1 hh;exact ⟨p,fun _=>hp⟩
    | true=>exact ⟨0,fun e=>by cases e⟩
   obtain ⟨g,hg⟩:=Classical.axiomOfChoice hex
   refine G6 g (fun i hi hp=>?_) fun i i' hi hi' hp hp' e=>?_
   ·obtain ⟨a,b⟩:=hg i (by simpa using hp)
    exact ⟨a,by simp[b]⟩
   ·obtain ⟨a,b⟩:=hg i (by simpa using hp)
    obtain ⟨a',b'⟩:=hg i' (by simpa using hp')
    rw[e] at b;omega
 have e3:=ES (n:=n) (fun _=>true) (V3 nx)
 have e4:cnt n (fun _=>true)=n:=by
  have key:∀ m,cnt m (fun _=>true)=m:=by
   intro m
   induction m with
   | zero=>rfl
   | succ m ih=>simp[cnt,ih]
  exact key n
 simp only[XI] at e3
 have e5:cnt n (fun k=>V3 nx k)=cnt n (V3 nx):=rfl
 omega
def ME (cs:List (List Nat)) (k:Nat):Nat:=(cs.map fun c=>c.count k).sum
end
section
variable (can:Nat→Nat→Bool) (n:Nat)
def putK (last:List Nat) (x:Nat):Option Nat→List Nat
 | none=>last++[x]
 | some c=>last.set c x
variable {can n}
theorem part_put {done last:List Nat} {g:Nat→Option Nat} {x:Nat} {o:Option Nat} (hx:x∉done) (hd:∀ y∈done,y<n) (h:QeK can n done last g) (ho:∀ c,o=some c→c<last.length∧can (last[c]?.getD 0) x=true) :
  ∃ g',QeK can n (done++[x]) (putK last x o) g':=by
 have hgx:g x=none:=by
  cases e:g x with
  | none=>rfl
  | some k=>exact absurd (h.mat x k e).1 hx
 cases o with
 | none =>
  refine ⟨g,fun l k e=>?_,h.inj,?_,fun y hy=>?_,?_⟩
  ·obtain ⟨a,b,c⟩:=h.mat l k e
   exact ⟨J3 _ a,J3 _ b,c⟩
  ·show (last++[x]).Nodup
   rw[List.nodup_append]
   refine ⟨h.nd,by simp,fun a ha b hb=>?_⟩
   simp at hb;subst hb
   exact fun e=>hx (e ▸ (h.sub a ha).1)
  ·rcases YV.1 hy with hy | hy
   ·exact ⟨J3 _ (h.sub y hy).1,(h.sub y hy).2⟩
   ·simp at hy;subst hy;exact ⟨by simp,hgx⟩
  ·have:=h.num
   simp only[putK,QM,List.length_singleton];omega
 | some c =>
  obtain ⟨hc,hcan⟩:=ho c rfl
  have hlc:last[c]?.getD 0=last[c]:=by simp[hc]
  rw[hlc] at hcan
  have hlm:=h.sub last[c] (Q2 hc)
  refine ⟨fun l=>if l=last[c] then some x else g l,fun l k e=>?_,fun l l' k e e'=>?_,?_,fun y hy=>?_,?_⟩
  ·by_cases el:l=last[c]
   ·simp only[el,if_true,Option.some.injEq] at e
    subst e;subst el
    exact ⟨J3 _ hlm.1,by simp,hcan⟩
   ·simp only[el,if_false] at e
    obtain ⟨a,b,c⟩:=h.mat l k e
    exact ⟨J3 _ a,J3 _ b,c⟩
  ·by_cases el:l=last[c] <;> by_cases el':l'=last[c] <;> simp only[el,el',if_true,if_false,Option.some.injEq] at e e'
   ·omega
   ·subst e;exact absurd (h.mat l' x e').2.1 hx
   ·subst e';exact absurd (h.mat l x e).2.1 hx
   ·exact h.inj l l' k e e'
  ·show (last.set c x).Nodup
   have hxl:x∉last:=fun hm=>hx (h.sub x hm).1
   have hnd:=List.pairwise_iff_getElem.1 h.nd
   refine List.pairwise_iff_getElem.2 fun i j hi hj hij=>?_
   rw[WE] at hi hj
   rw[List.getElem_set,List.getElem_set]
   by_cases a:c=i <;> by_cases b:c=j <;> simp only[a,b,if_true,if_false]
   ·omega
   ·rw[if_neg (by omega)];exact fun e=>hxl (e ▸ Q2 hj)
   ·rw[if_neg (by omega)];exact fun e=>hxl (e ▸ Q2 hi)
   ·exact hnd i j hi hj hij
  ·have hy:y∈last.set c x:=hy
   obtain ⟨j,hj,e⟩:=List.getElem_of_mem hy
   have hj':j<last.length:=by simpa using hj
   rw[List.getElem_set] at e
   split at e
   ·subst e
    refine ⟨by simp,?_⟩
    have:x≠last[c]:=fun e=>hx (e ▸ hlm.1)
    simp only[this,if_false];exact hgx
   ·rename_i hne
    subst e
    have h1:=h.sub last[j] (Q2 hj')
    refine ⟨J3 _ h1.1,?_⟩
    have:last[j]≠last[c]:=fun e=>hne ((List.getElem_inj h.nd).1 e).symm
    simp only[this,if_false];exact h1.2
  ·have h1:=JU (n:=n) (P:=fun l=>(g l).isSome) (Q:=fun l=>(if l=last[c] then some x else g l).isSome) (x:=last[c]) (hd _ hlm.1) (by simp[hlm.2]) (by simp) fun i _ hne=>by simp[hne]
   have h2:=h.num
   simp only[putK,WE,QM,List.length_singleton]
   omega
theorem part_nil:QeK can n [] [] (fun _=>none):=⟨fun _ _ e=>(by cases e),fun _ _ _ e=>(by cases e),YU,fun _ h=>(by cases h),by simpa using KN (n:=n) (P:=fun _=>(none:Option Nat).isSome) fun _ _=>rfl⟩
theorem part_many {done last:List Nat} {g:Nat→Option Nat} (h:QeK can n done last g) (hl:done.length=n) (hd:∀ y∈done,y<n):n-prF can n n 0 (fun _=>false)≤last.length:=by
 have h1:=PV (can:=can) (n:=n) n 0 (fun _=>false) g (by omega) ⟨fun l k _ _ e=>by
  obtain ⟨a,b,c⟩:=h.mat l k e
  exact ⟨hd k b,c,rfl⟩,fun l l' k _ _ _ _ e e'=>h.inj l l' k e e'⟩
 have h2:UL n 0 g=cnt n fun l=>(g l).isSome:=K1 fun l _=>by simp
 have:=h.num
 omega
end
end Go.Proofs.YtgkidpolomhghaaGreatDoor.Pl
namespace Go.Proofs.YtgkidpolomhghaaGreatDoor.AM
variable [Dr]
open Go Pl
theorem le64 (n lo hi:Int):PC Tryz.prog 64 [.i n,.i lo,.i hi] (.b (inB n lo hi)):=by
 refine ⟨ZF (fok64 true) (QC rfl) ?_,rfl⟩
 unfold inB
 by_cases h:n≥lo <;> simp only[ic64,h,evA,simprocAttr] <;> exact frz
theorem le51 (d:Dy) (hd:DyOk d) {i k:Nat} (hi:i<d.ls.length) (hk:k<d.ls.length):PC Tryz.prog 51 [dyV d,.i i,.i k] (.b (canB d i k)):=by
 obtain ⟨o,f,ho,hf,ho2,hf2,hw,hc⟩:=can_ar hd hi hk
 refine ⟨ZF (fok51 true) (QC rfl) ?_,rfl⟩
 rw[hc]
 have hl:=MR hi
 have hl2:=MR hk
 have ia:=F5 hi
 have ia2:=F5 hk
 generalize d.ls[i]! = a at *
 generalize d.ls[k]! = b at *
 obtain ⟨a1,a2,a3,a4,a5,a6,a7⟩:=a
 obtain ⟨b1,b2,b3,b4,b5,b6,b7⟩:=b
 simp only at ho hf hw hl hl2
 subst ho hf
 simp only[ic51,WI,cellsOf,evA,simprocAttr]
 refine DW_s [] [(1,10),(1,11),(4,10),(4,11),(6,10),(6,11),(6,12),(9,10),(9,11),(9,12),(10,11),(11,10)] hmix (by kernel_rfl) rfl ?_
 simp only[ia,ia2,hl,hl2,evA,simprocAttr]
 refine DW_s [] [] hmix (by kernel_rfl) rfl ?_
 simp only[XP ho2,W3,B7 ho2,J5 hf2,J4 hf2,WA,hw,evA,simprocAttr]
 exact frz
end Go.Proofs.YtgkidpolomhghaaGreatDoor.AM
namespace Go.Proofs.YtgkidpolomhghaaGreatDoor.AM
variable [Dr]
open Go Go.ChangeShapes Go.WideShapes Go.ChangeAt Go.RowKit
abbrev noO:Nat→Prop:=Own (fun _=>none) (fun _=>False)
theorem not_noO (b:Nat):¬ noO b:=by rintro (h | ⟨l,hl⟩);exact h;cases hl
theorem DG {α:Type} {Q:Nat→α→Prop}:∀ (n:Nat),(∀ i,i<n→∃ l,Q i l)→∃ L:List α,L.length=n∧∀ (i:Nat) (l:α),L[i]? = some l→Q i l
 | 0,_=>⟨[],rfl,by simp⟩
 | n+1,h=>by
  obtain ⟨L,h1,h2⟩:=DG n (fun i hi=>h i (by omega))
  obtain ⟨l,hl⟩:=h n (by omega)
  refine ⟨L++[l],by simp[h1],fun i l' hi=>?_⟩
  rcases ZB i n with hlt | hge
  ·rw[QE (by omega)] at hi;exact h2 i l' hi
  ·rw[QS (by omega),h1] at hi
   have:i=n:=by
    rcases ZB n i with h' | h'
    ·rw[QN (by simp;omega)] at hi;cases hi
    ·omega
   subst this
   simp at hi;subst hi;exact hl
theorem CJ {R:Nat→CV→Prop} {esz:Nat}:∀ (L:List (List CV)) (n:Nat),(∀ (i:Nat) (l:List CV),L[i]? = some l→l.length=esz∧∀ (j:Nat) (c:CV),l[j]? = some c→R (n+i*esz+j) c) →
  L.flatten.length=L.length*esz∧∀ (k:Nat) (c:CV),L.flatten[k]? = some c→R (n+k) c
 | [],n,_=>by simp
 | l::L,n,h=>by
  obtain ⟨h1,h2⟩:=h 0 l (by simp)
  have ih:=CJ L (n+esz) (fun i l' hi=>by
   obtain ⟨g1,g2⟩:=h (i+1) l' (by simpa using hi)
   refine ⟨g1,fun j c hj=>?_⟩
   have:=g2 j c hj
   rwa [WP,Nat.one_mul,← Nat.add_assoc,Nat.add_right_comm n] at this)
  refine ⟨by simp[h1,ih.1,WP,Nat.add_comm],fun k c hk=>?_⟩
  rw[List.flatten_cons] at hk
  rcases ZB k l.length with hlt | hge
  ·rw[QE hlt] at hk
   have:=h2 k c hk
   simpa using this
  ·rw[QS hge] at hk
   have:=ih.2 (k-l.length) c hk
   rwa [show n+esz+(k-l.length)=n+k by omega] at this
theorem A4 {P:Program} {R:Nat→CV→Prop} {N:Nat}:∀ (fs:List Field) (L:List (List CV)) (n:Nat),J8 P fs n=some N→L.length=fs.length →
  (∀ (i:Nat) (f:Field) (l:List CV),fs[i]? = some f→L[i]? = some l→l.length=P.cellsOf f.type∧∀ (j:Nat) (c:CV),l[j]? = some c→R (f.offset+j) c) →
  n+L.flatten.length=N∧∀ (k:Nat) (c:CV),L.flatten[k]? = some c→R (n+k) c
 | [],L,n,he,hl,_=>by
  have:L=[]:=ZT (by simpa using hl)
  subst this
  simp only[J8,Option.some.injEq] at he
  simp[he]
 | f::fs,[],n,_,hl,_=>by simp at hl
 | f::fs,l::L,n,he,hl,h=>by
  simp only[J8] at he
  split at he
  ·rename_i hoff
   obtain ⟨h1,h2⟩:=h 0 f l (by simp) (by simp)
   have ih:=A4 fs L (n+P.cellsOf f.type) he (by simpa using hl) (fun i f' l' hf hl'=>h (i+1) f' l' (by simpa using hf) (by simpa using hl'))
   refine ⟨by rw[← ih.1];simp[h1];omega,fun k c hk=>?_⟩
   rw[List.flatten_cons] at hk
   rcases ZB k l.length with hlt | hge
   ·rw[QE hlt] at hk
    have:=h2 k c hk
    rwa [hoff] at this
   ·rw[QS hge] at hk
    have:=ih.2 (k-l.length) c hk
    rwa [show n+P.cellsOf f.type+(k-l.length)=n+k by omega] at this
  ·cases he
theorem NT {W:World} {a:Addr}:∀ (cs:List CV) (i:Nat),(∀ (j:Nat) (c:CV),cs[j]? = some c→∃ v,W.cell? (a.add (i+j))=some v∧c.rep W noO v)→CV.reps W noO cs a i
 | [],_,_=>by simp[CV.reps]
 | c::cs,i,h=>by
  simp only[CV.reps]
  refine ⟨not_noO _,by simpa using h 0 c (by simp),NT cs (i+1) fun j c' hj=>?_⟩
  have:=h (j+1) c' (by simpa using hj)
  rwa [show i+(j+1)=i+1+j by omega] at this
section
variable {H:Type} {enc:TypeId × Value→H} {P:Program} {W:World}
theorem EW:∀ (n:Nat) (t:TypeId) (cs:List Value) (x:DataW H × List MemPlace) (fuel:Nat),TG P n t=true→DataW.trod enc P W 0 (fun _=>true) true fuel t cs=some x →
  ∃ cvs:List CV,Typed P t cvs∧cvs.length=cs.length∧∀ (i:Nat) (c:CV) (v:Value),cvs[i]? = some c→cs[i]? = some v→c.rep W noO v
 | 0,t,cs,x,fuel,ho,_=>by simp[TG] at ho
 | n + 1,t,cs,x,fuel,ho,h=>by
  simp only[TG] at ho
  split at ho
  ·rename_i ht
   obtain ⟨b,rfl,_⟩:=DataW.trod_bool ht h
   refine ⟨[.bool b],.bool ht b,rfl,fun i c v h1 h2=>?_⟩
   cases i with
   | zero=>simp at h1 h2;subst h1 h2;simp[CV.rep]
   | succ i=>simp at h1
  ·rename_i k ht
   obtain ⟨b,rfl,_,hw⟩:=DataW.trod_int ht h
   refine ⟨[.int k b],.int ht b hw,rfl,fun i c v h1 h2=>?_⟩
   cases i with
   | zero=>simp at h1 h2;subst h1 h2;simp[CV.rep]
   | succ i=>simp at h1
  ·rename_i ht
   obtain ⟨s,rfl,_,hw⟩:=DataW.trod_string ht h
   refine ⟨[.str s],.str ht s hw,rfl,fun i c v h1 h2=>?_⟩
   cases i with
   | zero=>simp at h1 h2;subst h1 h2;simp[CV.rep]
   | succ i=>simp at h1
  ·rename_i e ht
   rcases DataW.trod_slice ht h with ⟨rfl,_⟩ | ⟨a,len,cap,elems,rest,m,_,rfl,_,_,hlc,hcm,hel,hget,_⟩
   ·refine ⟨[.rsl [] 0],by simpa using Typed.slc ht [] (by simp) (by simp) (by simp),rfl,fun i c v h1 h2=>?_⟩
    cases i with
    | zero=>simp at h1 h2;subst h1 h2;simp[CV.rep]
    | succ i=>simp at h1
   ·obtain ⟨L,hL,hQ⟩:=DG (Q:=fun i l=>Typed P e l∧l.length=P.cellsOf e∧∀ (j:Nat) (c:CV),l[j]? = some c→∃ v,W.cell? (a.add (i*P.cellsOf e+j))=some v∧c.rep W noO v) len (fun i hi=>by
     have hg:=hget i hi
     rw[QI (by omega)] at hg
     obtain ⟨ci,h1,h2⟩:=QB.1 hg
     obtain ⟨_,hlen,hcell⟩:=World.cells?_some h1
     obtain ⟨cvs,g1,g2,g3⟩:=EW n e ci _ _ ho h2
     refine ⟨cvs,g1,by omega,fun j c hj=>?_⟩
     have hjl:j<cvs.length:=(QH.1 hj).1
     have hc:=hcell j (by omega)
     rw[QI (by omega)] at hc
     exact ⟨_,by rw[← Addr.add_add];exact hc,g3 j c _ hj (QI _)⟩)
    have hmem:∀ l∈L,∃ i:Nat,L[i]? = some l:=fun l hl=>List.mem_iff_getElem?.1 hl
    have hfl:=CJ (R:=fun k c=>∃ v,W.cell? (a.add k)=some v∧c.rep W noO v) (esz:=P.cellsOf e) L 0 (fun i l hi=>⟨(hQ i l hi).2.1,fun j c hj=>by simpa using (hQ i l hi).2.2 j c hj⟩)
    refine ⟨[.rsl L.flatten L.length],Typed.slc ht L (by omega) (fun l hl=>let ⟨i,hi⟩:=hmem l hl;(hQ i l hi).2.1) (fun l hl=>let ⟨i,hi⟩:=hmem l hl;(hQ i l hi).1),rfl,fun i c v h1 h2=>?_⟩
    cases i with
    | zero =>
     simp at h1 h2;subst h1 h2
     simp only[CV.rep]
     exact .inr ⟨a,cap,by rw[hL],by omega,NT _ 0 (fun j c hj=>hfl.2 j c hj)⟩
    | succ i=>simp at h1
  ·rename_i k e ht
   simp only[QD,decide_eq_true_eq] at ho
   obtain ⟨xs,m,_,_,hlen,hxs,hget⟩:=DataW.trod_array ht h
   obtain ⟨L,hL,hQ⟩:=DG (Q:=fun i l=>Typed P e l∧l.length=P.cellsOf e∧∀ (j:Nat) (c:CV),l[j]? = some c→∀ v,cs[i*P.cellsOf e+j]? = some v→c.rep W noO v) k (fun i hi=>by
     have hg:=hget i hi
     rw[QI (by omega)] at hg
     obtain ⟨cvs,g1,g2,g3⟩:=EW n e _ _ _ ho.1 hg
     have hik:i*P.cellsOf e+P.cellsOf e≤k*P.cellsOf e:=by
      have:=YQ (P.cellsOf e) (show i+1≤k by omega)
      rwa [WP,Nat.one_mul] at this
     have hl2:cvs.length=P.cellsOf e:=by rw[g2];simp;omega
     refine ⟨cvs,g1,hl2,fun j c hj v hv=>?_⟩
     have hjl:j<cvs.length:=(QH.1 hj).1
     exact g3 j c v hj (by rw[Z7,if_pos (by omega),X4];exact hv))
   have hmem:∀ l∈L,∃ i:Nat,L[i]? = some l:=fun l hl=>List.mem_iff_getElem?.1 hl
   have hfl:=CJ (R:=fun k c=>∀ v,cs[k]? = some v→c.rep W noO v) (esz:=P.cellsOf e) L 0 (fun i l hi=>⟨(hQ i l hi).2.1,fun j c hj=>by simpa using (hQ i l hi).2.2 j c hj⟩)
   exact ⟨L.flatten,Typed.arr ht L hL (fun l hl=>let ⟨i,hi⟩:=hmem l hl;(hQ i l hi).2.1) (fun l hl=>let ⟨i,hi⟩:=hmem l hl;(hQ i l hi).1),by rw[hfl.1,hlen,ho.2,hL],fun i c v h1 h2=>hfl.2 i c h1 v (by simpa using h2)⟩
  ·rename_i fs ht
   simp only[QD,decide_eq_true_eq,Q1] at ho
   obtain ⟨xs,m,_,_,hlen,hxs,hget⟩:=DataW.trod_struct ht h
   obtain ⟨L,hL,hQ⟩:=DG (Q:=fun i l=>∀ f,fs[i]? = some f→Typed P f.type l∧l.length=min (P.cellsOf f.type) (cs.length-f.offset)∧∀ (j:Nat) (c:CV),l[j]? = some c→∀ v,cs[f.offset+j]? = some v→c.rep W noO v) fs.size (fun i hi=>by
     have hfi:fs[i]? = some fs[i]:=Q7 hi
     have hg:=hget i fs[i] hfi
     rw[QI (by omega)] at hg
     obtain ⟨cvs,g1,g2,g3⟩:=EW n _ _ _ _ (ho.1 fs[i] (by simp)) hg
     have hl2:cvs.length=min (P.cellsOf fs[i].type) (cs.length-fs[i].offset):=by rw[g2];simp
     refine ⟨cvs,fun f hf=>?_⟩
     rw[hfi] at hf;cases hf
     refine ⟨g1,hl2,fun j c hj v hv=>?_⟩
     have hjl:j<cvs.length:=(QH.1 hj).1
     exact g3 j c v hj (by rw[Z7,if_pos (by omega),X4];exact hv))
   have hoff:∀ (fs:List Field) (n N:Nat),J8 P fs n=some N→n≤N∧∀ (i:Nat) (f:Field),fs[i]? = some f→f.offset+P.cellsOf f.type≤N:=by
    intro fs
    induction fs with
    | nil=>intro n N h;simp only[J8,Option.some.injEq] at h;simp[h]
    | cons f fs ih =>
     intro n N h
     simp only[J8] at h
     split at h
     ·rename_i ho
      obtain ⟨h1,h2⟩:=ih _ _ h
      refine ⟨by omega,fun i f' hi=>?_⟩
      cases i with
      | zero=>simp at hi;subst hi;omega
      | succ i=>exact h2 i f' (by simpa using hi)
     ·cases h
   have hin:=(hoff _ _ _ ho.2).2
   have hl:∀ (i:Nat) (f:Field) (l:List CV),fs[i]? = some f→L[i]? = some l→l.length=P.cellsOf f.type:=by
    intro i f l hf hl
    obtain ⟨_,h2,_⟩:=hQ i l hl f hf
    have:=hin i f (by simpa using hf)
    omega
   have hfl:=A4 (P:=P) (R:=fun k c=>∀ v,cs[k]? = some v→c.rep W noO v) fs.toList L 0 ho.2 (by simpa using hL) (fun i f l hf hl' =>
    ⟨hl i f l (by simpa using hf) hl',fun j c hj=>(hQ i l hl' f (by simpa using hf)).2.2 j c hj⟩)
   exact ⟨L.flatten,Typed.struct ht L hL hl (fun i f l hf hl'=>(hQ i l hl' f hf).1),by have:=hfl.1;omega,fun i c v h1 h2=>hfl.2 i c h1 v (by simpa using h2)⟩
  ·cases ho
theorem DV:∀ (cvs:List CV) (vs:List Value),cvs.length=vs.length→(∀ (i:Nat) (c:CV) (v:Value),cvs[i]? = some c→vs[i]? = some v→c.rep W noO v)→QK nom noX W (cvs.map .cv) vs
 | [],[],_,_=>by simp[QK]
 | c::cvs,v::vs,hl,h=>by
  simp only[Q0,QK,VRel]
  exact ⟨h 0 c v rfl rfl,DV cvs vs (by simpa using hl) fun i c v h1 h2=>h (i+1) c v (by simpa using h1) (by simpa using h2)⟩
 | [],_::_,hl,_=>by simp at hl
 | _::_,[],hl,_=>by simp at hl
theorem QfB {n:Nat} {t:TypeId} {v:Value} {d:DataW H} {ps:List MemPlace} {r:Reach} {base:Nat} (ho:TG P n t=true) (hval:Value.okWide P W r base t v) (h:DataW.Trod enc P W 0 (fun _=>true) true t v d ps) :
  ∃ cs,Typed P t cs∧VRel nom noX W (avOf P t cs) v:=by
 obtain ⟨fuel,h⟩:=h
 obtain ⟨cvs,h1,h2,h3⟩:=EW n t _ _ _ ho h
 refine ⟨cvs,h1,?_⟩
 unfold avOf
 have one:(v.cells.toList=[v])→VRel nom noX W (.cv (cvs.headD .nilp)) v:=by
  intro hv
  rw[hv] at h2 h3
  match cvs,h2 with
  | [c],_=>simp only[List.headD_cons,VRel];exact h3 0 c v rfl rfl
 cases n with
 | zero=>simp[TG] at ho
 | succ n =>
  simp only[TG] at ho
  split at ho
  ·rename_i ht;rw[ht];obtain ⟨b,rfl⟩:=okWide_bool ht hval;exact one rfl
  ·rename_i ht;rw[ht];obtain ⟨b,rfl⟩:=okWide_int ht hval;exact one rfl
  ·rename_i ht;rw[ht];obtain ⟨b,rfl⟩:=okWide_string ht hval;exact one rfl
  ·rename_i ht;rw[ht];obtain ⟨_,_,_,rfl⟩:=okWide_slice ht hval;exact one rfl
  ·rename_i ht;rw[ht]
   simp only[Value.okWide,ht] at hval
   obtain ⟨arr,rfl,_⟩:=hval
   simp only[VRel]
   exact ⟨arr.toList,by simp,DV _ _ h2 h3⟩
  ·rename_i ht;rw[ht]
   simp only[Value.okWide,ht] at hval
   obtain ⟨arr,rfl,_⟩:=hval
   simp only[VRel]
   exact ⟨arr.toList,by simp,DV _ _ h2 h3⟩
  ·cases ho
theorem C1 {n:Nat} {r:Reach} {base:Nat}:∀ {ts:List TypeId} {vs:List Value} {ds:List (DataW H)} {ps:List MemPlace},(ts.all (TG P n))=true →
  (∀ (j:Nat) (t:TypeId) (v:Value),ts[j]? = some t→vs[j]? = some v→Value.okWide P W r base t v)→DataW.TrodAll enc P W 0 (fun _=>true) true ts vs ds ps →
  ds.length=ts.length∧∃ avs,Args P ts avs∧QK nom noX W avs vs
 | [],_,_,_,_,_,h=>by
  obtain ⟨rfl,rfl,rfl⟩:=trodAll_nil h
  exact ⟨rfl,[],.nil,by simp[QK]⟩
 | t::ts,_,_,_,ho,hval,h=>by
  obtain ⟨v,vs1,d,ds1,a,b,rfl,rfl,rfl,h1,h2⟩:=trodAll_cons h
  simp only[List.all_cons,QD] at ho
  obtain ⟨cs,g1,g2⟩:=QfB ho.1 (hval 0 t v rfl rfl) h1
  obtain ⟨hl,avs,g3,g4⟩:=C1 ho.2 (fun j t v h1 h2=>hval (j+1) t v (by simpa using h1) (by simpa using h2)) h2
  exact ⟨by simp[hl],_,.cons g1 g3,by simp only[QK];exact ⟨g2,g4⟩⟩
theorem LU (hl:laidOutB P=true) {W':World} (hb:Below W.heap.size W W'):∀ {ts:List TypeId} {vs:List Value} {ds:List (DataW H)} {ps:List MemPlace},(ts.all fun t=>P.readableRec t&&decide (t<P.types.size))=true →
  DataW.TrodAll enc P W 0 (fun _=>true) true ts vs ds ps→(∀ x∈ps,x.block<W.heap.size)→DataW.TrodAll enc P W' 0 (fun b=>decide (b<W.heap.size)) true ts vs ds ps
 | [],_,_,_,_,h,_=>by
  obtain ⟨rfl,rfl,rfl⟩:=trodAll_nil h
  exact trodAll_mk0
 | t::ts,_,_,_,ho,h,hlt=>by
  obtain ⟨v,vs1,d,ds1,a,b,rfl,rfl,rfl,h1,h2⟩:=trodAll_cons h
  simp only[List.all_cons,QD,decide_eq_true_eq] at ho
  refine trodAll_cons_mk (Below.trod hl ho.1.1 ho.1.2 h1 hb fun x hx=>hlt x (by simp[hx])) (LU hl hb ?_ h2 fun x hx=>hlt x (by simp[hx]))
  simpa using ho.2
theorem law_of_AC {f:FuncId} {fn:Func} {s:ChangeSpec} {n:Nat} {t:TypeId} {base:Nat} {args:Array Value} {ds gs:List (DataW H)} {before:List MemPlace}
  (hl:laidOutB P=true) (hpar:(fn.params.toList.all fun t=>P.readableRec t&&decide (t<P.types.size))=true) (ho:fn.params.toList.all (TG P n)=true)
  (hres:fn.resultTypes = #[t]) (htb:P.underlying t=some .bool) (hsv:s.vars=[]) (hs:∀ ds:List (DataW H),ds.length=fn.params.toList.length→s.fn H ds = { results:=[.lit (.bool true)],args:=ds })
  (hAC:∀ avs,Args P fn.params.toList avs→AC P f avs [] fun r _=>r=.b true)
  (hval:∀ (j:Nat) t v,fn.params[j]? = some t→args[j]? = some v→Value.okWide P W .any base t v) (hgl:GlOk nom noX W)
  (hW:DataW.Whole enc P fn.params.toList s.vars false W args.toList ds gs before) :
  Calls P f args W fun e W'=>∃ v,e=.returned v∧s.post enc P fn false true false false W args v W':=by
 have hW':=hW
 obtain ⟨p,q,hA,hV,rfl,hfz,hnd⟩:=hW
 rw[hsv] at hV
 obtain ⟨rfl,rfl⟩:=trodVars_none hV
 have hlt:∀ x∈p,x.block<W.heap.size:=fun x hx=>hW'.lt x (by simp[hx])
 obtain ⟨hlen,avs,hav,hrel⟩:=C1 ho (fun j t v h1 h2=>hval j t v (by simpa using h1) (by simpa using h2)) hA
 have hcall:=(hAC avs hav).2 nom noX W args.toList hrel ⟨by simp,by simp,by simp,by simp,by simp,hgl⟩
 have hcall:=callsIn_wide.1 hcall
 simp only[Array.toArray_toList] at hcall
 refine hcall.mono fun e W' ⟨c,r,σ',m',he,hq,hr,_,hst,_⟩=>?_
 subst he hq
 simp only[VRel,CV.rep] at hr
 subst hr
 have hb:Below W.heap.size W W':=⟨hst.os,hst.tape,hst.output,hst.size,fun k hk=>hst.fr k hk (.inr (by simp))⟩
 have hsf:s.fn H (ds++[]) = { results:=[.lit (.bool true)],args:=ds }:=by rw[ZU];exact hs ds hlen
 refine ⟨_,rfl,ds,[],p++[],[],p,[],hW',?_,?_,?_,hb.frame _,fun h=>by simp at h⟩
 ·rw[hsf,hres]
  exact trodAll_mk1 (shut_bool htb true)
 ·rw[hsf]
  exact LU hl hb hpar hA hlt
 ·rw[hsf,hsv]
  rfl
end
end Go.Proofs.YtgkidpolomhghaaGreatDoor.AM
namespace Go.Proofs.YtgkidpolomhghaaGreatDoor.AM
variable [Dr]
open Go
theorem QeV {P:Program} {t:TypeId} {k:IntKind} {cs:List CV} (ht:P.underlying t=some (.int k)) (h:Typed P t cs):∃ n,cs=[.int k n]∧(Lit.int k n).wf=true:=by
 cases h with
 | int ht' n hw=>rw[ht] at ht';cases ht';exact ⟨n,rfl,hw⟩
 | bool ht'=>rw[ht] at ht';cases ht'
 | str ht'=>rw[ht] at ht';cases ht'
 | slc ht'=>rw[ht] at ht';cases ht'
 | arr ht'=>rw[ht] at ht';cases ht'
 | struct ht'=>rw[ht] at ht';cases ht'
theorem QeU {P:Program} {t e:TypeId} {cs:List CV} (ht:P.underlying t=some (.slice e)) (h:Typed P t cs):∃ L:List (List CV),cs=[.rsl L.flatten L.length]∧L.length≤maxLen∧(∀ l∈L,l.length=P.cellsOf e)∧∀ l∈L,Typed P e l:=by
 cases h with
 | slc ht' L hn hl h=>rw[ht] at ht';cases ht';exact ⟨L,rfl,hn,hl,h⟩
 | bool ht'=>rw[ht] at ht';cases ht'
 | int ht'=>rw[ht] at ht';cases ht'
 | str ht'=>rw[ht] at ht';cases ht'
 | arr ht'=>rw[ht] at ht';cases ht'
 | struct ht'=>rw[ht] at ht';cases ht'
theorem typed_arr {P:Program} {t e:TypeId} {n:Nat} {cs:List CV} (ht:P.underlying t=some (.array n e)) (h:Typed P t cs):∃ L:List (List CV),cs=L.flatten∧L.length=n∧(∀ l∈L,l.length=P.cellsOf e)∧∀ l∈L,Typed P e l:=by
 cases h with
 | arr ht' L hn hl h=>rw[ht] at ht';cases ht';exact ⟨L,rfl,hn,hl,h⟩
 | bool ht'=>rw[ht] at ht';cases ht'
 | int ht'=>rw[ht] at ht';cases ht'
 | str ht'=>rw[ht] at ht';cases ht'
 | slc ht'=>rw[ht] at ht';cases ht'
 | struct ht'=>rw[ht] at ht';cases ht'
theorem typed_struct {P:Program} {t:TypeId} {fs:Array Field} {cs:List CV} (ht:P.underlying t=some (.struct fs)) (h:Typed P t cs):∃ L:List (List CV),cs=L.flatten∧L.length=fs.size∧∀ (i:Nat) (f:Field) (l:List CV),fs[i]? = some f→L[i]? = some l→Typed P f.type l:=by
 cases h with
 | struct ht' L hn hl h=>rw[ht] at ht';cases ht';exact ⟨L,rfl,hn,h⟩
 | bool ht'=>rw[ht] at ht';cases ht'
 | int ht'=>rw[ht] at ht';cases ht'
 | str ht'=>rw[ht] at ht';cases ht'
 | slc ht'=>rw[ht] at ht';cases ht'
 | arr ht'=>rw[ht] at ht';cases ht'
theorem Qdi {P:Program} {e:TypeId} {k:IntKind} (he:P.underlying e=some (.int k)):∀ L:List (List CV),(∀ l∈L,Typed P e l)→∃ zs:List Int,L.flatten=zs.map (.int k)∧L.length=zs.length∧∀ z∈zs,(Lit.int k z).wf=true
 | [],_=>⟨[],rfl,rfl,by simp⟩
 | l::L,h=>by
  obtain ⟨n,rfl,hn⟩:=QeV he (h l (by simp))
  obtain ⟨zs,h1,h2,h3⟩:=Qdi he L fun l hl=>h l (by simp[hl])
  exact ⟨n::zs,by simp[h1],by simp[h2],by simpa using ⟨hn,h3⟩⟩
theorem typed_ints {P:Program} {t e:TypeId} {k:IntKind} {cs:List CV} (ht:P.underlying t=some (.slice e)) (he:P.underlying e=some (.int k)) (h:Typed P t cs):∃ zs:List Int,cs=[.rsl (zs.map (.int k)) zs.length]∧zs.length<2 ^ 63∧∀ z∈zs,(Lit.int k z).wf=true:=by
 obtain ⟨L,rfl,hn,_,hl⟩:=QeU ht h
 obtain ⟨zs,h1,h2,h3⟩:=Qdi he L hl
 refine ⟨zs,by rw[h1,h2],?_,h3⟩
 rw[← h2];unfold maxLen at hn;omega
theorem wf_u8 {n:Int} (h:(Lit.int .u8 n).wf=true):0≤n∧n≤255:=by
 simp only[Lit.wf,QD,decide_eq_true_eq,IntKind.min,IntKind.max,IntKind.bits,IntKind.signed] at h
 simp at h;omega
theorem args_cons {P:Program} {t:TypeId} {ts:List TypeId} {avs:List AV} (h:Args P (t::ts) avs):∃ cs avs',avs=avOf P t cs::avs'∧Typed P t cs∧Args P ts avs':=by
 generalize hts:t::ts=u at h
 cases h with
 | nil=>cases hts
 | cons h1 h2=>cases hts;exact ⟨_,_,rfl,h1,h2⟩
theorem args_nil {P:Program} {avs:List AV} (h:Args P [] avs):avs=[]:=by
 generalize hts:([]:List TypeId)=u at h
 cases h with
 | nil=>rfl
 | cons h1 h2=>cases hts
abbrev vs12:List Nat:=[0,1,2,3,5,6,7,8,9,10,11,12,13,14,15,16,17,18,19,20,29,70,75,83,98,116]
def ic12l0:IC:=(.seq (.seq (.region [jv 17,jF 1 3,jl 1,je 2,jw 24 (.bin .lss .int) [.t 0,.t 3]])
 (.cond 24 .skip
 (.exit 2)))
 (.seq (.block 3 (.region [jv 16,jt 0,jg 1 false (.loadN 2) [.v 3],jh 1 false 17,jh 1 false 15,jf 1 false 51 [.t 2,.t 3,.t 4],jg 1 false .mv [.t 5],jg 6 true (.iaA 2 1) [.v 4,jn 0],ji 6 true 7,jh 6 true 17,jg 6 true (.bin .shr .int) [.t 8,.t 9],jg 6 true (.bin .rem .int) [.t 10,.c (.cv (.int .u16 2))],jg 6 true (.bin .eql .int) [.t 11,.c (.cv (.int .u16 0))],jg 1 false .pick [.t 6,.t 12,jB false],jq .pick [.t 1,jB true,.t 13],jm 16 14]))
 (.region [jv 17,jq (.bin .add .int) [.t 0,jn 1],jm 17 1])))
def ic12l1:IC:=(.seq (.seq (.region [jv 15,jF 1 3,jl 1,je 2,jw 22 (.bin .lss .int) [.t 0,.t 3]])
 (.cond 22 .skip
 (.exit 0)))
 (.seq (.block 1 (.seq (.seq (.region [jq (.iaA 2 1) [.v 4,jn 0],jl 0,jv 15,jq (.bin .shr .int) [.t 1,.t 2],jq (.bin .rem .int) [.t 3,.c (.cv (.int .u16 2))],jw 23 (.bin .eql .int) [.t 4,.c (.cv (.int .u16 1))]])
 (.cond 23 (.region [jv 13,jv 15,jq (.bslice 1 1 [(.cv (.int .i64 0))] [(0,1)]) [.t 1],jq (.append 1 8) [.t 0,.t 2],jm 13 3])
 .skip))
 (.seq (.region [jq (.iaA 2 1) [.v 4,jn 1],jl 0,jv 15,jq (.bin .shr .int) [.t 1,.t 2],jq (.bin .rem .int) [.t 3,.c (.cv (.int .u16 2))],jq (.bin .eql .int) [.t 4,.c (.cv (.int .u16 1))],jm 16 5])
 (.seq (.seq (.region [jz 17 0])
 (.block 2 (.loop ic12l0)))
 (.seq (.region [jw 25 .mv [.v 16]])
 (.cond 25 (.region [jv 14,jv 15,jq (.bslice 1 1 [(.cv (.int .i64 0))] [(0,1)]) [.t 1],jq (.append 1 8) [.t 0,.t 2],jm 14 3])
 .skip))))))
 (.region [jv 15,jq (.bin .add .int) [.t 0,jn 1],jm 15 1])))
def ic12:IC:=(.seq (.region [jb 3 0,jb 4 2,jw 5 .mv [jB false]])
 (.seq (.region [jN 2 3,jk 30 [.t 0],jt 1,jx 0 2,jx 1 2,jx 2 2,jm 6 3,jm 7 4,jm 8 5])
 (.seq (.seq (.region [jN 2 3,jk 48 [.t 0],jw 20 .not [.t 1]])
 (.cond 20 (.seq (.region [jv 8,jq (.bin .neq .int) [.t 0,jn 0],jt 1,jh 2 true 6,jg 2 true (.len false) [.t 3],jh 2 true 7,jg 2 true (.len false) [.t 5],jg 2 true (.bin .add .int) [.t 4,.t 6],jg 2 true (.bin .eql .int) [.t 7,jn 0],jq .pick [.t 2,.t 8,jB false],jt 9,jf 10 true 22 [],jq .pick [.t 10,.t 11,jB false],jm 5 12])
 .ret)
 .skip))
 (.seq (.region [jN 2 3,jv 6,jv 7,jk 33 [.t 0,.t 1,.t 2],jt 3,jx 0 4,jx 1 4,jm 9 5,jm 10 6])
 (.seq (.region [jN 2 3,jk 28 [.t 0],jt 1,jx 0 2,jx 1 2,jm 11 3,jm 12 4])
 (.seq (.seq (.region [jv 8,jq (.bin .neq .int) [.t 0,jn 0],jt 1,jh 2 false 10,jg 2 false (.bin .neq .int) [.t 3,jn 0],jq .pick [.t 2,jB true,.t 4],jt 5,jh 6 false 12,jg 6 false (.bin .neq .int) [.t 7,jn 0],jq .pick [.t 6,jB true,.t 8],jt 9,jh 10 false 9,jh 10 false 11,jg 10 false (.len false) [.t 12],jg 10 false (.bin .neq .int) [.t 11,.t 13],jw 21 .pick [.t 10,jB true,.t 14]])
 (.cond 21 (.seq (.region [jw 5 .mv [jB false]])
 .ret)
 .skip))
 (.seq (.region [jw 13 .mv [jS],jw 14 .mv [jS]])
 (.seq (.seq (.region [jz 15 0])
 (.block 0 (.loop ic12l1)))
 (.seq (.region [jN 2 3,jv 13,jv 14,jk 33 [.t 0,.t 1,.t 2],jt 3,jx 0 4,jx 1 4,jm 18 5,jm 19 6])
 (.seq (.region [jv 19,jq (.bin .eql .int) [.t 0,jn 0],jt 1,jh 2 true 18,jg 2 true (.loadN 2) [.v 3],jh 2 true 1,jf 2 true 50 [.t 4,.t 5],jg 2 true (.bin .leq .int) [.t 3,.t 6],jq .pick [.t 2,.t 7,jB false],jt 8,jh 9 true 18,jh 9 true 9,jg 9 true (.bin .leq .int) [.t 10,.t 11],jq .pick [.t 9,.t 12,jB false],jt 13,jf 14 true 22 [],jq .pick [.t 14,.t 15,jB false],jm 5 16])
 .ret))))))))))
abbrev rs12:List RC:=[(.v 5)]
theorem fok12 (p:Bool):FnOk Tryz.prog 12 ⟨ic12,vs12,145,rs12,p⟩:=.mk2 Tryz.func12 (by kernel_rfl) (by kernel_rfl) (by kernel_rfl) (by kernel_rfl) (by kernel_rfl)
end Go.Proofs.YtgkidpolomhghaaGreatDoor.AM
namespace Go.Proofs.YtgkidpolomhghaaGreatDoor.AM
open Go Pl
def sv (zs:List Int):CV:=if zs=[] then .nils else .rsl (zs.map (.int .i64)) zs.length
theorem acc_sv {σ:List AObj} {v:AV} {zs:List Int} (h:SB σ v zs) (hn:zs=[]→v=.cv .nils):FrzV scl σ v (.cv (sv zs)):=by
 unfold sv
 by_cases hz:zs=[]
 ·rw[if_pos hz,hn hz]
  exact .c (.c _ trivial)
 ·rw[if_neg hz]
  rcases h with ⟨_,rfl⟩ | ⟨l,rfl,hr⟩
  ·exact absurd rfl hz
  ·exact TN (fun _=>trivial) hr
abbrev cvS (d:Dy):AV:=.tup [.cv (sv (cvBef d)),.cv (sv (cvBeh d)),.i (dyE d).2.2]
theorem le81s (x:Nat) (h:x<4096):PC Tryz.prog 81 [.cv (.int .u64 x)] (.cv (sv (YS 12 (bit (x:Int))))):=by
 refine ⟨ZF (fok81 true) (QC rfl) ?_,rfl⟩
 simp only[ic81,evA,simprocAttr]
 refine ZW 12 (fun t s=>∃ (y:Nat) (acc:List Int) (v1 v2:AV) (H:List AObj),y<4096∧popN 12 y+t=popN 12 x∧acc++(TX 12 y).map (fun (j:Nat)=>(j:Int))=YS 12 (bit (x:Int))∧SB H v1 acc∧(acc=[]→v1=.cv .nils)∧s=⟨[.cv (.int .u64 y),v1,v2],H⟩) ?_ 0 (QF _) ⟨x,[],_,_,_,h,rfl,by rw[CZ];rfl,.nil _,fun _=>rfl,rfl⟩
 rintro t s ht ⟨y,acc,v1,v2,H,hy,hpop,hacc,hA,hA0,rfl⟩
 by_cases h0:y=0
 ·subst h0
  have hb:decide (((0:Nat):Int)>0)=false:=by decide
  simp only[ic81l0,hb,evA,simprocAttr]
  have hz:(TX 12 0).map (fun (j:Nat)=>(j:Int))=[]:=by decide
  rw[hz,ZU] at hacc
  rw[← hacc]
  exact acc_sv hA hA0
 ·have hb:decide ((y:Int)>0)=true:=decide_eq_true (by omega)
  obtain ⟨t1,t2,t3⟩:=tz_at (by omega) hy
  have hal:acc.length≤12:=by
   have:=congrArg List.length hacc
   rw[QM] at this
   have:=M7 (m:=12) (p:=bit (x:Int))
   omega
  simp only[ic81l0,hb,evA,simprocAttr]
  refine (le128 y (by omega) hy).call frz ?_
  obtain ⟨v',σ',g1,g2⟩:=QdK (tzN y:Int) hA (WJ hal (by decide))
  have hs:IntKind.u64.wrap ((y:Int)-1)=((y-1:Nat):Int):=by
   have:(y:Int)-1=((y-1:Nat):Int):=by omega
   rw[this,FM]
   congr 1
   exact Nat.mod_eq_of_lt (by omega)
  have hw1:W64 y=y:=Nat.mod_eq_of_lt (by omega)
  have hw2:W64 (y-1)=y-1:=Nat.mod_eq_of_lt (by omega)
  simp only[g1,hs,uand,hw1,hw2,evA,simprocAttr]
  have:=pop_le x 12
  refine ZL (by omega) ⟨y &&& (y-1),acc++[(tzN y:Int)],v',_,σ',WJ Nat.and_le_left hy,by omega,?_,g2,(fun h=>absurd h (by simp)),rfl⟩
  rw[← hacc,t2]
  simp
theorem le30s (d:Dy) (hd:DSz d):PA Tryz.prog 30 [dyV d] (cvS d):=by
 refine ⟨ZF (fok30 true) (QC rfl) ?_,rfl,rfl⟩
 simp only[ic30,WI,cellsOf,evA,simprocAttr]
 refine (le72 d hd).call ?_
 unfold cvS cvBef cvBeh
 by_cases he:(dyE d).2.2=0
 ·have hb:((dyE d).2.2 != 0)=false:=by simpa using he
  have hok:=LO he
  have h12:=hok.l12
  rw[if_neg (fun h=>h he),if_neg (fun h=>h he)]
  simp only[hb,he,evA,simprocAttr]
  refine (le78 d hok).call frz ?_
  obtain ⟨bef0,hm0⟩:=le79 d hok [] (QF _) (fun i h=>absurd h (W5 _))
  rw[B8] at hm0
  simp only[evA,simprocAttr]
  refine hm0.call frz ?_
  simp only[evA,simprocAttr]
  have hpl:=IV d d.ls.length
  have hpl2:d.ls.length*d.ls.length≤12*12:=Nat.mul_le_mul h12 h12
  have hps:∀ p∈prsL d d.ls.length,p.1<d.ls.length∧p.2<d.ls.length:=fun p hp=>⟨(LC.1 hp).1,(LC.1 hp).2.1⟩
  have hnd:=fun S k hk=>nd_need (d:=d) (S:=S) (k:=k) hk
  have hnh:=fun S k hk=>nd_hi (d:=d) (S:=S) (k:=k) hk
  obtain ⟨b1,b2,b3⟩:=QbG (can:=canB d) (n:=d.ls.length)
  have hS:(2:Nat) ^ d.ls.length≤2 ^ 12:=Nat.pow_le_pow_right (by decide) h12
  have hp12:(2:Nat) ^ 12=4096:=by decide
  have hps2:∀ p∈prsL d d.ls.length,p.2<12:=fun p hp=>by have:=(hps p hp).2;omega
  have hpla:(prsL d d.ls.length).length<2 ^ 63:=WJ hpl (WJ hpl2 (by decide))
  rw[show (prsL d d.ls.length).flatMap prC=prCs (prsL d d.ls.length) from rfl]
  unfold covS
  unfold cvrN at b2 b3
  rw[show prF (canB d) d.ls.length d.ls.length 0 (fun _=>false)=TH d from rfl] at b2 b3
  generalize hSS:G7 (canB d) d.ls.length=SS at *
  generalize prsL d d.ls.length=ps at *
  refine ZW SS (fun S s=>∃ v9 v10 v12 v13 v14 v15 v16 v17,s=⟨[dyV d,.ptr 0 0,.cv .nils,.cv .nils,.i 0,.ptr 1 0,.cv (.rsl (prCs ps) ps.length),.i (TH d),.cv (.int .u64 S),v9,v10,.b false,v12,v13,v14,v15,v16,v17],[.cells [.cv (minR d.mi),.cv (lesR d.ls)],.cells [.cv (minR d.mi),.cv (lesR d.ls)]]⟩) ?_ 0 (QF _) ⟨_,_,_,_,_,_,_,_,rfl⟩
  rintro S s hSle ⟨v9,v10,v12,v13,v14,v15,v16,v17,rfl⟩
  have hS4:S<4096:=by omega
  simp only[ic30l1,evA,simprocAttr]
  refine ZW ps.length (fun j s=>∃ v10 v15 v16 v17,s=⟨[dyV d,.ptr 0 0,.cv .nils,.cv .nils,.i 0,.ptr 1 0,.cv (.rsl (prCs ps) ps.length),.i (TH d),.cv (.int .u64 S),.cv (.int .u64 (ndF S ps j:Nat)),v10,.b false,.cv (.rsl (prCs ps) ps.length),.i ps.length,.i j,v15,v16,v17],[.cells [.cv (minR d.mi),.cv (lesR d.ls)],.cells [.cv (minR d.mi),.cv (lesR d.ls)]]⟩) ?_ 0 (QF _) ⟨_,_,_,_,rfl⟩
  rintro j s hj ⟨v10,v15,v16,v17,rfl⟩
  by_cases hjl:j<ps.length
  ·have hmem:ps[j]!∈ps:=by rw[getElem!_pos ps j hjl];exact Q2 _
   have hp2:=hps _ hmem
   have hld:=pr_ld hjl
   have hst:ndF S ps (j+1)=if S.testBit (ps[j]!).1 then ndF S ps j else ndF S ps j ||| 2 ^ (ps[j]!).2:=rfl
   have hnl:=Qcj (S:=S) hps2 j hj
   rw[hst]
   generalize ps[j]! = p at *
   obtain ⟨a,k⟩:=p
   simp only at hp2 hld ⊢
   have hshr:=ushr S a (by omega)
   have hand:∀ x:Nat,IntKind.u64.wrap ((BitVec.ofInt IntKind.u64.bits (x:Int) &&& BitVec.ofInt IntKind.u64.bits 1).toNat:Int)=((W64 x &&& W64 1:Nat):Int):=fun x=>uand x 1
   have hub:=u_bit (i:=a) hS4
   have hj63:j+1<2 ^ 63:=by omega
   have hpk:2 ^ k<4096:=by rw[← hp12];exact Nat.pow_lt_pow_right (by decide) (by omega)
   have hshl:VK .shl .u64 1 (k:Int)=some (.cv (.int .u64 ((2 ^ k:Nat):Int))):=by
    have h0:¬ ((k:Int)<0):=by omega
    have h1:min (k:Int).toNat IntKind.u64.bits=k:=by rw[Int.toNat_natCast];exact VD (by show k≤64;omega)
    simp only[VK]
    rw[if_neg h0,h1]
    have h2:(1:Int)*2 ^ k=((2 ^ k:Nat):Int):=by push_cast;omega
    rw[h2,FM,FH hpk]
   have hor:W64 (W64 (ndF S ps j) ||| W64 (2 ^ k))=ndF S ps j ||| 2 ^ k:=by
    rw[FH hnl,FH hpk,FH (Nat.or_lt_two_pow (n:=12) hnl (by rw[hp12];exact hpk))]
   simp only[ic30l0,QJ,hjl,XP hjl,hld,hshr,hand,hub,evA,simprocAttr]
   cases htb:S.testBit a with
   | true =>
    rw[if_pos rfl]
    simp only[Y2,Q6 hj63,evA,simprocAttr]
    exact W1 [.cells [.cv (minR d.mi),.cv (lesR d.ls)],.cells [.cv (minR d.mi),.cv (lesR d.ls)]] _ rfl (by first | trivial | omega) (QF _) (by
     intro o ho
     simp only[ZD,WK,or_false] at ho
     rcases ho with rfl | rfl <;> rfl) ⟨_,_,_,_,rfl⟩
   | false =>
    rw[if_neg (by decide)]
    simp only[ZY,hshl,uor,hor,Q6 hj63,evA,simprocAttr]
    exact W1 [.cells [.cv (minR d.mi),.cv (lesR d.ls)],.cells [.cv (minR d.mi),.cv (lesR d.ls)]] _ rfl (by first | trivial | omega) (QF _) (by
     intro o ho
     simp only[ZD,WK,or_false] at ho
     rcases ho with rfl | rfl <;> rfl) ⟨_,_,_,_,rfl⟩
  ·have hje:j=ps.length:=by omega
   subst hje
   have hN:=Qcj (S:=S) hps2 ps.length (QG _)
   have hS2:S<2 ^ d.ls.length:=by omega
   have c1:cnt 12 (bit (S:Nat))=cnt d.ls.length (bit (S:Nat)):=Qay 12 h12 fun k hk=>QeF hS2 hk
   have c2:cnt 12 (bit (ndF S ps ps.length:Nat))=cnt d.ls.length (L0 (canB d) d.ls.length (S:Nat)):=by
    rw[Qay 12 h12 fun k hk=>hnh S k hk]
    exact QdC fun k hk=>hnd S k hk
   have l1:YS 12 (bit (S:Nat))=YS d.ls.length (bit (S:Nat)):=NL 12 h12 fun k hk=>QeF hS2 hk
   have l2:YS 12 (bit (ndF S ps ps.length:Nat))=YS d.ls.length (L0 (canB d) d.ls.length (S:Nat)):=by
    rw[NL 12 h12 fun k hk=>hnh S k hk]
    exact QdE fun k hk=>hnd S k hk
   simp only[ic30l0,QJ,hjl,evA,simprocAttr]
   refine (le80 S hS4).call frz ?_
   simp only[evA,simprocAttr]
   refine (le80 _ hN).call frz ?_
   have q1:=P7 (n:=12) (P:=bit (S:Nat))
   have q2:=P7 (n:=12) (P:=bit (ndF S ps ps.length:Nat))
   have hw:IntKind.i64.wrap ((cnt 12 (bit (S:Nat)):Nat)+(cnt 12 (bit (ndF S ps ps.length:Nat)):Nat):Int)=((cnt d.ls.length (bit (S:Nat))+cnt d.ls.length (L0 (canB d) d.ls.length (S:Nat)):Nat):Int):=by
    rw[← c1,← c2];exact ZC (by omega)
   simp only[hw,evA,simprocAttr]
   rcases ZB S SS with hlt | hge
   ·have hne:=b3 S hlt
    have hbq:((((cnt d.ls.length (bit (S:Nat))+cnt d.ls.length (L0 (canB d) d.ls.length (S:Nat)):Nat)):Int) == (TH d:Int))=false:=beq_eq_false_iff_ne.2 (by omega)
    have hw2:IntKind.u64.wrap ((S:Int)+1)=((S+1:Nat):Int):=by
     have:(S:Int)+1=((S+1:Nat):Int):=by omega
     rw[this,FM,FH (by omega)]
    simp only[hbq,hw2,evA,simprocAttr]
    exact ZL (by omega) ⟨_,_,_,_,_,_,_,_,rfl⟩
   ·have hSe:S=SS:=by omega
    subst hSe
    have hbq:((((cnt d.ls.length (bit (S:Nat))+cnt d.ls.length (L0 (canB d) d.ls.length (S:Nat)):Nat)):Int) == (TH d:Int))=true:=beq_iff_eq.2 (by omega)
    simp only[hbq,evA,simprocAttr]
    refine (le81s S hS4).call frz ?_
    simp only[evA,simprocAttr]
    refine (le81s _ hN).call frz ?_
    simp only[evA,simprocAttr]
    rw[l1,l2]
    exact .tup (.cons (.c (.c _ trivial)) (.cons (.c (.c _ trivial)) (.cons (.c (.c _ trivial)) .nil)))
 ·have hb:((dyE d).2.2 != 0)=true:=by simpa using he
  rw[if_pos he,if_pos he]
  simp only[hb,evA,simprocAttr]
  exact .tup (.cons (.c (.c _ trivial)) (.cons (.c (.c _ trivial)) (.cons (.c (.c _ trivial)) .nil)))
end Go.Proofs.YtgkidpolomhghaaGreatDoor.AM
namespace Go.Proofs.YtgkidpolomhghaaGreatDoor.AM
variable [Dr]
open Go Pl
theorem outF_alR {lo hi:Int} {zs:List Int} (h:∀ j,j<zs.length→inB (gI zs j) lo hi=true):outF lo hi zs=false:=by
 rw[VL]
 intro z hz
 obtain ⟨j,hj,rfl⟩:=WN.1 hz
 have:=VB.1 (h j hj)
 unfold gI at this
 rwa [QI hj] at this
theorem outF_exR {lo hi:Int} {zs:List Int} {j:Nat} (hj:j<zs.length) (h:inB (gI zs j) lo hi=false):outF lo hi zs=true:=by
 cases hh:outF lo hi zs with
 | true=>rfl
 | false =>
  rw[VB.2 (VL.1 hh _ (Qcs hj))] at h
  cases h
theorem outF_sgR {lo hi z:Int}:outF lo hi [z] = !inB z lo hi:=by
 cases h:inB z lo hi with
 | true =>
  refine outF_alR (zs:=[z]) fun j hj=>?_
  have:j=0:=by simpa using hj
  subst this;exact h
 | false=>exact outF_exR (zs:=[z]) (j:=0) (by simp) h
theorem outF_coR {lo hi z:Int} {zs:List Int}:outF lo hi (z::zs)=(!inB z lo hi||outF lo hi zs):=by
 rw[← outF_sgR]
 unfold outF
 simp
theorem le70 (d:Dy) (hd:DSz d) (i:Nat) (hi:i<d.mi.length):PC Tryz.prog 70 [dyV d,.i i] (.i (rowE d i)):=by
 refine ⟨ZF (fok70 true) (QC rfl) ?_,rfl⟩
 have hrow:=hd.row i hi
 unfold rowE
 simp only[ic70,WI,cellsOf,XP hi,W3,B7 hi,evA,simprocAttr]
 generalize d.mi[i]! = l at *
 by_cases h1:l.length=d.mi.length
 ·have hb:((l.length:Int) != d.mi.length)=false:=by rw[h1];simp
  rw[if_neg (fun h=>h h1)]
  simp only[hb,evA,simprocAttr]
  refine ZW l.length (fun k s=>(∀ j,j<k→inB (gI l j) 0 120=true)∧∃ v7 v8,s=⟨[dyV d,.i i,.ptr 0 0,.i 0,ints l,.i k,.b false,v7,v8,.undef],[.cells [.cv (minR d.mi),.cv (lesR d.ls)]]⟩) ?_ 0 (QF _) ⟨by omega,_,_,rfl⟩
  rintro k s hk ⟨hall,v7,v8,rfl⟩
  by_cases h:k<l.length
  ·simp only[ic70l0,QJ,h,J5 h,J4 h,evA,simprocAttr]
   refine (le64 _ 0 120).call frz ?_
   cases hin:inB (gI l k) 0 120 with
   | true =>
    have hin2:inB (l[k]?.getD 0) 0 120=true:=hin
    simp only[hin2,Q6 (show k+1<2 ^ 63 by omega),evA,simprocAttr]
    refine ZL (by first | trivial | omega) ⟨fun j hj=>?_,_,_,rfl⟩
    rcases QQ.1 hj with hj | rfl
    ·exact hall j hj
    ·exact hin
   | false =>
    have hin2:inB (l[k]?.getD 0) 0 120=false:=hin
    rw[outF_exR h hin]
    simp only[hin2,evA,simprocAttr]
    exact frz
  ·have hke:k=l.length:=by omega
   subst hke
   rw[outF_alR hall]
   have hil:i<l.length:=by omega
   simp only[ic70l0,QJ,h,J5 hil,J4 hil,evA,simprocAttr]
   by_cases h2:gI l i=0
   ·have hb2:(l[i]?.getD 0 != 0)=false:=by simpa using h2
    simp only[hb2,h2,ne_eq,not_true,evA,simprocAttr]
    exact frz
   ·have hb2:(l[i]?.getD 0 != 0)=true:=by simpa using h2
    simp only[hb2,h2,ne_eq,not_false_eq_true,evA,simprocAttr]
    exact frz
 ·have hb:((l.length:Int) != d.mi.length)=true:=by simp;omega
  rw[if_pos h1]
  simp only[hb,evA,simprocAttr]
  exact frz
theorem le71 (d:Dy) (hd:DSz d) (l:Les):PC Tryz.prog 71 [dyV d,lesA l] (.i (lesE d l)):=by
 refine ⟨ZF (fok71 true) (QC rfl) ?_,rfl⟩
 have h63:=hd.mi
 unfold lesE
 have hw:IntKind.i64.wrap ((d.mi.length:Int)-1)=(d.mi.length:Int)-1:=ZC (by omega)
 obtain ⟨le,te,ca,b,e,f,o⟩:=l
 have e1:outF 0 1440 [b,e]=(!inB b 0 1440 || !inB e 0 1440):=by rw[outF_coR,outF_sgR]
 have e2:outF 0 ((d.mi.length:Int)-1) [f,o]=(!inB f 0 ((d.mi.length:Int)-1) || !inB o 0 ((d.mi.length:Int)-1)):=by rw[outF_coR,outF_sgR]
 simp only
 rw[e1,e2]
 clear e1 e2
 simp only[ic71,WI,cellsOf,evA,simprocAttr]
 refine (le64 b 0 1440).call frz ?_
 cases h1:inB b 0 1440 with
 | false =>
  simp only[h1,US,evA,simprocAttr]
  exact frz
 | true =>
 simp only[h1,Y3,evA,simprocAttr]
 refine (le64 e 0 1440).call frz ?_
 cases h2:inB e 0 1440 with
 | false =>
  simp only[h2,US,evA,simprocAttr]
  exact frz
 | true =>
 simp only[h2,Y3,evA,simprocAttr]
 rw[show [AV.i le,.i te,.i ca]=[le,te,ca].map AV.i from rfl]
 generalize hzs:[le,te,ca]=zs
 have hz3:zs.length=3:=by rw[← hzs];rfl
 refine ZW 3 (fun k s=>(∀ j,j<k→inB (gI zs j) 0 7=true)∧∃ v8 v9,s=⟨[dyV d,lesA ⟨le,te,ca,b,e,f,o⟩,.ptr 0 0,.ptr 1 0,.i 0,.sl 2 0 3 1,.i k,.b false,v8,v9,.undef,.undef],[.cells [.cv (minR d.mi),.cv (lesR d.ls)],.cells [.i le,.i te,.i ca,.i b,.i e,.i f,.i o],.cells (zs.map AV.i)]⟩) ?_ 0 (QF _) ⟨by omega,_,_,rfl⟩
 rintro k s hk ⟨hall,v8,v9,rfl⟩
 by_cases h:k<3
 ·have hkz:k<zs.length:=by omega
  have hd3:decide ((k:Int)<3)=true:=decide_eq_true (by omega)
  simp only[ic71l0,hd3,W9 h,ZV,V1 hkz,evA,simprocAttr]
  refine (le64 _ 0 7).call frz ?_
  cases hin:inB (gI zs k) 0 7 with
  | true =>
   have hin2:inB (zs[k]?.getD 0) 0 7=true:=hin
   simp only[hin2,Q6 (show k+1<2 ^ 63 by omega),evA,simprocAttr]
   refine ZL (by first | trivial | omega) ⟨fun j hj=>?_,_,_,rfl⟩
   rcases QQ.1 hj with hj | rfl
   ·exact hall j hj
   ·exact hin
  | false =>
   have hin2:inB (zs[k]?.getD 0) 0 7=false:=hin
   rw[outF_exR hkz hin]
   simp only[hin2,evA,simprocAttr]
   exact frz
 ·have hke:k=3:=by omega
  subst hke
  rw[outF_alR (by rw[hz3];exact hall)]
  simp only[ic71l0,evA,simprocAttr]
  by_cases h3:b≥e
  ·simp only[h3,evA,simprocAttr]
   exact frz
  ·simp only[h3,hw,evA,simprocAttr]
   refine (le64 f 0 _).call frz ?_
   cases h4:inB f 0 ((d.mi.length:Int)-1) with
   | false =>
    simp only[h4,US,evA,simprocAttr]
    exact frz
   | true =>
    simp only[h4,hw,Y3,evA,simprocAttr]
    refine (le64 o 0 _).call frz ?_
    cases h5:inB o 0 ((d.mi.length:Int)-1) with
    | false =>
     simp only[h5,evA,simprocAttr]
     exact frz
    | true =>
     simp only[h5,evA,simprocAttr]
     exact frz
theorem le24 (d:Dy) (hd:DSz d):PC Tryz.prog 24 [dyV d] (chkA d):=by
 refine ⟨ZF (fok24 true) (QC rfl) ?_,rfl⟩
 simp only[ic24,WI,cellsOf,evA,simprocAttr]
 refine (le64 (d.mi.length:Int) 1 16).call frz ?_
 unfold chkA dyE
 rw[outF_sgR]
 cases h1:inB (d.mi.length:Int) 1 16 with
 | false =>
  simp only[h1,US,evA,simprocAttr]
  exact frz
 | true =>
 cases h2:decide ((d.ls.length:Int)>12) with
 | true =>
  simp only[h1,Y3,h2,evA,simprocAttr]
  exact frz
 | false =>
 simp only[h1,Y3,h2,evA,simprocAttr]
 have hm63:=hd.mi
 have hl63:=hd.ls
 refine ZW d.mi.length (fun k s=>(∀ j,j<k→rowE d j=0)∧∃ v6 v10 v11,s=⟨[dyV d,.ptr 0 0,.i 0,.i 0,.i 0,.i k,v6,.undef,.undef,.b false,v10,v11,.undef,.undef],[.cells [.cv (minR d.mi),.cv (lesR d.ls)]]⟩) ?_ 0 (QF _) ⟨by omega,_,_,_,rfl⟩
 rintro k s hk ⟨hall,v6,v10,v11,rfl⟩
 by_cases h:k<d.mi.length
 ·simp only[ic24l1,QJ,h,evA,simprocAttr]
  refine (le70 d hd k h).call frz ?_
  by_cases h0:rowE d k=0
  ·have hb:(rowE d k != 0)=false:=by simpa using h0
   simp only[hb,Q6 (show k+1<2 ^ 63 by omega),evA,simprocAttr]
   refine ZL (by first | trivial | omega) ⟨fun j hj=>?_,_,_,_,rfl⟩
   rcases QQ.1 hj with hj | rfl
   ·exact hall j hj
   ·exact h0
  ·have hb:(rowE d k != 0)=true:=by simpa using h0
   rw[VO d.mi.length 0 k (QF _) (by omega) (fun j _ hj=>hall j hj) h0]
   simp only[hb,h0,ne_eq,not_false_eq_true,evA,simprocAttr]
   exact frz
 ·have hke:k=d.mi.length:=by omega
  subst hke
  rw[J7 d.mi.length 0 fun j _ hj=>hall j (by omega)]
  simp only[ic24l1,QJ,h,ne_eq,not_true,evA,simprocAttr]
  refine ZW d.ls.length (fun k s=>(∀ j,j<k→lesE d d.ls[j]! = 0)∧∃ v8 v12 v13,s=⟨[dyV d,.ptr 0 0,.i 0,.i 0,.i 0,.i d.mi.length,v6,.i k,v8,.b false,.b false,v11,v12,v13],[.cells [.cv (minR d.mi),.cv (lesR d.ls)]]⟩) ?_ 0 (QF _) ⟨by omega,_,_,_,rfl⟩
  clear h hk hall
  rintro k s hk ⟨hall,v8,v12,v13,rfl⟩
  by_cases h:k<d.ls.length
  ·simp only[ic24l0,QJ,h,evA,simprocAttr]
   refine DW_s [6] [] hmix (by kernel_rfl) rfl ?_
   simp only[F5 h,Qcl h,evA,simprocAttr]
   refine YE ((le71 d hd d.ls[k]!).call frz ⟨rfl,rfl⟩) rfl ?_
   simp only[evA,simprocAttr]
   by_cases h0:lesE d d.ls[k]! = 0
   ·have hb:(lesE d d.ls[k]! != 0)=false:=by simpa using h0
    simp only[hb,Q6 (show k+1<2 ^ 63 by omega),evA,simprocAttr]
    refine ZL (by first | trivial | omega) ⟨fun j hj=>?_,_,_,_,rfl⟩
    rcases QQ.1 hj with hj | rfl
    ·exact hall j hj
    ·exact h0
   ·have hb:(lesE d d.ls[k]! != 0)=true:=by simpa using h0
    rw[VO d.ls.length 0 k (QF _) (by omega) (fun j _ hj=>hall j hj) h0]
    simp only[hb,h0,ne_eq,not_false_eq_true,evA,simprocAttr]
    exact frz
  ·have hke:k=d.ls.length:=by omega
   subst hke
   rw[J7 d.ls.length 0 fun j _ hj=>hall j (by omega)]
   simp only[ic24l0,QJ,h,ne_eq,not_true,evA,simprocAttr]
   exact frz
theorem natsI_len' (cs:List Nat):(HG cs).length=cs.length:=by simp[HG]
theorem natsI_get {cs:List Nat} {k:Nat} (h:k<cs.length):(HG cs)[k]?.getD 0=((cs[k]! : Nat):Int):=by
 unfold HG
 rw[ZR,QI h,getElem!_pos cs k h];rfl
structure PtOk (ps:List Pat):Prop where
 p12:ps.length≤12
 sh:∀ k,k<ps.length→0≤(ps[k]!).1∧(ps[k]!).1<9223372036854775808
end Go.Proofs.YtgkidpolomhghaaGreatDoor.AM
namespace Go.Proofs.YtgkidpolomhghaaGreatDoor.AM
open Go Pl
theorem typed_list {α:Type} {f:α→List CV} {p:α→Prop} {t:TypeId} (h:∀ cs,Typed Tryz.prog t cs→∃ x,cs=f x∧p x):∀ L:List (List CV),(∀ l∈L,Typed Tryz.prog t l)→∃ xs:List α,L.flatten=xs.flatMap f∧L.length=xs.length∧∀ x∈xs,p x
 | [],_=>⟨[],rfl,rfl,by simp⟩
 | l::L,hl=>by
  obtain ⟨x,h1,h2⟩:=h l (hl l (by simp))
  obtain ⟨xs,g1,g2,g3⟩:=typed_list h L fun l hh=>hl l (by simp[hh])
  exact ⟨x::xs,by simp[h1,g1],by simp[g2],by simpa using ⟨h2,g3⟩⟩
theorem get_of {α:Type} [Inhabited α] {p:α→Prop} {l:List α} (h:∀ x∈l,p x) (i:Nat) (hi:i<l.length):p l[i]! := by
 rw[getElem!_pos l i hi]
 exact h _ (Q2 hi)
theorem typed_i {cs:List CV} (h:Typed Tryz.prog 3 cs):∃ x:Int,cs=[.int .i64 x]:=by
 obtain ⟨n,rfl,_⟩:=QeV Tryz.underlying3 h
 exact ⟨n,rfl⟩
theorem typed_row {cs:List CV} (h:Typed Tryz.prog 23 cs):∃ zs:List Int,cs=[rowC zs]∧zs.length<2 ^ 63:=by
 obtain ⟨zs,h1,h2,_⟩:=typed_ints Tryz.underlying23 Tryz.underlying3 h
 exact ⟨zs,h1,h2⟩
theorem typed_les {cs:List CV} (h:Typed Tryz.prog 94 cs):∃ l:Les,cs=lesC l∧True:=by
 obtain ⟨L,rfl,hn,hf⟩:=typed_struct Tryz.underlying94 h
 match L,hn with
 | [a,b,c,d,e,f,g],_ =>
  obtain ⟨n1,rfl⟩:=typed_i (hf 0 _ a rfl rfl)
  obtain ⟨n2,rfl⟩:=typed_i (hf 1 _ b rfl rfl)
  obtain ⟨n3,rfl⟩:=typed_i (hf 2 _ c rfl rfl)
  obtain ⟨n4,rfl⟩:=typed_i (hf 3 _ d rfl rfl)
  obtain ⟨n5,rfl⟩:=typed_i (hf 4 _ e rfl rfl)
  obtain ⟨n6,rfl⟩:=typed_i (hf 5 _ f rfl rfl)
  obtain ⟨n7,rfl⟩:=typed_i (hf 6 _ g rfl rfl)
  exact ⟨⟨n1,n2,n3,n4,n5,n6,n7⟩,rfl,trivial⟩
theorem typed_dyc {cs:List CV} (h:Typed Tryz.prog 37 cs):∃ d:Dy,cs=[minR d.mi,lesR d.ls]∧DSz d:=by
 obtain ⟨L,rfl,hn,hf⟩:=typed_struct Tryz.underlying37 h
 match L,hn with
 | [a,b],_ =>
  obtain ⟨L1,rfl,n1,_,h1⟩:=QeU Tryz.underlying34 (hf 0 _ a rfl rfl)
  obtain ⟨L2,rfl,n2,_,h2⟩:=QeU Tryz.underlying35 (hf 1 _ b rfl rfl)
  obtain ⟨m,a1,a2,a3⟩:=typed_list (f:=fun zs:List Int=>[rowC zs]) (p:=fun zs=>zs.length<2 ^ 63) (fun cs h=>typed_row h) L1 h1
  obtain ⟨ls,b1,b2,_⟩:=typed_list (fun cs h=>typed_les h) L2 h2
  have hm:maxLen<2 ^ 63:=by decide
  refine ⟨⟨m,ls⟩,?_,⟨by show m.length<_;omega,by show ls.length<_;omega,get_of a3⟩⟩
  simp only[minR,lesR,F0,a1,b1,a2,b2,List.map_eq_flatMap,List.flatten_cons,List.flatten_nil,ZU,List.cons_append,List.nil_append]
theorem typed_day {cs:List CV} (h:Typed Tryz.prog 37 cs):∃ d:Dy,avOf Tryz.prog 37 cs=dyV d∧DSz d:=by
 obtain ⟨d,rfl,hd⟩:=typed_dyc h
 exact ⟨d,by simp only[avOf,Tryz.underlying37];rfl,hd⟩
theorem typed_u8s {cs:List CV} (h:Typed Tryz.prog 69 cs):∃ zs:List Int,avOf Tryz.prog 69 cs=.cv (.rsl (zs.map (.int .u8)) zs.length)∧zs.length<2 ^ 63∧∀ i,i<zs.length→0≤gI zs i∧gI zs i≤255:=by
 obtain ⟨zs,rfl,h1,h2⟩:=typed_ints Tryz.underlying69 Tryz.underlying5 h
 refine ⟨zs,by simp only[avOf,Tryz.underlying69];rfl,h1,fun i hi=>wf_u8 (h2 _ (Qcs hi))⟩
structure BcOk (ps:List Pat) (l:List Int):Prop where
 few:fewL ps l=(HG (UJ ps l),XX ps (UJ ps l),0)
 len:(UJ ps l).length≤200
 rng:∀ x∈UJ ps l,x<ps.length
 srt:(UJ ps l).Pairwise (·≤·)
 eno:OS ps l (UJ ps l)
 least:∀ cs:List Nat,(∀ x∈cs,x<ps.length)→OS ps l cs→(UJ ps l).length<cs.length∨(UJ ps l).length=cs.length∧XX ps (UJ ps l)≤XX ps cs
theorem app_srcK {e by_ l n m:Nat} {σ:List AObj} {xs cs:List CV} {w:AV} (hr:rowOf σ l=some (xs.map .cv)) (hs:Z9 σ e w=some (cs.map .cv)) (hw:lenF w=some m) (hx:xs.length=n*e) (hc:cs.length=m*e) (hb:(n+m)*by_≤2 ^ 44) (hn:n+m≤2 ^ 44) :
  ZX e by_ [.sl l 0 n e,w] σ=some (.sl σ.length 0 (n+m) e,σ.set l .dead++[.cells ((xs++cs).map .cv)]):=by
 have hsc:(cs.map AV.cv).all AV.isSc=true:=by
  rw[Q1]
  intro x hx
  obtain ⟨z,_,rfl⟩:=ZP.1 hx
  rfl
 simp only[ZX,hr,hs,hw,Option.bind_some]
 have h1:True∧n*e≤(xs.map AV.cv).length∧m*e=(cs.map AV.cv).length∧(n+m)*by_≤2 ^ 44∧n+m≤2 ^ 44∧(cs.map AV.cv).all AV.isSc=true:=⟨trivial,by simp[hx],by simp[hc],hb,hn,hsc⟩
 rw[if_pos h1,Q5 (by simp[hx]),ZS]
end Go.Proofs.YtgkidpolomhghaaGreatDoor.AM
namespace Go.Proofs.YtgkidpolomhghaaGreatDoor.AM
variable [Dr]
open Go Pl
def atD (g:Int→Int) (S:List Int) (z:Int):Nat→Nat
 | 0=>0
 | k+1=>if g (gI S k)>g z then atD g S z k else k+1
def insD (g:Int→Int) (S:List Int) (z:Int):List Int:=S.take (atD g S z S.length)++z::S.drop (atD g S z S.length)
theorem app_to {σ:List AObj} {l n:Nat} {xs ys:List Int} {w:AV} (hr:rowOf σ l=some (xs.map AV.i)) (hn:n=xs.length) (hs:Z9 σ 1 w=some (ys.map AV.i)) (hw:lenF w=some ys.length) (hb:xs.length+ys.length<2 ^ 40) :
  ∃ τ,ZX 1 8 [.sl l 0 n 1,w] σ=some (.sl σ.length 0 (n+ys.length) 1,τ)∧τ.length=σ.length+1∧rowOf τ σ.length=some ((xs++ys).map AV.i)∧∀ i,i≠l→i<σ.length→τ[i]? = σ[i]? := by
 subst hn
 refine ⟨σ.set l .dead++[.cells ((xs++ys).map AV.i)],?_,by simp,?_,fun i h1 h2=>?_⟩
 ·simp only[ZX,hr,hs,hw,Option.bind_some]
  have hp:(2:Nat) ^ 40=1099511627776:=by decide
  have hp2:(2:Nat) ^ 44=17592186044416:=by decide
  have hsc:(ys.map AV.i).all AV.isSc=true:=by
   rw[Q1]
   intro x hx
   obtain ⟨z,_,rfl⟩:=ZP.1 hx
   rfl
  rw[if_pos ⟨trivial,by simp,by simp,by omega,by omega,hsc⟩,Q5 (by simp),ZS]
 ·rw[show σ.length=(σ.set l .dead).length by simp,XH]
 ·rw[QE (by simpa using h2),QU (Ne.symm h1)]
theorem row_keep {σ τ:List AObj} {l:Nat} {cs:List AV} (h:τ[l]? = σ[l]?) (hr:rowOf σ l=some cs):rowOf τ l=some cs:=by
 unfold rowOf at *
 rw[h];exact hr
theorem rowLt {σ:List AObj} {l:Nat} {cs:List AV} (h:rowOf σ l=some cs):l<σ.length:=by
 rcases ZB l σ.length with h2 | h2
 ·exact h2
 ·unfold rowOf at h
  rw[QN h2] at h
  cases h
theorem xOne_of {a b:List AObj}:∀ {ls:List Nat},(∀ l∈ls,a[l]? = b[l]?)→xOne ls a b
 | [],_=>trivial
 | l::ls,h=>⟨h l (by simp),xOne_of fun x hx=>h x (by simp[hx])⟩
theorem slS_hi {b:Nat} {σ:List AObj} {v:AV} {zs:List Int} (h:G9 b σ v zs) {a:Nat} (ha:a≤zs.length) :
  ∃ w,(∀ τ,VG 1 false true [v,.i a] τ=some (w,τ))∧lenF w=some (zs.take a).length∧(∀ τ,(∀ l cs,b≤l→rowOf σ l=some cs→rowOf τ l=some cs)→Z9 τ 1 w=some ((zs.take a).map AV.i))∧∀ l∈JJ w,l<σ.length:=by
 rcases h.2 with ⟨rfl,rfl⟩ | ⟨l,hl,rfl,hr⟩
 ·have:a=0:=by simpa using ha
  subst this
  exact ⟨.cv .nils,fun τ=>rfl,rfl,fun τ _=>rfl,fun l h=>absurd h (by simp[JJ])⟩
 ·have hlt:=rowLt hr
  refine ⟨.sl l 0 a 1,fun τ=>?_,by simp[lenF,ha],fun τ hτ=>?_,fun l' h=>by simp[JJ] at h;omega⟩
  ·simp[VG,bnds,bnd,ha]
  ·have h2:=hτ l _ hl hr
   simp only[Z9,if_true,h2,Option.bind_some]
   simp[ha,List.map_take]
theorem slS_lo {b:Nat} {σ:List AObj} {v:AV} {zs:List Int} (h:G9 b σ v zs) {a:Nat} (ha:a≤zs.length) :
  ∃ w,(∀ τ,VG 1 true false [v,.i a] τ=some (w,τ))∧lenF w=some (zs.drop a).length∧∀ τ,(∀ l cs,b≤l→rowOf σ l=some cs→rowOf τ l=some cs)→Z9 τ 1 w=some ((zs.drop a).map AV.i):=by
 rcases h.2 with ⟨rfl,rfl⟩ | ⟨l,hl,rfl,hr⟩
 ·have:a=0:=by simpa using ha
  subst this
  exact ⟨.cv .nils,fun τ=>rfl,rfl,fun τ _=>rfl⟩
 ·by_cases he:a=zs.length∧0<a
  ·obtain ⟨rfl,h0⟩:=he
   refine ⟨.cv (.rsl [] 0),fun τ=>?_,by simp[lenF],fun τ hτ=>by simp[Z9]⟩
   simp[VG,bnds,bnd,h0]
  ·refine ⟨.sl l a (zs.length-a) 1,fun τ=>?_,by simp[lenF],fun τ hτ=>?_⟩
   ·simp[VG,bnds,bnd,ha,he]
   ·have h2:=hτ l _ hl hr
    simp only[Z9,if_true,h2,Option.bind_some]
    have h3:a+(zs.length-a)=zs.length:=by omega
    simp[h3,List.map_drop,Q5]
theorem le48 (d:Dy) (hd:DSz d):PC Tryz.prog 48 [dyV d] (.b ((dyE d).2.2 == 0)):=by
 have h24:=le24 d hd
 unfold chkA at h24
 refine ⟨ZF (fok48 true) (QC rfl) ?_,rfl⟩
 simp only[ic48,WI,cellsOf,evA,simprocAttr]
 refine h24.call frz ?_
 simp only[evA,simprocAttr]
 exact frz
structure ChOk (d:Dy) (C:List (List Nat)):Prop where
 ne:∀ c∈C,c≠[]
 rng:∀ c∈C,∀ x∈c,x<d.ls.length
 can:∀ c∈C,∀ j,j+1<c.length→canB d c[j]! c[j+1]! = true
 one:∀ k,k<d.ls.length→ME C k=1
 len:∀ c∈C,c.length<2 ^ 40
 num:C.length<2 ^ 40
theorem memB {α:Type} [Inhabited α] {p:α→Prop} {cs:List α} (h:∀ x∈cs,p x) (k:Nat) (hk:k<cs.length):p cs[k]! := by
 rw[getElem!_pos cs k hk];exact h _ (Q2 hk)
def orK (d:Dy):Nat→List Int
 | 0=>[]
 | k+1=>insD (bgF d) (orK d k) k
theorem insD_perm (g:Int→Int) (S:List Int) (z:Int):(insD g S z).Perm (z::S):=by
 unfold insD
 refine List.perm_middle.trans (List.Perm.cons z ?_)
 rw[List.take_append_drop]
theorem orK_perm (d:Dy):∀ k,(orK d k).Perm (HG (List.range k))
 | 0=>List.Perm.refl _
 | k+1=>by
  have h:HG (List.range (k+1))=HG (List.range k)++[(k:Int)]:=by simp[HG,WM]
  rw[h]
  exact (insD_perm _ _ _).trans ((List.Perm.cons _ (orK_perm d k)).trans (List.perm_append_singleton _ _).symm)
theorem orK_len (d:Dy) (k:Nat):(orK d k).length=k:=by rw[(orK_perm d k).length_eq];simp[HG]
theorem orK_li (d:Dy) (k:Nat) (hk:k≤d.ls.length):∀ i,i<(orK d k).length→isLi d (gI (orK d k) i):=fun i hi=>by
 have h:=(orK_perm d k).mem_iff.1 (Qcs hi)
 unfold HG at h
 obtain ⟨j,hj,e⟩:=ZP.1 h
 have:=ZI.1 hj
 exact ⟨j,by omega,e.symm⟩
theorem ord50 {Q:Exit→St→Prop} (d:Dy) (hd:DyOk d) (xa:AV) (hend:∀ v4 v6 v12 v13 J,G9 1 (AObj.cells [.cv (minR d.mi),.cv (lesR d.ls)]::J) v4 (orK d d.ls.length)→Q (.exit 0) ⟨[dyV d,xa,.ptr 0 0,.i 0,v4,.i d.ls.length,v6,.undef,.undef,.undef,.undef,.undef,v12,v13,.undef,.undef,.undef,.undef,.undef],.cells [.cv (minR d.mi),.cv (lesR d.ls)]::J⟩) :
  IL Tryz.prog ⟨vs50,124,none,0⟩ ic50l3 ⟨[dyV d,xa,.ptr 0 0,.i 0,.cv .nils,.i 0,.undef,.undef,.undef,.undef,.undef,.undef,.undef,.undef,.undef,.undef,.undef,.undef,.undef],[.cells [.cv (minR d.mi),.cv (lesR d.ls)]]⟩ Q:=by
 have h12:=hd.l12
 have h40:(2:Nat) ^ 40=1099511627776:=by decide
 refine ZW d.ls.length (fun k s=>∃ v4 v6 v12 v13 J,G9 1 (AObj.cells [.cv (minR d.mi),.cv (lesR d.ls)]::J) v4 (orK d k)∧s=⟨[dyV d,xa,.ptr 0 0,.i 0,v4,.i k,v6,.undef,.undef,.undef,.undef,.undef,v12,v13,.undef,.undef,.undef,.undef,.undef],.cells [.cv (minR d.mi),.cv (lesR d.ls)]::J⟩) ?_ 0 (QF _) ⟨_,_,_,_,[],⟨by simp,.inl ⟨rfl,rfl⟩⟩,rfl⟩
 rintro k s hk ⟨v5,v6,v12,v10,J,hacc,rfl⟩
 by_cases h:k<d.ls.length
 ·have hsucc:orK d (k+1)=insD (bgF d) (orK d k) k:=rfl
  have hli:=orK_li d k hk
  have hln:(orK d k).length≤k:=by rw[orK_len];exact QG _
  generalize orK d k=S at *
  have hlen:∀ σ,RZ false [v5] σ=some (.i S.length,σ):=fun σ=>by
   rcases hacc.2 with ⟨rfl,rfl⟩ | ⟨l,_,rfl,_⟩ <;> rfl
  simp only[ic50l3,QJ,h,hlen,evA,simprocAttr]
  refine ZW S.length (fun i s=>atD (bgF d) S k S.length=atD (bgF d) S k (S.length-i)∧∃ v10,s=⟨[dyV d,xa,.ptr 0 0,.i 0,v5,.i k,.i (S.length-i:Nat),.undef,.undef,.undef,.undef,.undef,.b true,v10,.undef,.undef,.undef,.undef,.undef],.cells [.cv (minR d.mi),.cv (lesR d.ls)]::J⟩) ?_ 0 (QF _) ⟨rfl,_,rfl⟩
  clear v10
  rintro i s hi ⟨hat,v10,rfl⟩
  have hcase:(∃ m,S.length-i=m+1∧i<S.length∧bgF d (gI S m)>bgF d k)∨(atD (bgF d) S k S.length=S.length-i∧(S.length-i=0∨∃ m,S.length-i=m+1∧¬ bgF d (gI S m)>bgF d k)):=by
   cases hm:S.length-i with
   | zero=>rw[hm] at hat;exact .inr ⟨hat,.inl rfl⟩
   | succ m =>
    by_cases hg:bgF d (gI S m)>bgF d k
    ·exact .inl ⟨m,rfl,by omega,hg⟩
    ·rw[hm,show atD (bgF d) S k (m+1)=if bgF d (gI S m)>bgF d k then atD (bgF d) S k m else m+1 from rfl,if_neg hg] at hat
     exact .inr ⟨hat,.inr ⟨m,rfl,hg⟩⟩
  have hld:∀ m,m<S.length→∃ j l,j<d.ls.length∧gI S m=(j:Int)∧v5=.sl l 0 S.length 1∧1≤l∧rowOf (AObj.cells [.cv (minR d.mi),.cv (lesR d.ls)]::J) l=some (S.map AV.i):=fun m hm=>by
   obtain ⟨j,hj,he⟩:=hli m hm
   rcases hacc.2 with ⟨_,rfl⟩ | ⟨l,hl,rfl,hr⟩
   ·exact absurd hm (W5 _)
   ·exact ⟨j,l,hj,he,rfl,hl,hr⟩
  rcases hcase with ⟨m,hm,hil,hg⟩ | ⟨hfin,hor⟩
  ·rw[hm]
   obtain ⟨j,l,hj,hje,rfl,hl1,hr⟩:=hld m (by omega)
   have hld:=V1 (zs:=S) (k:=m) (by omega)
   rw[show S[m]?.getD 0=(j:Int) from hje] at hld
   have hmS:m<S.length:=by omega
   have hd1:decide (((m+1:Nat):Int)>0)=true:=decide_eq_true (by omega)
   have hw1:IntKind.i64.wrap (((m+1:Nat):Int)-1)=(m:Int):=by rw[ZC (by omega)];omega
   rw[hje] at hg
   have hd2:decide ((d.ls[j]!).b>(d.ls[k]!).b)=true:=decide_eq_true hg
   simp only[ic50l2,evA,simprocAttr]
   refine DW_s [] [] hmix (by kernel_rfl) rfl ?_
   simp only[hd1,hw1,W9 hmS,ZV,hr,hld,F5 hj,F5 h,les_3 hj,les_3 h,hd2,evA,simprocAttr]
   refine ZL hil ⟨?_,.b true,?_⟩
   ·rw[hat,hm,show S.length-(i+1)=m by omega]
    show (if _ then _ else _)=_
    rw[hje,if_pos hg]
   ·rw[show S.length-(i+1)=m by omega]
  ·have hexit:S.length-i=0∨∃ m j l,S.length-i=m+1∧m<S.length∧j<d.ls.length∧gI S m=(j:Int)∧v5=.sl l 0 S.length 1∧rowOf (AObj.cells [.cv (minR d.mi),.cv (lesR d.ls)]::J) l=some (S.map AV.i)∧¬ (d.ls[j]!).b>(d.ls[k]!).b:=by
    rcases hor with h0 | ⟨m,hm,hg⟩
    ·exact .inl h0
    ·obtain ⟨j,l,hj,hje,h5,hl1,hr⟩:=hld m (by omega)
     rw[hje] at hg
     exact .inr ⟨m,j,l,hm,by omega,hj,hje,h5,hr,hg⟩
   clear hor hld
   have ha:S.length-i≤S.length:=Nat.sub_le _ _
   generalize S.length-i=a at *
   obtain ⟨w1,s1,n1,c1,q1⟩:=slS_hi hacc ha
   obtain ⟨w2,s2,n2,c2⟩:=slS_lo hacc ha
   have hbx:=hacc.1
   obtain ⟨τ1,A1₀,L1,R1₀,K1₀⟩:=app_to (σ:=AObj.cells [.cv (minR d.mi),.cv (lesR d.ls)]::(J++[AObj.cells []])) (l:=J.length+1) (n:=0) (xs:=[]) (ys:=S.take a) (w:=w1) (by rw[MK,XH];rfl) rfl (c1 _ fun l cs h1 h2=>by
    obtain ⟨l,rfl⟩:∃ l',l=l'+1:=⟨l-1,by omega⟩
    rw[MK] at h2 ⊢
    exact FU h2 _) n1 (by simp;omega)
   have hsub:∀ l cs,1≤l→rowOf (AObj.cells [.cv (minR d.mi),.cv (lesR d.ls)]::J) l=some cs→l<J.length+1∧rowOf τ1 l=some cs:=fun l cs h1 h2=>by
    have hl:l<J.length+1:=by
     rcases ZB l (J.length+1) with h | h
     ·exact h
     ·unfold rowOf at h2
      rw[QN (by simpa using h)] at h2
      cases h2
    refine ⟨hl,row_keep ?_ h2⟩
    rw[K1₀ l (by omega) (by simp;omega),← List.cons_append,QE (by simpa using hl)]
   have hL1:τ1.length=J.length+3:=by rw[L1];simp
   obtain ⟨τ2,A2₀,L2,R2,K2⟩:=app_to (σ:=τ1++[AObj.cells [.i (k:Int)]]) (l:=(J++[AObj.cells []]).length+1) (n:=(S.take a).length) (xs:=S.take a) (ys:=[(k:Int)]) (w:=.sl τ1.length 0 1 1) (FU R1₀ _) rfl (by simp[Z9,XH]) rfl (by simp;omega)
   have hL2:τ2.length=J.length+5:=by rw[L2];simp[hL1]
   obtain ⟨τ3,A3₀,L3₀,R3₀,K3₀⟩:=app_to (σ:=τ2) (l:=(τ1++[AObj.cells [.i (k:Int)]]).length) (n:=(S.take a).length+1) (xs:=S.take a++[(k:Int)]) (ys:=S.drop a) (w:=w2) R2 (by simp) (c2 _ fun l cs h1 h2=>by
    obtain ⟨hl,hr⟩:=hsub l cs h1 h2
    refine row_keep ?_ hr
    rw[K2 l (by simp;omega) (by simp;omega),QE (by omega)]) n2 (by simp;omega)
   have hbx0:τ3[0]? = some (AObj.cells [.cv (minR d.mi),.cv (lesR d.ls)]):=by
    rw[K3₀ 0 (by simp) (by omega),K2 0 (by simp) (by simp),QE (by omega),K1₀ 0 (by simp) (by simp)]
    rfl
   obtain ⟨J2₀,rfl⟩:∃ J2₀,τ3=AObj.cells [.cv (minR d.mi),.cv (lesR d.ls)]::J2₀:=by
    match τ3,hbx0 with
    | o::J2₀,h=>cases h;exact ⟨J2₀,rfl⟩
   have hnew:∀ v13,∃ v4' v6' v12' v13' J',G9 1 (AObj.cells [.cv (minR d.mi),.cv (lesR d.ls)]::J') v4' (orK d (k+1))∧(⟨[dyV d,xa,.ptr 0 0,.i 0,.sl τ2.length 0 ((S.take a).length+1+(S.drop a).length) 1,.i (k+1:Nat),.i a,.undef,.undef,.undef,.undef,.undef,.b true,v13,.undef,.undef,.undef,.undef,.undef],AObj.cells [.cv (minR d.mi),.cv (lesR d.ls)]::J2₀⟩:St)=⟨[dyV d,xa,.ptr 0 0,.i 0,v4',.i (k+1:Nat),v6',.undef,.undef,.undef,.undef,.undef,v12',v13',.undef,.undef,.undef,.undef,.undef],AObj.cells [.cv (minR d.mi),.cv (lesR d.ls)]::J'⟩:=fun v13=>by
    refine ⟨_,_,_,_,J2₀,⟨by simp,.inr ⟨τ2.length,by omega,?_,?_⟩⟩,rfl⟩
    ·rw[hsucc];unfold insD;rw[hfin]
     simp only[QM,List.length_cons,Nat.add_assoc,Nat.add_comm 1]
    ·rw[R3₀,hsucc];unfold insD;rw[hfin,QW];rfl
   have hchk:(τ1++[AObj.cells [AV.i k]])[J.length+1]? = τ1[J.length+1]?∧((τ1++[AObj.cells [AV.i k]])[J.length+1]? = τ1[J.length+1]?∧xOne (JJ w1++[(J++[AObj.cells []]).length+1]) (τ1++[AObj.cells [AV.i k]]) τ1)∧(AObj.cells [AV.cv (minR d.mi),AV.cv (lesR d.ls)]::(J++[AObj.cells []]))[τ1.length]? = (AObj.cells [AV.cv (minR d.mi),AV.cv (lesR d.ls)]::J)[τ1.length]?∧τ1[τ1.length]? = (AObj.cells [AV.cv (minR d.mi),AV.cv (lesR d.ls)]::(J++[AObj.cells []]))[τ1.length]? := by
    refine ⟨QE (by omega),⟨QE (by omega),xOne_of fun l hl=>QE ?_⟩,?_,?_⟩
    ·rcases YV.1 hl with hl | hl
     ·have:=q1 l hl
      simp at this;omega
     ·simp at hl;omega
    ·rw[QN (by simp;omega),QN (by simp;omega)]
    ·rw[QN (by omega),QN (by simp;omega)]
   simp only[ic50l2,evA,simprocAttr]
   refine DW_s [] [] hmix (by kernel_rfl) rfl ?_
   rcases hexit with h0 | ⟨m,j,l,hm,hmS,hj,hje,h5,hr,hg⟩
   ·have hd1:decide ((a:Int)>0)=false:=decide_eq_false (by omega)
    simp only[hd1,evA,simprocAttr]
    refine DW_s [] [(0,6),(4,6),(6,0),(6,4)] hmix (by kernel_rfl) rfl ?_
    simp only[s1,A1₀,A2₀,s2,A3₀,evA,simprocAttr]
    rw[Q6 (show k+1<2 ^ 63 by omega)]
    exact ⟨hchk,ZL trivial (hnew _)⟩
   ·obtain hm:=hm
    have hd1:decide ((a:Int)>0)=true:=decide_eq_true (by omega)
    have hw1:IntKind.i64.wrap ((a:Int)-1)=(m:Int):=by rw[ZC (by omega)];omega
    have hd2:decide ((d.ls[j]!).b>(d.ls[k]!).b)=false:=decide_eq_false hg
    have hld:=V1 (zs:=S) hmS
    rw[show S[m]?.getD 0=(j:Int) from hje] at hld
    have hia:∀ σ,VP 1 [v5,.i m] σ=some (.ptr l m,σ):=fun σ=>by rw[h5,W9 hmS,ZV]
    simp only[hd1,hw1,hia,hr,hld,F5 hj,F5 h,les_3 hj,les_3 h,hd2,evA,simprocAttr]
    refine DW_s [] [(0,6),(4,6),(6,0),(6,4)] hmix (by kernel_rfl) rfl ?_
    simp only[s1,A1₀,A2₀,s2,A3₀,evA,simprocAttr]
    rw[Q6 (show k+1<2 ^ 63 by omega)]
    exact ⟨hchk,ZL trivial (hnew _)⟩
 ·have hke:k=d.ls.length:=by omega
  subst hke
  simp only[ic50l3,QJ,h,evA,simprocAttr]
  exact hend _ _ _ _ J hacc
def cnI (d:Dy) (last:List Nat) (o:Nat):List Int:=YS last.length fun c=>canB d last[c]! o
def pkF (zs:List Int) (n:Nat):Nat:=if zs.length>0 then (gI zs (n % zs.length)).toNat else 0
def plS (d:Dy) (zs:List Int) (last:List Nat) (o n:Nat):List Nat :=
 if (cnI d last o).length=0∨pkF zs n % 8=7 then last++[o] else last.set (gI (cnI d last o) (pkF zs n % (cnI d last o).length)).toNat o
def plF (d:Dy) (zs:List Int):Nat→List Nat
 | 0=>[]
 | n+1=>plS d zs (plF d zs n) (gI (orK d d.ls.length) n).toNat n
theorem accF_get {b:Nat} {H:List AObj} {v:AV} {zs:List Int} (h:G9 b H v zs) {k:Nat} (hk:k<zs.length):∃ l,b≤l∧l<H.length∧v=.sl l 0 zs.length 1∧rowOf H l=some (zs.map AV.i):=by
 rcases h.2 with ⟨_,rfl⟩ | ⟨l,h1,h2,h3⟩
 ·exact absurd hk (W5 _)
 ·exact ⟨l,h1,rowLt h3,h2,h3⟩
theorem accF_len {b:Nat} {H:List AObj} {v:AV} {zs:List Int} (h:G9 b H v zs) (σ:List AObj):RZ false [v] σ=some (.i zs.length,σ):=by
 rcases h.2 with ⟨rfl,rfl⟩ | ⟨l,_,rfl,_⟩ <;> rfl
theorem accF_low {b b2:Nat} {H H':List AObj} {v:AV} {zs:List Int} (h:G9 b H v zs) (hb:H.length≤b2) (hl:∀ l,l<b2→rowOf H' l=rowOf H l) (hlen:b≤H'.length):G9 b H' v zs:=by
 rcases h.2 with ⟨h1,h2⟩ | ⟨l,h1,h2,h3⟩
 ·exact ⟨hlen,.inl ⟨h1,h2⟩⟩
 ·exact ⟨hlen,.inr ⟨l,h1,h2,by rw[hl l (Z6 (rowLt h3) hb)];exact h3⟩⟩
theorem pl_rng (d:Dy) (zs:List Int):∀ n,n≤d.ls.length→(plF d zs n).length≤n∧∀ x∈plF d zs n,x<d.ls.length
 | 0,_=>⟨QG _,fun x h=>by cases h⟩
 | n+1,hn=>by
  obtain ⟨h1,h2⟩:=pl_rng d zs n (by omega)
  obtain ⟨j,hj,he⟩:=orK_li d d.ls.length (QG _) n (by rw[orK_len];omega)
  have hj2:(gI (orK d d.ls.length) n).toNat<d.ls.length:=by rw[he];simpa using hj
  show (plS d zs (plF d zs n) _ n).length≤_∧∀ x∈plS d zs (plF d zs n) _ n,_
  unfold plS
  split
  ·refine ⟨by simp;omega,fun x hx=>?_⟩
   rcases YV.1 hx with h | h
   ·exact h2 x h
   ·rw[WZ.1 h];exact hj2
  ·refine ⟨by simp;omega,fun x hx=>?_⟩
   rcases List.mem_or_eq_of_mem_set hx with h | h
   ·exact h2 x h
   ·rw[h];exact hj2
theorem le50 (d:Dy) (hd:DyOk d) (zs:List Int) (hz:∀ i,i<zs.length→0≤gI zs i∧gI zs i≤255) (hzl:zs.length<2 ^ 63):PC Tryz.prog 50 [dyV d,.cv (.rsl (zs.map (.int .u8)) zs.length)] (.i (plF d zs d.ls.length).length):=by
 refine ⟨ZF (fok50 true) (QC rfl) ?_,rfl⟩
 have h12:=hd.l12
 have h40:(2:Nat) ^ 40=1099511627776:=by decide
 simp only[ic50,WI,cellsOf,evA,simprocAttr]
 refine ord50 d hd _ fun v4 v6 v12 v13 J hacc=>?_
 have hol:=orK_len d d.ls.length
 have hoi:=orK_li d d.ls.length (QG _)
 have hlen4:=accF_len hacc
 rw[hol] at hlen4
 have hb0:rowOf (AObj.cells [.cv (minR d.mi),.cv (lesR d.ls)]::J) 0=some [.cv (minR d.mi),.cv (lesR d.ls)]:=rfl
 simp only[evA,simprocAttr]
 have hordr:∀ n,n<d.ls.length→∃ lo,lo<(AObj.cells [.cv (minR d.mi),.cv (lesR d.ls)]::J).length∧v4=.sl lo 0 d.ls.length 1∧rowOf (AObj.cells [.cv (minR d.mi),.cv (lesR d.ls)]::J) lo=some ((orK d d.ls.length).map AV.i):=fun n hn=>by
  obtain ⟨l,_,h2,h3,h4⟩:=accF_get hacc (k:=n) (by omega)
  rw[hol] at h3
  exact ⟨l,h2,h3,h4⟩
 have hb1:1≤(AObj.cells [.cv (minR d.mi),.cv (lesR d.ls)]::J).length:=by simp
 generalize hH0:(AObj.cells [.cv (minR d.mi),.cv (lesR d.ls)]::J)=H0₀ at *
 refine ZW d.ls.length (fun n s=>∃ v7 v9 v10 v11 v14 v15 v16 v17 v18 H,(∀ l,l<H0₀.length→rowOf H l=rowOf H0₀ l)∧G9 H0₀.length H v7 (HG (plF d zs n))∧s=⟨[dyV d,.cv (.rsl (zs.map (.int .u8)) zs.length),.ptr 0 0,.i 0,v4,.i d.ls.length,v6,v7,.i n,v9,v10,v11,v12,v13,v14,v15,v16,v17,v18],H⟩) ?_ 0 (QF _) ⟨_,_,_,_,_,_,_,_,_,H0₀,fun _ _=>rfl,.nil (QG _),rfl⟩
 rintro n s hn ⟨v7,v9,v10,v11,v14,v15,v16,v17,v18,H,hlow,hl7,rfl⟩
 by_cases h:n<d.ls.length
 ·obtain ⟨lo,hlo,hv4,hrow⟩:=hordr n h
  obtain ⟨o,ho,hoe⟩:=hoi n (by omega)
  have hps:plF d zs (n+1)=plS d zs (plF d zs n) o n:=by
   show plS d zs (plF d zs n) (gI (orK d d.ls.length) n).toNat n=_
   rw[hoe,Int.toNat_natCast]
  obtain ⟨hpl,hprng⟩:=pl_rng d zs n hn
  rw[hps]
  generalize plF d zs n=last at *
  have hnl:=natsI_len' last
  have hlen7:=accF_len hl7
  rw[hnl] at hlen7
  have hia4:∀ σ,VP 1 [v4,.i n] σ=some (.ptr lo n,σ):=fun σ=>by rw[hv4,W9 h,ZV]
  have hldo:=V1 (zs:=orK d d.ls.length) (k:=n) (by omega)
  rw[show (orK d d.ls.length)[n]?.getD 0=(o:Int) from hoe] at hldo
  simp only[ic50l1,hlen4,QJ,h,evA,simprocAttr]
  refine ZW last.length (fun c s=>∃ v9 v15 v16 H',(∀ l,l<H.length→rowOf H' l=rowOf H l)∧G9 H.length H' v9 (YS c fun c=>canB d last[c]! o)∧s=⟨[dyV d,.cv (.rsl (zs.map (.int .u8)) zs.length),.ptr 0 0,.i 0,v4,.i d.ls.length,v6,v7,.i n,v9,.i c,v11,v12,v13,.b true,v15,v16,v17,v18],H'⟩) ?_ 0 (QF _) ⟨_,_,_,H,fun _ _=>rfl,.nil (QG _),rfl⟩
  clear v9 v10 v14 v15 v16
  rintro c s hc ⟨v9,v15,v16,H',hlow',hl9,rfl⟩
  have hHl:=hl7.1
  have hlow0:∀ l,l<H0₀.length→rowOf H' l=rowOf H0₀ l:=fun l hl=>by rw[hlow' l (by omega),hlow l hl]
  have hbx:rowOf H' 0=some [.cv (minR d.mi),.cv (lesR d.ls)]:=by rw[hlow0 0 (by omega)];exact hb0
  have hro:rowOf H' lo=some ((orK d d.ls.length).map AV.i):=by rw[hlow0 lo hlo];exact hrow
  have hl7':G9 H0₀.length H' v7 (HG last):=accF_low hl7 (QG _) hlow' (YR hHl hl9.1)
  by_cases hcl:c<last.length
  ·obtain ⟨l7,hl7a,hl7b,hl7v,hl7r⟩:=accF_get hl7' (k:=c) (by omega)
   rw[hnl] at hl7v
   have hia7:∀ σ,VP 1 [v7,.i c] σ=some (.ptr l7 c,σ):=fun σ=>by rw[hl7v,W9 hcl,ZV]
   have hld7:=V1 (zs:=HG last) (k:=c) (by omega)
   rw[natsI_get hcl] at hld7
   have h51:=le51 d hd (memB hprng c hcl) ho
   have hbs:=ET (fun c=>canB d last[c]! o) c
   rw[hbs]
   simp only[ic50l0,hlen7,QJ,hcl,evA,simprocAttr]
   refine DW_s [9] [] hmix (by kernel_rfl) rfl ?_
   simp only[hbx,hia7,hl7r,hld7,hia4,hro,hldo,evA,simprocAttr]
   refine YE (h51.call frz ⟨rfl,rfl⟩) rfl ?_
   cases hcb:canB d last[c]! o with
   | true =>
    obtain ⟨v',H2,ha,hacc2,hlow2⟩:=accFrom_append (c:Int) hl9 (by unfold YS;have:=HC (fun c=>canB d last[c]! o) (List.range c);simp at this ⊢;omega)
    simp only[hcb,ha,Q6 (show c+1<2 ^ 63 by omega),evA,simprocAttr]
    exact ZL (by first | trivial | omega) ⟨_,_,_,H2,fun l hl=>(hlow2 l hl).trans (hlow' l hl),by simpa using hacc2,rfl⟩
   | false =>
    simp only[hcb,Q6 (show c+1<2 ^ 63 by omega),evA,simprocAttr]
    exact ZL (by first | trivial | omega) ⟨_,_,_,H',hlow',by simpa using hl9,rfl⟩
  ·have hce:c=last.length:=by omega
   subst hce
   rw[show YS last.length (fun c=>canB d last[c]! o)=cnI d last o from rfl] at hl9
   have hlen9:=accF_len hl9
   obtain ⟨v',HA₀,haA,hA2,hlowA⟩:=accFrom_append (o:Int) hl7' (by omega)
   rw[show HG last++[(o:Int)]=HG (last++[o]) by simp[HG]] at hA2
   obtain ⟨m,hm⟩:∃ m,m=(cnI d last o).length:=⟨_,rfl⟩
   rw[← hm] at hlen9
   have hm12:m≤12:=by
    have:=HC (fun c=>canB d last[c]! o) (List.range last.length)
    rw[hm];unfold cnI YS;simp at this ⊢;omega
   by_cases hz0:zs.length>0
   ·have dz:decide ((zs.length:Int)>0)=true:=decide_eq_true (by omega)
    obtain ⟨w,hw⟩:∃ w,w=n % zs.length:=⟨_,rfl⟩
    have hwz:w<zs.length:=by rw[hw];exact Nat.mod_lt _ hz0
    have hzw:=hz w hwz
    obtain ⟨pk,hpk⟩:∃ pk:Nat,gI zs w=(pk:Int):=⟨(gI zs w).toNat,by omega⟩
    have hpkF:pkF zs n=pk:=by unfold pkF;rw[if_pos hz0,← hw,hpk,Int.toNat_natCast]
    have hzl0:¬ ((zs.length:Int)=0):=by omega
    have hrw:((n:Int)).tmod (zs.length:Int)=(w:Int):=by rw[hw];rfl
    have hld8:zs[w]?.getD 0=(pk:Int):=hpk
    have hcv:IntKind.i64.wrap (pk:Int)=(pk:Int):=ZC (by omega)
    by_cases hm0:m=0
    ·have dm:((m:Int) == 0)=true:=by simp;omega
     rw[show plS d zs last o n=last++[o] by unfold plS;rw[if_pos (.inl (by omega))]]
     simp only[ic50l0,hlen7,hlen9,QJ,hcl,hia4,hro,hldo,haA,dz,hzl0,hrw,XP hwz,W3,J4 hwz,WA,hld8,hcv,dm,Q6 (show n+1<2 ^ 63 by omega),evA,simprocAttr]
     exact ZL (by first | trivial | omega) ⟨_,_,_,_,_,_,_,_,_,HA₀,fun l hl=>(hlowA l hl).trans (hlow0 l hl),hA2,rfl⟩
    ·have dm:((m:Int) == 0)=false:=by simp;omega
     by_cases h7:pk % 8=7
     ·have d7:(((pk:Int)).tmod 8 == 7)=true:=by
       have e:((pk:Int)).tmod 8=((pk % 8:Nat):Int):=rfl
       rw[e,h7];rfl
      rw[show plS d zs last o n=last++[o] by unfold plS;rw[if_pos (.inr (by rw[hpkF];exact h7))]]
      simp only[ic50l0,hlen7,hlen9,QJ,hcl,hia4,hro,hldo,haA,dz,hzl0,hrw,XP hwz,W3,J4 hwz,WA,hld8,hcv,dm,d7,Q6 (show n+1<2 ^ 63 by omega),evA,simprocAttr]
      exact ZL (by first | trivial | omega) ⟨_,_,_,_,_,_,_,_,_,HA₀,fun l hl=>(hlowA l hl).trans (hlow0 l hl),hA2,rfl⟩
     ·have d7:(((pk:Int)).tmod 8 == 7)=false:=by
       have e:((pk:Int)).tmod 8=((pk % 8:Nat):Int):=rfl
       rw[e];simp;omega
      obtain ⟨q,hq⟩:∃ q,q=pk % m:=⟨_,rfl⟩
      have hqm:q<m:=by rw[hq];exact Nat.mod_lt _ (by omega)
      obtain ⟨e,he1,he2,_⟩:=bits_mem.1 (Qcs (show q<(cnI d last o).length by omega))
      obtain ⟨l9,_,_,hl9v,hl9r⟩:=accF_get hl9 (show q<(cnI d last o).length by omega)
      obtain ⟨l7,hl7a,hl7b,hl7v,hl7r⟩:=accF_get hl7' (k:=e) (by omega)
      rw[hnl] at hl7v
      have hia9:∀ σ,VP 1 [v9,.i q] σ=some (.ptr l9 q,σ):=fun σ=>by rw[hl9v,W9 (by omega),ZV]
      have hld9:=V1 (zs:=cnI d last o) (k:=q) (by omega)
      rw[show (cnI d last o)[q]?.getD 0=(e:Int) from he1] at hld9
      have hia7:∀ σ,VP 1 [v7,.i e] σ=some (.ptr l7 e,σ):=fun σ=>by rw[hl7v,W9 he2,ZV]
      have hle:e+1≤(HG last).length:=by omega
      have hst:(HG last).set e (o:Int)=HG (last.set e o):=by unfold HG;rw[List.map_set]
      have hrq:((pk:Int)).tmod ((m:Nat):Int)=(q:Int):=by rw[hq];rfl
      have hm1:¬ ((m:Int)=0):=by omega
      rw[show plS d zs last o n=last.set e o by unfold plS;rw[if_neg (by rw[hpkF];omega),← hm,hpkF,← hq,show gI (cnI d last o) q=(e:Int) from he1,Int.toNat_natCast]]
      simp only[ic50l0,hlen7,hlen9,QJ,hcl,dz,hzl0,hrw,XP hwz,W3,J4 hwz,WA,hld8,hcv,dm,d7,evA,simprocAttr]
      refine DW_s [] [] hmix (by kernel_rfl) rfl ?_
      simp only[hlen9,hm1,hrq,hia9,hl9r,hld9,hia4,hro,hldo,hia7,hl7r,ZK,hle,GC,hst,Q6 (show n+1<2 ^ 63 by omega),evA,simprocAttr]
      refine ZL (by first | trivial | omega) ⟨_,_,_,_,_,_,_,_,_,H'.set l7 (.cells ((HG (last.set e o)).map AV.i)),fun l hl=>(QX (by omega) _).trans (hlow0 l hl),⟨by rw[WE];exact YR hHl hl9.1,.inr ⟨l7,hl7a,?_,W0 hl7r⟩⟩,rfl⟩
      rw[hl7v,natsI_len',WE]
   ·have dz:decide ((zs.length:Int)>0)=false:=decide_eq_false (by omega)
    have hpkF:pkF zs n=0:=by unfold pkF;rw[if_neg hz0]
    by_cases hm0:m=0
    ·have dm:((m:Int) == 0)=true:=by simp;omega
     rw[show plS d zs last o n=last++[o] by unfold plS;rw[if_pos (.inl (by omega))]]
     simp only[ic50l0,hlen7,hlen9,QJ,hcl,hia4,hro,hldo,haA,dz,dm,Q6 (show n+1<2 ^ 63 by omega),evA,simprocAttr]
     exact ZL (by first | trivial | omega) ⟨_,_,_,_,_,_,_,_,_,HA₀,fun l hl=>(hlowA l hl).trans (hlow0 l hl),hA2,rfl⟩
    ·have dm:((m:Int) == 0)=false:=by simp;omega
     have d7:((0:Int).tmod 8 == 7)=false:=by decide
     obtain ⟨q,hq⟩:∃ q,q=0 % m:=⟨_,rfl⟩
     have hqm:q<m:=by rw[hq];exact Nat.mod_lt _ (by omega)
     obtain ⟨e,he1,he2,_⟩:=bits_mem.1 (Qcs (show q<(cnI d last o).length by omega))
     obtain ⟨l9,_,_,hl9v,hl9r⟩:=accF_get hl9 (show q<(cnI d last o).length by omega)
     obtain ⟨l7,hl7a,hl7b,hl7v,hl7r⟩:=accF_get hl7' (k:=e) (by omega)
     rw[hnl] at hl7v
     have hia9:∀ σ,VP 1 [v9,.i q] σ=some (.ptr l9 q,σ):=fun σ=>by rw[hl9v,W9 (by omega),ZV]
     have hld9:=V1 (zs:=cnI d last o) (k:=q) (by omega)
     rw[show (cnI d last o)[q]?.getD 0=(e:Int) from he1] at hld9
     have hia7:∀ σ,VP 1 [v7,.i e] σ=some (.ptr l7 e,σ):=fun σ=>by rw[hl7v,W9 he2,ZV]
     have hle:e+1≤(HG last).length:=by omega
     have hst:(HG last).set e (o:Int)=HG (last.set e o):=by unfold HG;rw[List.map_set]
     have hrq:((0:Int)).tmod ((m:Nat):Int)=(q:Int):=by rw[hq,Nat.zero_mod];simp
     have hm1:¬ ((m:Int)=0):=by omega
     rw[show plS d zs last o n=last.set e o by unfold plS;rw[if_neg (by rw[hpkF];omega),← hm,hpkF,← hq,show gI (cnI d last o) q=(e:Int) from he1,Int.toNat_natCast]]
     simp only[ic50l0,hlen7,hlen9,QJ,hcl,dz,dm,d7,evA,simprocAttr]
     refine DW_s [] [] hmix (by kernel_rfl) rfl ?_
     simp only[hlen9,hm1,hrq,hia9,hl9r,hld9,hia4,hro,hldo,hia7,hl7r,ZK,hle,GC,hst,Q6 (show n+1<2 ^ 63 by omega),evA,simprocAttr]
     refine ZL (by first | trivial | omega) ⟨_,_,_,_,_,_,_,_,_,H'.set l7 (.cells ((HG (last.set e o)).map AV.i)),fun l hl=>(QX (by omega) _).trans (hlow0 l hl),⟨by rw[WE];exact YR hHl hl9.1,.inr ⟨l7,hl7a,?_,W0 hl7r⟩⟩,rfl⟩
     rw[hl7v,natsI_len',WE]
 ·have hne:n=d.ls.length:=by omega
  subst hne
  have hlen7:=accF_len hl7
  rw[natsI_len'] at hlen7
  simp only[ic50l1,hlen4,QJ,h,hlen7,evA,simprocAttr]
  exact frz
end Go.Proofs.YtgkidpolomhghaaGreatDoor.AM
namespace Go.Proofs.YtgkidpolomhghaaGreatDoor.AM
open Go Pl
theorem app_nilI {e by_ m:Nat} {σ:List AObj} {cs:List CV} {w:AV} (hs:Z9 σ e w=some (cs.map .cv)) (hw:lenF w=some m) (hm:m≠0) (hc:cs.length=m*e) (hb:m*by_≤2 ^ 44) (hn:m≤2 ^ 44) :
  ZX e by_ [.cv .nils,w] σ=some (.sl σ.length 0 m e,σ++[.cells (cs.map .cv)]):=by
 have hsc:(cs.map AV.cv).all AV.isSc=true:=by
  rw[Q1]
  intro x hx
  obtain ⟨z,_,rfl⟩:=ZP.1 hx
  rfl
 simp only[ZX,hs,hw,Option.bind_some]
 rw[if_neg hm,if_pos ⟨by simp[hc],hb,hn,hsc⟩]
def Two (b:Nat) (H:List AObj) (v w:AV) (P Q:List Int):Prop:=G9 b H v P∧G9 b H w Q∧(∀ l n n',v=.sl l 0 n 1→w≠.sl l 0 n' 1)∧(P=[]→v=.cv .nils)∧(Q=[]→w=.cv .nils)
theorem Two.symm {b:Nat} {H:List AObj} {v w:AV} {P Q:List Int} (h:Two b H v w P Q):Two b H w v Q P:=⟨h.2.1,h.1,fun l n n' e e'=>h.2.2.1 l n' n e' e,h.2.2.2.2,h.2.2.2.1⟩
theorem two_app {b:Nat} {H:List AObj} {v w:AV} {P Q:List Int} (x:Int) (h:Two b H v w P Q) (hl:P.length<2 ^ 40) :
  ∃ (v':AV) (H':List AObj),ZX 1 8 [v,.sl H.length 0 1 1] (H++[AObj.cells [.i x]])=some (v',H')∧Two b H' v' w (P++[x]) Q∧∀ l,l<b→rowOf H' l=rowOf H l:=by
 obtain ⟨h1,h2,h3,h4,h5⟩:=h
 have hb:=h1.1
 have h40:(2:Nat) ^ 40=1099511627776:=by decide
 have h44:(2:Nat) ^ 44=17592186044416:=by decide
 have hmap:∀ zs:List Int,(zs.map (CV.int .i64)).map AV.cv=zs.map AV.i:=fun zs=>by rw[XW];rfl
 rcases h1.2 with ⟨rfl,rfl⟩ | ⟨l,hl1,rfl,hl3⟩
 ·have ha:=app_nilI (e:=1) (by_:=8) (m:=1) (σ:=H++[AObj.cells [.i x]]) (cs:=[CV.int .i64 x]) (w:=.sl H.length 0 1 1) (by simp[Z9,rowOf]) rfl (by decide) rfl (by decide) (by decide)
  refine ⟨_,_,ha,⟨⟨by simp;omega,.inr ⟨(H++[AObj.cells [.i x]]).length,by simp;omega,rfl,XH _ _⟩⟩,⟨by simp;omega,?_⟩,?_,fun h=>absurd h (by simp),h5⟩,fun l hl=>?_⟩
  ·rcases h2.2 with g | ⟨l',g1,g2,g3⟩
   ·exact .inl g
   ·exact .inr ⟨l',g1,g2,FU (FU g3 _) _⟩
  ·intro l n n' e e'
   rcases h2.2 with ⟨g,_⟩ | ⟨l',g1,g2,g3⟩
   ·rw[g] at e';cases e'
   ·rw[g2] at e'
    injection e' with e1
    injection e with e2
    have:=rowLt g3
    simp at e2
    omega
  ·unfold rowOf
   rw[QE (by simp;omega),QE (by omega)]
 ·have hlt:=rowLt hl3
  have ha:=app_srcK (e:=1) (by_:=8) (l:=l) (n:=P.length) (m:=1) (σ:=H++[AObj.cells [.i x]]) (xs:=P.map (CV.int .i64)) (cs:=[CV.int .i64 x]) (w:=.sl H.length 0 1 1) (by rw[hmap];exact FU hl3 _) (by simp[Z9,rowOf]) rfl (by simp) rfl (by omega) (by omega)
  refine ⟨_,_,ha,⟨⟨by simp;omega,.inr ⟨(H++[AObj.cells [.i x]]).length,by simp;omega,by simp,?_⟩⟩,⟨by simp;omega,?_⟩,?_,fun h=>absurd h (by simp),h5⟩,fun l' hl'=>?_⟩
  ·have:(H++[AObj.cells [.i x]]).length=((H++[AObj.cells [.i x]]).set l AObj.dead).length:=by simp
   rw[this,XH,ZS,hmap,ZS]
   rfl
  ·rcases h2.2 with g | ⟨l',g1,g2,g3⟩
   ·exact .inl g
   ·refine .inr ⟨l',g1,g2,?_⟩
    have hne:l≠l':=fun e=>by
     subst e
     exact h3 l _ _ rfl g2
    exact FU (by rw[QX hne];exact FU g3 _) _
  ·intro l2 n n' e e'
   rcases h2.2 with ⟨g,_⟩ | ⟨l',g1,g2,g3⟩
   ·rw[g] at e';cases e'
   ·rw[g2] at e'
    injection e' with e1
    injection e with e2
    have:=rowLt g3
    simp at e2
    omega
  ·unfold rowOf
   rw[QE (by simp;omega),QU (by omega),QE (by omega)]
theorem shr16 (a k:Nat) (hk:k≤16):VK .shr .u16 (a:Int) (k:Int)=some (.cv (.int .u16 ((a >>> k:Nat):Int))):=by
 have h0:¬ ((k:Int)<0):=by omega
 have h1:min (k:Int).toNat IntKind.u16.bits=k:=by rw[Int.toNat_natCast];exact VD hk
 simp only[VK]
 rw[if_neg h0,h1]
 have:(a:Int).fdiv (2 ^ k)=((a >>> k:Nat):Int):=by
  rw[Int.fdiv_eq_ediv_of_nonneg _ (Int.pow_nonneg (by decide)),JR]
  push_cast
  rfl
 rw[this]
theorem rem_2 (a:Nat):Int.tmod (a:Int) 2=((a % 2:Nat):Int):=rfl
theorem bit_1 (a k:Nat):((((a >>> k) % 2:Nat):Int) == 1)=a.testBit k:=by
 have:a.testBit k=((a >>> k) % 2 != 0):=by rw[Nat.testBit,Nat.and_comm,Nat.and_one_is_mod]
 rw[this]
 rcases Nat.mod_two_eq_zero_or_one (a >>> k) with h | h <;> rw[h] <;> rfl
theorem bit_0 (a k:Nat):((((a >>> k) % 2:Nat):Int) == 0) = !a.testBit k:=by
 have:a.testBit k=((a >>> k) % 2 != 0):=by rw[Nat.testBit,Nat.and_comm,Nat.and_one_is_mod]
 rw[this]
 rcases Nat.mod_two_eq_zero_or_one (a >>> k) with h | h <;> rw[h] <;> rfl
def ndT (d:Dy) (a b k i:Nat):Bool:=b.testBit k||(List.range i).any fun j=>canB d j k && !a.testBit j
theorem ndT_succ (d:Dy) (a b k i:Nat):ndT d a b k (i+1)=(ndT d a b k i||canB d i k && !a.testBit i):=by
 unfold ndT
 rw[WM,List.any_append,Bool.or_assoc]
 simp
abbrev s12 (d:Dy) (a b:Nat) (J:List AObj):List AObj:=.cells [.cv (minR d.mi),.cv (lesR d.ls)] :: .cells [.cv (.int .u16 a),.cv (.int .u16 b)]::J
theorem heap2 {d:Dy} {a b:Nat} {J H:List AObj} (h:∀ l,l<2→rowOf H l=rowOf (s12 d a b J) l):∃ I,H=s12 d a b I:=by
 have h0:=WO ((h 0 (by omega)).trans rfl)
 have h1:=WO ((h 1 (by omega)).trans rfl)
 match H,h0,h1 with
 | x::y::I,h0,h1 =>
  injection h0 with h0
  injection h1 with h1
  exact ⟨I,by rw[h0,h1]⟩
theorem loop12 {Q:Exit→St→Prop} (d:Dy) (hd:DyOk d) (a b:Nat) (ha:a<65536) (hb:b<65536) (xv bv v6 v7 v11:AV) (n:Int)
  (hend:∀ v13 v14 v15 v16 v17 v22 v23 v24 v25 J,Two 2 (s12 d a b J) v13 v14 (Pl.YS d.ls.length a.testBit) (Pl.YS d.ls.length fun k=>ndT d a b k d.ls.length) →
   Q (.exit 0) ⟨[dyV d,xv,bv,.ptr 0 0,.ptr 1 0,.b false,v6,v7,.i 0,.i n,.i 0,v11,.i 0,v13,v14,v15,v16,v17,.undef,.undef,.b false,.b false,v22,v23,v24,v25],s12 d a b J⟩) :
  IL Tryz.prog ⟨vs12,145,none,0⟩ ic12l1 ⟨[dyV d,xv,bv,.ptr 0 0,.ptr 1 0,.b false,v6,v7,.i 0,.i n,.i 0,v11,.i 0,.cv .nils,.cv .nils,.i 0,.undef,.undef,.undef,.undef,.b false,.b false,.undef,.undef,.undef,.undef],s12 d a b []⟩ Q:=by
 have h12:=hd.l12
 have h40:(2:Nat) ^ 40=1099511627776:=by decide
 refine ZW d.ls.length (fun k s=>∃ v13 v14 v16 v17 v22 v23 v24 v25 J,Two 2 (s12 d a b J) v13 v14 (Pl.YS k a.testBit) (Pl.YS k fun k=>ndT d a b k d.ls.length)∧s=⟨[dyV d,xv,bv,.ptr 0 0,.ptr 1 0,.b false,v6,v7,.i 0,.i n,.i 0,v11,.i 0,v13,v14,.i k,v16,v17,.undef,.undef,.b false,.b false,v22,v23,v24,v25],s12 d a b J⟩) ?_ 0 (QF _) ⟨_,_,_,_,_,_,_,_,[],⟨.nil (by simp),.nil (by simp),(fun _ _ _ e=>by cases e),fun _=>rfl,fun _=>rfl⟩,rfl⟩
 rintro k s hk ⟨v13,v14,v16,v17,v22,v23,v24,v25,J,hT,rfl⟩
 by_cases h:k<d.ls.length
 ·have hs:∀ x:Nat,VK .shr .u16 (x:Int) (k:Int)=some (.cv (.int .u16 ((x >>> k:Nat):Int))):=fun x=>shr16 x k (by omega)
  have hA0:∀ σ,PD 2 1 [.ptr 1 0,.i 0] σ=some (.ptr 1 0,σ):=fun _=>rfl
  have hA1:∀ σ,PD 2 1 [.ptr 1 0,.i 1] σ=some (.ptr 1 1,σ):=fun _=>rfl
  have hwk:=Q6 (show k+1<2 ^ 63 by omega)
  have l1:(Pl.YS k a.testBit).length≤k:=M7
  have l2:(Pl.YS k fun k=>ndT d a b k d.ls.length).length≤k:=M7
  have e1:=ET a.testBit k
  have e2:=ET (fun k=>ndT d a b k d.ls.length) k
  simp only[s12,ic12l1,QJ,h,hA0,hs,rem_2,bit_1,evA,simprocAttr]
  cases hta:a.testBit k
  obtain ⟨w13,I,hT1,g1,g2⟩:∃ w13 I,Two 2 (s12 d a b I) w13 v14 (Pl.YS (k+1) a.testBit) (Pl.YS k fun k=>ndT d a b k d.ls.length)∧w13=v13∧I=J:=⟨v13,J,by rw[e1,hta];simpa using hT,rfl,rfl⟩
  subst g1 g2
  simp only[evA,simprocAttr]
  rotate_left
  obtain ⟨w13,H,g1,g2,g3⟩:=two_app (k:Int) hT (by omega)
  obtain ⟨I,rfl⟩:=heap2 g3
  have hT1:Two 2 (s12 d a b I) w13 v14 (Pl.YS (k+1) a.testBit) (Pl.YS k fun k=>ndT d a b k d.ls.length):=by rw[e1,hta];simpa using g2
  simp only[s12,List.length_cons,List.cons_append] at g1
  simp only[g1,evA,simprocAttr]
  all_goals
   have n0:b.testBit k=ndT d a b k 0:=by simp[ndT]
   simp only[hA1,hs,rem_2,bit_1,n0,evA,simprocAttr]
   refine ZW d.ls.length (fun i s=>∃ v24,s=⟨[dyV d,xv,bv,.ptr 0 0,.ptr 1 0,.b false,v6,v7,.i 0,.i n,.i 0,v11,.i 0,w13,v14,.i k,.b (ndT d a b k i),.i i,.undef,.undef,.b false,.b false,.b true,.b (a.testBit k),v24,v25],s12 d a b I⟩) ?_ 0 (QF _) ⟨_,by simp only[hta];rfl⟩
   rintro i s hi ⟨v24,rfl⟩
   by_cases hil:i<d.ls.length
   ·have hsi:∀ x:Nat,VK .shr .u16 (x:Int) (i:Int)=some (.cv (.int .u16 ((x >>> i:Nat):Int))):=fun x=>shr16 x i (by omega)
    have hwi:=Q6 (show i+1<2 ^ 63 by omega)
    have hsu:=ndT_succ d a b k i
    simp only[s12,ic12l0,QJ,hil,evA,simprocAttr]
    cases hn:ndT d a b k i
    ·simp only[evA,simprocAttr]
     refine (le51 d hd hil h).call frz ?_
     rw[hn] at hsu
     cases hc:canB d i k
     ·rw[hc] at hsu
      simp only[hwi,evA,simprocAttr]
      exact ZL (by first | trivial | omega) ⟨_,by rw[hsu];rfl⟩
     ·rw[hc] at hsu
      simp only[hA0,hsi,rem_2,bit_0,hwi,evA,simprocAttr]
      exact ZL (by first | trivial | omega) ⟨_,by rw[hsu];rfl⟩
    ·rw[hn] at hsu
     simp only[hwi,evA,simprocAttr]
     exact ZL (by first | trivial | omega) ⟨_,by rw[hsu];rfl⟩
   ·have hie:i=d.ls.length:=by omega
    subst hie
    simp only[s12,ic12l0,QJ,hil,evA,simprocAttr]
    cases hn:ndT d a b k d.ls.length
    ·simp only[hwk,evA,simprocAttr]
     exact ZL (by first | trivial | omega) ⟨_,_,_,_,_,_,_,_,_,by rw[e2,hn];simpa using hT1,rfl⟩
    ·obtain ⟨w14,H,g1,g2,g3⟩:=two_app (k:Int) hT1.symm (by omega)
     obtain ⟨I2₀,rfl⟩:=heap2 g3
     simp only[s12,List.length_cons,List.cons_append] at g1
     simp only[g1,hwk,evA,simprocAttr]
     exact ZL (by first | trivial | omega) ⟨_,_,_,_,_,_,_,_,_,by rw[e2,hn];simpa using g2.symm,rfl⟩
 ·have hke:k=d.ls.length:=by omega
  subst hke
  simp only[ic12l1,QJ,h,evA,simprocAttr]
  exact hend _ _ _ _ _ _ _ _ _ _ hT
theorem cha_num {d:Dy} (hd:DyOk d):(LQ (nxtL d) d.ls.length).length=d.ls.length-TH d:=by
 have h1:=heads_len (nxW hd)
 have h2:cnt (nxtL d).length (fun j=>decide (0≤gI (nxtL d) j))=TH d:=(nx_ok (can:=canB d) (n:=d.ls.length) d.ls.length 0 (fun _=>false) (by omega)).num
 rw[(nxW hd).len] at h2
 unfold LQ
 rw[ZK]
 omega
def orN (d:Dy):List Nat:=(orK d d.ls.length).map Int.toNat
theorem orN_perm (d:Dy):(orN d).Perm (List.range d.ls.length):=by
 have h:=(orK_perm d d.ls.length).map Int.toNat
 have e:(HG (List.range d.ls.length)).map Int.toNat=List.range d.ls.length:=by
  unfold HG
  rw[XW]
  exact (JI fun x _=>by simp).trans (List.map_id _)
 rw[e] at h
 exact h
theorem orN_len (d:Dy):(orN d).length=d.ls.length:=by unfold orN;rw[ZK,orK_len]
theorem pl_part {d:Dy} (zs:List Int):∀ n,n≤d.ls.length→∃ g,QeK (canB d) d.ls.length ((orN d).take n) (plF d zs n) g
 | 0,_=>⟨_,part_nil⟩
 | n+1,hn=>by
  obtain ⟨g,hg⟩:=pl_part (d:=d) zs n (by omega)
  have hlt:n<(orN d).length:=by rw[orN_len];omega
  have hnd:(orN d).Nodup:=(orN_perm d).nodup_iff.2 List.nodup_range
  have hmem:∀ y∈orN d,y<d.ls.length:=fun y hy=>ZI.1 ((orN_perm d).mem_iff.1 hy)
  have htk:(orN d).take (n+1)=(orN d).take n++[(orN d)[n]]:=by rw[JC,QI hlt];rfl
  have hx:(orN d)[n]∉(orN d).take n:=fun h=>by
   obtain ⟨i,hi,e⟩:=List.mem_take_iff_getElem.1 h
   exact List.pairwise_iff_getElem.1 hnd i n (by omega) hlt (by omega) e
  have ho:(gI (orK d d.ls.length) n).toNat=(orN d)[n]:=by
   have key:∀ (l:List Int) (h:n<(l.map Int.toNat).length),(gI l n).toNat=(l.map Int.toNat)[n]:=fun l h=>by
    unfold gI
    rw[QI (by simpa using h),List.getElem_map];rfl
   exact key _ hlt
  rw[htk]
  show ∃ g,QeK _ _ _ (plS d zs (plF d zs n) (gI (orK d d.ls.length) n).toNat n) g
  rw[ho]
  have hput:=fun o=>part_put (can:=canB d) (n:=d.ls.length) (o:=o) hx (fun y hy=>hmem y (List.mem_of_mem_take hy)) hg
  unfold plS
  split
  ·exact hput none (by intro c h;cases h)
  ·rename_i hne
   have hm:0<(cnI d (plF d zs n) (orN d)[n]).length:=by omega
   obtain ⟨e,he1,he2,he3⟩:=bits_mem.1 (Qcs (Nat.mod_lt (pkF zs n) hm))
   have he1:gI (cnI d (plF d zs n) (orN d)[n]) (pkF zs n % (cnI d (plF d zs n) (orN d)[n]).length)=(e:Int):=he1
   rw[he1,Int.toNat_natCast]
   refine hput (some e) fun c hc=>?_
   cases hc
   refine ⟨he2,?_⟩
   rw[getElem!_pos _ e he2] at he3
   rw[QI he2]
   exact he3
theorem pl_many {d:Dy} (zs:List Int):d.ls.length-TH d≤(plF d zs d.ls.length).length:=by
 obtain ⟨g,hg⟩:=pl_part zs d.ls.length (QG _)
 rw[Q5 (by rw[orN_len];exact QG _)] at hg
 exact part_many hg (orN_len d) fun y hy=>ZI.1 ((orN_perm d).mem_iff.1 hy)
theorem sv_slv (zs:List Int):SlV (.cv (sv zs)) zs:=by
 unfold sv SlV
 split
 ·rename_i h;exact .inr ⟨rfl,h⟩
 ·rename_i h;exact .inl ⟨rfl,h⟩
theorem two_sv {b:Nat} {H:List AObj} {v w:AV} {P Q:List Int} (h:Two b H v w P Q):FrzV anyC H v (.cv (sv P))∧FrzV anyC H w (.cv (sv Q)):=by
 have key:∀ {v:AV} {P:List Int},G9 b H v P→(P=[]→v=.cv .nils)→FrzV anyC H v (.cv (sv P)):=fun {v P} h hn=>by
  unfold sv
  by_cases hz:P=[]
  ·rw[if_pos hz,hn hz]
   exact .c (.c _ trivial)
  ·rw[if_neg hz]
   rcases h.2 with ⟨_,rfl⟩ | ⟨l,_,rfl,hr⟩
   ·exact absurd rfl hz
   ·exact TN (fun _=>trivial) hr
 exact ⟨key h.1 h.2.2.2.1,key h.2.1 h.2.2.2.2⟩
theorem bits_out {n:Nat} {p:Nat→Bool}:outF 0 ((n:Int)-1) (Pl.YS n p)=false:=by
 cases h:outF 0 ((n:Int)-1) (Pl.YS n p) with
 | false=>rfl
 | true =>
  exfalso
  unfold outF at h
  simp only[ZZ] at h
  obtain ⟨z,hz,hb⟩:=h
  obtain ⟨k,rfl,hk,_⟩:=bits_mem.1 hz
  simp at hb
  omega
theorem bits_rise {n:Nat} {p:Nat→Bool}:HT (Pl.YS n p)=true:=by
 rw[BW]
 intro i hi
 have hs:(Pl.YS n p).Pairwise (· < ·):=by
  unfold Pl.YS
  rw[List.pairwise_map]
  exact (List.Pairwise.filter _ List.pairwise_lt_range).imp fun h=>by omega
 have:=List.pairwise_iff_getElem.1 hs i (i+1) (by omega) hi (by omega)
 unfold gI
 rw[QI (by omega),QI hi]
 exact this
theorem bits_has {n k:Nat} {p:Nat→Bool} (h:k<n):(Pl.YS n p).contains (k:Int)=p k:=by
 rw[Q8,XS,bits_mem]
 constructor
 ·rintro ⟨j,hj,_,h2⟩
  have:k=j:=by omega
  rw[this];exact h2
 ·intro h2;exact ⟨k,rfl,h,h2⟩
theorem pro_cov {d:Dy} (he:(dyE d).2.2=0) {C D:Nat→Bool} (hc:∀ i k,i<d.ls.length→k<d.ls.length→canB d i k=true→C i=false→D k=true) :
  proL d (Pl.YS d.ls.length C) (Pl.YS d.ls.length D)=(((d.ls.length-(cnt d.ls.length C+cnt d.ls.length D):Nat):Int),0)∧TH d≤cnt d.ls.length C+cnt d.ls.length D:=by
 constructor
 ·unfold proL
  rw[if_neg (fun h=>h he),bits_out,bits_out,bits_rise,bits_rise,if_neg (by decide),if_neg (by decide),if_neg,QcG,QcG]
  ·congr 1
   omega
  ·intro h
   unfold openB at h
   simp only[ZZ,ZI,QD,Z0] at h
   obtain ⟨i,hi,k,hk,⟨h1,h2⟩,h3⟩:=h
   rw[bits_has hi] at h2
   rw[bits_has hk,hc i k hi hk h1 h2] at h3
   cases h3
 ·obtain ⟨g,hg,hs⟩:=TE (can:=canB d) (n:=d.ls.length) d.ls.length 0 (fun _=>false) (by omega)
  show prF (canB d) d.ls.length d.ls.length 0 (fun _=>false)≤_
  rw[← hs]
  exact AF hg fun l k _ hl hk h _=>by
   cases hb:C l with
   | true=>exact .inl rfl
   | false=>exact .inr (hc l k hl hk h hb)
theorem law12 (d:Dy) (hd:DSz d) (zs:List Int) (hz:∀ i,i<zs.length→0≤gI zs i∧gI zs i≤255) (hzl:zs.length<2 ^ 63) (a b:Nat) (ha:a<65536) (hb:b<65536) :
  PC Tryz.prog 12 [dyV d,.cv (.rsl (zs.map (.int .u8)) zs.length),.agg [.cv (.int .u16 a),.cv (.int .u16 b)]] (.b true):=by
 have h30:=le30s d hd
 have h28:=le28 d hd
 have h48:=le48 d hd
 unfold chaA at h28
 unfold cvS cvBef cvBeh at h30
 refine ⟨ZF (fok12 true) (QC rfl) ?_,rfl⟩
 simp only[ic12,WI,cellsOf,evA,simprocAttr]
 by_cases he:(dyE d).2.2=0
 rotate_left
 ·have hb:((dyE d).2.2 != 0)=true:=by simpa using he
  have hb2:((dyE d).2.2 == 0)=false:=by simpa using he
  rw[if_pos he,if_pos he] at h30
  refine h30.call ?_
  simp only[evA,simprocAttr]
  refine h48.call frz ?_
  simp only[hb,hb2,sv,evA,simprocAttr]
  refine awake.call .nil ?_
  simp only[evA,simprocAttr]
  (repeat' (first | exact HL.nil | exact KS.nil | exact FrzC.nl | exact FrzC.c _ trivial | apply HL.cons | apply KS.cons | apply FrzV.agg | apply FrzV.tup | apply FrzV.c | refine FrzC.sl _ _ _ _ _ _ rfl (QC rfl) ?_))
 have hok:=LO he
 have h12:=hok.l12
 rw[if_neg (fun h=>h he),he] at h28
 rw[if_neg (fun h=>h he),if_neg (fun h=>h he),he] at h30
 rw[he] at h48
 have h50:=le50 d hok zs hz hzl
 have hle:d.ls.length-TH d≤(plF d zs d.ls.length).length:=pl_many zs
 have hcn:=cha_num hok
 unfold chaL at h28
 have hc1:∀ i k,i<d.ls.length→k<d.ls.length→canB d i k=true→bit (covS d:Nat) i=false→L0 (canB d) d.ls.length (covS d:Nat) k=true:=fun i k hi hk h1 h2=>O5.2 ⟨i,hi,h1,h2⟩
 have p1:=(pro_cov he hc1).1
 have b2:cnt d.ls.length (bit (covS d:Nat))+cnt d.ls.length (L0 (canB d) d.ls.length (covS d:Nat))=TH d:=(QbG (can:=canB d) (n:=d.ls.length)).2.1
 rw[b2] at p1
 have q33:=le33 d hd (sv_slv (Pl.YS d.ls.length (bit (covS d:Nat)))) (sv_slv (Pl.YS d.ls.length (L0 (canB d) d.ls.length (covS d:Nat)))) (WJ M7 (by omega)) (WJ M7 (by omega))
 unfold proA at q33
 rw[p1] at q33
 have hc2:∀ i k,i<d.ls.length→k<d.ls.length→canB d i k=true→a.testBit i=false→ndT d a b k d.ls.length=true:=fun i k hi hk h1 h2=>by
  unfold ndT
  rw[WR,ZZ]
  exact .inr ⟨i,ZI.2 hi,by rw[h1,h2];rfl⟩
 obtain ⟨p2,g2⟩:=pro_cov he hc2
 have r33:=le33 d hd (sv_slv (Pl.YS d.ls.length a.testBit)) (sv_slv (Pl.YS d.ls.length fun k=>ndT d a b k d.ls.length)) (WJ M7 (by omega)) (WJ M7 (by omega))
 unfold proA at r33
 rw[p2] at r33
 clear p1 p2 b2 hc1 hc2
 generalize sv (Pl.YS d.ls.length (bit (covS d:Nat)))=bef at *
 generalize sv (Pl.YS d.ls.length (L0 (canB d) d.ls.length (covS d:Nat)))=beh at *
 generalize LQ (nxtL d) d.ls.length=C at *
 generalize (plF d zs d.ls.length).length=pm at *
 generalize TH d=M at *
 have hm:d.ls.length-(cnt d.ls.length a.testBit+cnt d.ls.length fun k=>ndT d a b k d.ls.length)≤d.ls.length-M:=by omega
 generalize d.ls.length-(cnt d.ls.length a.testBit+cnt d.ls.length fun k=>ndT d a b k d.ls.length)=m at *
 generalize hN:d.ls.length-M=n at *
 have hcl:(C.map HG).length=n:=by simpa using hcn
 have d1:decide ((m:Int)≤(pm:Int))=true:=decide_eq_true (by omega)
 have d2:decide ((m:Int)≤(n:Int))=true:=decide_eq_true (by omega)
 refine h30.call ?_
 simp only[evA,simprocAttr]
 refine h48.call frz ?_
 simp only[evA,simprocAttr]
 refine q33.call frz ?_
 simp only[evA,simprocAttr]
 refine h28.call frz ?_
 simp only[hcl,bne_self_eq_false,evA,simprocAttr]
 refine loop12 d hok a b ha hb _ _ _ _ _ _ ?_
 intro v13 v14 v15 v16 v17 v22 v23 v24 v25 J hT
 obtain ⟨f1,f2⟩:=two_sv hT
 simp only[evA,simprocAttr]
 refine r33.call (.cons (by (repeat' (first | exact HL.nil | exact KS.nil | exact FrzC.nl | exact FrzC.c _ trivial | apply HL.cons | apply KS.cons | apply FrzV.agg | apply FrzV.tup | apply FrzV.c | refine FrzC.sl _ _ _ _ _ _ rfl (QC rfl) ?_))) (.cons f1 (.cons f2 .nil))) ?_
 simp only[evA,simprocAttr]
 refine h50.call frz ?_
 simp only[d1,d2,evA,simprocAttr]
 refine awake.call .nil ?_
 simp only[evA,simprocAttr]
 (repeat' (first | exact HL.nil | exact KS.nil | exact FrzC.nl | exact FrzC.c _ trivial | apply HL.cons | apply KS.cons | apply FrzV.agg | apply FrzV.tup | apply FrzV.c | refine FrzC.sl _ _ _ _ _ _ rfl (QC rfl) ?_))
theorem wf_u16 {n:Int} (h:(Lit.int .u16 n).wf=true):0≤n∧n≤65535:=by
 simp only[Lit.wf,QD,decide_eq_true_eq,IntKind.min,IntKind.max,IntKind.bits,IntKind.signed] at h
 simp at h;omega
theorem typed_bits {cs:List CV} (h:Typed Tryz.prog 89 cs):∃ a b:Nat,avOf Tryz.prog 89 cs=.agg [.cv (.int .u16 a),.cv (.int .u16 b)]∧a<65536∧b<65536:=by
 obtain ⟨L,rfl,hl,hl2,hl3⟩:=typed_arr Tryz.underlying89 h
 match L,hl,hl3 with
 | [x,y],_,hl3 =>
  obtain ⟨m,rfl,hm⟩:=QeV Tryz.underlying88 (hl3 x (by simp))
  obtain ⟨n,rfl,hn⟩:=QeV Tryz.underlying88 (hl3 y (by simp))
  have h1:=wf_u16 hm
  have h2:=wf_u16 hn
  obtain ⟨a,rfl⟩:∃ a:Nat,m=(a:Int):=⟨m.toNat,by omega⟩
  obtain ⟨b,rfl⟩:∃ b:Nat,n=(b:Int):=⟨n.toNat,by omega⟩
  exact ⟨a,b,by simp only[avOf,Tryz.underlying89];rfl,by omega,by omega⟩
theorem law_LessonProof (avs:List AV) (h:Args Tryz.prog Tryz.f12.params.toList avs):AC Tryz.prog 12 avs [] fun r _=>r=.b true:=by
 have h:Args Tryz.prog [37,69,89] avs:=h
 obtain ⟨cs1,avs,rfl,h1,h⟩:=args_cons h
 obtain ⟨cs2,avs,rfl,h2,h⟩:=args_cons h
 obtain ⟨cs3,avs,rfl,h3,h⟩:=args_cons h
 cases args_nil h
 obtain ⟨d,e1,hd⟩:=typed_day h1
 obtain ⟨zs,e2,hz,hz2⟩:=typed_u8s h2
 obtain ⟨a,b,e3,ha,hb⟩:=typed_bits h3
 rw[e1,e2,e3]
 exact (law12 d hd zs hz2 hz a b ha hb).call (by (repeat' (first | exact HL.nil | exact KS.nil | exact FrzC.nl | exact FrzC.c _ trivial | apply HL.cons | apply KS.cons | apply FrzV.agg | apply FrzV.tup | apply FrzV.c | refine FrzC.sl _ _ _ _ _ _ rfl (QC rfl) ?_))) rfl
end Go.Proofs.YtgkidpolomhghaaGreatDoor.AM

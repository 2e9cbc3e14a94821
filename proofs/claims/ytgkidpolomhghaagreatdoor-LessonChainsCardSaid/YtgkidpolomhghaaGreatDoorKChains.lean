/- Parts of the proof of Chains. -/
import Derived.Test.YtgkidpolomhghaaGreatDoorProg
import Derived.Test.YtgkidpolomhghaaGreatDoorRows
import Derived.WalkKit
import Derived.ProofKit
import Derived.OpenShut
import Derived.Carry
import Derived.Test.YtgkidpolomhghaaGreatDoorZ27
set_option linter.unusedVariables false
set_option linter.unusedSimpArgs false
set_option linter.unusedSectionVars false
set_option linter.defProp false
namespace Go.Proofs.YtgkidpolomhghaaGreatDoor.AM
set_option linter.unusedSectionVars false
variable [Dr]
open Go
set_option linter.unusedVariables false
set_option linter.unusedSimpArgs false
section
variable {m m2:LM} {X:Nat→Prop} {w:World} {g:Nat→Nat} {k:Nat}
end
variable {P:Program}
theorem AC.same {f:FuncId} {args:List AV} {σ:List AObj} {Q:AV→List AObj→Prop} {R:AV→Prop} (h:AC P f args σ Q) (hq:∀ r σ',Q r σ'→R r∧QR σ.length r=true∧∀ (l:Nat) o,σ[l]? = some o→σ'[l]? = some o):AC P f args σ fun r σ'=>R r∧σ'=σ :=
 h.tidy fun r σ' hQ=>by
  obtain ⟨h1,h2,h3⟩:=hq r σ' hQ
  refine ⟨id,r,σ,⟨fun _ _=>rfl,fun _ _ h _=>h,QG _,?_,h2,fun l o ho=>.inl ⟨(QH.1 ho).1,ho,h3 l o ho⟩⟩,h1,rfl⟩
  exact (PU (g:=id) (k:=σ.length) (fun _ _=>rfl) r h2).symm
end Go.Proofs.YtgkidpolomhghaaGreatDoor.AM
namespace Go.Proofs.YtgkidpolomhghaaGreatDoor.AM
variable [Dr]
open Go
abbrev vs24:List Nat:=[0,1,2,3,4,5,6,7,8,19,24,31,38,49]
def ic24l0:IC:=(.seq (.seq (.region [jv 7,jF 1 1,jl 1,je 2,jw 12 (.bin .lss .int) [.t 0,.t 3]])
 (.cond 12 .skip
 (.exit 2)))
 (.seq (.block 3 (.seq (.dr [[],[],[1],[],[2,3],[4],[0,5],[6,6,0,1,2,3,4,5,6]] [jN 2 1,jF 1 1,jl 1,jv 7,ja 7 2 3,jq (.loadN 7) [.t 4],jk 71 [.t 0,.t 5],jm 8 6])
 (.seq (.region [jv 8,jw 13 (.bin .neq .int) [.t 0,jn 0]])
 (.cond 13 (.seq (.region [jv 7,jv 8,jz 2 3,jm 3 0,jm 4 1])
 .ret)
 .skip))))
 (.region [jv 7,jq (.bin .add .int) [.t 0,jn 1],jm 7 1])))
def ic24l1:IC:=(.seq (.seq (.region [jv 5,jF 0 1,jl 1,je 2,jw 10 (.bin .lss .int) [.t 0,.t 3]])
 (.cond 10 .skip
 (.exit 0)))
 (.seq (.block 1 (.seq (.region [jN 2 1,jv 5,jk 70 [.t 0,.t 1],jm 6 2])
 (.seq (.region [jv 6,jw 11 (.bin .neq .int) [.t 0,jn 0]])
 (.cond 11 (.seq (.region [jv 5,jv 6,jz 2 2,jm 3 0,jm 4 1])
 .ret)
 .skip))))
 (.region [jv 5,jq (.bin .add .int) [.t 0,jn 1],jm 5 1])))
def ic24:IC:=(.seq (.region [jb 1 0,jz 2 0,jz 3 0,jz 4 0])
 (.seq (.seq (.region [jF 0 1,jl 0,je 1,jk 64 [.t 2,jn 1,jn 16],jq .not [.t 3],jt 4,jg 5 false (.fadd 1) [.v 1],ji 5 false 6,jg 5 false (.len false) [.t 7],jg 5 false (.bin .gtr .int) [.t 8,jn 12],jw 9 .pick [.t 5,jB true,.t 9]])
 (.cond 9 (.seq (.region [jz 2 1,jz 3 0,jz 4 3])
 .ret)
 .skip))
 (.seq (.seq (.region [jz 5 0])
 (.block 0 (.loop ic24l1)))
 (.seq (.seq (.region [jz 7 0])
 (.block 2 (.loop ic24l0)))
 (.seq (.region [jz 2 0,jz 3 0,jz 4 0])
 .ret)))))
abbrev rs24:List RC:=[(.v 2),(.v 3),(.v 4)]
theorem fok24 (p:Bool):FnOk Tryz.prog 24 ⟨ic24,vs24,52,rs24,p⟩:=.mk2 Tryz.func24 (by kernel_rfl) (by kernel_rfl) (by kernel_rfl) (by kernel_rfl) (by kernel_rfl)
abbrev vs26:List Nat:=[0,1,2,3,6,7,8,9,17,26,32,38]
def ic26l0:IC:=(.seq (.seq (.region [jv 7,jv 5,je 1,jw 10 (.bin .lss .int) [.t 0,.t 2]])
 (.cond 10 .skip
 (.exit 2)))
 (.seq (.block 3 (.seq (.region [jN 2 1,jv 6,jv 7,jd 11 51 [.t 0,.t 1,.t 2]])
 (.cond 11 (.region [jv 5,jv 6,jv 5,jv 6,ja 1 2 3,jl 4,jv 7,jq (.bslice 1 1 [(.cv (.int .i64 0))] [(0,1)]) [.t 6],jq (.append 1 8) [.t 5,.t 7],ja 1 0 1,jq (.store 1) [.t 9,.t 8]])
 .skip)))
 (.region [jv 7,jq (.bin .add .int) [.t 0,jn 1],jm 7 1])))
def ic26l1:IC:=(.seq (.seq (.region [jv 6,jv 5,je 1,jw 9 (.bin .lss .int) [.t 0,.t 2]])
 (.cond 9 .skip
 (.exit 0)))
 (.seq (.block 1 (.seq (.region [jz 7 0])
 (.block 2 (.loop ic26l0))))
 (.region [jv 6,jq (.bin .add .int) [.t 0,jn 1],jm 6 1])))
def ic26:IC:=(.seq (.region [jb 1 0,jw 2 .mv [jS],jz 3 0])
 (.seq (.region [jN 2 1,jk 24 [.t 0],jt 1,jx 0 2,jx 1 2,jx 2 2,jt 3,jt 4,jm 4 5])
 (.seq (.seq (.region [jv 4,jw 8 (.bin .neq .int) [.t 0,jn 0]])
 (.cond 8 (.seq (.region [jv 4,jw 2 .mv [jS],jm 3 0])
 .ret)
 .skip))
 (.seq (.region [jF 1 1,jl 0,je 1,jq (.mkslice 1 24 [(.cv .nils)]) [.t 2,.t 2],jm 5 3])
 (.seq (.seq (.region [jz 6 0])
 (.block 0 (.loop ic26l1)))
 (.seq (.region [jv 5,jm 2 0,jz 3 0])
 .ret))))))
abbrev rs26:List RC:=[(.v 2),(.v 3)]
theorem fok26 (p:Bool):FnOk Tryz.prog 26 ⟨ic26,vs26,50,rs26,p⟩:=.mk2 Tryz.func26 (by kernel_rfl) (by kernel_rfl) (by kernel_rfl) (by kernel_rfl) (by kernel_rfl)
abbrev vs29:List Nat:=[0,1,2,3,6,7,8,9,10,11,12,13,14,22,32,41,48,58,69,81]
def ic29l0:IC:=(.seq (.seq (.region [jv 6,jv 10,ja 1 0 1,jl 2,jt 3,jh 4 true 12,jg 4 true (.bin .geq .int) [.t 5,jn 0],jw 18 .pick [.t 4,.t 6,jB false]])
 (.cond 18 .skip
 (.exit 6)))
 (.seq (.block 7 (.region [jv 11,jv 12,jq (.bslice 1 1 [(.cv (.int .i64 0))] [(0,1)]) [.t 1],jq (.append 1 8) [.t 0,.t 2],jm 11 3]))
 (.region [jv 5,jv 12,ja 1 0 1,jl 2,jm 12 3])))
def ic29l1:IC:=(.seq (.seq (.region [jv 10,jv 5,je 1,jw 17 (.bin .lss .int) [.t 0,.t 2]])
 (.cond 17 .skip
 (.exit 4)))
 (.seq (.block 5 (.seq (.region [jw 11 .mv [jS]])
 (.seq (.seq (.region [jv 10,jm 12 0])
 (.block 6 (.loop ic29l0)))
 (.seq (.region [jv 6,jv 10,ja 1 0 1,jw 19 .load1 [.t 2]])
 (.cond 19 (.region [jv 9,jv 11,jq (.bslice 1 1 [(.cv .nils)] [(0,1)]) [.t 1],jq (.append 1 24) [.t 0,.t 2],jm 9 3])
 .skip)))))
 (.region [jv 10,jq (.bin .add .int) [.t 0,jn 1],jm 10 1])))
def ic29l2:IC:=(.seq (.seq (.region [jv 8,jv 5,je 1,jw 15 (.bin .lss .int) [.t 0,.t 2]])
 (.cond 15 .skip
 (.exit 2)))
 (.seq (.block 3 (.seq (.region [jv 5,jv 8,ja 1 0 1,jl 2,jw 16 (.bin .geq .int) [.t 3,jn 0]])
 (.cond 16 (.region [jv 6,jv 5,jv 8,ja 1 1 2,jl 3,ja 1 0 4,jq (.store 1) [.t 5,jB false]])
 .skip)))
 (.region [jv 8,jq (.bin .add .int) [.t 0,jn 1],jm 8 1])))
def ic29l3:IC:=(.seq (.seq (.region [jv 7,jv 5,je 1,jw 14 (.bin .lss .int) [.t 0,.t 2]])
 (.cond 14 .skip
 (.exit 0)))
 (.seq (.block 1 (.region [jv 6,jv 7,ja 1 0 1,jq (.store 1) [.t 2,jB true]]))
 (.region [jv 7,jq (.bin .add .int) [.t 0,jn 1],jm 7 1])))
def ic29:IC:=(.seq (.region [jb 1 0,jw 2 .mv [jS],jz 3 0])
 (.seq (.region [jN 2 1,jk 24 [.t 0],jt 1,jx 0 2,jx 1 2,jx 2 2,jt 3,jt 4,jm 4 5])
 (.seq (.seq (.region [jv 4,jw 13 (.bin .neq .int) [.t 0,jn 0]])
 (.cond 13 (.seq (.region [jv 4,jw 2 .mv [jS],jm 3 0])
 .ret)
 .skip))
 (.seq (.region [jN 2 1,jk 77 [.t 0],jm 5 1])
 (.seq (.region [jv 5,je 0,jq (.mkslice 1 1 [(.cv (.bool false))]) [.t 1,.t 1],jm 6 2])
 (.seq (.seq (.region [jz 7 0])
 (.block 0 (.loop ic29l3)))
 (.seq (.seq (.region [jz 8 0])
 (.block 2 (.loop ic29l2)))
 (.seq (.region [jw 9 .mv [jS]])
 (.seq (.seq (.region [jz 10 0])
 (.block 4 (.loop ic29l1)))
 (.seq (.region [jv 9,jm 2 0,jz 3 0])
 .ret))))))))))
abbrev rs29:List RC:=[(.v 2),(.v 3)]
theorem fok29 (p:Bool):FnOk Tryz.prog 29 ⟨ic29,vs29,87,rs29,p⟩:=.mk2 Tryz.func29 (by kernel_rfl) (by kernel_rfl) (by kernel_rfl) (by kernel_rfl) (by kernel_rfl)
abbrev vs51:List Nat:=[0,1,2,3,6,7,8]
def ic51:IC:=(.seq (.region [jb 3 0,jw 4 .mv [jB false]])
 (.seq (.dr [[],[0],[],[1,2],[3],[],[5],[],[6,7],[8],[],[],[10,4,0,1,2,3,4,10,11],[11,9,12,0,1,2,3,4,5,6,7,8,9,10,11,12]] [jF 1 3,jl 0,jv 1,ja 7 1 2,jq (.loadN 7) [.t 3],jF 1 3,jl 5,jv 2,ja 7 6 7,jq (.loadN 7) [.t 8],jw 5 (.alloc [(.cv (.int .i64 0)),(.cv (.int .i64 0)),(.cv (.int .i64 0)),(.cv (.int .i64 0)),(.cv (.int .i64 0)),(.cv (.int .i64 0)),(.cv (.int .i64 0))]) [],jw 6 (.alloc [(.cv (.int .i64 0)),(.cv (.int .i64 0)),(.cv (.int .i64 0)),(.cv (.int .i64 0)),(.cv (.int .i64 0)),(.cv (.int .i64 0)),(.cv (.int .i64 0))]) [],jq (.store 7) [.v 5,.t 4],jq (.store 7) [.v 6,.t 9]])
 (.seq (.dr [[],[0],[],[2],[],[4],[3,5],[6],[],[8],[7,9],[10],[1,11],[],[13],[12,14],[15,0,1,2,3,4,5,6,7,8,9,10,11,12,13,14,15]] [jF 4 5,jl 0,jF 0 3,jl 2,jF 6 5,jl 4,ja 1 3 5,jl 6,jF 5 6,jl 8,ja 1 7 9,jl 10,jq (.bin .add .int) [.t 1,.t 11],jF 3 6,jl 13,jq (.bin .leq .int) [.t 12,.t 14],jm 4 15])
 .ret)))
abbrev rs51:List RC:=[(.v 4)]
theorem fok51 (p:Bool):FnOk Tryz.prog 51 ⟨ic51,vs51,35,rs51,p⟩:=.mk2 Tryz.func51 (by kernel_rfl) (by kernel_rfl) (by kernel_rfl) (by kernel_rfl) (by kernel_rfl)
abbrev vs123:List Nat:=[0,1,2,3,4,8,9,10,15,23,41,53]
def ic123l0:IC:=(.seq (.seq (.region [jv 7,jF 1 4,jl 1,je 2,jw 10 (.bin .lss .int) [.t 0,.t 3]])
 (.cond 10 .skip
 (.exit 0)))
 (.seq (.block 1 (.seq (.region [jN 2 4,jv 2,jv 7,jk 51 [.t 0,.t 1,.t 2],jt 3,jh 4 true 3,jh 4 true 7,jf 4 true 43 [.t 5,.t 6],jg 4 true .not [.t 7],jw 11 .pick [.t 4,.t 8,jB false]])
 (.cond 11 (.dr [[],[],[],[],[3],[],[],[6],[5,7],[1,2,4,8,7],[9],[0,10],[11,9,0,1,2,3,4,5,6,7,8,9,10,11]] [jv 6,jN 2 4,jv 1,jv 2,jq (.bin .add .int) [.t 3,jn 1],jv 3,jv 7,jk 83 [.t 6],jq (.bin .add .int) [.t 5,.t 7],jk 123 [.t 1,.t 2,.t 4,.t 8],jq (.bin .add .int) [jn 1,.t 9],jq .max2 [.t 0,.t 10],jm 6 11])
 .skip)))
 (.region [jv 7,jq (.bin .add .int) [.t 0,jn 1],jm 7 1])))
def ic123:IC:=(.seq (.region [jb 4 0,jz 5 0])
 (.seq (.seq (.region [jv 2,jF 1 4,jl 1,je 2,jw 8 (.bin .eql .int) [.t 0,.t 3]])
 (.cond 8 (.seq (.region [jz 5 0])
 .ret)
 .skip))
 (.seq (.seq (.region [jv 1,jv 2,ja 1 0 1,jl 2,jv 3,ja 1 3 4,jl 5,jw 9 (.bin .geq .int) [.t 6,jn 0]])
 (.cond 9 (.seq (.region [jv 1,jv 2,ja 1 0 1,jl 2,jv 3,ja 1 3 4,jl 5,jm 5 6])
 .ret)
 .skip))
 (.seq (.region [jN 2 4,jv 1,jv 2,jq (.bin .add .int) [.t 2,jn 1],jv 3,jk 123 [.t 0,.t 1,.t 3,.t 4],jm 6 5])
 (.seq (.seq (.region [jz 7 0])
 (.block 0 (.loop ic123l0)))
 (.seq (.region [jv 1,jv 2,ja 1 0 1,jl 2,jv 3,jv 6,ja 1 3 4,jq (.store 1) [.t 6,.t 5]])
 (.seq (.region [jv 6,jm 5 0])
 .ret)))))))
abbrev rs123:List RC:=[(.v 5)]
theorem fok123 (p:Bool):FnOk Tryz.prog 123 ⟨ic123,vs123,74,rs123,p⟩:=.mk2 Tryz.func123 (by kernel_rfl) (by kernel_rfl) (by kernel_rfl) (by kernel_rfl) (by kernel_rfl)
abbrev vs64:List Nat:=[0,1,2,6]
def ic64:IC:=(.seq (.region [jw 3 .mv [jB false]])
 (.seq (.region [jv 0,jv 1,jq (.bin .geq .int) [.t 0,.t 1],jt 2,jh 3 true 0,jh 3 true 2,jg 3 true (.bin .leq .int) [.t 4,.t 5],jq .pick [.t 3,.t 6,jB false],jm 3 7])
 .ret))
abbrev rs64:List RC:=[(.v 3)]
theorem fok64 (p:Bool):FnOk Tryz.prog 64 ⟨ic64,vs64,15,rs64,p⟩:=.mk2 Tryz.func64 (by kernel_rfl) (by kernel_rfl) (by kernel_rfl) (by kernel_rfl) (by kernel_rfl)
abbrev vs70:List Nat:=[0,1,2,4,5,6,17,21,29,34]
def ic70l0:IC:=(.seq (.seq (.region [jv 5,jv 4,je 1,jw 7 (.bin .lss .int) [.t 0,.t 2]])
 (.cond 7 .skip
 (.exit 0)))
 (.seq (.block 1 (.seq (.region [jv 4,jv 5,ja 1 0 1,jl 2,jk 64 [.t 3,jn 0,jn 120],jw 8 .not [.t 4]])
 (.cond 8 (.seq (.region [jz 3 7])
 .ret)
 .skip)))
 (.region [jv 5,jq (.bin .add .int) [.t 0,jn 1],jm 5 1])))
def ic70:IC:=(.seq (.region [jb 2 0,jz 3 0])
 (.seq (.region [jF 0 2,jl 0,jv 1,ja 1 1 2,jl 3,jm 4 4])
 (.seq (.seq (.region [jv 4,je 0,jF 0 2,jl 2,je 3,jw 6 (.bin .neq .int) [.t 1,.t 4]])
 (.cond 6 (.seq (.region [jz 3 3])
 .ret)
 .skip))
 (.seq (.seq (.region [jz 5 0])
 (.block 0 (.loop ic70l0)))
 (.seq (.seq (.region [jv 4,jv 1,ja 1 0 1,jl 2,jw 9 (.bin .neq .int) [.t 3,jn 0]])
 (.cond 9 (.seq (.region [jz 3 2])
 .ret)
 .skip))
 (.seq (.region [jz 3 0])
 .ret))))))
abbrev rs70:List RC:=[(.v 3)]
theorem fok70 (p:Bool):FnOk Tryz.prog 70 ⟨ic70,vs70,35,rs70,p⟩:=.mk2 Tryz.func70 (by kernel_rfl) (by kernel_rfl) (by kernel_rfl) (by kernel_rfl) (by kernel_rfl)
abbrev vs71:List Nat:=[0,1,2,3,4,5,6,23,25,33,38,56]
def ic71l0:IC:=(.seq (.seq (.region [jv 6,jw 8 (.bin .lss .int) [.t 0,jn 3]])
 (.cond 8 .skip
 (.exit 0)))
 (.seq (.block 1 (.seq (.region [jv 5,jv 6,ja 1 0 1,jl 2,jk 64 [.t 3,jn 0,jn 7],jw 9 .not [.t 4]])
 (.cond 9 (.seq (.region [jz 4 7])
 .ret)
 .skip)))
 (.region [jv 6,jq (.bin .add .int) [.t 0,jn 1],jm 6 1])))
def ic71:IC:=(.seq (.region [jb 2 0,jb 3 1,jz 4 0])
 (.seq (.region [jF 0 3,jl 0,jF 1 3,jl 2,jF 2 3,jl 4,jq (.bslice 1 3 [(.cv (.int .i64 0)),(.cv (.int .i64 0)),(.cv (.int .i64 0))] [(0,1),(1,1),(2,1)]) [.t 1,.t 3,.t 5],jm 5 6])
 (.seq (.seq (.region [jF 3 3,jl 0,jk 64 [.t 1,jn 0,jn 1440],jq .not [.t 2],jt 3,jg 4 false (.fadd 4) [.v 3],ji 4 false 5,jf 4 false 64 [.t 6,jn 0,jn 1440],jg 4 false .not [.t 7],jw 7 .pick [.t 4,jB true,.t 8]])
 (.cond 7 (.seq (.region [jz 4 7])
 .ret)
 .skip))
 (.seq (.seq (.region [jz 6 0])
 (.block 0 (.loop ic71l0)))
 (.seq (.seq (.region [jF 3 3,jl 0,jF 4 3,jl 2,jw 10 (.bin .geq .int) [.t 1,.t 3]])
 (.cond 10 (.seq (.region [jz 4 2])
 .ret)
 .skip))
 (.seq (.seq (.region [jF 5 3,jl 0,jF 0 2,jl 2,je 3,jq (.bin .sub .int) [.t 4,jn 1],jk 64 [.t 1,jn 0,.t 5],jq .not [.t 6],jt 7,jg 8 false (.fadd 6) [.v 3],ji 8 false 9,jg 8 false (.fadd 0) [.v 2],ji 8 false 11,jg 8 false (.len false) [.t 12],jg 8 false (.bin .sub .int) [.t 13,jn 1],jf 8 false 64 [.t 10,jn 0,.t 14],jg 8 false .not [.t 15],jw 11 .pick [.t 8,jB true,.t 16]])
 (.cond 11 (.seq (.region [jz 4 4])
 .ret)
 .skip))
 (.seq (.region [jz 4 0])
 .ret)))))))
abbrev rs71:List RC:=[(.v 4)]
theorem fok71 (p:Bool):FnOk Tryz.prog 71 ⟨ic71,vs71,57,rs71,p⟩:=.mk2 Tryz.func71 (by kernel_rfl) (by kernel_rfl) (by kernel_rfl) (by kernel_rfl) (by kernel_rfl)
abbrev vs77:List Nat:=[0,1,2,3,4,5,6,7,8,9,10,11,12,20,35,46,57,83,90]
def ic77l0:IC:=(.seq (.seq (.region [jv 12,jw 16 (.bin .geq .int) [.t 0,jn 0]])
 (.cond 16 .skip
 (.exit 6)))
 (.seq (.block 7 (.seq (.dr [[],[],[],[0,1,2],[3,3],[4],[4],[5,6,4,4],[7,4],[4,8],[9,7],[10],[10],[10],[13,10],[10],[10],[16,10,10],[15,17,10],[11,12,14,18,17,10],[19,10],[10],[20,21,10],[10,22]] [jN 2 1,jv 9,jv 12,jk 51 [.t 0,.t 1,.t 2],jt 3,jh 4 true 8,jh 4 true 12,jf 4 true 43 [.t 5,.t 6],jg 4 true .not [.t 7],jq .pick [.t 4,.t 8,jB false],jt 9,jg 10 true (.loadN 2) [.v 1],jh 10 true 4,jh 10 true 9,jg 10 true (.bin .add .int) [.t 13,jn 1],jh 10 true 8,jh 10 true 12,jf 10 true 83 [.t 16],jg 10 true (.bin .add .int) [.t 15,.t 17],jf 10 true 123 [.t 11,.t 12,.t 14,.t 18],jg 10 true (.bin .add .int) [jn 1,.t 19],jh 10 true 10,jg 10 true (.bin .eql .int) [.t 20,.t 21],jw 17 .pick [.t 10,.t 22,jB false]])
 (.cond 17 (.region [jv 12,jm 11 0])
 .skip)))
 (.region [jv 12,jq (.bin .sub .int) [.t 0,jn 1],jm 12 1])))
def ic77l1:IC:=(.seq (.seq (.region [jv 9,jv 3,jw 15 (.bin .lss .int) [.t 0,.t 1]])
 (.cond 15 .skip
 (.exit 4)))
 (.seq (.block 5 (.seq (.region [jN 2 1,jv 4,jv 9,jv 8,jk 123 [.t 0,.t 1,.t 2,.t 3],jm 10 4,jz 11 (-1)])
 (.seq (.seq (.region [jv 3,jq (.bin .sub .int) [.t 0,jn 1],jm 12 1])
 (.block 6 (.loop ic77l0)))
 (.seq (.region [jv 7,jv 11,jq (.bslice 1 1 [(.cv (.int .i64 0))] [(0,1)]) [.t 1],jq (.append 1 8) [.t 0,.t 2],jm 7 3])
 (.seq (.region [jv 11,jw 18 (.bin .geq .int) [.t 0,jn 0]])
 (.cond 18 (.region [jv 8,jv 11,jk 83 [.t 1],jq (.bin .add .int) [.t 0,.t 2],jm 8 3])
 .skip))))))
 (.region [jv 9,jq (.bin .add .int) [.t 0,jn 1],jm 9 1])))
def ic77l2:IC:=(.seq (.seq (.region [jv 6,jv 4,jv 5,ja 1 1 2,jl 3,je 4,jw 14 (.bin .lss .int) [.t 0,.t 5]])
 (.cond 14 .skip
 (.exit 2)))
 (.seq (.block 3 (.region [jv 4,jv 5,ja 1 0 1,jl 2,jv 6,ja 1 3 4,jq (.store 1) [.t 5,jn (-1)]]))
 (.region [jv 6,jq (.bin .add .int) [.t 0,jn 1],jm 6 1])))
def ic77l3:IC:=(.seq (.seq (.region [jv 5,jv 3,jw 13 (.bin .lss .int) [.t 0,.t 1]])
 (.cond 13 .skip
 (.exit 0)))
 (.seq (.block 1 (.seq (.region [jv 4,jv 5,jv 3,jk 83 [.t 2],jq (.mkslice 1 8 [(.cv (.int .i64 0))]) [.t 3,.t 3],ja 1 0 1,jq (.store 1) [.t 5,.t 4]])
 (.seq (.region [jz 6 0])
 (.block 2 (.loop ic77l2)))))
 (.region [jv 5,jq (.bin .add .int) [.t 0,jn 1],jm 5 1])))
def ic77:IC:=(.seq (.region [jb 1 0,jw 2 .mv [jS]])
 (.seq (.region [jF 1 1,jl 0,je 1,jm 3 2])
 (.seq (.region [jv 3,jq (.mkslice 1 24 [(.cv .nils)]) [.t 0,.t 0],jm 4 1])
 (.seq (.seq (.region [jz 5 0])
 (.block 0 (.loop ic77l3)))
 (.seq (.region [jw 7 .mv [jS]])
 (.seq (.region [jz 8 0])
 (.seq (.seq (.region [jz 9 0])
 (.block 4 (.loop ic77l1)))
 (.seq (.region [jv 7,jm 2 0])
 .ret))))))))
abbrev rs77:List RC:=[(.v 2)]
theorem fok77 (p:Bool):FnOk Tryz.prog 77 ⟨ic77,vs77,96,rs77,p⟩:=.mk2 Tryz.func77 (by kernel_rfl) (by kernel_rfl) (by kernel_rfl) (by kernel_rfl) (by kernel_rfl)
theorem G9.store {b:Nat} {σ:List AObj} {v:AV} {zs:List Int} (h:G9 b σ v zs) {l:Nat} (hl:l<b) (x:AObj):G9 b (σ.set l x) v zs:=by
 refine ⟨by simpa using h.1,h.2.imp id fun ⟨l',h1,h2,h3⟩=>⟨l',h1,h2,?_⟩⟩
 rw[QX (by omega)];exact h3
theorem accFrom_append {b:Nat} {σ:List AObj} {v:AV} {zs:List Int} (z:Int) (h:G9 b σ v zs) (hl:zs.length<2 ^ 40) :
  ∃ (v':AV) (σ':List AObj),ZX 1 8 [v,.sl σ.length 0 1 1] (σ++[AObj.cells [.i z]])=some (v',σ')∧G9 b σ' v' (zs++[z])∧∀ l,l<b→rowOf σ' l=rowOf σ l:=by
 have hsrc:Z9 (σ++[AObj.cells [.i z]]) 1 (.sl σ.length 0 1 1)=some [.i z]:=by simp[Z9,rowOf]
 have low:∀ l,l<b→rowOf (σ++[AObj.cells [.i z]]) l=rowOf σ l:=fun l hl=>by
  unfold rowOf;rw[QE (by have:=h.1;omega)]
 have hb:=h.1
 rcases h.2 with ⟨rfl,rfl⟩ | ⟨l,hbl,rfl,hr⟩
 ·refine ⟨.sl (σ++[AObj.cells [.i z]]).length 0 1 1,(σ++[AObj.cells [.i z]])++[AObj.cells [.i z]],?_,⟨by simp;omega,.inr ⟨(σ++[AObj.cells [.i z]]).length,by simp;omega,rfl,?_⟩⟩,fun l hl=>?_⟩
  ·simp only[ZX,hsrc,lenF,Option.bind_some]
   rfl
  ·rw[XH];rfl
  ·rw[← low l hl];unfold rowOf;rw[QE (by simp;omega)]
 ·have hr':=FU hr (AObj.cells [.i z])
  refine ⟨.sl (σ++[AObj.cells [.i z]]).length 0 (zs.length+1) 1,(σ++[AObj.cells [.i z]]).set l AObj.dead++[AObj.cells (zs.map AV.i++[.i z])],?_,⟨by simp;omega,.inr ⟨(σ++[AObj.cells [.i z]]).length,by simp;omega,by simp,?_⟩⟩,fun l' hl'=>?_⟩
  ·simp only[ZX,hr',hsrc,lenF,Option.bind_some]
   have hp:(2:Nat) ^ 40=1099511627776:=by decide
   have hp2:(2:Nat) ^ 44=17592186044416:=by decide
   have hc:(True∧zs.length*1≤(zs.map AV.i).length∧1*1=[AV.i z].length∧(zs.length+1)*8≤2 ^ 44∧zs.length+1≤2 ^ 44∧[AV.i z].all AV.isSc=true):=by
    refine ⟨trivial,by simp,rfl,by omega,by omega,rfl⟩
   rw[if_pos hc,W3,Q5 (by simp)]
  ·have:(σ++[AObj.cells [.i z]]).length=((σ++[AObj.cells [.i z]]).set l AObj.dead).length:=by simp
   rw[this,XH];simp
  ·rw[← low l' hl']
   have:rowOf ((σ++[AObj.cells [.i z]]).set l AObj.dead) l'=rowOf (σ++[AObj.cells [.i z]]) l':=QX (by omega) _
   rw[← this];unfold rowOf;rw[QE (by simp;omega)]
theorem kFor_turn {fx:Fx} {c:Prop} {S:St→Prop} {Q:Exit→St→Prop} {vals vals2:List AV} {heap:List AObj} (τ τ2 J:List AObj) (hh:heap=τ++J) (hc:c) (h0:fx.n0=0) (hlen:τ2.length=τ.length)
  (hv:D2 τ.length (List.replicate τ.length .dead++J) vals vals2)
  (ho:∀ (l:Nat) (o2:AObj),τ2[l]? = some o2→∃ o,τ[l]? = some o∧o.live∧((o2=o∧Z3 τ.length o=true)∨∃ as_ bs,o=.cells as_∧o2=.cells bs∧D2 τ.length (List.replicate τ.length .dead++J) as_ bs))
  (h:S ⟨vals2,τ2⟩):kFor fx c S Q .normal ⟨vals,heap⟩:=by
 subst hh
 exact AS hc (Weak.turn h0 hlen hv ho) h
end Go.Proofs.YtgkidpolomhghaaGreatDoor.AM
namespace Go.Proofs.YtgkidpolomhghaaGreatDoor.AM
variable [Dr]
open Go
variable {P:Program} {fx:Fx} {s:St} {Q:Exit→St→Prop} {f:FuncId}
theorem WB.later {m:LM} {X:Nat→Prop} {en:En} {w:World} {c:Code} {s':St} {m':LM} {w':World} {ac':Act} (h:WB f P fx c s' Q) (hr:rok fx m) (hs':SRel fx m' X en s' ac' w') (hst:Step fx.n0 m X w m' w') :
  InF f (fen m fx.r) 0 P c (Lift fx m X en w Q) ac' w':=by
 rw[← EQ hr hst]
 exact InF.mono (h m' X en ac' w' hs' (EH hr hst)) fun e ac2 w2 ⟨s2,m2,h1,h2,h3⟩=>⟨s2,m2,h1,h2,hst.trans h3⟩
end Go.Proofs.YtgkidpolomhghaaGreatDoor.AM
namespace Go.Proofs.YtgkidpolomhghaaGreatDoor.Pl
section
variable (can:Nat→Nat→Bool) (n:Nat)
variable {can n}
end
section
variable (nx:List Int)
variable {nx} {can:Nat→Nat→Bool} {rk:Nat→Int} {n:Nat}
theorem LG (h:nx.length=n) {i:Nat}:V3 nx i=false↔∃ p,p<n∧gI nx p=(i:Int):=by
 unfold V3
 rw[Bool.not_eq_false',XS]
 constructor
 ·intro hm
  obtain ⟨p,hp,e⟩:=List.getElem_of_mem hm
  exact ⟨p,by omega,by simp[gI,hp,e]⟩
 ·rintro ⟨p,hp,e⟩
  have:nx[p]'(by omega)=(i:Int):=by simpa[gI,show p<nx.length by omega] using e
  rw[← this];exact Q2 _
theorem ch_mem (h:NxW can rk n nx):∀ (f k:Nat),k<n→∀ x∈chF nx f k,x<n
 | 0,_,_,x,hx=>by cases hx
 | f+1,k,hk,x,hx=>by
  simp only[chF] at hx
  rcases h.ok k hk with h3 | ⟨j,h3,h4,h5⟩
  ·rw[if_pos (by omega)] at hx
   simp at hx;omega
  ·have e:(gI nx k).toNat=j:=by omega
   rw[if_neg (by omega),e] at hx
   rcases ZD.1 hx with rfl | hx
   ·exact hk
   ·exact ch_mem h f j h4 x hx
theorem ch_can (h:NxW can rk n nx):∀ (f k:Nat),k<n→∀ j,j+1<(chF nx f k).length→can ((chF nx f k)[j]?.getD 0) ((chF nx f k)[j+1]?.getD 0)=true
 | 0,_,_,j,hj=>by simp[chF] at hj
 | f+1,k,hk,j,hj=>by
  simp only[chF] at hj ⊢
  rcases h.ok k hk with h3 | ⟨x,h3,h4,h5⟩
  ·rw[if_pos (by omega)] at hj
   simp at hj
  ·have e:(gI nx k).toNat=x:=by omega
   rw[if_neg (by omega),e] at hj ⊢
   cases j with
   | zero =>
    cases f with
    | zero=>simp[chF] at hj
    | succ f=>simp[chF];exact h5
   | succ j =>
    have:=ch_can h f x h4 j (by simpa using hj)
    simpa using this
theorem QeC (h:NxW can rk n nx) {k:Nat} (hk:V3 nx k=true):∀ (f i:Nat),i<n→(chF nx (f+1) i).count k=if i=k then 1 else 0
 | f,i,hi=>by
  have hne:∀ p,p<n→gI nx p≠(k:Int):=fun p hp e=>by
   have:=(LG h.len).2 ⟨p,hp,e⟩
   rw[hk] at this;cases this
  simp only[chF,List.count_cons]
  rcases h.ok i hi with h3 | ⟨x,h3,h4,h5⟩
  ·rw[if_pos (by omega)]
   simp
  ·have e:(gI nx i).toNat=x:=by omega
   rw[if_neg (by omega),e]
   have hxk:x≠k:=fun e=>hne i hi (by omega)
   have:(chF nx f x).count k=0:=by
    cases f with
    | zero=>simp[chF]
    | succ f=>rw[QeC h hk f x h4,if_neg hxk]
   rw[this]
   simp
termination_by f=>f
theorem QeB (h:NxW can rk n nx) {p k:Nat} (hp:p<n) (hpk:gI nx p=(k:Int)):∀ (f i:Nat),i<n→muK rk n i<f→(chF nx f i).count k=(if i=k then 1 else 0)+(chF nx f i).count p
 | 0,_,_,h1=>by omega
 | f+1,i,hi,h1=>by
  simp only[chF,List.count_cons]
  rcases h.ok i hi with h3 | ⟨x,h3,h4,h5⟩
  ·rw[if_pos (by omega)]
   have:i≠p:=fun e=>by subst e;omega
   simp[this]
  ·have e:(gI nx i).toNat=x:=by omega
   have hm:=Qd6 (rk:=rk) h4 (h.up i x hi h4 h5)
   rw[if_neg (by omega),e,QeB h hp hpk f x h4 (by omega)]
   have:(x=k)↔(i=p):=⟨fun e=>h.inj i p hi hp (by omega) (by omega),fun e=>by subst e;omega⟩
   simp only[this,beq_iff_eq]
   omega
def ME (cs:List (List Nat)) (k:Nat):Nat:=(cs.map fun c=>c.count k).sum
theorem QbV {α:Type} (l:List α) (f g:α→Nat):(l.map fun x=>f x+g x).sum=(l.map f).sum+(l.map g).sum:=by
 induction l with
 | nil=>rfl
 | cons a l ih=>simp only[Q0,List.sum_cons,ih];omega
theorem LW {α:Type} {l:List α} {f g:α→Nat} (h:∀ x∈l,f x=g x):(l.map f).sum=(l.map g).sum:=by
 rw[JI h]
theorem LX {l:List Nat} (hn:l.Nodup) (k:Nat):(l.map fun x=>if x=k then 1 else 0).sum=if k∈l then 1 else 0:=by
 induction l with
 | nil=>rfl
 | cons a l ih =>
  obtain ⟨h1,h2⟩:=WQ.1 hn
  simp only[Q0,List.sum_cons,ih h2,ZD]
  by_cases e:a=k
  ·subst e;simp[h1]
  ·have:¬ k=a:=fun x=>e x.symm
   simp[e,this]
theorem SU (h:NxW can rk n nx):∀ (b k:Nat),k<n→n-muK rk n k<b→ME (LQ nx n) k=1
 | 0,_,_,h1=>by omega
 | b + 1,k,hk,h1=>by
  have hnd:(DD nx n).Nodup:=List.nodup_range.filter _
  have hmem:∀ i∈DD nx n,i<n:=fun i hi=>ZI.1 (YB.1 hi).1
  have tot:∀ k,ME (LQ nx n) k=((DD nx n).map fun i=>(chF nx (n+1) i).count k).sum:=fun k=>by
   unfold ME LQ
   rw[XW];rfl
  rw[tot]
  cases hh:V3 nx k with
  | true =>
   rw[LW (g:=fun i=>if i=k then 1 else 0) fun i hi=>QeC h hh n i (hmem i hi),LX hnd,if_pos (show k∈DD nx n from YB.2 ⟨ZI.2 hk,hh⟩)]
  | false =>
   obtain ⟨p,hp,hpk⟩:=(LG h.len).1 hh
   have hlt:rk p<rk k:=by
    rcases h.ok p hp with h3 | ⟨x,h3,h4,h5⟩
    ·omega
    ·have:x=k:=by omega
     subst this;exact h.up p x hp h4 h5
   have hm:=Qd6 (rk:=rk) hk hlt
   have hle:muK rk n p≤n:=mu_le
   have ih:=SU h b p hp (by omega)
   rw[tot] at ih
   rw[LW (g:=fun i=>(if i=k then 1 else 0)+(chF nx (n+1) i).count p) fun i hi=>QeB h hp hpk (n+1) i (hmem i hi) (by have:muK rk n i≤n:=mu_le;omega)]
   rw[QbV,ih,LX hnd,if_neg]
   intro hc
   have:=(YB.1 hc).2
   rw[hh] at this;cases this
theorem times_all (h:NxW can rk n nx) {k:Nat} (hk:k<n):ME (LQ nx n) k=1:=SU h (n-muK rk n k+1) k hk (by omega)
end
section
variable (can:Nat→Nat→Bool) (n:Nat)
variable {can n}
end
end Go.Proofs.YtgkidpolomhghaaGreatDoor.Pl
namespace Go.Proofs.YtgkidpolomhghaaGreatDoor.AM
variable [Dr]
open Go Pl
theorem le64 (n lo hi:Int):PC Tryz.prog 64 [.i n,.i lo,.i hi] (.b (inB n lo hi)):=by
 refine ⟨ZF (fok64 true) (QC rfl) ?_,rfl⟩
 unfold inB
 by_cases h:n≥lo <;> simp only[ic64,h,evA,simprocAttr] <;> exact frz
theorem le51 (d:Dy) (hd:DyOk d) {i k:Nat} (hi:i<d.ls.length) (hk:k<d.ls.length):PC Tryz.prog 51 [dyV d,.i i,.i k] (.b (canB d i k)):=by
 obtain ⟨o,f,ho,hf,ho2,hf2,hw,hc⟩:=can_ar hd hi hk
 refine ⟨ZF (fok51 true) (QC rfl) ?_,rfl⟩
 rw[hc]
 have hl:=MR hi
 have hl2:=MR hk
 have ia:=F5 hi
 have ia2:=F5 hk
 generalize d.ls[i]! = a at *
 generalize d.ls[k]! = b at *
 obtain ⟨a1,a2,a3,a4,a5,a6,a7⟩:=a
 obtain ⟨b1,b2,b3,b4,b5,b6,b7⟩:=b
 simp only at ho hf hw hl hl2
 subst ho hf
 simp only[ic51,WI,cellsOf,evA,simprocAttr]
 refine DW_s [] [(1,10),(1,11),(4,10),(4,11),(6,10),(6,11),(6,12),(9,10),(9,11),(9,12),(10,11),(11,10)] hmix (by kernel_rfl) rfl ?_
 simp only[ia,ia2,hl,hl2,evA,simprocAttr]
 refine DW_s [] [] hmix (by kernel_rfl) rfl ?_
 simp only[XP ho2,W3,B7 ho2,J5 hf2,J4 hf2,WA,hw,evA,simprocAttr]
 exact frz
end Go.Proofs.YtgkidpolomhghaaGreatDoor.AM
namespace Go.Proofs.YtgkidpolomhghaaGreatDoor.AM
variable [Dr]
open Go Go.ChangeShapes Go.WideShapes Go.ChangeAt Go.RowKit
abbrev noO:Nat→Prop:=Own (fun _=>none) (fun _=>False)
theorem not_noO (b:Nat):¬ noO b:=by rintro (h | ⟨l,hl⟩);exact h;cases hl
theorem DG {α:Type} {Q:Nat→α→Prop}:∀ (n:Nat),(∀ i,i<n→∃ l,Q i l)→∃ L:List α,L.length=n∧∀ (i:Nat) (l:α),L[i]? = some l→Q i l
 | 0,_=>⟨[],rfl,by simp⟩
 | n+1,h=>by
  obtain ⟨L,h1,h2⟩:=DG n (fun i hi=>h i (by omega))
  obtain ⟨l,hl⟩:=h n (by omega)
  refine ⟨L++[l],by simp[h1],fun i l' hi=>?_⟩
  rcases ZB i n with hlt | hge
  ·rw[QE (by omega)] at hi;exact h2 i l' hi
  ·rw[QS (by omega),h1] at hi
   have:i=n:=by
    rcases ZB n i with h' | h'
    ·rw[QN (by simp;omega)] at hi;cases hi
    ·omega
   subst this
   simp at hi;subst hi;exact hl
theorem CJ {R:Nat→CV→Prop} {esz:Nat}:∀ (L:List (List CV)) (n:Nat),(∀ (i:Nat) (l:List CV),L[i]? = some l→l.length=esz∧∀ (j:Nat) (c:CV),l[j]? = some c→R (n+i*esz+j) c) →
  L.flatten.length=L.length*esz∧∀ (k:Nat) (c:CV),L.flatten[k]? = some c→R (n+k) c
 | [],n,_=>by simp
 | l::L,n,h=>by
  obtain ⟨h1,h2⟩:=h 0 l (by simp)
  have ih:=CJ L (n+esz) (fun i l' hi=>by
   obtain ⟨g1,g2⟩:=h (i+1) l' (by simpa using hi)
   refine ⟨g1,fun j c hj=>?_⟩
   have:=g2 j c hj
   rwa [WP,Nat.one_mul,← Nat.add_assoc,Nat.add_right_comm n] at this)
  refine ⟨by simp[h1,ih.1,WP,Nat.add_comm],fun k c hk=>?_⟩
  rw[List.flatten_cons] at hk
  rcases ZB k l.length with hlt | hge
  ·rw[QE hlt] at hk
   have:=h2 k c hk
   simpa using this
  ·rw[QS hge] at hk
   have:=ih.2 (k-l.length) c hk
   rwa [show n+esz+(k-l.length)=n+k by omega] at this
theorem A4 {P:Program} {R:Nat→CV→Prop} {N:Nat}:∀ (fs:List Field) (L:List (List CV)) (n:Nat),J8 P fs n=some N→L.length=fs.length →
  (∀ (i:Nat) (f:Field) (l:List CV),fs[i]? = some f→L[i]? = some l→l.length=P.cellsOf f.type∧∀ (j:Nat) (c:CV),l[j]? = some c→R (f.offset+j) c) →
  n+L.flatten.length=N∧∀ (k:Nat) (c:CV),L.flatten[k]? = some c→R (n+k) c
 | [],L,n,he,hl,_=>by
  have:L=[]:=ZT (by simpa using hl)
  subst this
  simp only[J8,Option.some.injEq] at he
  simp[he]
 | f::fs,[],n,_,hl,_=>by simp at hl
 | f::fs,l::L,n,he,hl,h=>by
  simp only[J8] at he
  split at he
  ·rename_i hoff
   obtain ⟨h1,h2⟩:=h 0 f l (by simp) (by simp)
   have ih:=A4 fs L (n+P.cellsOf f.type) he (by simpa using hl) (fun i f' l' hf hl'=>h (i+1) f' l' (by simpa using hf) (by simpa using hl'))
   refine ⟨by rw[← ih.1];simp[h1];omega,fun k c hk=>?_⟩
   rw[List.flatten_cons] at hk
   rcases ZB k l.length with hlt | hge
   ·rw[QE hlt] at hk
    have:=h2 k c hk
    rwa [hoff] at this
   ·rw[QS hge] at hk
    have:=ih.2 (k-l.length) c hk
    rwa [show n+P.cellsOf f.type+(k-l.length)=n+k by omega] at this
  ·cases he
theorem NT {W:World} {a:Addr}:∀ (cs:List CV) (i:Nat),(∀ (j:Nat) (c:CV),cs[j]? = some c→∃ v,W.cell? (a.add (i+j))=some v∧c.rep W noO v)→CV.reps W noO cs a i
 | [],_,_=>by simp[CV.reps]
 | c::cs,i,h=>by
  simp only[CV.reps]
  refine ⟨not_noO _,by simpa using h 0 c (by simp),NT cs (i+1) fun j c' hj=>?_⟩
  have:=h (j+1) c' (by simpa using hj)
  rwa [show i+(j+1)=i+1+j by omega] at this
section
variable {H:Type} {enc:TypeId × Value→H} {P:Program} {W:World}
theorem EW:∀ (n:Nat) (t:TypeId) (cs:List Value) (x:DataW H × List MemPlace) (fuel:Nat),TG P n t=true→DataW.trod enc P W 0 (fun _=>true) true fuel t cs=some x →
  ∃ cvs:List CV,Typed P t cvs∧cvs.length=cs.length∧∀ (i:Nat) (c:CV) (v:Value),cvs[i]? = some c→cs[i]? = some v→c.rep W noO v
 | 0,t,cs,x,fuel,ho,_=>by simp[TG] at ho
 | n + 1,t,cs,x,fuel,ho,h=>by
  simp only[TG] at ho
  split at ho
  ·rename_i ht
   obtain ⟨b,rfl,_⟩:=DataW.trod_bool ht h
   refine ⟨[.bool b],.bool ht b,rfl,fun i c v h1 h2=>?_⟩
   cases i with
   | zero=>simp at h1 h2;subst h1 h2;simp[CV.rep]
   | succ i=>simp at h1
  ·rename_i k ht
   obtain ⟨b,rfl,_,hw⟩:=DataW.trod_int ht h
   refine ⟨[.int k b],.int ht b hw,rfl,fun i c v h1 h2=>?_⟩
   cases i with
   | zero=>simp at h1 h2;subst h1 h2;simp[CV.rep]
   | succ i=>simp at h1
  ·rename_i ht
   obtain ⟨s,rfl,_,hw⟩:=DataW.trod_string ht h
   refine ⟨[.str s],.str ht s hw,rfl,fun i c v h1 h2=>?_⟩
   cases i with
   | zero=>simp at h1 h2;subst h1 h2;simp[CV.rep]
   | succ i=>simp at h1
  ·rename_i e ht
   rcases DataW.trod_slice ht h with ⟨rfl,_⟩ | ⟨a,len,cap,elems,rest,m,_,rfl,_,_,hlc,hcm,hel,hget,_⟩
   ·refine ⟨[.rsl [] 0],by simpa using Typed.slc ht [] (by simp) (by simp) (by simp),rfl,fun i c v h1 h2=>?_⟩
    cases i with
    | zero=>simp at h1 h2;subst h1 h2;simp[CV.rep]
    | succ i=>simp at h1
   ·obtain ⟨L,hL,hQ⟩:=DG (Q:=fun i l=>Typed P e l∧l.length=P.cellsOf e∧∀ (j:Nat) (c:CV),l[j]? = some c→∃ v,W.cell? (a.add (i*P.cellsOf e+j))=some v∧c.rep W noO v) len (fun i hi=>by
     have hg:=hget i hi
     rw[QI (by omega)] at hg
     obtain ⟨ci,h1,h2⟩:=QB.1 hg
     obtain ⟨_,hlen,hcell⟩:=World.cells?_some h1
     obtain ⟨cvs,g1,g2,g3⟩:=EW n e ci _ _ ho h2
     refine ⟨cvs,g1,by omega,fun j c hj=>?_⟩
     have hjl:j<cvs.length:=(QH.1 hj).1
     have hc:=hcell j (by omega)
     rw[QI (by omega)] at hc
     exact ⟨_,by rw[← Addr.add_add];exact hc,g3 j c _ hj (QI _)⟩)
    have hmem:∀ l∈L,∃ i:Nat,L[i]? = some l:=fun l hl=>List.mem_iff_getElem?.1 hl
    have hfl:=CJ (R:=fun k c=>∃ v,W.cell? (a.add k)=some v∧c.rep W noO v) (esz:=P.cellsOf e) L 0 (fun i l hi=>⟨(hQ i l hi).2.1,fun j c hj=>by simpa using (hQ i l hi).2.2 j c hj⟩)
    refine ⟨[.rsl L.flatten L.length],Typed.slc ht L (by omega) (fun l hl=>let ⟨i,hi⟩:=hmem l hl;(hQ i l hi).2.1) (fun l hl=>let ⟨i,hi⟩:=hmem l hl;(hQ i l hi).1),rfl,fun i c v h1 h2=>?_⟩
    cases i with
    | zero =>
     simp at h1 h2;subst h1 h2
     simp only[CV.rep]
     exact .inr ⟨a,cap,by rw[hL],by omega,NT _ 0 (fun j c hj=>hfl.2 j c hj)⟩
    | succ i=>simp at h1
  ·rename_i k e ht
   simp only[QD,decide_eq_true_eq] at ho
   obtain ⟨xs,m,_,_,hlen,hxs,hget⟩:=DataW.trod_array ht h
   obtain ⟨L,hL,hQ⟩:=DG (Q:=fun i l=>Typed P e l∧l.length=P.cellsOf e∧∀ (j:Nat) (c:CV),l[j]? = some c→∀ v,cs[i*P.cellsOf e+j]? = some v→c.rep W noO v) k (fun i hi=>by
     have hg:=hget i hi
     rw[QI (by omega)] at hg
     obtain ⟨cvs,g1,g2,g3⟩:=EW n e _ _ _ ho.1 hg
     have hik:i*P.cellsOf e+P.cellsOf e≤k*P.cellsOf e:=by
      have:=YQ (P.cellsOf e) (show i+1≤k by omega)
      rwa [WP,Nat.one_mul] at this
     have hl2:cvs.length=P.cellsOf e:=by rw[g2];simp;omega
     refine ⟨cvs,g1,hl2,fun j c hj v hv=>?_⟩
     have hjl:j<cvs.length:=(QH.1 hj).1
     exact g3 j c v hj (by rw[Z7,if_pos (by omega),X4];exact hv))
   have hmem:∀ l∈L,∃ i:Nat,L[i]? = some l:=fun l hl=>List.mem_iff_getElem?.1 hl
   have hfl:=CJ (R:=fun k c=>∀ v,cs[k]? = some v→c.rep W noO v) (esz:=P.cellsOf e) L 0 (fun i l hi=>⟨(hQ i l hi).2.1,fun j c hj=>by simpa using (hQ i l hi).2.2 j c hj⟩)
   exact ⟨L.flatten,Typed.arr ht L hL (fun l hl=>let ⟨i,hi⟩:=hmem l hl;(hQ i l hi).2.1) (fun l hl=>let ⟨i,hi⟩:=hmem l hl;(hQ i l hi).1),by rw[hfl.1,hlen,ho.2,hL],fun i c v h1 h2=>hfl.2 i c h1 v (by simpa using h2)⟩
  ·rename_i fs ht
   simp only[QD,decide_eq_true_eq,Q1] at ho
   obtain ⟨xs,m,_,_,hlen,hxs,hget⟩:=DataW.trod_struct ht h
   obtain ⟨L,hL,hQ⟩:=DG (Q:=fun i l=>∀ f,fs[i]? = some f→Typed P f.type l∧l.length=min (P.cellsOf f.type) (cs.length-f.offset)∧∀ (j:Nat) (c:CV),l[j]? = some c→∀ v,cs[f.offset+j]? = some v→c.rep W noO v) fs.size (fun i hi=>by
     have hfi:fs[i]? = some fs[i]:=Q7 hi
     have hg:=hget i fs[i] hfi
     rw[QI (by omega)] at hg
     obtain ⟨cvs,g1,g2,g3⟩:=EW n _ _ _ _ (ho.1 fs[i] (by simp)) hg
     have hl2:cvs.length=min (P.cellsOf fs[i].type) (cs.length-fs[i].offset):=by rw[g2];simp
     refine ⟨cvs,fun f hf=>?_⟩
     rw[hfi] at hf;cases hf
     refine ⟨g1,hl2,fun j c hj v hv=>?_⟩
     have hjl:j<cvs.length:=(QH.1 hj).1
     exact g3 j c v hj (by rw[Z7,if_pos (by omega),X4];exact hv))
   have hoff:∀ (fs:List Field) (n N:Nat),J8 P fs n=some N→n≤N∧∀ (i:Nat) (f:Field),fs[i]? = some f→f.offset+P.cellsOf f.type≤N:=by
    intro fs
    induction fs with
    | nil=>intro n N h;simp only[J8,Option.some.injEq] at h;simp[h]
    | cons f fs ih =>
     intro n N h
     simp only[J8] at h
     split at h
     ·rename_i ho
      obtain ⟨h1,h2⟩:=ih _ _ h
      refine ⟨by omega,fun i f' hi=>?_⟩
      cases i with
      | zero=>simp at hi;subst hi;omega
      | succ i=>exact h2 i f' (by simpa using hi)
     ·cases h
   have hin:=(hoff _ _ _ ho.2).2
   have hl:∀ (i:Nat) (f:Field) (l:List CV),fs[i]? = some f→L[i]? = some l→l.length=P.cellsOf f.type:=by
    intro i f l hf hl
    obtain ⟨_,h2,_⟩:=hQ i l hl f hf
    have:=hin i f (by simpa using hf)
    omega
   have hfl:=A4 (P:=P) (R:=fun k c=>∀ v,cs[k]? = some v→c.rep W noO v) fs.toList L 0 ho.2 (by simpa using hL) (fun i f l hf hl' =>
    ⟨hl i f l (by simpa using hf) hl',fun j c hj=>(hQ i l hl' f (by simpa using hf)).2.2 j c hj⟩)
   exact ⟨L.flatten,Typed.struct ht L hL hl (fun i f l hf hl'=>(hQ i l hl' f hf).1),by have:=hfl.1;omega,fun i c v h1 h2=>hfl.2 i c h1 v (by simpa using h2)⟩
  ·cases ho
theorem DV:∀ (cvs:List CV) (vs:List Value),cvs.length=vs.length→(∀ (i:Nat) (c:CV) (v:Value),cvs[i]? = some c→vs[i]? = some v→c.rep W noO v)→QK nom noX W (cvs.map .cv) vs
 | [],[],_,_=>by simp[QK]
 | c::cvs,v::vs,hl,h=>by
  simp only[Q0,QK,VRel]
  exact ⟨h 0 c v rfl rfl,DV cvs vs (by simpa using hl) fun i c v h1 h2=>h (i+1) c v (by simpa using h1) (by simpa using h2)⟩
 | [],_::_,hl,_=>by simp at hl
 | _::_,[],hl,_=>by simp at hl
theorem QfB {n:Nat} {t:TypeId} {v:Value} {d:DataW H} {ps:List MemPlace} {r:Reach} {base:Nat} (ho:TG P n t=true) (hval:Value.okWide P W r base t v) (h:DataW.Trod enc P W 0 (fun _=>true) true t v d ps) :
  ∃ cs,Typed P t cs∧VRel nom noX W (avOf P t cs) v:=by
 obtain ⟨fuel,h⟩:=h
 obtain ⟨cvs,h1,h2,h3⟩:=EW n t _ _ _ ho h
 refine ⟨cvs,h1,?_⟩
 unfold avOf
 have one:(v.cells.toList=[v])→VRel nom noX W (.cv (cvs.headD .nilp)) v:=by
  intro hv
  rw[hv] at h2 h3
  match cvs,h2 with
  | [c],_=>simp only[List.headD_cons,VRel];exact h3 0 c v rfl rfl
 cases n with
 | zero=>simp[TG] at ho
 | succ n =>
  simp only[TG] at ho
  split at ho
  ·rename_i ht;rw[ht];obtain ⟨b,rfl⟩:=okWide_bool ht hval;exact one rfl
  ·rename_i ht;rw[ht];obtain ⟨b,rfl⟩:=okWide_int ht hval;exact one rfl
  ·rename_i ht;rw[ht];obtain ⟨b,rfl⟩:=okWide_string ht hval;exact one rfl
  ·rename_i ht;rw[ht];obtain ⟨_,_,_,rfl⟩:=okWide_slice ht hval;exact one rfl
  ·rename_i ht;rw[ht]
   simp only[Value.okWide,ht] at hval
   obtain ⟨arr,rfl,_⟩:=hval
   simp only[VRel]
   exact ⟨arr.toList,by simp,DV _ _ h2 h3⟩
  ·rename_i ht;rw[ht]
   simp only[Value.okWide,ht] at hval
   obtain ⟨arr,rfl,_⟩:=hval
   simp only[VRel]
   exact ⟨arr.toList,by simp,DV _ _ h2 h3⟩
  ·cases ho
theorem C1 {n:Nat} {r:Reach} {base:Nat}:∀ {ts:List TypeId} {vs:List Value} {ds:List (DataW H)} {ps:List MemPlace},(ts.all (TG P n))=true →
  (∀ (j:Nat) (t:TypeId) (v:Value),ts[j]? = some t→vs[j]? = some v→Value.okWide P W r base t v)→DataW.TrodAll enc P W 0 (fun _=>true) true ts vs ds ps →
  ds.length=ts.length∧∃ avs,Args P ts avs∧QK nom noX W avs vs
 | [],_,_,_,_,_,h=>by
  obtain ⟨rfl,rfl,rfl⟩:=trodAll_nil h
  exact ⟨rfl,[],.nil,by simp[QK]⟩
 | t::ts,_,_,_,ho,hval,h=>by
  obtain ⟨v,vs1,d,ds1,a,b,rfl,rfl,rfl,h1,h2⟩:=trodAll_cons h
  simp only[List.all_cons,QD] at ho
  obtain ⟨cs,g1,g2⟩:=QfB ho.1 (hval 0 t v rfl rfl) h1
  obtain ⟨hl,avs,g3,g4⟩:=C1 ho.2 (fun j t v h1 h2=>hval (j+1) t v (by simpa using h1) (by simpa using h2)) h2
  exact ⟨by simp[hl],_,.cons g1 g3,by simp only[QK];exact ⟨g2,g4⟩⟩
theorem LU (hl:laidOutB P=true) {W':World} (hb:Below W.heap.size W W'):∀ {ts:List TypeId} {vs:List Value} {ds:List (DataW H)} {ps:List MemPlace},(ts.all fun t=>P.readableRec t&&decide (t<P.types.size))=true →
  DataW.TrodAll enc P W 0 (fun _=>true) true ts vs ds ps→(∀ x∈ps,x.block<W.heap.size)→DataW.TrodAll enc P W' 0 (fun b=>decide (b<W.heap.size)) true ts vs ds ps
 | [],_,_,_,_,h,_=>by
  obtain ⟨rfl,rfl,rfl⟩:=trodAll_nil h
  exact trodAll_mk0
 | t::ts,_,_,_,ho,h,hlt=>by
  obtain ⟨v,vs1,d,ds1,a,b,rfl,rfl,rfl,h1,h2⟩:=trodAll_cons h
  simp only[List.all_cons,QD,decide_eq_true_eq] at ho
  refine trodAll_cons_mk (Below.trod hl ho.1.1 ho.1.2 h1 hb fun x hx=>hlt x (by simp[hx])) (LU hl hb ?_ h2 fun x hx=>hlt x (by simp[hx]))
  simpa using ho.2
theorem law_of_AC {f:FuncId} {fn:Func} {s:ChangeSpec} {n:Nat} {t:TypeId} {base:Nat} {args:Array Value} {ds gs:List (DataW H)} {before:List MemPlace}
  (hl:laidOutB P=true) (hpar:(fn.params.toList.all fun t=>P.readableRec t&&decide (t<P.types.size))=true) (ho:fn.params.toList.all (TG P n)=true)
  (hres:fn.resultTypes = #[t]) (htb:P.underlying t=some .bool) (hsv:s.vars=[]) (hs:∀ ds:List (DataW H),ds.length=fn.params.toList.length→s.fn H ds = { results:=[.lit (.bool true)],args:=ds })
  (hAC:∀ avs,Args P fn.params.toList avs→AC P f avs [] fun r _=>r=.b true)
  (hval:∀ (j:Nat) t v,fn.params[j]? = some t→args[j]? = some v→Value.okWide P W .any base t v) (hgl:GlOk nom noX W)
  (hW:DataW.Whole enc P fn.params.toList s.vars false W args.toList ds gs before) :
  Calls P f args W fun e W'=>∃ v,e=.returned v∧s.post enc P fn false true false false W args v W':=by
 have hW':=hW
 obtain ⟨p,q,hA,hV,rfl,hfz,hnd⟩:=hW
 rw[hsv] at hV
 obtain ⟨rfl,rfl⟩:=trodVars_none hV
 have hlt:∀ x∈p,x.block<W.heap.size:=fun x hx=>hW'.lt x (by simp[hx])
 obtain ⟨hlen,avs,hav,hrel⟩:=C1 ho (fun j t v h1 h2=>hval j t v (by simpa using h1) (by simpa using h2)) hA
 have hcall:=(hAC avs hav).2 nom noX W args.toList hrel ⟨by simp,by simp,by simp,by simp,by simp,hgl⟩
 have hcall:=callsIn_wide.1 hcall
 simp only[Array.toArray_toList] at hcall
 refine hcall.mono fun e W' ⟨c,r,σ',m',he,hq,hr,_,hst,_⟩=>?_
 subst he hq
 simp only[VRel,CV.rep] at hr
 subst hr
 have hb:Below W.heap.size W W':=⟨hst.os,hst.tape,hst.output,hst.size,fun k hk=>hst.fr k hk (.inr (by simp))⟩
 have hsf:s.fn H (ds++[]) = { results:=[.lit (.bool true)],args:=ds }:=by rw[ZU];exact hs ds hlen
 refine ⟨_,rfl,ds,[],p++[],[],p,[],hW',?_,?_,?_,hb.frame _,fun h=>by simp at h⟩
 ·rw[hsf,hres]
  exact trodAll_mk1 (shut_bool htb true)
 ·rw[hsf]
  exact LU hl hb hpar hA hlt
 ·rw[hsf,hsv]
  rfl
end
end Go.Proofs.YtgkidpolomhghaaGreatDoor.AM
namespace Go.Proofs.YtgkidpolomhghaaGreatDoor.AM
variable [Dr]
open Go
theorem QeV {P:Program} {t:TypeId} {k:IntKind} {cs:List CV} (ht:P.underlying t=some (.int k)) (h:Typed P t cs):∃ n,cs=[.int k n]∧(Lit.int k n).wf=true:=by
 cases h with
 | int ht' n hw=>rw[ht] at ht';cases ht';exact ⟨n,rfl,hw⟩
 | bool ht'=>rw[ht] at ht';cases ht'
 | str ht'=>rw[ht] at ht';cases ht'
 | slc ht'=>rw[ht] at ht';cases ht'
 | arr ht'=>rw[ht] at ht';cases ht'
 | struct ht'=>rw[ht] at ht';cases ht'
theorem QeU {P:Program} {t e:TypeId} {cs:List CV} (ht:P.underlying t=some (.slice e)) (h:Typed P t cs):∃ L:List (List CV),cs=[.rsl L.flatten L.length]∧L.length≤maxLen∧(∀ l∈L,l.length=P.cellsOf e)∧∀ l∈L,Typed P e l:=by
 cases h with
 | slc ht' L hn hl h=>rw[ht] at ht';cases ht';exact ⟨L,rfl,hn,hl,h⟩
 | bool ht'=>rw[ht] at ht';cases ht'
 | int ht'=>rw[ht] at ht';cases ht'
 | str ht'=>rw[ht] at ht';cases ht'
 | arr ht'=>rw[ht] at ht';cases ht'
 | struct ht'=>rw[ht] at ht';cases ht'
theorem typed_struct {P:Program} {t:TypeId} {fs:Array Field} {cs:List CV} (ht:P.underlying t=some (.struct fs)) (h:Typed P t cs):∃ L:List (List CV),cs=L.flatten∧L.length=fs.size∧∀ (i:Nat) (f:Field) (l:List CV),fs[i]? = some f→L[i]? = some l→Typed P f.type l:=by
 cases h with
 | struct ht' L hn hl h=>rw[ht] at ht';cases ht';exact ⟨L,rfl,hn,h⟩
 | bool ht'=>rw[ht] at ht';cases ht'
 | int ht'=>rw[ht] at ht';cases ht'
 | str ht'=>rw[ht] at ht';cases ht'
 | slc ht'=>rw[ht] at ht';cases ht'
 | arr ht'=>rw[ht] at ht';cases ht'
theorem Qdi {P:Program} {e:TypeId} {k:IntKind} (he:P.underlying e=some (.int k)):∀ L:List (List CV),(∀ l∈L,Typed P e l)→∃ zs:List Int,L.flatten=zs.map (.int k)∧L.length=zs.length∧∀ z∈zs,(Lit.int k z).wf=true
 | [],_=>⟨[],rfl,rfl,by simp⟩
 | l::L,h=>by
  obtain ⟨n,rfl,hn⟩:=QeV he (h l (by simp))
  obtain ⟨zs,h1,h2,h3⟩:=Qdi he L fun l hl=>h l (by simp[hl])
  exact ⟨n::zs,by simp[h1],by simp[h2],by simpa using ⟨hn,h3⟩⟩
theorem typed_ints {P:Program} {t e:TypeId} {k:IntKind} {cs:List CV} (ht:P.underlying t=some (.slice e)) (he:P.underlying e=some (.int k)) (h:Typed P t cs):∃ zs:List Int,cs=[.rsl (zs.map (.int k)) zs.length]∧zs.length<2 ^ 63∧∀ z∈zs,(Lit.int k z).wf=true:=by
 obtain ⟨L,rfl,hn,_,hl⟩:=QeU ht h
 obtain ⟨zs,h1,h2,h3⟩:=Qdi he L hl
 refine ⟨zs,by rw[h1,h2],?_,h3⟩
 rw[← h2];unfold maxLen at hn;omega
theorem args_cons {P:Program} {t:TypeId} {ts:List TypeId} {avs:List AV} (h:Args P (t::ts) avs):∃ cs avs',avs=avOf P t cs::avs'∧Typed P t cs∧Args P ts avs':=by
 generalize hts:t::ts=u at h
 cases h with
 | nil=>cases hts
 | cons h1 h2=>cases hts;exact ⟨_,_,rfl,h1,h2⟩
theorem args_nil {P:Program} {avs:List AV} (h:Args P [] avs):avs=[]:=by
 generalize hts:([]:List TypeId)=u at h
 cases h with
 | nil=>rfl
 | cons h1 h2=>cases hts
abbrev vs4:List Nat:=[0,1,2,3,4,5,6,7,8,9,10,35,54]
def ic4:IC:=(.seq (.region [jb 1 0,jw 2 .mv [jB false]])
 (.seq (.region [jN 2 1,jk 23 [.t 0],jt 1,jx 0 2,jx 1 2,jx 2 2,jm 3 3,jm 4 4,jm 5 5])
 (.seq (.region [jN 2 1,jk 24 [.t 0],jt 1,jx 0 2,jx 1 2,jx 2 2,jm 6 3,jm 7 4,jm 8 5])
 (.seq (.seq (.region [jv 3,jv 6,jq (.bin .neq .int) [.t 0,.t 1],jt 2,jh 3 false 4,jh 3 false 7,jg 3 false (.bin .neq .int) [.t 4,.t 5],jq .pick [.t 3,jB true,.t 6],jt 7,jh 8 false 5,jh 8 false 8,jg 8 false (.bin .neq .int) [.t 9,.t 10],jw 11 .pick [.t 8,jB true,.t 11]])
 (.cond 11 (.seq (.region [jw 2 .mv [jB false]])
 .ret)
 .skip))
 (.seq (.region [jN 2 1,jk 25 [.t 0],jt 1,jx 0 2,jx 1 2,jm 9 3,jm 5 4])
 (.seq (.region [jN 2 1,jk 26 [.t 0],jt 1,jx 0 2,jx 1 2,jm 10 3,jm 8 4])
 (.seq (.seq (.region [jv 9,jv 10,jk 27 [.t 0,.t 1],jq .not [.t 2],jt 3,jh 4 false 5,jh 4 false 8,jg 4 false (.bin .neq .int) [.t 5,.t 6],jw 12 .pick [.t 4,jB true,.t 7]])
 (.cond 12 (.seq (.region [jw 2 .mv [jB false]])
 .ret)
 .skip))
 (.seq (.region [jN 2 1,jk 28 [.t 0],jt 1,jx 0 2,jx 1 2,jm 9 3,jm 5 4])
 (.seq (.region [jN 2 1,jk 29 [.t 0],jt 1,jx 0 2,jx 1 2,jm 10 3,jm 8 4])
 (.seq (.region [jv 9,jv 10,jk 27 [.t 0,.t 1],jt 2,jh 3 true 5,jh 3 true 8,jg 3 true (.bin .eql .int) [.t 4,.t 5],jq .pick [.t 3,.t 6,jB false],jt 7,jf 8 true 22 [],jq .pick [.t 8,.t 9,jB false],jm 2 10])
 .ret))))))))))
abbrev rs4:List RC:=[(.v 2)]
theorem fok4 (p:Bool):FnOk Tryz.prog 4 ⟨ic4,vs4,76,rs4,p⟩:=.mk2 Tryz.func4 (by kernel_rfl) (by kernel_rfl) (by kernel_rfl) (by kernel_rfl) (by kernel_rfl)
end Go.Proofs.YtgkidpolomhghaaGreatDoor.AM
namespace Go.Proofs.YtgkidpolomhghaaGreatDoor.AM
open Go Pl
theorem typed_list {α:Type} {f:α→List CV} {p:α→Prop} {t:TypeId} (h:∀ cs,Typed Tryz.prog t cs→∃ x,cs=f x∧p x):∀ L:List (List CV),(∀ l∈L,Typed Tryz.prog t l)→∃ xs:List α,L.flatten=xs.flatMap f∧L.length=xs.length∧∀ x∈xs,p x
 | [],_=>⟨[],rfl,rfl,by simp⟩
 | l::L,hl=>by
  obtain ⟨x,h1,h2⟩:=h l (hl l (by simp))
  obtain ⟨xs,g1,g2,g3⟩:=typed_list h L fun l hh=>hl l (by simp[hh])
  exact ⟨x::xs,by simp[h1,g1],by simp[g2],by simpa using ⟨h2,g3⟩⟩
theorem get_of {α:Type} [Inhabited α] {p:α→Prop} {l:List α} (h:∀ x∈l,p x) (i:Nat) (hi:i<l.length):p l[i]! := by
 rw[getElem!_pos l i hi]
 exact h _ (Q2 hi)
theorem typed_i {cs:List CV} (h:Typed Tryz.prog 3 cs):∃ x:Int,cs=[.int .i64 x]:=by
 obtain ⟨n,rfl,_⟩:=QeV Tryz.underlying3 h
 exact ⟨n,rfl⟩
theorem typed_row {cs:List CV} (h:Typed Tryz.prog 23 cs):∃ zs:List Int,cs=[rowC zs]∧zs.length<2 ^ 63:=by
 obtain ⟨zs,h1,h2,_⟩:=typed_ints Tryz.underlying23 Tryz.underlying3 h
 exact ⟨zs,h1,h2⟩
theorem typed_les {cs:List CV} (h:Typed Tryz.prog 94 cs):∃ l:Les,cs=lesC l∧True:=by
 obtain ⟨L,rfl,hn,hf⟩:=typed_struct Tryz.underlying94 h
 match L,hn with
 | [a,b,c,d,e,f,g],_ =>
  obtain ⟨n1,rfl⟩:=typed_i (hf 0 _ a rfl rfl)
  obtain ⟨n2,rfl⟩:=typed_i (hf 1 _ b rfl rfl)
  obtain ⟨n3,rfl⟩:=typed_i (hf 2 _ c rfl rfl)
  obtain ⟨n4,rfl⟩:=typed_i (hf 3 _ d rfl rfl)
  obtain ⟨n5,rfl⟩:=typed_i (hf 4 _ e rfl rfl)
  obtain ⟨n6,rfl⟩:=typed_i (hf 5 _ f rfl rfl)
  obtain ⟨n7,rfl⟩:=typed_i (hf 6 _ g rfl rfl)
  exact ⟨⟨n1,n2,n3,n4,n5,n6,n7⟩,rfl,trivial⟩
theorem typed_dyc {cs:List CV} (h:Typed Tryz.prog 37 cs):∃ d:Dy,cs=[minR d.mi,lesR d.ls]∧DSz d:=by
 obtain ⟨L,rfl,hn,hf⟩:=typed_struct Tryz.underlying37 h
 match L,hn with
 | [a,b],_ =>
  obtain ⟨L1,rfl,n1,_,h1⟩:=QeU Tryz.underlying34 (hf 0 _ a rfl rfl)
  obtain ⟨L2,rfl,n2,_,h2⟩:=QeU Tryz.underlying35 (hf 1 _ b rfl rfl)
  obtain ⟨m,a1,a2,a3⟩:=typed_list (f:=fun zs:List Int=>[rowC zs]) (p:=fun zs=>zs.length<2 ^ 63) (fun cs h=>typed_row h) L1 h1
  obtain ⟨ls,b1,b2,_⟩:=typed_list (fun cs h=>typed_les h) L2 h2
  have hm:maxLen<2 ^ 63:=by decide
  refine ⟨⟨m,ls⟩,?_,⟨by show m.length<_;omega,by show ls.length<_;omega,get_of a3⟩⟩
  simp only[minR,lesR,F0,a1,b1,a2,b2,List.map_eq_flatMap,List.flatten_cons,List.flatten_nil,ZU,List.cons_append,List.nil_append]
theorem typed_day {cs:List CV} (h:Typed Tryz.prog 37 cs):∃ d:Dy,avOf Tryz.prog 37 cs=dyV d∧DSz d:=by
 obtain ⟨d,rfl,hd⟩:=typed_dyc h
 exact ⟨d,by simp only[avOf,Tryz.underlying37];rfl,hd⟩
end Go.Proofs.YtgkidpolomhghaaGreatDoor.AM
namespace Go.Proofs.YtgkidpolomhghaaGreatDoor.AM
variable [Dr]
open Go Pl
theorem outF_alR {lo hi:Int} {zs:List Int} (h:∀ j,j<zs.length→inB (gI zs j) lo hi=true):outF lo hi zs=false:=by
 rw[VL]
 intro z hz
 obtain ⟨j,hj,rfl⟩:=WN.1 hz
 have:=VB.1 (h j hj)
 unfold gI at this
 rwa [QI hj] at this
theorem outF_exR {lo hi:Int} {zs:List Int} {j:Nat} (hj:j<zs.length) (h:inB (gI zs j) lo hi=false):outF lo hi zs=true:=by
 cases hh:outF lo hi zs with
 | true=>rfl
 | false =>
  rw[VB.2 (VL.1 hh _ (Qcs hj))] at h
  cases h
theorem outF_sgR {lo hi z:Int}:outF lo hi [z] = !inB z lo hi:=by
 cases h:inB z lo hi with
 | true =>
  refine outF_alR (zs:=[z]) fun j hj=>?_
  have:j=0:=by simpa using hj
  subst this;exact h
 | false=>exact outF_exR (zs:=[z]) (j:=0) (by simp) h
theorem outF_coR {lo hi z:Int} {zs:List Int}:outF lo hi (z::zs)=(!inB z lo hi||outF lo hi zs):=by
 rw[← outF_sgR]
 unfold outF
 simp
theorem le70 (d:Dy) (hd:DSz d) (i:Nat) (hi:i<d.mi.length):PC Tryz.prog 70 [dyV d,.i i] (.i (rowE d i)):=by
 refine ⟨ZF (fok70 true) (QC rfl) ?_,rfl⟩
 have hrow:=hd.row i hi
 unfold rowE
 simp only[ic70,WI,cellsOf,XP hi,W3,B7 hi,evA,simprocAttr]
 generalize d.mi[i]! = l at *
 by_cases h1:l.length=d.mi.length
 ·have hb:((l.length:Int) != d.mi.length)=false:=by rw[h1];simp
  rw[if_neg (fun h=>h h1)]
  simp only[hb,evA,simprocAttr]
  refine ZW l.length (fun k s=>(∀ j,j<k→inB (gI l j) 0 120=true)∧∃ v7 v8,s=⟨[dyV d,.i i,.ptr 0 0,.i 0,ints l,.i k,.b false,v7,v8,.undef],[.cells [.cv (minR d.mi),.cv (lesR d.ls)]]⟩) ?_ 0 (QF _) ⟨by omega,_,_,rfl⟩
  rintro k s hk ⟨hall,v7,v8,rfl⟩
  by_cases h:k<l.length
  ·simp only[ic70l0,QJ,h,J5 h,J4 h,evA,simprocAttr]
   refine (le64 _ 0 120).call frz ?_
   cases hin:inB (gI l k) 0 120 with
   | true =>
    have hin2:inB (l[k]?.getD 0) 0 120=true:=hin
    simp only[hin2,Q6 (show k+1<2 ^ 63 by omega),evA,simprocAttr]
    refine ZL (by first | trivial | omega) ⟨fun j hj=>?_,_,_,rfl⟩
    rcases QQ.1 hj with hj | rfl
    ·exact hall j hj
    ·exact hin
   | false =>
    have hin2:inB (l[k]?.getD 0) 0 120=false:=hin
    rw[outF_exR h hin]
    simp only[hin2,evA,simprocAttr]
    exact frz
  ·have hke:k=l.length:=by omega
   subst hke
   rw[outF_alR hall]
   have hil:i<l.length:=by omega
   simp only[ic70l0,QJ,h,J5 hil,J4 hil,evA,simprocAttr]
   by_cases h2:gI l i=0
   ·have hb2:(l[i]?.getD 0 != 0)=false:=by simpa using h2
    simp only[hb2,h2,ne_eq,not_true,evA,simprocAttr]
    exact frz
   ·have hb2:(l[i]?.getD 0 != 0)=true:=by simpa using h2
    simp only[hb2,h2,ne_eq,not_false_eq_true,evA,simprocAttr]
    exact frz
 ·have hb:((l.length:Int) != d.mi.length)=true:=by simp;omega
  rw[if_pos h1]
  simp only[hb,evA,simprocAttr]
  exact frz
theorem le71 (d:Dy) (hd:DSz d) (l:Les):PC Tryz.prog 71 [dyV d,lesA l] (.i (lesE d l)):=by
 refine ⟨ZF (fok71 true) (QC rfl) ?_,rfl⟩
 have h63:=hd.mi
 unfold lesE
 have hw:IntKind.i64.wrap ((d.mi.length:Int)-1)=(d.mi.length:Int)-1:=ZC (by omega)
 obtain ⟨le,te,ca,b,e,f,o⟩:=l
 have e1:outF 0 1440 [b,e]=(!inB b 0 1440 || !inB e 0 1440):=by rw[outF_coR,outF_sgR]
 have e2:outF 0 ((d.mi.length:Int)-1) [f,o]=(!inB f 0 ((d.mi.length:Int)-1) || !inB o 0 ((d.mi.length:Int)-1)):=by rw[outF_coR,outF_sgR]
 simp only
 rw[e1,e2]
 clear e1 e2
 simp only[ic71,WI,cellsOf,evA,simprocAttr]
 refine (le64 b 0 1440).call frz ?_
 cases h1:inB b 0 1440 with
 | false =>
  simp only[h1,US,evA,simprocAttr]
  exact frz
 | true =>
 simp only[h1,Y3,evA,simprocAttr]
 refine (le64 e 0 1440).call frz ?_
 cases h2:inB e 0 1440 with
 | false =>
  simp only[h2,US,evA,simprocAttr]
  exact frz
 | true =>
 simp only[h2,Y3,evA,simprocAttr]
 rw[show [AV.i le,.i te,.i ca]=[le,te,ca].map AV.i from rfl]
 generalize hzs:[le,te,ca]=zs
 have hz3:zs.length=3:=by rw[← hzs];rfl
 refine ZW 3 (fun k s=>(∀ j,j<k→inB (gI zs j) 0 7=true)∧∃ v8 v9,s=⟨[dyV d,lesA ⟨le,te,ca,b,e,f,o⟩,.ptr 0 0,.ptr 1 0,.i 0,.sl 2 0 3 1,.i k,.b false,v8,v9,.undef,.undef],[.cells [.cv (minR d.mi),.cv (lesR d.ls)],.cells [.i le,.i te,.i ca,.i b,.i e,.i f,.i o],.cells (zs.map AV.i)]⟩) ?_ 0 (QF _) ⟨by omega,_,_,rfl⟩
 rintro k s hk ⟨hall,v8,v9,rfl⟩
 by_cases h:k<3
 ·have hkz:k<zs.length:=by omega
  have hd3:decide ((k:Int)<3)=true:=decide_eq_true (by omega)
  simp only[ic71l0,hd3,W9 h,ZV,V1 hkz,evA,simprocAttr]
  refine (le64 _ 0 7).call frz ?_
  cases hin:inB (gI zs k) 0 7 with
  | true =>
   have hin2:inB (zs[k]?.getD 0) 0 7=true:=hin
   simp only[hin2,Q6 (show k+1<2 ^ 63 by omega),evA,simprocAttr]
   refine ZL (by first | trivial | omega) ⟨fun j hj=>?_,_,_,rfl⟩
   rcases QQ.1 hj with hj | rfl
   ·exact hall j hj
   ·exact hin
  | false =>
   have hin2:inB (zs[k]?.getD 0) 0 7=false:=hin
   rw[outF_exR hkz hin]
   simp only[hin2,evA,simprocAttr]
   exact frz
 ·have hke:k=3:=by omega
  subst hke
  rw[outF_alR (by rw[hz3];exact hall)]
  simp only[ic71l0,evA,simprocAttr]
  by_cases h3:b≥e
  ·simp only[h3,evA,simprocAttr]
   exact frz
  ·simp only[h3,hw,evA,simprocAttr]
   refine (le64 f 0 _).call frz ?_
   cases h4:inB f 0 ((d.mi.length:Int)-1) with
   | false =>
    simp only[h4,US,evA,simprocAttr]
    exact frz
   | true =>
    simp only[h4,hw,Y3,evA,simprocAttr]
    refine (le64 o 0 _).call frz ?_
    cases h5:inB o 0 ((d.mi.length:Int)-1) with
    | false =>
     simp only[h5,evA,simprocAttr]
     exact frz
    | true =>
     simp only[h5,evA,simprocAttr]
     exact frz
theorem le24 (d:Dy) (hd:DSz d):PC Tryz.prog 24 [dyV d] (chkA d):=by
 refine ⟨ZF (fok24 true) (QC rfl) ?_,rfl⟩
 simp only[ic24,WI,cellsOf,evA,simprocAttr]
 refine (le64 (d.mi.length:Int) 1 16).call frz ?_
 unfold chkA dyE
 rw[outF_sgR]
 cases h1:inB (d.mi.length:Int) 1 16 with
 | false =>
  simp only[h1,US,evA,simprocAttr]
  exact frz
 | true =>
 cases h2:decide ((d.ls.length:Int)>12) with
 | true =>
  simp only[h1,Y3,h2,evA,simprocAttr]
  exact frz
 | false =>
 simp only[h1,Y3,h2,evA,simprocAttr]
 have hm63:=hd.mi
 have hl63:=hd.ls
 refine ZW d.mi.length (fun k s=>(∀ j,j<k→rowE d j=0)∧∃ v6 v10 v11,s=⟨[dyV d,.ptr 0 0,.i 0,.i 0,.i 0,.i k,v6,.undef,.undef,.b false,v10,v11,.undef,.undef],[.cells [.cv (minR d.mi),.cv (lesR d.ls)]]⟩) ?_ 0 (QF _) ⟨by omega,_,_,_,rfl⟩
 rintro k s hk ⟨hall,v6,v10,v11,rfl⟩
 by_cases h:k<d.mi.length
 ·simp only[ic24l1,QJ,h,evA,simprocAttr]
  refine (le70 d hd k h).call frz ?_
  by_cases h0:rowE d k=0
  ·have hb:(rowE d k != 0)=false:=by simpa using h0
   simp only[hb,Q6 (show k+1<2 ^ 63 by omega),evA,simprocAttr]
   refine ZL (by first | trivial | omega) ⟨fun j hj=>?_,_,_,_,rfl⟩
   rcases QQ.1 hj with hj | rfl
   ·exact hall j hj
   ·exact h0
  ·have hb:(rowE d k != 0)=true:=by simpa using h0
   rw[VO d.mi.length 0 k (QF _) (by omega) (fun j _ hj=>hall j hj) h0]
   simp only[hb,h0,ne_eq,not_false_eq_true,evA,simprocAttr]
   exact frz
 ·have hke:k=d.mi.length:=by omega
  subst hke
  rw[J7 d.mi.length 0 fun j _ hj=>hall j (by omega)]
  simp only[ic24l1,QJ,h,ne_eq,not_true,evA,simprocAttr]
  refine ZW d.ls.length (fun k s=>(∀ j,j<k→lesE d d.ls[j]! = 0)∧∃ v8 v12 v13,s=⟨[dyV d,.ptr 0 0,.i 0,.i 0,.i 0,.i d.mi.length,v6,.i k,v8,.b false,.b false,v11,v12,v13],[.cells [.cv (minR d.mi),.cv (lesR d.ls)]]⟩) ?_ 0 (QF _) ⟨by omega,_,_,_,rfl⟩
  clear h hk hall
  rintro k s hk ⟨hall,v8,v12,v13,rfl⟩
  by_cases h:k<d.ls.length
  ·simp only[ic24l0,QJ,h,evA,simprocAttr]
   refine DW_s [6] [] hmix (by kernel_rfl) rfl ?_
   simp only[F5 h,Qcl h,evA,simprocAttr]
   refine YE ((le71 d hd d.ls[k]!).call frz ⟨rfl,rfl⟩) rfl ?_
   simp only[evA,simprocAttr]
   by_cases h0:lesE d d.ls[k]! = 0
   ·have hb:(lesE d d.ls[k]! != 0)=false:=by simpa using h0
    simp only[hb,Q6 (show k+1<2 ^ 63 by omega),evA,simprocAttr]
    refine ZL (by first | trivial | omega) ⟨fun j hj=>?_,_,_,_,rfl⟩
    rcases QQ.1 hj with hj | rfl
    ·exact hall j hj
    ·exact h0
   ·have hb:(lesE d d.ls[k]! != 0)=true:=by simpa using h0
    rw[VO d.ls.length 0 k (QF _) (by omega) (fun j _ hj=>hall j hj) h0]
    simp only[hb,h0,ne_eq,not_false_eq_true,evA,simprocAttr]
    exact frz
  ·have hke:k=d.ls.length:=by omega
   subst hke
   rw[J7 d.ls.length 0 fun j _ hj=>hall j (by omega)]
   simp only[ic24l0,QJ,h,ne_eq,not_true,evA,simprocAttr]
   exact frz
structure PtOk (ps:List Pat):Prop where
 p12:ps.length≤12
 sh:∀ k,k<ps.length→0≤(ps[k]!).1∧(ps[k]!).1<9223372036854775808
structure ChOk (d:Dy) (C:List (List Nat)):Prop where
 ne:∀ c∈C,c≠[]
 rng:∀ c∈C,∀ x∈c,x<d.ls.length
 can:∀ c∈C,∀ j,j+1<c.length→canB d c[j]! c[j+1]! = true
 one:∀ k,k<d.ls.length→ME C k=1
 len:∀ c∈C,c.length<2 ^ 40
 num:C.length<2 ^ 40
end Go.Proofs.YtgkidpolomhghaaGreatDoor.AM
namespace Go.Proofs.YtgkidpolomhghaaGreatDoor.AM
open Go Pl
structure BcOk (ps:List Pat) (l:List Int):Prop where
 few:fewL ps l=(HG (UJ ps l),XX ps (UJ ps l),0)
 len:(UJ ps l).length≤200
 rng:∀ x∈UJ ps l,x<ps.length
 srt:(UJ ps l).Pairwise (·≤·)
 eno:OS ps l (UJ ps l)
 least:∀ cs:List Nat,(∀ x∈cs,x<ps.length)→OS ps l cs→(UJ ps l).length<cs.length∨(UJ ps l).length=cs.length∧XX ps (UJ ps l)≤XX ps cs
theorem chF_len (nx:List Int):∀ f k,(chF nx f k).length≤f
 | 0,_=>QG _
 | f+1,k=>by
  unfold chF
  rw[List.length_cons]
  split
  ·simp
  ·have:=chF_len nx f (gI nx k).toNat;omega
theorem cha_ok {d:Dy} (hd:DyOk d):ChOk d (LQ (nxtL d) d.ls.length):=by
 have hw:=nxW hd
 have h12:=hd.l12
 have h40:(2:Nat) ^ 40=1099511627776:=by decide
 have hc:∀ c∈LQ (nxtL d) d.ls.length,∃ i,i<d.ls.length∧c=chF (nxtL d) (d.ls.length+1) i:=fun c hc=>by
  obtain ⟨i,hi,e⟩:=ZP.1 hc
  exact ⟨i,ZI.1 (YB.1 hi).1,e.symm⟩
 refine ⟨fun c h=>?_,fun c h=>?_,fun c h=>?_,fun k hk=>times_all hw hk,fun c h=>?_,?_⟩
 ·obtain ⟨i,_,rfl⟩:=hc c h
  unfold chF
  simp
 ·obtain ⟨i,hi,rfl⟩:=hc c h
  exact ch_mem hw _ _ hi
 ·obtain ⟨i,hi,rfl⟩:=hc c h
  intro j hj
  have h1:=ch_can hw _ _ hi j hj
  rw[QI (by omega),QI hj] at h1
  rw[getElem!_pos _ j (by omega),getElem!_pos _ (j+1) hj]
  exact h1
 ·obtain ⟨i,_,rfl⟩:=hc c h
  have:=chF_len (nxtL d) (d.ls.length+1) i
  omega
 ·unfold LQ DD
  rw[ZK]
  have:=HC (V3 (nxtL d)) (List.range d.ls.length)
  simp at this
  omega
end Go.Proofs.YtgkidpolomhghaaGreatDoor.AM
namespace Go.Proofs.YtgkidpolomhghaaGreatDoor.AM
variable [Dr]
open Go Pl
def putTab (σ:List AObj) (b:Nat) (K:List (List Int)):List AObj:=σ.mapIdx fun l o=>if b+1≤l∧l<b+1+K.length then AObj.cells ((K[l-(b+1)]?.getD []).map AV.i) else o
theorem putTab_length (σ:List AObj) (b:Nat) (K:List (List Int)):(putTab σ b K).length=σ.length:=by simp[putTab]
theorem putTab_get (σ:List AObj) (b:Nat) (K:List (List Int)) (l:Nat):(putTab σ b K)[l]? = (σ[l]?).map fun o=>if b+1≤l∧l<b+1+K.length then AObj.cells ((K[l-(b+1)]?.getD []).map AV.i) else o:=by simp[putTab,List.getElem?_mapIdx]
structure TabAt (σ:List AObj) (b T size:Nat) (K:List (List Int)):Prop where
 out:rowOf σ b=some ((List.range T).map fun j=>AV.sl (b+1+j) 0 size 1)
 kl:K.length=T
 rows:∀ j,j<T→rowOf σ (b+1+j)=some ((K[j]?.getD []).map AV.i)∧(K[j]?.getD []).length=size
theorem putTab_same {σ:List AObj} {b T size:Nat} {K:List (List Int)} (h:TabAt σ b T size K):putTab σ b K=σ:=by
 apply Z1
 intro l
 rw[putTab_get]
 cases hl:σ[l]? with
 | none=>rfl
 | some o =>
  simp only[Option.map_some,Option.some.injEq]
  split
  ·rename_i hr
   have:=WO (h.rows (l-(b+1)) (by rw[← h.kl];omega)).1
   rw[show b+1+(l-(b+1))=l by omega,hl] at this
   exact (Option.some.inj this).symm
  ·rfl
theorem putTab_put (σ:List AObj) (b:Nat) {K K':List (List Int)} (h:K.length=K'.length):putTab (putTab σ b K) b K'=putTab σ b K':=by
 apply Z1
 intro l
 rw[putTab_get,putTab_get,putTab_get]
 cases σ[l]? with
 | none=>rfl
 | some o =>
  simp only[Option.map_some,Option.some.injEq,h]
  split <;> rfl
theorem TabAt.put {σ:List AObj} {b T size:Nat} {K K':List (List Int)} (h:TabAt σ b T size K) (hl:K'.length=T) (hs:∀ j,j<T→(K'[j]?.getD []).length=size):TabAt (putTab σ b K') b T size K':=by
 refine ⟨?_,hl,fun j hj=>⟨?_,hs j hj⟩⟩
 ·have:=WO h.out
  unfold rowOf
  rw[putTab_get,this]
  simp only[Option.map_some]
  rw[if_neg (by omega)]
 ·have:=WO (h.rows j hj).1
  unfold rowOf
  rw[putTab_get,this]
  simp only[Option.map_some]
  rw[if_pos (by omega),show b+1+j-(b+1)=j by omega]
theorem putTab_set {σ:List AObj} {b T size:Nat} {K:List (List Int)} (h:TabAt σ b T size K) {t:Nat} (ht:t<T) (row:List Int):σ.set (b+1+t) (AObj.cells (row.map AV.i))=putTab σ b (K.set t row):=by
 apply Z1
 intro l
 rw[putTab_get]
 by_cases hlt:b+1+t=l
 ·subst hlt
  have:=WO (h.rows t ht).1
  have hlen:=(QH.1 this).1
  rw[Z2 hlen,this]
  simp only[Option.map_some,Option.some.injEq,WE]
  have hk:=h.kl
  rw[if_pos (by omega),show b+1+t-(b+1)=t by omega,Z2 (by omega)]
  rfl
 ·rw[QU hlt]
  have same:=putTab_same h
  have e:(putTab σ b K)[l]? = σ[l]? := by rw[same]
  rw[putTab_get] at e
  cases hl:σ[l]? with
  | none=>rfl
  | some o =>
   rw[hl] at e
   simp only[Option.map_some,Option.some.injEq,WE] at e ⊢
   by_cases hr:b+1≤l∧l<b+1+K.length
   ·rw[if_pos hr] at e ⊢
    rw[QU (by omega)]
    exact e.symm
   ·rw[if_neg hr]
theorem objIn_ints (n:Nat) (zs:List Int):Z3 n (AObj.cells (zs.map AV.i))=true:=by
 simp only[Z3]
 induction zs with
 | nil=>rfl
 | cons z zs ih=>simp only[Q0,QO,QR,XI];exact ih
theorem putTab_obj {σ:List AObj} {b:Nat} {K:List (List Int)} {l:Nat} {o:AObj} (h:(putTab σ b K)[l]? = some o):σ[l]? = some o∨(∃ row:List Int,o=AObj.cells (row.map AV.i)):=by
 rw[putTab_get,QA] at h
 obtain ⟨o0,h1,h2⟩:=h
 split at h2
 ·exact .inr ⟨_,h2.symm⟩
 ·exact .inl (by rw[h1,h2])
theorem TabAt.lt {σ:List AObj} {b T size:Nat} {K:List (List Int)} (h:TabAt σ b T size K):b+T<σ.length:=by
 by_cases hT:T=0
 ·have:=(QH.1 (WO h.out)).1;omega
 ·have:=(QH.1 (WO (h.rows (T-1) (by omega)).1)).1;omega
theorem TabAt.push {σ:List AObj} {b T size:Nat} {K:List (List Int)} (h:TabAt σ b T size K) (x:AObj):TabAt (σ++[x]) b T size K :=
 ⟨FU h.out x,h.kl,fun j hj=>⟨FU (h.rows j hj).1 x,(h.rows j hj).2⟩⟩
theorem putTab_push {σ:List AObj} {b T size:Nat} {K K':List (List Int)} (h:TabAt σ b T size K) (hl:K'.length=T) (x:AObj):putTab (σ++[x]) b K'=putTab σ b K'++[x]:=by
 have hlt:=h.lt
 apply Z1
 intro l
 rw[putTab_get]
 rcases ZB l σ.length with h1 | h1
 ·rw[QE h1,QE (by rw[putTab_length];exact h1),putTab_get]
 ·rw[QS h1,QS (by rw[putTab_length];exact h1),putTab_length]
  cases hx:([x]:List AObj)[l-σ.length]? with
  | none=>rfl
  | some o =>
   simp only[Option.map_some,Option.some.injEq]
   rw[if_neg (by omega)]
theorem callOk_put {σ:List AObj} {b:Nat} {K:List (List Int)} (z:Int):HM σ (.i z) (putTab σ b K):=by
 refine ⟨rfl,by rw[putTab_length];exact QG _,fun l o ho hne=>?_⟩
 rcases putTab_obj ho with h | ⟨row,rfl⟩
 ·exact absurd h hne
 ·refine ⟨objIn_ints _ row,fun hl=>?_⟩
  have:=(QH.1 ho).1
  rw[putTab_length] at this;omega
theorem tb_add {S k:Nat} (hk:k<60) (hS:S<2 ^ 60) (h:S.testBit k=false) (j:Nat):(S+2 ^ k).testBit j=(S.testBit j||j == k):=by
 have hk2:2 ^ k<2 ^ 60:=Nat.pow_lt_pow_right (by decide) hk
 have e60:(2:Nat) ^ 60=1152921504606846976:=by decide
 have e64:(2:Nat) ^ 64=18446744073709551616:=by decide
 have hor:S+2 ^ k=S ||| 2 ^ k:=by
  have h1:=BitVec.add_eq_or_of_and_eq_zero (BitVec.ofNat 64 S) (BitVec.ofNat 64 (2 ^ k)) (by
   apply BitVec.eq_of_toNat_eq
   rw[BitVec.toNat_and,BitVec.toNat_ofNat,BitVec.toNat_ofNat,Nat.mod_eq_of_lt (by omega),Nat.mod_eq_of_lt (by omega)]
   apply Nat.eq_of_testBit_eq
   intro j
   rw[Nat.testBit_and,Nat.testBit_two_pow]
   by_cases hj:k=j
   ·subst hj;simp[h]
   ·simp[hj])
  have h2:=congrArg BitVec.toNat h1
  rwa [BitVec.toNat_add,BitVec.toNat_or,BitVec.toNat_ofNat,BitVec.toNat_ofNat,Nat.mod_eq_of_lt (show S<2 ^ 64 by omega),Nat.mod_eq_of_lt (show 2 ^ k<2 ^ 64 by omega),Nat.mod_eq_of_lt (by omega)] at h2
 rw[hor,Nat.testBit_or,Nat.testBit_two_pow]
 congr 1
 by_cases e:k=j
 ·subst e;simp
 ·have:¬ j=k:=fun h=>e h.symm
  simp[e,this]
theorem tb_lt {S k n:Nat} (hk:k<n) (hn:n≤60) (hS:S<2 ^ n) (h:S.testBit k=false):S+2 ^ k<2 ^ n:=by
 have h60:(2:Nat) ^ n≤2 ^ 60:=Nat.pow_le_pow_right (by decide) hn
 refine Nat.lt_of_not_le fun hle=>?_
 obtain ⟨j,hj,hb⟩:=Nat.exists_ge_and_testBit_of_ge_two_pow hle
 rw[tb_add (by omega) (by omega) h,UQ (Z6 hS (Nat.pow_le_pow_right (by decide) hj))] at hb
 simp at hb
 omega
section
variable (can:Nat→Nat→Bool) (n:Nat)
def pairM:Nat→Nat→List (List Int)→Int × List (List Int)
 | 0,_,K=>(0,K)
 | r+1,S,K =>
  let x:=(K[n-(r+1)]?.getD [])[S]?.getD 0
  if x≥0 then (x,K) else
  let p:=(List.range n).foldl (fun p k=>if can (n-(r+1)) k && !S.testBit k then let q:=pairM r (S+2 ^ k) p.2;(max p.1 (1+q.1),q.2) else p) (pairM r S K)
  (p.1,p.2.set (n-(r+1)) ((p.2[n-(r+1)]?.getD []).set S p.1))
def pairL (r S:Nat) (K:List (List Int)) (i:Nat):Int × List (List Int) :=
 (List.range i).foldl (fun p k=>if can (n-(r+1)) k && !S.testBit k then let q:=pairM can n r (S+2 ^ k) p.2;(max p.1 (1+q.1),q.2) else p) (pairM can n r S K)
variable {can n}
theorem pairL_zero (r S:Nat) (K:List (List Int)):pairL can n r S K 0=pairM can n r S K:=rfl
theorem pairL_succ (r S:Nat) (K:List (List Int)) (i:Nat):pairL can n r S K (i+1) =
  if can (n-(r+1)) i && !S.testBit i then (max (pairL can n r S K i).1 (1+(pairM can n r (S+2 ^ i) (pairL can n r S K i).2).1),(pairM can n r (S+2 ^ i) (pairL can n r S K i).2).2) else pairL can n r S K i:=by
 unfold pairL
 rw[WM,List.foldl_append]
 rfl
theorem pairM_succ (r S:Nat) (K:List (List Int)):pairM can n (r+1) S K=if (K[n-(r+1)]?.getD [])[S]?.getD 0≥0 then ((K[n-(r+1)]?.getD [])[S]?.getD 0,K) else
  ((pairL can n r S K n).1,(pairL can n r S K n).2.set (n-(r+1)) (((pairL can n r S K n).2[n-(r+1)]?.getD []).set S (pairL can n r S K n).1)):=rfl
theorem prF_le:∀ (m i:Nat) (B:Nat→Bool),i+m=n→prF can n m i B≤n:=fun m i B h=>by
 obtain ⟨g,_,hs⟩:=TE (can:=can) (n:=n) m i B h
 rw[← hs]
 exact P7
structure MemT (can:Nat→Nat→Bool) (n:Nat) (K:List (List Int)):Prop where
 kl:K.length=n
 rl:∀ j,j<n→(K[j]?.getD []).length=2 ^ n
 rt:∀ j,j<n→∀ S,S<2 ^ n→(K[j]?.getD [])[S]?.getD 0≥0→(K[j]?.getD [])[S]?.getD 0=(prF can n (n-j) j S.testBit:Int)
theorem MemT.set {K:List (List Int)} (h:MemT can n K) {i S:Nat} (hi:i<n) (hS:S<2 ^ n):MemT can n (K.set i ((K[i]?.getD []).set S (prF can n (n-i) i S.testBit:Int))):=by
 have hg:∀ j,j<n→(K.set i ((K[i]?.getD []).set S (prF can n (n-i) i S.testBit:Int)))[j]?.getD []=if i=j then (K[i]?.getD []).set S (prF can n (n-i) i S.testBit:Int) else K[j]?.getD []:=fun j hj=>by
  by_cases e:i=j
  ·subst e
   rw[if_pos rfl,Z2 (by rw[h.kl];exact hi)];rfl
  ·rw[if_neg e,QU e]
 refine ⟨by rw[WE];exact h.kl,fun j hj=>?_,fun j hj T hT=>?_⟩
 ·rw[hg j hj]
  split
  ·rw[WE];exact h.rl i hi
  ·exact h.rl j hj
 ·rw[hg j hj]
  split
  ·rename_i e
   subst e
   by_cases e2:S=T
   ·subst e2
    rw[Z2 (by rw[h.rl i hi];exact hS)]
    intro _;rfl
   ·rw[QU e2]
    exact h.rt i hi T hT
  ·exact h.rt j hj T hT
theorem pair_ok (hn:n≤12):∀ (r S:Nat) (K:List (List Int)),r≤n→S<2 ^ n→MemT can n K→(pairM can n r S K).1=(prF can n r (n-r) S.testBit:Int)∧MemT can n (pairM can n r S K).2
 | 0,S,K,_,_,hK=>⟨rfl,hK⟩
 | r + 1,S,K,hr,hS,hK=>by
  have hi:n-(r+1)<n:=by omega
  have e1:n-(n-(r+1))=r+1:=by omega
  rw[pairM_succ]
  split
  ·rename_i hx
   have:=hK.rt _ hi S hS hx
   rw[e1] at this
   exact ⟨this,hK⟩
  ·have hL:∀ k,k≤n→(pairL can n r S K k).1=(HV k (fun k=>if can (n-(r+1)) k && !S.testBit k then 1+prF can n r (n-(r+1)+1) (fun j=>S.testBit j||j == k) else 0) (prF can n r (n-(r+1)+1) S.testBit):Nat)∧MemT can n (pairL can n r S K k).2:=fun k=>by
    induction k with
    | zero =>
     intro _
     obtain ⟨h1,h2⟩:=pair_ok hn r S K (by omega) hS hK
     rw[show n-(r+1)+1=n-r by omega]
     exact ⟨h1,h2⟩
    | succ k ih =>
     intro hk
     obtain ⟨i1,i2⟩:=ih (by omega)
     rw[pairL_succ]
     simp only[HV]
     split
     ·rename_i hc
      have hb:S.testBit k=false:=by simp only[QD,Z0] at hc;exact hc.2
      have hS60:S<2 ^ 60:=Z6 hS (Nat.pow_le_pow_right (by decide) (by omega))
      obtain ⟨h1,h2⟩:=pair_ok hn r (S+2 ^ k) (pairL can n r S K k).2 (by omega) (tb_lt (by omega) (by omega) hS hb) i2
      refine ⟨?_,h2⟩
      rw[i1,h1]
      have e:(S+2 ^ k).testBit=fun j=>S.testBit j||j == k:=funext fun j=>tb_add (by omega) hS60 hb j
      rw[e,show n-(r+1)+1=n-r by omega]
      push_cast
      omega
     ·rename_i hc
      refine ⟨?_,i2⟩
      rw[i1]
      simp
   obtain ⟨h1,h2⟩:=hL n (QG _)
   have h3:(pairL can n r S K n).1=(prF can n (r+1) (n-(r+1)) S.testBit:Int):=h1
   refine ⟨h3,?_⟩
   rw[h3]
   have:=h2.set hi hS
   rwa [e1] at this
theorem pairL_ok (hn:n≤12) {r S:Nat} {K:List (List Int)} (hr:r+1≤n) (hS:S<2 ^ n) (hK:MemT can n K):∀ k,k≤n→0≤(pairL can n r S K k).1∧(pairL can n r S K k).1≤13∧MemT can n (pairL can n r S K k).2
 | 0,_=>by
  obtain ⟨h1,h2⟩:=pair_ok hn r S K (by omega) hS hK
  have:=prF_le (can:=can) (n:=n) r (n-r) S.testBit (by omega)
  rw[pairL_zero]
  exact ⟨by omega,by omega,h2⟩
 | k+1,hk=>by
  obtain ⟨h1,h2,h3⟩:=pairL_ok hn hr hS hK k (by omega)
  rw[pairL_succ]
  split
  ·rename_i hc
   have hb:S.testBit k=false:=by simp only[QD,Z0] at hc;exact hc.2
   obtain ⟨g1,g2⟩:=pair_ok hn r (S+2 ^ k) (pairL can n r S K k).2 (by omega) (tb_lt (by omega) (by omega) hS hb) h3
   have:=prF_le (can:=can) (n:=n) r (n-r) (S+2 ^ k).testBit (by omega)
   exact ⟨by simp only;omega,by simp only;omega,g2⟩
  ·exact ⟨h1,h2,h3⟩
end
end Go.Proofs.YtgkidpolomhghaaGreatDoor.AM
namespace Go.Proofs.YtgkidpolomhghaaGreatDoor.AM
open Go Pl
theorem pow_bw {m:Nat} (h:m≤12):1≤(2:Int) ^ m∧(2:Int) ^ m≤4096:=by
 match m,h with
 | 0,_ | 1,_ | 2,_ | 3,_ | 4,_ | 5,_ | 6,_ | 7,_ | 8,_ | 9,_ | 10,_ | 11,_ | 12,_=>decide
theorem le83 (m:Nat) (hm:m≤12):PC Tryz.prog 83 [.i m] (.i (2 ^ m)):=by
 refine ⟨ZF (fok83 true) (QC rfl) ?_,rfl⟩
 simp only[ic83,evA,simprocAttr]
 refine ZW m (fun i s'=>∃ v4,s'=⟨[.i m,.i 0,.i (2 ^ i),.i i,v4],[]⟩) ?_ 0 (QF _) ⟨_,rfl⟩
 rintro i s' hi ⟨v4,rfl⟩
 by_cases h:i<m
 ·have hb:=pow_bw (show i≤12 by omega)
  have hw:IntKind.i64.wrap (2*2 ^ i)=2 ^ (i+1):=by rw[ZC (by omega),Int.pow_succ,Int.mul_comm]
  simp only[ic83l0,QJ,h,hw,Q6 (show i+1<2 ^ 63 by omega),evA,simprocAttr]
  exact ZL (by first | trivial | omega) ⟨_,rfl⟩
 ·have:i=m:=by omega
  subst this
  simp only[ic83l0,QJ,h,evA,simprocAttr]
  exact frz
theorem le43 (a:Nat) (h0:a<4096) (k:Nat) (hk:k≤12):PC Tryz.prog 43 [.i a,.i k] (.b (a.testBit k)):=by
 refine ⟨ZF (fok43 true) (QC rfl) ?_,rfl⟩
 have hb:=pow_bw hk
 have h0':0≤(a:Int):=by omega
 have hq:IntKind.i64.wrap ((a:Int).tdiv (2 ^ k))=(a:Int).tdiv (2 ^ k):=by
  rw[Int.tdiv_eq_ediv_of_nonneg h0']
  have h1:0≤(a:Int) / 2 ^ k:=Int.ediv_nonneg h0' (by omega)
  have h2:(a:Int) / 2 ^ k≤a:=Int.ediv_le_self _ h0'
  exact ZC (by omega)
 have hd:=bit_div (a:Int) h0' k
 have hne:¬ ((2:Int) ^ k=0):=by omega
 have hbt:bit (a:Int) k=a.testBit k:=rfl
 rw[hbt] at hd
 simp only[ic43,evA,simprocAttr]
 refine (le83 k hk).call frz ?_
 generalize (2:Int) ^ k=p at *
 have hx:binI .quo .i64 a p=some (.cv (.int .i64 ((a:Int).tdiv p))):=by
  unfold binI;rw[if_neg hne,hq]
 simp only[hne,hq,hd,evA,simprocAttr]
 exact frz
theorem le123 (d:Dy) (hd:DyOk d):∀ (r S:Nat) (K:List (List Int)) (σ:List AObj) (b:Nat),r≤d.ls.length→S<2 ^ d.ls.length→MemT (canB d) d.ls.length K→TabAt σ b d.ls.length (2 ^ d.ls.length) K →
  AC Tryz.prog 123 [dyV d,.sl b 0 d.ls.length 1,.i ((d.ls.length-r:Nat):Int),.i S] σ fun v τ=>v=.i (pairM (canB d) d.ls.length r S K).1∧τ=putTab σ b (pairM (canB d) d.ls.length r S K).2
 | 0,S,K,σ,b,hr,hS,hM,hT=>by
  refine AC.cut (ZF (fok123 true) (QC rfl) ?_) (putTab_length _ _ _) rfl fun l o ho=>(putTab_obj ho).imp id fun ⟨row,h⟩=>by rw[h];exact objIn_ints _ row
  simp only[ic123,WI,cellsOf,XH,Nat.sub_zero,pairM,putTab_same hT,evA,simprocAttr]
  exact ⟨_,rfl⟩
 | r + 1,S,K,σ,b,hr,hS,hM,hT=>by
  refine AC.cut (ZF (fok123 true) (QC rfl) ?_) (putTab_length _ _ _) rfl fun l o ho=>(putTab_obj ho).imp id fun ⟨row,h⟩=>by rw[h];exact objIn_ints _ row
  have h12:=hd.l12
  obtain ⟨n,hn⟩:∃ n,n=d.ls.length:=⟨_,rfl⟩
  obtain ⟨t,ht⟩:∃ t,t=d.ls.length-(r+1):=⟨_,rfl⟩
  have htl:t<d.ls.length:=by omega
  have hne:(((t:Nat):Int) == (d.ls.length:Int))=false:=beq_eq_false_iff_ne.2 (by omega)
  have h2n:2 ^ d.ls.length≤2 ^ 12:=Nat.pow_le_pow_right (by decide) h12
  have e12:(2:Nat) ^ 12=4096:=by decide
  have hS4:S<4096:=by omega
  rw[← ht]
  have hbox:rowOf (σ++[AObj.cells [.cv (minR d.mi),.cv (lesR d.ls)]]) σ.length=some [.cv (minR d.mi),.cv (lesR d.ls)]:=XH _ _
  have hT1:=hT.push (AObj.cells [.cv (minR d.mi),.cv (lesR d.ls)])
  have hlt:=hT.lt
  have hrowt:=hT1.rows t htl
  have hout:((List.range d.ls.length).map fun j=>AV.sl (b+1+j) 0 (2 ^ d.ls.length) 1)[t]? = some (.sl (b+1+t) 0 (2 ^ d.ls.length) 1):=by simp[htl]
  have hNl:S<(K[t]?.getD []).length:=by rw[hrowt.2];exact hS
  have hW:=pairM_succ (can:=canB d) (n:=d.ls.length) r S K
  rw[← ht] at hW
  simp only[ic123,WI,cellsOf,hbox,hne,evA,simprocAttr]
  generalize hs1:σ++[AObj.cells [.cv (minR d.mi),.cv (lesR d.ls)]]=σ1 at *
  simp only[htl,hT1.out,hout,hS,hNl,hrowt.1,evA,simprocAttr]
  by_cases hx:(K[t]?.getD [])[S]?.getD 0≥0
  ·rw[hW,if_pos hx]
   simp only[hx,htl,hT1.out,hout,hS,hNl,hrowt.1,evA,simprocAttr]
   exact ⟨_,by rw[putTab_same hT];exact hs1.symm⟩
  rw[hW,if_neg hx]
  have ht1:IntKind.i64.wrap ((t:Int)+1)=((d.ls.length-r:Nat):Int):=by rw[ZC (by omega)];omega
  have ihc0:=le123 d hd r S K σ1 b (by omega) hS hM hT1
  have hL:=fun k hk=>pairL_ok (can:=canB d) h12 hr hS hM k hk
  have hTL:∀ i,i≤d.ls.length→TabAt (putTab σ1 b (pairL (canB d) d.ls.length r S K i).2) b d.ls.length (2 ^ d.ls.length) (pairL (canB d) d.ls.length r S K i).2:=fun i hi=>hT1.put (hL i hi).2.2.kl (hL i hi).2.2.rl
  have hbx:∀ i,i≤d.ls.length→rowOf (putTab σ1 b (pairL (canB d) d.ls.length r S K i).2) σ.length=some [.cv (minR d.mi),.cv (lesR d.ls)]:=fun i hi=>by
   have h1:=WO hbox
   have h2:=(hL i hi).2.2.kl
   unfold rowOf
   rw[putTab_get,h1]
   simp only[Option.map_some]
   rw[if_neg (by omega)]
  simp only[hx,hbox,ht1,evA,simprocAttr]
  refine AC.run ihc0 ?_
  rw[← pairL_zero]
  simp only[evA,simprocAttr]
  refine ZW d.ls.length (fun i s=>∃ v10 v11,s=⟨[dyV d,.sl b 0 d.ls.length 1,.i t,.i S,.ptr σ.length 0,.i 0,.i (pairL (canB d) d.ls.length r S K i).1,.i i,.b false,.b false,v10,v11],putTab σ1 b (pairL (canB d) d.ls.length r S K i).2⟩) ?_ 0 (QF _) ⟨_,_,rfl⟩
  rintro i s hi ⟨v10,v11,rfl⟩
  by_cases h:i<d.ls.length
  ·have hbxi:=hbx i hi
   have hTi:=hTL i hi
   have hLi:=hL i hi
   have hsucc:=pairL_succ (can:=canB d) (n:=d.ls.length) r S K i
   rw[← ht] at hsucc
   have hwi:=Q6 (show i+1<2 ^ 63 by omega)
   generalize pairL (canB d) d.ls.length r S K i=A at *
   simp only[ic123l0,QJ,h,hbxi,evA,simprocAttr]
   refine (le51 d hd htl h).call frz ?_
   cases hc:canB d t i
   ·rw[hc] at hsucc
    simp only[Bool.false_and,QT,if_false] at hsucc
    simp only[hwi,evA,simprocAttr]
    exact ZL (by first | trivial | omega) ⟨_,_,by rw[hsucc]⟩
   ·simp only[evA,simprocAttr]
    refine (le43 S hS4 i (by omega)).call frz ?_
    cases hbt:S.testBit i
    rotate_left
    ·rw[hc,hbt] at hsucc
     simp only[Y2,UA,QT,if_false] at hsucc
     simp only[hwi,evA,simprocAttr]
     exact ZL (by first | trivial | omega) ⟨_,_,by rw[hsucc]⟩
    ·rw[hc,hbt] at hsucc
     simp only[ZY,WH,if_true] at hsucc
     have hSl:=tb_lt h (by omega) hS hbt
     have ihc:=le123 d hd r (S+2 ^ i) A.2 (putTab σ1 b A.2) b (by omega) hSl hLi.2.2 hTi
     obtain ⟨m1,m2⟩:=pair_ok (can:=canB d) h12 r (S+2 ^ i) A.2 (by omega) hSl hLi.2.2
     have m3:=prF_le (can:=canB d) (n:=d.ls.length) r (d.ls.length-r) (S+2 ^ i).testBit (by omega)
     have m4:0≤(pairM (canB d) d.ls.length r (S+2 ^ i) A.2).1∧(pairM (canB d) d.ls.length r (S+2 ^ i) A.2).1≤12:=by omega
     rw[putTab_put σ1 b (K:=A.2) (by rw[hLi.2.2.kl,m2.kl])] at ihc
     have hco:HM (putTab σ1 b A.2) (.i (pairM (canB d) d.ls.length r (S+2 ^ i) A.2).1) (putTab σ1 b (pairM (canB d) d.ls.length r (S+2 ^ i) A.2).2):=by
      have:=callOk_put (σ:=putTab σ1 b A.2) (b:=b) (K:=(pairM (canB d) d.ls.length r (S+2 ^ i) A.2).2) (pairM (canB d) d.ls.length r (S+2 ^ i) A.2).1
      rwa [putTab_put σ1 b (K:=A.2) (by rw[hLi.2.2.kl,m2.kl])] at this
     clear m1 m3
     have hws:IntKind.i64.wrap ((S:Int)+2 ^ i)=((S+2 ^ i:Nat):Int):=by
      have:=pow_bw (show i≤12 by omega)
      rw[ZC (by omega)]
      push_cast
      rfl
     generalize pairM (canB d) d.ls.length r (S+2 ^ i) A.2=M at *
     have hw1:IntKind.i64.wrap (1+M.1)=1+M.1:=ZC (by omega)
     have hmx:(if 1+M.1>A.1 then 1+M.1 else A.1)=max A.1 (1+M.1):=by split <;> omega
     have h83:=le83 i (by omega)
     generalize (2:Int) ^ i=p2 at *
     simp only[evA,simprocAttr]
     refine DW_s [7] [] hmix (by kernel_rfl) rfl ?_
     simp only[hbxi,ht1,evA,simprocAttr]
     refine YE (h83.call frz ⟨rfl,rfl⟩) rfl ?_
     simp only[hws,evA,simprocAttr]
     refine MS (v:=.i M.1) (τ:=putTab σ1 b M.2) ihc hco ?_
     simp only[hw1,GT,hmx,hwi,evA,simprocAttr]
     exact ZL (by first | trivial | omega) ⟨_,_,by rw[hsucc]⟩
  ·have hie:i=d.ls.length:=by omega
   subst hie
   have hTi:=hTL d.ls.length (QG _)
   have hLi:=hL d.ls.length (QG _)
   have hbxn:=hbx d.ls.length (QG _)
   generalize hA:pairL (canB d) d.ls.length r S K d.ls.length=A at *
   have hrt:=hTi.rows t htl
   have hNl2:S+1≤(A.2[t]?.getD []).length:=by rw[hrt.2];exact hS
   have hfin:(putTab σ1 b A.2).set (b+1+t) (AObj.cells (((A.2[t]?.getD []).set S A.1).map AV.i))=putTab σ1 b (A.2.set t ((A.2[t]?.getD []).set S A.1)):=by
    rw[putTab_set hTi htl,putTab_put]
    simp
   simp only[ic123l0,QJ,h,hbxn,htl,hTi.out,hout,hS,hNl2,hrt.1,hfin,evA,simprocAttr]
   refine ⟨[AObj.cells [.cv (minR d.mi),.cv (lesR d.ls)]],?_⟩
   rw[← hs1]
   exact putTab_push hT (by rw[WE];exact hLi.2.2.kl) _
theorem set_last {rows:List AObj} {c x:AObj} {t:Nat} (h:rows.length=t):(rows++[c]).set t x=rows++[x]:=by
 subst h;simp
theorem row_last {rows:List AObj} {cs:List AV} {t:Nat} (h:rows.length=t):rowOf (rows++[AObj.cells cs]) t=some cs:=by
 subst h;exact XH _ _
theorem mk1 {bytes n:Nat} {z:AV} (hb:bytes≤1000) (h:n≤1000000) (σ:List AObj):XB 1 bytes [z] [.cv (.int .i64 n),.cv (.int .i64 n)] σ=some (.sl σ.length 0 n 1,σ++[AObj.cells (List.replicate n z)]):=by
 have h1:n*bytes≤1000000*1000:=Nat.mul_le_mul h hb
 have h2:(2:Int) ^ 46=70368744177664:=by decide
 have h3:(n:Int)*(bytes:Int)=((n*bytes:Nat):Int):=by simp
 have hc:(0≤(n:Int)∧True∧(n:Int)*bytes≤2 ^ 46∧(n:Int)≤2 ^ 46∧[z].length=1):=by
  rw[h3,h2];exact ⟨by omega,trivial,by omega,by omega,rfl⟩
 simp only[XB]
 rw[if_pos hc]
 simp[YW]
def outerF (size T t:Nat):List AV:=(List.range T).map fun j=>if j<t then .sl (j+2) 0 size 1 else .cv .nils
theorem outerF_set {size T t:Nat} (h:t<T):(outerF size T t).set t (.sl (t+2) 0 size 1)=outerF size T (t+1):=by
 apply Y1 (by simp[outerF])
 intro j h1 h2
 simp only[outerF,ZK,List.length_range] at h2
 by_cases hj:j=t
 ·subst hj;simp[outerF]
 ·rw[List.getElem_set_ne (by omega)]
  have:(j<t)↔(j<t+1):=by omega
  simp[outerF,this]
theorem outerF_get {size T t j:Nat} (h:j<T) (hj:j<t):(outerF size T t)[j]? = some (.sl (j+2) 0 size 1):=by simp[outerF,h,hj]
theorem outerF_len {size T t:Nat}:(outerF size T t).length=T:=by simp[outerF]
def fillT (size k:Nat):List AV:=List.replicate k (.i (-1))++List.replicate (size-k) (.i 0)
theorem fillT_len {size k:Nat} (h:k≤size):(fillT size k).length=size:=by simp[fillT];omega
theorem fillT_set {size k:Nat} (h:k<size):(fillT size k).set k (.cv (.int .i64 (-1)))=fillT size (k+1):=by
 unfold fillT
 have e:size-k=(size-(k+1))+1:=by omega
 rw[e,List.replicate_succ,List.set_append_right _ _ (by simp)]
 simp[List.replicate_succ']
def K0₀ (T size:Nat):List (List Int):=List.replicate T (List.replicate size (-1))
theorem fillT_full (size:Nat):fillT size size=(List.replicate size (-1:Int)).map AV.i:=by simp[fillT]
theorem TabAt.rows_of {σ τ:List AObj} {b T size:Nat} {K:List (List Int)} (h:TabAt σ b T size K) (hr:∀ l,l<b+1+T→rowOf τ l=rowOf σ l):TabAt τ b T size K :=
 ⟨by rw[hr b (by omega)];exact h.out,h.kl,fun j hj=>⟨by rw[hr _ (by omega)];exact (h.rows j hj).1,(h.rows j hj).2⟩⟩
theorem G9.put {σ:List AObj} {b b':Nat} {v:AV} {zs:List Int} {K:List (List Int)} (h:G9 b' σ v zs) (hb:b+1+K.length≤b'):G9 b' (putTab σ b K) v zs:=by
 refine ⟨by rw[putTab_length];exact h.1,h.2.imp id fun ⟨l,h1,h2,h3⟩=>⟨l,h1,h2,?_⟩⟩
 unfold rowOf
 rw[putTab_get,WO h3]
 simp only[Option.map_some]
 rw[if_neg (by omega)]
theorem putTab_lo {σ:List AObj} {b:Nat} {K:List (List Int)} {l:Nat} (hl:l<b+1):rowOf (putTab σ b K) l=rowOf σ l:=by
 unfold rowOf
 rw[putTab_get]
 cases σ[l]? with
 | none=>rfl
 | some o =>
  simp only[Option.map_some]
  rw[if_neg (by omega)]
theorem K0_mem {can:Nat→Nat→Bool} {n:Nat}:MemT can n (K0₀ n (2 ^ n)):=by
 refine ⟨by simp[K0₀],fun j hj=>by simp[K0₀,hj],fun j hj S hS h=>?_⟩
 have:(K0₀ n (2 ^ n))[j]?.getD []=List.replicate (2 ^ n) (-1):=by simp[K0₀,hj]
 rw[this,YN,if_pos hS] at h
 simp at h
theorem K0_tab {b:AObj} {n size:Nat}:TabAt (b::AObj.cells (outerF size n n)::List.replicate n (AObj.cells (fillT size size))) 1 n size (K0₀ n size):=by
 refine ⟨?_,by simp[K0₀],fun j hj=>⟨?_,by simp[K0₀,hj]⟩⟩
 ·show some (outerF size n n)=_
  congr 1
  apply JI
  intro j hj
  have:j<n:=by simpa using hj
  rw[if_pos this]
  congr 1
  omega
 ·have e:1+1+j=j+2:=by omega
  have hf:=fillT_full size
  simp[rowOf,e,K0₀,hj,hf]
theorem tab_call {d:Dy} (hd:DyOk d) {σ:List AObj} {b:Nat} {K:List (List Int)} (hT:TabAt σ b d.ls.length (2 ^ d.ls.length) K) (hM:MemT (canB d) d.ls.length K) {i S:Nat} (hi:i≤d.ls.length) (hS:S<2 ^ d.ls.length) :
  ∃ K',AC Tryz.prog 123 [dyV d,.sl b 0 d.ls.length 1,.i i,.i S] σ (fun v τ=>v=.i (prF (canB d) d.ls.length (d.ls.length-i) i S.testBit:Nat)∧τ=putTab σ b K')∧TabAt (putTab σ b K') b d.ls.length (2 ^ d.ls.length) K'∧MemT (canB d) d.ls.length K':=by
 have hac:=le123 d hd (d.ls.length-i) S K σ b (by omega) hS hM hT
 obtain ⟨h1,h2⟩:=pair_ok (can:=canB d) hd.l12 (d.ls.length-i) S K (by omega) hS hM
 have e:d.ls.length-(d.ls.length-i)=i:=by omega
 rw[e] at hac h1
 rw[h1] at hac
 exact ⟨_,hac,hT.put h2.kl h2.rl,h2⟩
theorem addB_none (B:Nat→Bool):addB B (-1)=B:=funext fun j=>by
 have:decide ((j:Int) = -1)=false:=decide_eq_false (by omega)
 simp only[addB,this,Bool.or_false]
theorem addB_some {S k:Nat} (hk:k<60) (hS:S<2 ^ 60) (h:S.testBit k=false):addB S.testBit (k:Int)=(S+2 ^ k).testBit:=funext fun j=>by
 rw[tb_add hk hS h]
 unfold addB
 congr 1
 by_cases e:j=k
 ·subst e;simp
 ·have:¬ ((j:Int)=k):=by omega
  simp[e,this]
theorem le77 (d:Dy) (hd:DyOk d):PC Tryz.prog 77 [dyV d] (ints (nxtL d)):=by
 refine ⟨ZF (fok77 true) (QC rfl) ?_,rfl⟩
 have h12:=hd.l12
 have hsz:2 ^ d.ls.length≤4096:=YR (Nat.pow_le_pow_right (by decide) h12) (by decide)
 have h83:=le83 d.ls.length h12
 have hpz:(2:Int) ^ d.ls.length=((2 ^ d.ls.length:Nat):Int):=by push_cast;rfl
 rw[hpz] at h83
 obtain ⟨size,hsize⟩:∃ size,size=2 ^ d.ls.length:=⟨_,rfl⟩
 rw[← hsize] at hsz h83
 have hm1:=mk1 (bytes:=24) (n:=d.ls.length) (z:=.cv .nils) (by decide) (by omega)
 have hm2:=mk1 (bytes:=8) (n:=size) (z:=.cv (.int .i64 0)) (by decide) (by omega)
 have ho0:List.replicate d.ls.length (AV.cv .nils)=outerF size d.ls.length 0:=by
  apply Y1 (by simp[outerF])
  intro j h1 h2
  simp[outerF]
 simp only[ic77,WI,cellsOf,hm1,evA,simprocAttr]
 rw[ho0]
 refine ZW d.ls.length (fun t s=>∃ v6 v13 v14,s=⟨[dyV d,.ptr 0 0,.cv .nils,.i d.ls.length,.sl 1 0 d.ls.length 1,.i t,v6,.undef,.undef,.undef,.undef,.undef,.undef,v13,v14,.undef,.undef,.undef,.undef],AObj.cells [.cv (minR d.mi),.cv (lesR d.ls)]::AObj.cells (outerF size d.ls.length t)::List.replicate t (AObj.cells (fillT size size))⟩) ?_ 0 (QF _) ⟨_,_,_,rfl⟩
 rintro t s htl ⟨v6,v13,v14,rfl⟩
 by_cases ht2:t<d.ls.length
 ·have hset:=outerF_set (size:=size) ht2
  simp only[ic77l3,QJ,ht2,evA,simprocAttr]
  refine h83.call frz ?_
  have hol:(outerF size d.ls.length t).length=d.ls.length:=outerF_len
  have ht3:t+1≤d.ls.length:=ht2
  simp only[hm2,hol,ht2,ht3,List.length_replicate,hset,evA,simprocAttr]
  have hf0:List.replicate size (AV.cv (.int .i64 0))=fillT size 0:=by simp[fillT]
  rw[hf0]
  have hget:(outerF size d.ls.length (t+1))[t]? = some (.sl (t+2) 0 size 1):=outerF_get ht2 (by omega)
  generalize hR:List.replicate t (AObj.cells (fillT size size))=R
  have hRl:R.length=t:=by rw[← hR];simp
  refine ZW size (fun k s=>∃ v13 v14,s=⟨[dyV d,.ptr 0 0,.cv .nils,.i d.ls.length,.sl 1 0 d.ls.length 1,.i t,.i k,.undef,.undef,.undef,.undef,.undef,.undef,v13,v14,.undef,.undef,.undef,.undef],AObj.cells [.cv (minR d.mi),.cv (lesR d.ls)]::AObj.cells (outerF size d.ls.length (t+1))::(R++[AObj.cells (fillT size k)])⟩) ?_ 0 (QF _) ⟨_,_,rfl⟩
  rintro k s hks ⟨v13,v14,rfl⟩
  by_cases hk2:k<size
  ·have hrow:=row_last (cs:=fillT size k) hRl
   have hsl:=fun x=>set_last (c:=AObj.cells (fillT size k)) (x:=x) hRl
   have hfl:=fillT_len (size:=size) (k:=k) (by omega)
   have hfs:=fillT_set hk2
   have hk3:k+1≤size:=hk2
   simp only[ic77l2,QJ,hk2,hk3,ht2,hget,hrow,hsl,hfl,hfs,evA,simprocAttr]
   exact ZL (by first | trivial | omega) ⟨_,_,by rw[ZC (by omega)];rfl⟩
  ·have:k=size:=by omega
   subst this
   simp only[ic77l2,QJ,hk2,ht2,hget,evA,simprocAttr]
   exact ZL (by first | trivial | omega) ⟨_,_,_,by rw[ZC (n:=(t:Int)+1) (by omega),← hR,← List.replicate_succ'];rfl⟩
 have hte:t=d.ls.length:=by omega
 subst hte
 simp only[ic77l3,QJ,ht2,evA,simprocAttr]
 have hT0:=K0_tab (b:=AObj.cells [.cv (minR d.mi),.cv (lesR d.ls)]) (n:=d.ls.length) (size:=size)
 have hlen0:(AObj.cells [.cv (minR d.mi),.cv (lesR d.ls)]::AObj.cells (outerF size d.ls.length d.ls.length)::List.replicate d.ls.length (AObj.cells (fillT size size))).length=2+d.ls.length:=by simp;omega
 have hr0:rowOf (AObj.cells [.cv (minR d.mi),.cv (lesR d.ls)]::AObj.cells (outerF size d.ls.length d.ls.length)::List.replicate d.ls.length (AObj.cells (fillT size size))) 0=some [.cv (minR d.mi),.cv (lesR d.ls)]:=rfl
 generalize AObj.cells [.cv (minR d.mi),.cv (lesR d.ls)]::AObj.cells (outerF size d.ls.length d.ls.length)::List.replicate d.ls.length (AObj.cells (fillT size size))=H0₀ at *
 subst hsize
 refine ZW d.ls.length (fun i s=>∃ (H:List AObj) (K:List (List Int)) (S:Nat) (zs:List Int) (v7 v10 v11 v12 v15 v16 v17 v18:AV),(TabAt H 1 d.ls.length (2 ^ d.ls.length) K∧MemT (canB d) d.ls.length K∧rowOf H 0=some [.cv (minR d.mi),.cv (lesR d.ls)]∧G9 (2+d.ls.length) H v7 zs∧S<2 ^ d.ls.length∧zs.length=i∧zs++nxL (canB d) d.ls.length (d.ls.length-i) i S.testBit=nxtL d) ∧
  s=⟨[dyV d,.ptr 0 0,.cv .nils,.i d.ls.length,.sl 1 0 d.ls.length 1,.i d.ls.length,v6,v7,.i S,.i i,v10,v11,v12,.b false,v14,v15,v16,v17,v18],H⟩) ?_ 0 (QF _) ⟨H0₀,_,0,[],_,_,_,_,_,_,_,_,⟨hT0,K0_mem,hr0,.nil (by omega),Nat.two_pow_pos _,rfl,by
   have e:(0:Nat).testBit=fun _=>false:=funext fun j=>Nat.zero_testBit j
   rw[e];rfl⟩,rfl⟩
 clear hT0 hr0 hlen0 ho0 ht2 htl
 rintro i s hi ⟨H,K,S,zs,v7,v10,v11,v12,v15,v16,v17,v18,⟨hT,hM,hr0,hA,hS,hzl,heq⟩,rfl⟩
 by_cases h:i<d.ls.length
 rotate_left
 ·have hie:i=d.ls.length:=by omega
  subst hie
  have heq:zs=nxtL d:=by rw[Nat.sub_self] at heq;simpa[nxL] using heq
  rw[heq] at hA
  simp only[ic77l1,QJ,h,evA,simprocAttr]
  exact acc_frz (fun _=>trivial) hA.acc
 obtain ⟨m,hm⟩:∃ m,d.ls.length-i=m+1:=⟨d.ls.length-i-1,by omega⟩
 obtain ⟨K1₀,hc1,hT1,hM1⟩:=tab_call hd hT hM hi hS
 have hK1:=hT1.kl
 have hA1:=hA.put (b:=1) (K:=K1₀) (by omega)
 have hr1:rowOf (putTab H 1 K1₀) 0=some [.cv (minR d.mi),.cv (lesR d.ls)]:=by rw[putTab_lo (by omega)];exact hr0
 have hwn:IntKind.i64.wrap ((d.ls.length:Int)-1)=(d.ls.length:Int)-1:=ZC (by omega)
 simp only[ic77l1,QJ,h,hr0,evA,simprocAttr]
 refine AC.run hc1 ?_
 simp only[hwn,evA,simprocAttr]
 rw[hm] at heq ⊢
 have hmi:d.ls.length-(i+1)=m:=by omega
 have hwi1:IntKind.i64.wrap ((i:Int)+1)=((i+1:Nat):Int):=by rw[ZC (by omega)];rfl
 have hS4:S<4096:=by omega
 have hp12:(2:Nat) ^ 12=4096:=by decide
 refine ZW d.ls.length (fun j s=>∃ (H:List AObj) (K:List (List Int)) (v16 v17:AV),(TabAt H 1 d.ls.length (2 ^ d.ls.length) K∧MemT (canB d) d.ls.length K∧rowOf H 0=some [.cv (minR d.mi),.cv (lesR d.ls)]∧G9 (2+d.ls.length) H v7 zs) ∧
  s=⟨[dyV d,.ptr 0 0,.cv .nils,.i d.ls.length,.sl 1 0 d.ls.length 1,.i d.ls.length,v6,v7,.i S,.i i,.i (prF (canB d) d.ls.length (m+1) i S.testBit:Nat),.i (XQ (J2 (canB d) d.ls.length m i S.testBit) j (d.ls.length-j)),.i ((d.ls.length:Int)-1-(j:Int)),.b false,v14,.b true,v16,v17,v18],H⟩) ?_ 0 (QF _) ⟨_,K1₀,_,_,⟨hT1,hM1,hr1,hA1⟩,by
   have e:((d.ls.length:Int)-1-((0:Nat):Int))=(d.ls.length:Int)-1:=by omega
   rw[e];rfl⟩
 clear hc1 hT1 hM1 hr1 hA1 hK1 hT hM hr0 hA
 rintro j s hj ⟨H,K,v16,v17,⟨hT,hM,hr0,hA⟩,rfl⟩
 by_cases hjl:j<d.ls.length
 ·obtain ⟨k,hk⟩:∃ k,k=d.ls.length-(j+1):=⟨_,rfl⟩
  have hkl:k<d.ls.length:=by omega
  have ek:((d.ls.length:Int)-1-(j:Int))=(k:Int):=by omega
  have hge:decide ((k:Int)≥0)=true:=decide_eq_true (by omega)
  have hwk:IntKind.i64.wrap ((k:Int)-1)=(d.ls.length:Int)-1-((j+1:Nat):Int):=by rw[ZC (by omega)];omega
  have hfs:XQ (J2 (canB d) d.ls.length m i S.testBit) (j+1) (d.ls.length-(j+1))=if J2 (canB d) d.ls.length m i S.testBit k=true then (k:Int) else XQ (J2 (canB d) d.ls.length m i S.testBit) j (d.ls.length-j):=by
   rw[← hk]
   have:d.ls.length-j=k+1:=by omega
   rw[this];rfl
  have hcd:J2 (canB d) d.ls.length m i S.testBit k=(canB d i k && !S.testBit k&&decide (1+prF (canB d) d.ls.length m (i+1) (fun j=>S.testBit j||j == k)=prF (canB d) d.ls.length (m+1) i S.testBit)):=rfl
  rw[ek]
  generalize XQ (J2 (canB d) d.ls.length m i S.testBit) j (d.ls.length-j)=nx at *
  simp only[ic77l0,hge,evA,simprocAttr]
  refine DW_s [3,7,17] [] hmix (by kernel_rfl) rfl ?_
  simp only[hr0,evA,simprocAttr]
  refine YE ((le51 d hd h hkl).call frz ⟨rfl,rfl⟩) rfl ?_
  cases hc:canB d i k
  ·rw[hcd,hc] at hfs
   simp only[Bool.false_and,QT,if_false] at hfs
   simp only[hwk,evA,simprocAttr]
   exact ZL (by first | trivial | omega) ⟨H,K,_,_,⟨hT,hM,hr0,hA⟩,by rw[hfs]⟩
  simp only[evA,simprocAttr]
  refine YE ((le43 S hS4 k (by omega)).call frz ⟨rfl,rfl⟩) rfl ?_
  cases hbt:S.testBit k
  rotate_left
  ·rw[hcd,hc,hbt] at hfs
   simp only[Y2,UA,Bool.false_and,QT,if_false] at hfs
   simp only[hwk,evA,simprocAttr]
   exact ZL (by first | trivial | omega) ⟨H,K,_,_,⟨hT,hM,hr0,hA⟩,by rw[hfs]⟩
  have hSl:=tb_lt hkl (by omega) hS hbt
  have et:(S+2 ^ k).testBit=fun j=>S.testBit j||j == k:=funext fun j=>tb_add (by omega) (by omega) hbt j
  obtain ⟨K',hc2,hT2,hM2⟩:=tab_call hd hT hM (i:=i+1) (by omega) hSl
  rw[hmi,et] at hc2
  have hK2:=hT2.kl
  have hA2:=hA.put (b:=1) (K:=K') (by omega)
  have hr2:rowOf (putTab H 1 K') 0=some [.cv (minR d.mi),.cv (lesR d.ls)]:=by rw[putTab_lo (by omega)];exact hr0
  have hco:=callOk_put (σ:=H) (b:=1) (K:=K') (prF (canB d) d.ls.length m (i+1) (fun j=>S.testBit j||j == k):Nat)
  have hpl:=prF_le (can:=canB d) (n:=d.ls.length) m (i+1) (fun j=>S.testBit j||j == k) (by omega)
  have hws:IntKind.i64.wrap ((S:Int)+2 ^ k)=((S+2 ^ k:Nat):Int):=by
   have:=pow_bw (show k≤12 by omega)
   rw[ZC (by omega)]
   push_cast
   rfl
  rw[hcd,hc,hbt] at hfs
  simp only[ZY,Bool.and_self,XI,decide_eq_true_eq] at hfs
  clear hcd et hSl
  generalize prF (canB d) d.ls.length m (i+1) (fun j=>S.testBit j||j == k)=M at *
  generalize prF (canB d) d.ls.length (m+1) i S.testBit=L at *
  have hw1:IntKind.i64.wrap (1+(M:Int))=1+(M:Int):=ZC (by omega)
  have h83k:=le83 k (by omega)
  generalize (2:Int) ^ k=p2 at *
  simp only[hr0,hwi1,evA,simprocAttr]
  refine YE (h83k.call frz ⟨rfl,rfl⟩) rfl ?_
  simp only[hws,evA,simprocAttr]
  refine MS hc2 hco ?_
  by_cases hML:1+M=L
  ·have hbe:((1+(M:Int)) == (L:Int))=true:=beq_iff_eq.2 (by omega)
   rw[if_pos hML] at hfs
   simp only[hw1,hbe,hwk,evA,simprocAttr]
   exact ZL (by first | trivial | omega) ⟨_,K',_,_,⟨hT2,hM2,hr2,hA2⟩,by rw[hfs]⟩
  ·have hbe:((1+(M:Int)) == (L:Int))=false:=beq_eq_false_iff_ne.2 (by omega)
   rw[if_neg hML] at hfs
   simp only[hw1,hbe,hwk,evA,simprocAttr]
   exact ZL (by first | trivial | omega) ⟨_,K',_,_,⟨hT2,hM2,hr2,hA2⟩,by rw[hfs]⟩
 ·have hje:j=d.ls.length:=by omega
  subst hje
  have hlt:decide (((d.ls.length:Int)-1-(d.ls.length:Int))≥0)=false:=decide_eq_false (by omega)
  rw[Nat.sub_self]
  simp only[ic77l0,hlt,evA,simprocAttr]
  obtain ⟨v',σ',hap,hacc,hrow⟩:=accFrom_append (XQ (J2 (canB d) d.ls.length m i S.testBit) d.ls.length 0) hA (by omega)
  have hTn:=hT.rows_of fun l hl=>hrow l (by omega)
  have hrn:rowOf σ' 0=some [.cv (minR d.mi),.cv (lesR d.ls)]:=by rw[hrow 0 (by omega)];exact hr0
  have heq2:(zs++[XQ (J2 (canB d) d.ls.length m i S.testBit) d.ls.length 0])++nxL (canB d) d.ls.length m (i+1) (addB S.testBit (XQ (J2 (canB d) d.ls.length m i S.testBit) d.ls.length 0))=nxtL d:=by
   rw[← heq,QW];rfl
  have hcase:=NE (p:=J2 (canB d) d.ls.length m i S.testBit) d.ls.length 0
  generalize XQ (J2 (canB d) d.ls.length m i S.testBit) d.ls.length 0=f at *
  rcases hcase with ⟨rfl,_⟩ | ⟨x,_,hx,hcx,rfl,_⟩
  ·rw[addB_none] at heq2
   simp only[hap,hwi1,evA,simprocAttr]
   exact ZL (by first | trivial | omega) ⟨σ',K,S,_,v',_,_,_,_,_,_,_,⟨hTn,hM,hrn,hacc,hS,by simp[hzl],by rw[hmi];exact heq2⟩,rfl⟩
  ·have hbx:S.testBit x=false:=by
    unfold J2 at hcx
    simp only[QD,Z0] at hcx
    exact hcx.1.2
   have hxl:x<d.ls.length:=by omega
   rw[addB_some (by omega) (by omega) hbx] at heq2
   have hge:decide ((x:Int)≥0)=true:=decide_eq_true (by omega)
   have hws:IntKind.i64.wrap ((S:Int)+2 ^ x)=((S+2 ^ x:Nat):Int):=by
    have:=pow_bw (show x≤12 by omega)
    rw[ZC (by omega)]
    push_cast
    rfl
   have hSl:=tb_lt hxl (by omega) hS hbx
   have h83x:=le83 x (by omega)
   generalize (2:Int) ^ x=p2 at *
   simp only[hap,hge,evA,simprocAttr]
   refine h83x.call frz ?_
   simp only[hws,hwi1,evA,simprocAttr]
   exact ZL (by first | trivial | omega) ⟨σ',K,S+2 ^ x,_,v',_,_,_,_,_,_,_,⟨hTn,hM,hrn,hacc,hSl,by simp[hzl],by rw[hmi];exact heq2⟩,rfl⟩
theorem turns_set {k:Nat} {σ:List AObj} {v w:AV} (hvw:Turn1 k σ v w):∀ (L:List AV) (i:Nat),(∀ x∈L,QR k x=true)→D2 k σ (L.set i v) (L.set i w)
 | [],i,_=>by rw[List.set_nil,List.set_nil];exact .nil
 | x::L,0,h=>.cons hvw (by
   have:∀ L:List AV,(∀ x∈L,QR k x=true)→D2 k σ L L:=fun L=>by
    induction L with
    | nil=>intro _;exact .nil
    | cons y L ih=>intro h;exact .cons (.inl ⟨rfl,h y (by simp)⟩) (ih fun z hz=>h z (by simp[hz]))
   exact this L fun z hz=>h z (by simp[hz]))
 | x::L,i+1,h=>.cons (.inl ⟨rfl,h x (by simp)⟩) (turns_set hvw L i fun z hz=>h z (by simp[hz]))
theorem fill_in {k:Nat} {g:Nat→List Int} {n i:Nat}:∀ x∈EO g n i,QR k x=true:=by
 intro x hx
 obtain ⟨j,_,rfl⟩:=ZP.1 hx
 split <;> rfl
theorem two_rows {c0 c1:List AV} {J H:List AObj} (h:∀ l,l<2→rowOf H l=rowOf (AObj.cells c0::AObj.cells c1::J) l):∃ I,H=AObj.cells c0::AObj.cells c1::I:=by
 have h0:=WO ((h 0 (by omega)).trans rfl)
 have h1:=WO ((h 1 (by omega)).trans rfl)
 match H,h0,h1 with
 | x::y::I,h0,h1 =>
  injection h0 with h0
  injection h1 with h1
  exact ⟨I,by rw[h0,h1]⟩
theorem le26 (d:Dy) (hd:DSz d):PA Tryz.prog 26 [dyV d] (folA d):=by
 have h24:=le24 d hd
 unfold chkA at h24
 refine ⟨ZF (fok26 true) (QC rfl) ?_,rfl,rfl⟩
 simp only[ic26,WI,cellsOf,evA,simprocAttr]
 refine h24.call frz ?_
 unfold folA
 by_cases he:(dyE d).2.2=0
 rotate_left
 ·have hb:((dyE d).2.2 != 0)=true:=by simpa using he
  rw[if_pos he]
  simp only[hb,evA,simprocAttr]
  exact .tup (.cons (.c .nl) (.cons (.c (.c _ trivial)) .nil))
 have hb:((dyE d).2.2 != 0)=false:=by simpa using he
 have hok:=LO he
 have h12:=hok.l12
 rw[if_neg (fun h=>h he)]
 have hmk:=fun σ=>Qd8 (n:=d.ls.length) (WJ h12 (by decide)) σ
 simp only[hb,he,hmk,evA,simprocAttr]
 rw[← Qcz (behL d)]
 have h40:(2:Nat) ^ 40=1099511627776:=by decide
 refine ZW d.ls.length (fun i s=>∃ v7 v9 v10 v11,s=⟨[dyV d,.ptr 0 0,.cv .nils,.i 0,.i 0,.sl 1 0 d.ls.length 1,.i i,v7,.b false,v9,v10,v11],[.cells [.cv (minR d.mi),.cv (lesR d.ls)],.cells (EO (behL d) d.ls.length i)]⟩) ?_ 0 (QF _) ⟨_,_,_,_,rfl⟩
 rintro i s hi ⟨v7,v9,v10,v11,rfl⟩
 by_cases hin:i<d.ls.length
 rotate_left
 ·have hin':i=d.ls.length:=by omega
  subst hin'
  simp only[ic26l1,QJ,hin,evA,simprocAttr]
  exact .tup (.cons (frz_fill (behL d) rfl) (.cons (.c (.c _ trivial)) .nil))
 simp only[ic26l1,QJ,hin,evA,simprocAttr]
 have hset0:EO (behL d) d.ls.length i=(EO (behL d) d.ls.length i).set i (.cv .nils):=by
  apply Z1
  intro j
  rw[ZO]
  by_cases hj:i=j
  ·subst hj
   simp[EO,hin]
  ·rw[if_neg hj]
 have hwi:=Q6 (show i+1<2 ^ 63 by omega)
 refine ZW d.ls.length (fun k s=>∃ v J v10 v11,G9 2 (AObj.cells [.cv (minR d.mi),.cv (lesR d.ls)]::AObj.cells ((EO (behL d) d.ls.length i).set i v)::J) v (YS k (canB d i))∧s=⟨[dyV d,.ptr 0 0,.cv .nils,.i 0,.i 0,.sl 1 0 d.ls.length 1,.i i,.i k,.b false,.b true,v10,v11],.cells [.cv (minR d.mi),.cv (lesR d.ls)] :: .cells ((EO (behL d) d.ls.length i).set i v)::J⟩) ?_ 0 (QF _) ⟨_,[],_,_,.nil (by simp),by rw[← hset0];rfl⟩
 rintro k s hk ⟨v,J,v10,v11,hA,rfl⟩
 have hlen:((EO (behL d) d.ls.length i).set i v).length=d.ls.length:=by rw[WE,NH]
 have hget:((EO (behL d) d.ls.length i).set i v)[i]? = some v:=Z2 (by rw[NH];exact hin)
 by_cases hkn:k<d.ls.length
 ·have hwk:=Q6 (show k+1<2 ^ 63 by omega)
  have hsu:=ET (canB d i) k
  simp only[ic26l0,QJ,hkn,evA,simprocAttr]
  refine (le51 d hok hin hkn).call frz ?_
  cases hc:canB d i k
  ·simp only[hwk,evA,simprocAttr]
   refine ZL (by first | trivial | omega) ⟨v,J,_,_,?_,rfl⟩
   rw[hsu,hc]
   simpa using hA
  ·have hbl:(YS k (canB d i)).length≤k:=M7
   obtain ⟨v',σ',hap,hacc,hrow⟩:=accFrom_append (k:Int) hA (by omega)
   obtain ⟨I,rfl⟩:=two_rows hrow
   have hst:=hacc.store (l:=1) (by omega) (AObj.cells ((EO (behL d) d.ls.length i).set i v'))
   have hss:((EO (behL d) d.ls.length i).set i v).set i v'=(EO (behL d) d.ls.length i).set i v':=List.set_set ..
   simp only[List.length_cons,List.cons_append] at hap
   have hv:cellsOf v'=[v']∧v'.isSc=true:=by
    rcases hacc.2 with ⟨rfl,_⟩ | ⟨l,_,rfl,_⟩ <;> exact ⟨rfl,rfl⟩
   have hin1:i+1≤d.ls.length:=hin
   simp only[W9 hin,ZV,hget,hap,hlen,hv.1,hv.2,hin1,hss,hwk,evA,simprocAttr]
   refine ZL (by first | trivial | omega) ⟨v',I,_,_,?_,rfl⟩
   rw[hsu,hc]
   exact hst
 ·have hkn':k=d.ls.length:=by omega
  subst hkn'
  simp only[ic26l0,QJ,hkn,hwi,evA,simprocAttr]
  have hfz:FrzV anyC (List.replicate 2 .dead++J) v (ints (behL d i)):=by
   have hA2:SB (List.replicate 2 .dead++J) v (behL d i):=by
    rcases hA.2 with ⟨h1,h2⟩ | ⟨l,h1,h2,h3⟩
    ·exact .inl ⟨h1,h2⟩
    ·refine .inr ⟨l,h2,?_⟩
     obtain ⟨r,rfl⟩:∃ r,l=r+2:=⟨l-2,by omega⟩
     exact h3
   exact acc_frz (fun _=>trivial) hA2
  refine kFor_turn [.cells [.cv (minR d.mi),.cv (lesR d.ls)],.cells ((EO (behL d) d.ls.length i).set i v)] [.cells [.cv (minR d.mi),.cv (lesR d.ls)],.cells (EO (behL d) d.ls.length (i+1))] J rfl (by first | trivial | omega) rfl rfl ?_ ?_ ⟨.undef,.undef,.undef,.undef,rfl⟩
  ·have u:∀ v,Turn1 2 (List.replicate 2 .dead++J) v .undef:=fun v=>.inr (.un _)
   have c:∀ v,QR 2 v=true→Turn1 2 (List.replicate 2 .dead++J) v v:=fun v hv=>.inl ⟨rfl,hv⟩
   exact .cons (c _ rfl) (.cons (c _ rfl) (.cons (c _ rfl) (.cons (c _ rfl) (.cons (c _ rfl) (.cons (c _ rfl) (.cons (c _ rfl) (.cons (u _) (.cons (c _ rfl) (.cons (u _) (.cons (u _) (.cons (u _) .nil)))))))))))
  ·intro l o2 ho
   match l,ho with
   | 0,ho=>cases ho;exact ⟨_,rfl,trivial,.inl ⟨rfl,rfl⟩⟩
   | 1,ho =>
    cases ho
    refine ⟨_,rfl,trivial,.inr ⟨_,_,rfl,rfl,?_⟩⟩
    rw[← Qeu (behL d) hin]
    exact turns_set (.inr hfz) _ i fill_in
def boC (f:Nat→Bool) (n:Nat):List CV:=(List.range n).map fun j=>.bool (f j)
theorem boC_len (f:Nat→Bool) (n:Nat):(boC f n).length=n:=by simp[boC]
theorem boC_get {f:Nat→Bool} {n j:Nat} (h:j<n):(boC f n)[j]? = some (.bool (f j)):=by simp[boC,h]
theorem boC_set {f g:Nat→Bool} {n i:Nat} {c:Bool} (h:∀ j,j<n→g j=if j=i then c else f j):(((boC f n).map AV.cv).set i (.b c))=(boC g n).map AV.cv:=by
 apply Z1
 intro j
 rw[ZO]
 by_cases hj:j<n
 ·have h1:((boC g n).map AV.cv)[j]? = some (.b (g j)):=by rw[ZR,boC_get hj];rfl
  have h2:((boC f n).map AV.cv)[j]? = some (.b (f j)):=by rw[ZR,boC_get hj];rfl
  rw[h1,h2,h j hj]
  by_cases e:i=j
  ·subst e
   rw[if_pos rfl,if_pos rfl,if_pos (by simp[boC_len];exact hj)]
  ·rw[if_neg e,if_neg (fun h=>e h.symm)]
 ·rw[QN (l:=(boC g n).map AV.cv) (by simp[boC_len];omega)]
  split
  ·rw[if_neg (by simp[boC_len];omega)]
  ·rw[QN (by simp[boC_len];omega)]
def nhB (nx:List Int) (i j:Nat):Bool:=(List.range i).all fun p=>gI nx p != (j:Int)
theorem nhB_succ (nx:List Int) (i j:Nat):nhB nx (i+1) j=(nhB nx i j&&gI nx i != (j:Int)):=by simp[nhB,WM]
theorem nhB_all {nx:List Int} {n j:Nat} (h:nx.length=n):nhB nx n j=V3 nx j:=by
 rw[Q8]
 constructor
 ·intro h1
  cases hh:V3 nx j with
  | true=>rfl
  | false =>
   obtain ⟨p,hp,e⟩:=(LG h).1 hh
   unfold nhB at h1
   rw[Q1] at h1
   have:=h1 p (ZI.2 hp)
   simp[e] at this
 ·intro h1
  unfold nhB
  rw[Q1]
  intro p hp
  have hp:=ZI.1 hp
  have:¬ gI nx p=(j:Int):=fun e=>by
   have:=(LG h).2 ⟨p,hp,e⟩
   rw[this] at h1;cases h1
  simpa using this
theorem cha29 {Q:Exit→St→Prop} (d:Dy) (nx:List Int) (n:Nat) (h12:n≤12) (hW:NxW (canB d) (fun i=>(d.ls[i]!).b) n nx) (v6:AV) (fs:List CV) (h6:∀ i,i<n→∀ σ,VP 1 [v6,.i i] σ=some (.cv (.rp fs i),σ)) (hfs:∀ i,i<n→fs[i]? = some (.bool (V3 nx i))) (v7 v8 v14 v15 v16:AV) (H0₀:List AObj)
  (hend:∀ v9 v11 v12 v18 v19 H,AccR H v9 ((LQ nx n).map HG)→Q (.exit 4) ⟨[dyV d,.ptr 0 0,.cv .nils,.i 0,.i 0,ints nx,v6,v7,v8,v9,.i n,v11,v12,.b false,v14,v15,v16,.b false,v18,v19],H⟩) :
  IL Tryz.prog ⟨vs29,87,none,0⟩ ic29l1 ⟨[dyV d,.ptr 0 0,.cv .nils,.i 0,.i 0,ints nx,v6,v7,v8,.cv .nils,.i 0,.undef,.undef,.b false,v14,v15,v16,.undef,.undef,.undef],H0₀⟩ Q:=by
 have hnl:=hW.len
 have hup:=hW.up
 unfold LQ DD at hend
 refine ZW n (fun i s=>∃ v9 v11 v12 v17 v18 v19 H,AccR H v9 ((((List.range i).filter (V3 nx)).map (chF nx (n+1))).map HG)∧s=⟨[dyV d,.ptr 0 0,.cv .nils,.i 0,.i 0,ints nx,v6,v7,v8,v9,.i i,v11,v12,.b false,v14,v15,v16,v17,v18,v19],H⟩) ?_ 0 (QF _) ⟨_,_,_,_,_,_,_,.inl ⟨rfl,rfl⟩,rfl⟩
 rintro i s hi ⟨v9,v11,v12,v17,v18,v19,H,hA,rfl⟩
 by_cases hin:i<n
 rotate_left
 ·have hin':i=n:=by omega
  subst hin'
  simp only[ic29l1,QJ,hnl,hin,evA,simprocAttr]
  exact hend _ _ _ _ _ _ hA
 have h6i:=h6 i hin
 have hfi:=hfs i hin
 have hwi:=Q6 (show i+1<2 ^ 63 by omega)
 have hfl:(List.range (i+1)).filter (V3 nx)=(List.range i).filter (V3 nx)++if V3 nx i=true then [i] else []:=by
  rw[WM,List.filter_append]
  by_cases h:V3 nx i=true <;> simp[h]
 simp only[ic29l1,QJ,hnl,hin,evA,simprocAttr]
 cases hh:V3 nx i
 ·rw[hh,if_neg (by decide),ZU] at hfl
  rw[hh] at hfi
  refine ZW 0 (fun t s=>s=⟨[dyV d,.ptr 0 0,.cv .nils,.i 0,.i 0,ints nx,v6,v7,v8,v9,.i i,.cv .nils,.i i,.b false,v14,v15,v16,.b true,v18,v19],H⟩) ?_ 0 (QF _) rfl
  rintro t s ht rfl
  simp only[ic29l0,h6i,hfi,hwi,evA,simprocAttr]
  exact ZL (by first | trivial | omega) ⟨_,_,_,_,_,_,_,by rw[hfl];exact hA,rfl⟩
 ·rw[hh,if_pos rfl] at hfl
  rw[hh] at hfi
  refine ZW (n+1) (fun t s=>∃ (v11:AV) (z:Int) (v18:AV) (H2:List AObj) (c:List Int),(∀ l,l<H.length→H2[l]? = H[l]?)∧H.length≤H2.length∧VH H.length 1 H2 v11 c.length (c.map (.int .i64))∧c.length=t∧((z<0∧HG (chF nx (n+1) i)=c∧c≠[])∨∃ kk:Nat,kk<n∧z=(kk:Int)∧muK (fun i=>(d.ls[i]!).b) n kk<n+1-t∧HG (chF nx (n+1) i)=c++HG (chF nx (n+1-t) kk)) ∧
   s=⟨[dyV d,.ptr 0 0,.cv .nils,.i 0,.i 0,ints nx,v6,v7,v8,v9,.i i,v11,.i z,.b false,v14,v15,v16,.b true,v18,v19],H2⟩) ?_ 0 (QF _) ⟨.cv .nils,(i:Int),_,H,[],fun _ _=>rfl,QG _,.inl ⟨rfl,rfl,rfl⟩,rfl,.inr ⟨i,hin,rfl,by have:=mu_le (rk:=fun i=>(d.ls[i]!).b) (n:=n) (k:=i);omega,rfl⟩,rfl⟩
  rintro t s ht ⟨v11,z,v18,H2,c,hs1,hs2,hac,hct,hz,rfl⟩
  rcases hz with ⟨hz0,hch,hcne⟩ | ⟨kk,hkn,rfl,hmu,hch⟩
  ·have hb:decide (z≥0)=false:=decide_eq_false (by omega)
   have hA2:=hA.same hs1
   rcases hac with ⟨_,_,h⟩ | ⟨p,hp1,rfl,_,hp3⟩
   ·exact absurd (by simpa using h) hcne
   rw[XW] at hp3
   have hcs:((((List.range i).filter (V3 nx)).map (chF nx (n+1))).map HG).length≤100:=by
    have:=HC (V3 nx) (List.range i)
    simp only[ZK,List.length_range] at this ⊢
    omega
   obtain ⟨v',σ',g1,g2⟩:=QcN hA2 hcs hcne hp3
   have gnu:=g2.nu
   simp only[ic29l0,h6i,hfi,hb,g1,gnu,hwi,evA,simprocAttr]
   refine ZL (by first | trivial | omega) ⟨_,_,_,_,_,_,_,?_,rfl⟩
   rw[hfl,ZS,ZS]
   simp only[Q0,WS]
   rw[hch]
   exact g2
  ·have hb:decide ((kk:Int)≥0)=true:=decide_eq_true (by omega)
   have h44:(2:Nat) ^ 44=17592186044416:=by decide
   obtain ⟨v',σ',g1,g2,g3,g4⟩:=K3 (by_:=8) (x:=[.int .i64 kk]) hs2 hac rfl (by omega) (by omega)
   have gnu:=g2.nu
   have hkl:kk<nx.length:=by omega
   have hst:chF nx (n+1-t) kk=kk::if gI nx kk<0 then [] else chF nx (n-t) (gI nx kk).toNat:=by
    rw[show n+1-t=n-t+1 by omega];rfl
   simp only[QW,QM,WW,X9,VW,EZ,Qau,CH,get_nz,get_ns,Q0,WS] at g1
   simp only[ic29l0,h6i,hfi,hb,g1,gnu,J5 hkl,J4 hkl,WA,evA,simprocAttr]
   refine ZL (by omega) ⟨v',gI nx kk,_,σ',c++[(kk:Int)],fun l hl=>by rw[g3 l hl];exact hs1 l hl,by omega,by rw[QM,ZS];exact g2,by simp[hct],?_,rfl⟩
   rw[hst] at hch
   rcases hW.ok kk hkn with h1 | ⟨k2,h1,h2,h3⟩
   ·rw[if_pos (by omega)] at hch
    exact .inl ⟨by omega,by rw[hch];simp[HG],by simp⟩
   ·have hlt:=Qd6 (rk:=fun i=>(d.ls[i]!).b) h2 (hW.up kk k2 hkn h2 h3)
    rw[if_neg (by omega),h1,Int.toNat_natCast] at hch
    refine .inr ⟨k2,h2,h1,by omega,?_⟩
    rw[hch]
    simp[HG]
theorem le29 (d:Dy) (hd:DSz d):PC Tryz.prog 29 [dyV d] (chaA d):=by
 have h24:=le24 d hd
 unfold chkA at h24
 refine ⟨ZF (fok29 true) (QC rfl) ?_,rfl⟩
 simp only[ic29,WI,cellsOf,evA,simprocAttr]
 refine h24.call frz ?_
 unfold chaA
 by_cases he:(dyE d).2.2=0
 rotate_left
 ·have hb:((dyE d).2.2 != 0)=true:=by simpa using he
  rw[if_pos he]
  simp only[hb,evA,simprocAttr]
  exact .tup (.cons (.c .nl) (.cons (.c (.c _ trivial)) .nil))
 have hb:((dyE d).2.2 != 0)=false:=by simpa using he
 have hok:=LO he
 have h12:=hok.l12
 rw[if_neg (fun h=>h he)]
 simp only[hb,he,evA,simprocAttr]
 refine (le77 d hok).call frz ?_
 have hW:=nxW hok
 have hnl:=hW.len
 unfold chaL
 generalize nxtL d=nx at *
 obtain ⟨n,hn⟩:∃ n,n=d.ls.length:=⟨_,rfl⟩
 rw[← hn] at hW hnl h12 ⊢
 have hm1:=mk1 (bytes:=1) (n:=n) (z:=.cv (.bool false)) (by decide) (by omega)
 have hr0:List.replicate n (AV.cv (.bool false))=(boC (fun j=>decide (j<0)) n).map AV.cv:=by
  apply Y1 (by simp[boC])
  intro j h1 h2
  simp[boC]
 simp only[hnl,hm1,evA,simprocAttr]
 rw[hr0]
 refine ZW n (fun i s=>∃ v14,s=⟨[dyV d,.ptr 0 0,.cv .nils,.i 0,.i 0,ints nx,.sl 1 0 n 1,.i i,.undef,.undef,.undef,.undef,.undef,.b false,v14,.undef,.undef,.undef,.undef,.undef],[.cells [.cv (minR d.mi),.cv (lesR d.ls)],.cells ((boC (fun j=>decide (j<i)) n).map .cv)]⟩) ?_ 0 (QF _) ⟨_,rfl⟩
 rintro i s hi ⟨v14,rfl⟩
 by_cases hin:i<n
 ·have hset:=boC_set (f:=fun j=>decide (j<i)) (g:=fun j=>decide (j<i+1)) (n:=n) (i:=i) (c:=true) fun j hj=>by
   by_cases e:j=i
   ·subst e;simp
   ·rw[if_neg e,decide_eq_decide];omega
  have hin1:i+1≤n:=hin
  have hbl:=boC_len (fun j=>decide (j<i)) n
  generalize boC (fun j=>decide (j<i)) n=F at *
  simp only[ic29l3,QJ,hnl,hin,hin1,hbl,W9 hin,ZV,hset,ZK,Q6 (show i+1<2 ^ 63 by omega),evA,simprocAttr]
  exact ZL (by first | trivial | omega) ⟨_,rfl⟩
 have hin':i=n:=by omega
 subst hin'
 have hall:boC (fun j=>decide (j<i)) i=boC (nhB nx 0) i:=by
  unfold boC
  apply JI
  intro j hj
  have:j<i:=ZI.1 hj
  simp[nhB,this]
 simp only[ic29l3,QJ,hnl,hin,evA,simprocAttr]
 rw[hall]
 clear hall hr0 hm1 hi hin
 refine ZW i (fun t s=>(¬ (t=i∧0<i)∧∃ v15 v16,s=⟨[dyV d,.ptr 0 0,.cv .nils,.i 0,.i 0,ints nx,.sl 1 0 i 1,.i i,.i t,.undef,.undef,.undef,.undef,.b false,.b false,v15,v16,.undef,.undef,.undef],[.cells [.cv (minR d.mi),.cv (lesR d.ls)],.cells ((boC (nhB nx t) i).map .cv)]⟩) ∨
  (t=i∧0<i∧∃ v15 v16,s=⟨[dyV d,.ptr 0 0,.cv .nils,.i 0,.i 0,ints nx,.cv (.rsl (boC (nhB nx i) i) i),.i i,.i t,.undef,.undef,.undef,.undef,.b false,.b false,v15,v16,.undef,.undef,.undef],[.cells [.cv (minR d.mi),.cv (lesR d.ls)]]⟩)) ?_ 0 (QF _) (.inl ⟨by omega,_,_,rfl⟩)
 rintro t s ht (⟨hop,v15,v16,rfl⟩ | ⟨rfl,h0,v15,v16,rfl⟩)
 rotate_left
 ·have hlt:¬ t<t:=Nat.lt_irrefl _
  simp only[ic29l2,QJ,hnl,hlt,evA,simprocAttr]
  refine cha29 d nx t h12 hW _ (boC (nhB nx t) t) (fun j hj σ=>by have:=XP (cs:=boC (nhB nx t) t) (e:=1) hj σ;rwa [W3] at this) (fun j hj=>by rw[boC_get hj,nhB_all hnl]) _ _ _ _ _ _ ?_
  intro v9 v11 v12 v18 v19 H hA
  have hnu:=hA.nu
  simp only[hnu,evA,simprocAttr]
  exact .tup (.cons (accR_frz hA) (.cons (.c (.c _ trivial)) .nil))
 by_cases hlt:t<i
 rotate_left
 ·have hti:t=i:=by omega
  subst hti
  have h0:t=0:=by omega
  simp only[ic29l2,QJ,hnl,hlt,evA,simprocAttr]
  refine cha29 d nx t h12 hW _ [] (fun j hj=>by omega) (fun j hj=>by omega) _ _ _ _ _ _ ?_
  intro v9 v11 v12 v18 v19 H hA
  have hnu:=hA.nu
  simp only[hnu,evA,simprocAttr]
  exact .tup (.cons (accR_frz hA) (.cons (.c (.c _ trivial)) .nil))
 have hwt:=Q6 (show t+1<2 ^ 63 by omega)
 have htn:t<nx.length:=by omega
 have hfr:∀ F:List CV,F.length=i→FrzV anyC (List.replicate 1 .dead++[.cells (F.map .cv)]) (.sl 1 0 i 1) (.cv (.rsl F i)):=fun F hF=>GI (.inr ⟨1,rfl,by omega,rfl⟩) fun _ _=>trivial
 have hbl:=boC_len (nhB nx (t+1)) i
 simp only[ic29l2,QJ,hnl,hlt,J5 htn,J4 htn,WA,evA,simprocAttr]
 rcases hW.ok t hlt with h1 | ⟨k,h1,hk,_⟩
 have hsame:boC (nhB nx (t+1)) i=boC (nhB nx t) i:=by
  unfold boC
  apply JI
  intro j hj
  rw[nhB_succ,h1]
  have:((-1:Int) != (j:Int))=true:=bne_iff_ne.2 (by omega)
  rw[this,WH]
 have h1:nx[t]?.getD 0 = -1:=h1
 have hge:decide ((-1:Int)≥0)=false:=by decide
 simp only[h1,hge,hwt,evA,simprocAttr]
 rw[← hsame]
 rotate_left
 have hset:=boC_set (f:=nhB nx t) (g:=nhB nx (t+1)) (n:=i) (i:=k) (c:=false) fun j hj=>by
  rw[nhB_succ,h1]
  by_cases e:j=k
  ·subst e;simp
  ·rw[if_neg e]
   have:((k:Int) != (j:Int))=true:=bne_iff_ne.2 (by omega)
   rw[this,WH]
 have h1:nx[t]?.getD 0=(k:Int):=h1
 have hge:decide ((k:Int)≥0)=true:=decide_eq_true (by omega)
 have hk1:k+1≤i:=hk
 have hbl2:=boC_len (nhB nx t) i
 generalize boC (nhB nx t) i=F0₀ at *
 simp only[h1,hge,hwt,hk1,hbl2,J5 htn,J4 htn,WA,W9 hk,ZV,ZK,hset,evA,simprocAttr]
 all_goals
  by_cases hl:t+1<i
  ·exact ZL (by first | trivial | omega) (.inl ⟨by omega,_,_,rfl⟩)
  ·have hti:t+1=i:=by omega
   have hfz:=hfr _ hbl
   rw[show boC (nhB nx (t+1)) i=boC (nhB nx i) i by rw[hti]] at hfz ⊢
   refine kFor_turn [.cells [.cv (minR d.mi),.cv (lesR d.ls)]] [.cells [.cv (minR d.mi),.cv (lesR d.ls)]] [.cells ((boC (nhB nx i) i).map .cv)] rfl (by first | trivial | omega) rfl rfl ?_ ?_ (.inr ⟨hti,by omega,.undef,.undef,rfl⟩)
   ·have u:∀ v,Turn1 1 (List.replicate 1 .dead++[.cells ((boC (nhB nx i) i).map .cv)]) v .undef:=fun v=>.inr (.un _)
    have c:∀ v,QR 1 v=true→Turn1 1 (List.replicate 1 .dead++[.cells ((boC (nhB nx i) i).map .cv)]) v v:=fun v hv=>.inl ⟨rfl,hv⟩
    exact .cons (c _ rfl) (.cons (c _ rfl) (.cons (c _ rfl) (.cons (c _ rfl) (.cons (c _ rfl) (.cons (c _ rfl) (.cons (.inr hfz) (.cons (c _ rfl) (.cons (c _ rfl) (.cons (u _) (.cons (u _) (.cons (u _) (.cons (u _) (.cons (c _ rfl) (.cons (c _ rfl) (.cons (u _) (.cons (u _) (.cons (u _) (.cons (u _) (.cons (u _) .nil)))))))))))))))))))
   ·intro l o2 ho
    match l,ho with
    | 0,ho=>cases ho;exact ⟨_,rfl,trivial,.inl ⟨rfl,rfl⟩⟩
theorem law4 (d:Dy) (hd:DSz d):PC Tryz.prog 4 [dyV d] (.b true):=by
 have h23:=le23 d hd
 have h24:=le24 d hd
 have h25:=le25 d hd
 have h26:=le26 d hd
 have h28:=le28 d hd
 have h29:=le29 d hd
 unfold chkA at h23 h24
 unfold folA at h25 h26
 unfold chaA at h28 h29
 have h62:(2:Nat) ^ 62=4611686018427387904:=by decide
 have h63:(2:Nat) ^ 63=9223372036854775808:=by decide
 have hF:(if (dyE d).2.2≠0 then [] else folL d).length<2 ^ 62∧∀ i,i<(if (dyE d).2.2≠0 then [] else folL d).length→((if (dyE d).2.2≠0 then [] else folL d)[i]!).length<2 ^ 63:=by
  split
  ·exact ⟨by simp,fun i h=>by simp at h⟩
  ·rename_i he
   have hok:=LO (JE.1 he)
   have h12:=hok.l12
   have hl:(folL d).length=d.ls.length:=by simp[folL]
   refine ⟨by omega,fun i hi=>?_⟩
   rw[getElem!_pos _ i hi]
   have:(folL d)[i]=behL d i:=by simp[folL]
   rw[this]
   have:(behL d i).length≤d.ls.length:=M7
   omega
 have hC:(if (dyE d).2.2≠0 then [] else chaL d).length<2 ^ 62∧∀ i,i<(if (dyE d).2.2≠0 then [] else chaL d).length→((if (dyE d).2.2≠0 then [] else chaL d)[i]!).length<2 ^ 63:=by
  split
  ·exact ⟨by simp,fun i h=>by simp at h⟩
  ·rename_i he
   have hok:=LO (JE.1 he)
   have h12:=hok.l12
   have hc:=cha_ok hok
   have hl:(chaL d).length=(LQ (nxtL d) d.ls.length).length:=by simp[chaL]
   have h1:=hc.num
   have h40:(2:Nat) ^ 40=1099511627776:=by decide
   refine ⟨by omega,fun i hi=>?_⟩
   rw[getElem!_pos _ i hi]
   obtain ⟨c,hc1,e⟩:=ZP.1 (Q2 hi)
   have:=hc.len c hc1
   have h1:(HG c).length=c.length:=by simp[HG]
   rw[← e,h1]
   omega
 generalize (if (dyE d).2.2≠0 then [] else folL d)=F at *
 generalize (if (dyE d).2.2≠0 then [] else chaL d)=C at *
 have k1:=le27 F F hF.1 (by omega) hF.2 hF.2
 have k2:=le27 C C hC.1 (by omega) hC.2 hC.2
 rw[decide_eq_true rfl] at k1 k2
 generalize dyE d=E at *
 obtain ⟨e1,e2,e3⟩:=E
 simp only at h23 h24 h25 h26 h28 h29
 refine ⟨ZF (fok4 true) (QC rfl) ?_,rfl⟩
 simp only[ic4,WI,cellsOf,evA,simprocAttr]
 refine h23.call frz ?_
 simp only[evA,simprocAttr]
 refine h24.call frz ?_
 simp only[bne_self_eq_false,evA,simprocAttr]
 refine h25.call ?_
 simp only[evA,simprocAttr]
 refine h26.call ?_
 simp only[evA,simprocAttr]
 refine k1.call frz ?_
 simp only[bne_self_eq_false,evA,simprocAttr]
 refine h28.call frz ?_
 simp only[evA,simprocAttr]
 refine h29.call frz ?_
 simp only[evA,simprocAttr]
 refine k2.call frz ?_
 simp only[beq_self_eq_true,evA,simprocAttr]
 refine awake.call .nil ?_
 simp only[evA,simprocAttr]
 (repeat' (first | exact HL.nil | exact KS.nil | exact FrzC.nl | exact FrzC.c _ trivial | apply HL.cons | apply KS.cons | apply FrzV.agg | apply FrzV.tup | apply FrzV.c | refine FrzC.sl _ _ _ _ _ _ rfl (QC rfl) ?_))
theorem law_LessonChains (avs:List AV) (h:Args Tryz.prog Tryz.f4.params.toList avs):AC Tryz.prog 4 avs [] fun r _=>r=.b true:=by
 have h:Args Tryz.prog [37] avs:=h
 obtain ⟨cs1,avs,rfl,h1,h⟩:=args_cons h
 cases args_nil h
 obtain ⟨d,e1,hd⟩:=typed_day h1
 rw[e1]
 exact (law4 d hd).call (by (repeat' (first | exact HL.nil | exact KS.nil | exact FrzC.nl | exact FrzC.c _ trivial | apply HL.cons | apply KS.cons | apply FrzV.agg | apply FrzV.tup | apply FrzV.c | refine FrzC.sl _ _ _ _ _ _ rfl (QC rfl) ?_))) rfl
end Go.Proofs.YtgkidpolomhghaaGreatDoor.AM

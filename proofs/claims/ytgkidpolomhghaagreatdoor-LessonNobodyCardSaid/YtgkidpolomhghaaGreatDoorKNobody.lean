/- Parts of the proof of Nobody. -/
import Derived.Test.YtgkidpolomhghaaGreatDoorProg
import Derived.Test.YtgkidpolomhghaaGreatDoorRows
import Derived.WalkKit
import Derived.ProofKit
import Derived.OpenShut
import Derived.Carry
import Derived.Test.YtgkidpolomhghaaGreatDoorZ27
set_option linter.unusedVariables false
set_option linter.unusedSimpArgs false
set_option linter.unusedSectionVars false
namespace Go.Proofs.YtgkidpolomhghaaGreatDoor.AM
variable [Dr]
open Go
abbrev vs24:List Nat:=[0,1,2,3,4,5,6,7,8,19,24,31,38,49]
def ic24l0:IC:=(.seq (.seq (.region [jv 7,jF 1 1,jl 1,je 2,jw 12 (.bin .lss .int) [.t 0,.t 3]])
 (.cond 12 .skip
 (.exit 2)))
 (.seq (.block 3 (.seq (.dr [[],[],[1],[],[2,3],[4],[0,5],[6,6,0,1,2,3,4,5,6]] [jN 2 1,jF 1 1,jl 1,jv 7,ja 7 2 3,jq (.loadN 7) [.t 4],jk 71 [.t 0,.t 5],jm 8 6])
 (.seq (.region [jv 8,jw 13 (.bin .neq .int) [.t 0,jn 0]])
 (.cond 13 (.seq (.region [jv 7,jv 8,jz 2 3,jm 3 0,jm 4 1])
 .ret)
 .skip))))
 (.region [jv 7,jq (.bin .add .int) [.t 0,jn 1],jm 7 1])))
def ic24l1:IC:=(.seq (.seq (.region [jv 5,jF 0 1,jl 1,je 2,jw 10 (.bin .lss .int) [.t 0,.t 3]])
 (.cond 10 .skip
 (.exit 0)))
 (.seq (.block 1 (.seq (.region [jN 2 1,jv 5,jk 70 [.t 0,.t 1],jm 6 2])
 (.seq (.region [jv 6,jw 11 (.bin .neq .int) [.t 0,jn 0]])
 (.cond 11 (.seq (.region [jv 5,jv 6,jz 2 2,jm 3 0,jm 4 1])
 .ret)
 .skip))))
 (.region [jv 5,jq (.bin .add .int) [.t 0,jn 1],jm 5 1])))
def ic24:IC:=(.seq (.region [jb 1 0,jz 2 0,jz 3 0,jz 4 0])
 (.seq (.seq (.region [jF 0 1,jl 0,je 1,jk 64 [.t 2,jn 1,jn 16],jq .not [.t 3],jt 4,jg 5 false (.fadd 1) [.v 1],ji 5 false 6,jg 5 false (.len false) [.t 7],jg 5 false (.bin .gtr .int) [.t 8,jn 12],jw 9 .pick [.t 5,jB true,.t 9]])
 (.cond 9 (.seq (.region [jz 2 1,jz 3 0,jz 4 3])
 .ret)
 .skip))
 (.seq (.seq (.region [jz 5 0])
 (.block 0 (.loop ic24l1)))
 (.seq (.seq (.region [jz 7 0])
 (.block 2 (.loop ic24l0)))
 (.seq (.region [jz 2 0,jz 3 0,jz 4 0])
 .ret)))))
abbrev rs24:List RC:=[(.v 2),(.v 3),(.v 4)]
theorem fok24 (p:Bool):FnOk Tryz.prog 24 ⟨ic24,vs24,52,rs24,p⟩:=.mk2 Tryz.func24 (by kernel_rfl) (by kernel_rfl) (by kernel_rfl) (by kernel_rfl) (by kernel_rfl)
abbrev vs52:List Nat:=[0,1,2,5,6,7,16,25,37,67]
def ic52l0:IC:=(.seq (.seq (.region [jv 4,jF 5 1,jG 1 1,jl 2,je 3,jq (.bin .lss .int) [.t 0,.t 4],jt 5,jh 6 true 3,jg 6 true (.bin .eql .int) [.t 7,jn 0],jw 8 .pick [.t 6,.t 8,jB false]])
 (.cond 8 .skip
 (.exit 0)))
 (.seq (.block 1 (.seq (.region [jF 5 1,jG 1 0,jl 1,jv 4,ja 7 2 3,jq (.loadN 7) [.t 4],jw 5 (.alloc [(.cv (.int .i64 0)),(.cv (.int .i64 0)),(.cv (.int .i64 0)),(.cv (.int .i64 0)),(.cv (.int .i64 0)),(.cv (.int .i64 0)),(.cv (.int .i64 0))]) [],jq (.store 7) [.v 5,.t 5]])
 (.seq (.region [jF 0 5,jl 0,jF 2 1,jl 2,je 3,jq (.bin .geq .int) [.t 1,.t 4],jt 5,jg 6 false (.fadd 1) [.v 5],ji 6 false 7,jg 6 false (.fadd 3) [.v 1],ji 6 false 9,jg 6 false (.len false) [.t 10],jg 6 false (.bin .geq .int) [.t 8,.t 11],jq .pick [.t 6,jB true,.t 12],jt 13,jg 14 false (.fadd 2) [.v 5],ji 14 false 15,jg 14 false (.fadd 4) [.v 1],ji 14 false 17,jg 14 false (.len false) [.t 18],jg 14 false (.bin .geq .int) [.t 16,.t 19],jw 9 .pick [.t 14,jB true,.t 20]])
 (.cond 9 (.region [jz 3 4])
 .skip))))
 (.region [jv 4,jq (.bin .add .int) [.t 0,jn 1],jm 4 1])))
def ic52:IC:=(.seq (.region [jb 1 0,jz 2 0])
 (.seq (.region [jF 0 1,jq (.loadN 2) [.t 0],jk 107 [.t 1],jt 2,jx 0 3,jx 1 3,jx 2 3,jt 4,jt 5,jm 3 6])
 (.seq (.seq (.region [jv 3,jw 6 (.bin .eql .int) [.t 0,jn 0]])
 (.cond 6 (.region [jF 5 1,jq (.loadN 2) [.t 0],jk 24 [.t 1],jt 2,jx 0 3,jx 1 3,jx 2 3,jm 3 6])
 .skip))
 (.seq (.seq (.region [jv 3,jw 7 (.bin .eql .int) [.t 0,jn 0]])
 (.cond 7 (.region [jN 7 1,jk 108 [.t 0],jm 3 1])
 .skip))
 (.seq (.seq (.region [jz 4 0])
 (.block 0 (.loop ic52l0)))
 (.seq (.region [jv 3,jm 2 0])
 .ret))))))
abbrev rs52:List RC:=[(.v 2)]
theorem fok52 (p:Bool):FnOk Tryz.prog 52 ⟨ic52,vs52,69,rs52,p⟩:=.mk2 Tryz.func52 (by kernel_rfl) (by kernel_rfl) (by kernel_rfl) (by kernel_rfl) (by kernel_rfl)
abbrev vs141:List Nat:=[0,1,2,4,5,6,7,8,17,20,31,42,47,57,62,66,76]
def ic141l0:IC:=(.seq (.seq (.region [jv 7,jF 1 4,jl 1,je 2,jw 12 (.bin .lss .int) [.t 0,.t 3]])
 (.cond 12 .skip
 (.exit 2)))
 (.seq (.block 3 (.seq (.region [jF 1 4,jl 0,jv 7,ja 1 1 2,jl 3,jv 6,jk 140 [.t 4,jn 0,.t 5],jw 13 .not [.t 6]])
 (.cond 13 (.seq (.region [jz 3 4])
 .ret)
 .skip)))
 (.region [jv 7,jq (.bin .add .int) [.t 0,jn 1],jm 7 1])))
def ic141l1:IC:=(.seq (.seq (.region [jv 5,jv 1,jw 9 (.bin .lss .int) [.t 0,.t 1]])
 (.cond 9 .skip
 (.exit 0)))
 (.seq (.block 1 (.seq (.dr [[],[0],[],[1,2],[3],[4],[],[6],[5,7]] [jF 0 2,jl 0,jv 5,ja 5 1 2,jG 0 3,jl 4,jF 0 4,jl 6,jw 10 (.bin .eql .str) [.t 5,.t 7]])
 (.cond 10 (.seq (.region [jz 3 5])
 .ret)
 .skip)))
 (.region [jv 5,jq (.bin .add .int) [.t 0,jn 1],jm 5 1])))
def ic141:IC:=(.seq (.region [jb 2 0,jz 3 0])
 (.seq (.region [jF 0 2,jl 0,jv 1,ja 5 1 2,jq (.loadN 5) [.t 3],jw 4 (.alloc [(.cv (.str (bts []))),(.cv .nils),(.cv (.int .i64 0)),(.cv (.int .i64 0)),(.cv (.int .i64 0))]) [],jq (.store 5) [.v 4,.t 4]])
 (.seq (.seq (.region [jF 0 4,jl 0,jk 142 [.t 1],jw 8 .not [.t 2]])
 (.cond 8 (.seq (.region [jz 3 6])
 .ret)
 .skip))
 (.seq (.seq (.region [jz 5 0])
 (.block 0 (.loop ic141l1)))
 (.seq (.region [jF 0 2,jl 0,je 1,jq (.bin .sub .int) [.t 2,jn 1],jm 6 3])
 (.seq (.seq (.region [jF 1 4,jl 0,je 1,jF 0 2,jl 3,je 4,jw 11 (.bin .gtr .int) [.t 2,.t 5]])
 (.cond 11 (.seq (.region [jz 3 3])
 .ret)
 .skip))
 (.seq (.seq (.region [jz 7 0])
 (.block 2 (.loop ic141l0)))
 (.seq (.seq (.region [jF 2 4,jl 0,jv 6,jk 140 [.t 1,jn (-1),.t 2],jw 14 .not [.t 3]])
 (.cond 14 (.seq (.region [jz 3 4])
 .ret)
 .skip))
 (.seq (.seq (.region [jF 2 4,jl 0,jv 1,jw 15 (.bin .eql .int) [.t 1,.t 2]])
 (.cond 15 (.seq (.region [jz 3 2])
 .ret)
 .skip))
 (.seq (.seq (.region [jF 3 4,jl 0,jk 140 [.t 1,jn 0,jn 100],jq .not [.t 2],jt 3,jg 4 false (.fadd 4) [.v 4],ji 4 false 5,jf 4 false 140 [.t 6,jn 0,jn 100],jg 4 false .not [.t 7],jw 16 .pick [.t 4,jB true,.t 8]])
 (.cond 16 (.seq (.region [jz 3 7])
 .ret)
 .skip))
 (.seq (.region [jz 3 0])
 .ret)))))))))))
abbrev rs141:List RC:=[(.v 3)]
theorem fok141 (p:Bool):FnOk Tryz.prog 141 ⟨ic141,vs141,77,rs141,p⟩:=.mk2 Tryz.func141 (by kernel_rfl) (by kernel_rfl) (by kernel_rfl) (by kernel_rfl) (by kernel_rfl)
abbrev vs143:List Nat:=[0,1,4,5,9,17]
def ic143l0:IC:=(.seq (.seq (.region [jv 3,jv 0,je 1,jw 4 (.bin .lss .int) [.t 0,.t 2]])
 (.cond 4 .skip
 (.exit 0)))
 (.seq (.block 1 (.seq (.region [jv 0,jv 3,ja 1 0 1,jl 2,jv 1,jw 5 (.bin .eql .str) [.t 3,.t 4]])
 (.cond 5 (.seq (.region [jv 3,jm 2 0])
 .ret)
 .skip)))
 (.region [jv 3,jq (.bin .add .int) [.t 0,jn 1],jm 3 1])))
def ic143:IC:=(.seq (.region [jz 2 0])
 (.seq (.seq (.region [jz 3 0])
 (.block 0 (.loop ic143l0)))
 (.seq (.region [jz 2 (-1)])
 .ret)))
abbrev rs143:List RC:=[(.v 2)]
theorem fok143 (p:Bool):FnOk Tryz.prog 143 ⟨ic143,vs143,19,rs143,p⟩:=.mk2 Tryz.func143 (by kernel_rfl) (by kernel_rfl) (by kernel_rfl) (by kernel_rfl) (by kernel_rfl)
abbrev vs144:List Nat:=[0,1,2,4,5,8,12,25,37]
def ic144l0:IC:=(.seq (.seq (.region [jv 4,jv 1,je 1,jw 6 (.bin .lss .int) [.t 0,.t 2]])
 (.cond 6 .skip
 (.exit 0)))
 (.seq (.block 1 (.seq (.seq (.dr [[],[],[0,1],[2],[3],[],[5],[6],[7],[4,8],[9]] [jv 1,jv 4,ja 2 0 1,jG 0 2,jl 3,jF 0 2,jl 5,je 6,jq (.bin .sub .int) [.t 7,jn 1],jk 140 [.t 4,jn 0,.t 8],jw 7 .not [.t 9]])
 (.cond 7 (.seq (.region [jz 3 4])
 .ret)
 .skip))
 (.seq (.dr [[],[],[0,1],[2],[3],[],[5],[6],[7],[8],[4,9,8],[10]] [jv 1,jv 4,ja 2 0 1,jG 1 2,jl 3,jF 1 2,jl 5,je 6,jk 83 [.t 7],jq (.bin .sub .int) [.t 8,jn 1],jk 140 [.t 4,jn 0,.t 9],jw 8 .not [.t 10]])
 (.cond 8 (.seq (.region [jz 3 7])
 .ret)
 .skip))))
 (.region [jv 4,jq (.bin .add .int) [.t 0,jn 1],jm 4 1])))
def ic144:IC:=(.seq (.region [jb 2 0,jz 3 0])
 (.seq (.seq (.region [jv 1,je 0,jw 5 (.bin .gtr .int) [.t 1,jn 40]])
 (.cond 5 (.seq (.region [jz 3 3])
 .ret)
 .skip))
 (.seq (.seq (.region [jz 4 0])
 (.block 0 (.loop ic144l0)))
 (.seq (.region [jz 3 0])
 .ret))))
abbrev rs144:List RC:=[(.v 3)]
theorem fok144 (p:Bool):FnOk Tryz.prog 144 ⟨ic144,vs144,38,rs144,p⟩:=.mk2 Tryz.func144 (by kernel_rfl) (by kernel_rfl) (by kernel_rfl) (by kernel_rfl) (by kernel_rfl)
abbrev vs64:List Nat:=[0,1,2,6]
def ic64:IC:=(.seq (.region [jw 3 .mv [jB false]])
 (.seq (.region [jv 0,jv 1,jq (.bin .geq .int) [.t 0,.t 1],jt 2,jh 3 true 0,jh 3 true 2,jg 3 true (.bin .leq .int) [.t 4,.t 5],jq .pick [.t 3,.t 6,jB false],jm 3 7])
 .ret))
abbrev rs64:List RC:=[(.v 3)]
theorem fok64 (p:Bool):FnOk Tryz.prog 64 ⟨ic64,vs64,15,rs64,p⟩:=.mk2 Tryz.func64 (by kernel_rfl) (by kernel_rfl) (by kernel_rfl) (by kernel_rfl) (by kernel_rfl)
abbrev vs70:List Nat:=[0,1,2,4,5,6,17,21,29,34]
def ic70l0:IC:=(.seq (.seq (.region [jv 5,jv 4,je 1,jw 7 (.bin .lss .int) [.t 0,.t 2]])
 (.cond 7 .skip
 (.exit 0)))
 (.seq (.block 1 (.seq (.region [jv 4,jv 5,ja 1 0 1,jl 2,jk 64 [.t 3,jn 0,jn 120],jw 8 .not [.t 4]])
 (.cond 8 (.seq (.region [jz 3 7])
 .ret)
 .skip)))
 (.region [jv 5,jq (.bin .add .int) [.t 0,jn 1],jm 5 1])))
def ic70:IC:=(.seq (.region [jb 2 0,jz 3 0])
 (.seq (.region [jF 0 2,jl 0,jv 1,ja 1 1 2,jl 3,jm 4 4])
 (.seq (.seq (.region [jv 4,je 0,jF 0 2,jl 2,je 3,jw 6 (.bin .neq .int) [.t 1,.t 4]])
 (.cond 6 (.seq (.region [jz 3 3])
 .ret)
 .skip))
 (.seq (.seq (.region [jz 5 0])
 (.block 0 (.loop ic70l0)))
 (.seq (.seq (.region [jv 4,jv 1,ja 1 0 1,jl 2,jw 9 (.bin .neq .int) [.t 3,jn 0]])
 (.cond 9 (.seq (.region [jz 3 2])
 .ret)
 .skip))
 (.seq (.region [jz 3 0])
 .ret))))))
abbrev rs70:List RC:=[(.v 3)]
theorem fok70 (p:Bool):FnOk Tryz.prog 70 ⟨ic70,vs70,35,rs70,p⟩:=.mk2 Tryz.func70 (by kernel_rfl) (by kernel_rfl) (by kernel_rfl) (by kernel_rfl) (by kernel_rfl)
abbrev vs71:List Nat:=[0,1,2,3,4,5,6,23,25,33,38,56]
def ic71l0:IC:=(.seq (.seq (.region [jv 6,jw 8 (.bin .lss .int) [.t 0,jn 3]])
 (.cond 8 .skip
 (.exit 0)))
 (.seq (.block 1 (.seq (.region [jv 5,jv 6,ja 1 0 1,jl 2,jk 64 [.t 3,jn 0,jn 7],jw 9 .not [.t 4]])
 (.cond 9 (.seq (.region [jz 4 7])
 .ret)
 .skip)))
 (.region [jv 6,jq (.bin .add .int) [.t 0,jn 1],jm 6 1])))
def ic71:IC:=(.seq (.region [jb 2 0,jb 3 1,jz 4 0])
 (.seq (.region [jF 0 3,jl 0,jF 1 3,jl 2,jF 2 3,jl 4,jq (.bslice 1 3 [(.cv (.int .i64 0)),(.cv (.int .i64 0)),(.cv (.int .i64 0))] [(0,1),(1,1),(2,1)]) [.t 1,.t 3,.t 5],jm 5 6])
 (.seq (.seq (.region [jF 3 3,jl 0,jk 64 [.t 1,jn 0,jn 1440],jq .not [.t 2],jt 3,jg 4 false (.fadd 4) [.v 3],ji 4 false 5,jf 4 false 64 [.t 6,jn 0,jn 1440],jg 4 false .not [.t 7],jw 7 .pick [.t 4,jB true,.t 8]])
 (.cond 7 (.seq (.region [jz 4 7])
 .ret)
 .skip))
 (.seq (.seq (.region [jz 6 0])
 (.block 0 (.loop ic71l0)))
 (.seq (.seq (.region [jF 3 3,jl 0,jF 4 3,jl 2,jw 10 (.bin .geq .int) [.t 1,.t 3]])
 (.cond 10 (.seq (.region [jz 4 2])
 .ret)
 .skip))
 (.seq (.seq (.region [jF 5 3,jl 0,jF 0 2,jl 2,je 3,jq (.bin .sub .int) [.t 4,jn 1],jk 64 [.t 1,jn 0,.t 5],jq .not [.t 6],jt 7,jg 8 false (.fadd 6) [.v 3],ji 8 false 9,jg 8 false (.fadd 0) [.v 2],ji 8 false 11,jg 8 false (.len false) [.t 12],jg 8 false (.bin .sub .int) [.t 13,jn 1],jf 8 false 64 [.t 10,jn 0,.t 14],jg 8 false .not [.t 15],jw 11 .pick [.t 8,jB true,.t 16]])
 (.cond 11 (.seq (.region [jz 4 4])
 .ret)
 .skip))
 (.seq (.region [jz 4 0])
 .ret)))))))
abbrev rs71:List RC:=[(.v 4)]
theorem fok71 (p:Bool):FnOk Tryz.prog 71 ⟨ic71,vs71,57,rs71,p⟩:=.mk2 Tryz.func71 (by kernel_rfl) (by kernel_rfl) (by kernel_rfl) (by kernel_rfl) (by kernel_rfl)
abbrev vs107:List Nat:=[0,1,2,3,4,5,6,7,8,9,20,25,32,39,48,60,66,77,93]
def ic107l0:IC:=(.seq (.seq (.region [jv 9,jF 0 1,jl 1,jv 8,ja 5 2 3,jG 1 4,jl 5,je 6,jw 17 (.bin .lss .int) [.t 0,.t 7]])
 (.cond 17 .skip
 (.exit 6)))
 (.seq (.block 7 (.seq (.dr [[],[],[1],[],[2,3],[4],[5],[],[6,7],[8],[0,9],[],[10,11],[12]] [jN 2 1,jF 0 1,jl 1,jv 8,ja 5 2 3,jG 1 4,jl 5,jv 9,ja 1 6 7,jl 8,jk 109 [.t 0,.t 9],jv 8,ja 1 10 11,jw 18 .load1 [.t 12]])
 (.cond 18 (.seq (.region [jv 8,jz 2 4,jm 3 0,jz 4 9])
 .ret)
 .skip)))
 (.region [jv 9,jq (.bin .add .int) [.t 0,jn 1],jm 9 1])))
def ic107l1:IC:=(.seq (.seq (.region [jv 8,jF 0 1,jl 1,je 2,jw 16 (.bin .lss .int) [.t 0,.t 3]])
 (.cond 16 .skip
 (.exit 4)))
 (.seq (.block 5 (.seq (.region [jz 9 0])
 (.block 6 (.loop ic107l0))))
 (.region [jv 8,jq (.bin .add .int) [.t 0,jn 1],jm 8 1])))
def ic107l2:IC:=(.seq (.seq (.region [jv 7,jF 1 1,jl 1,je 2,jw 13 (.bin .lss .int) [.t 0,.t 3]])
 (.cond 13 .skip
 (.exit 2)))
 (.seq (.block 3 (.seq (.seq (.region [jF 1 1,jl 0,jv 7,ja 1 1 2,jl 3,jk 142 [.t 4],jw 14 .not [.t 5]])
 (.cond 14 (.seq (.region [jv 7,jz 2 3,jm 3 0,jz 4 6])
 .ret)
 .skip))
 (.seq (.dr [[],[0],[],[1,2],[],[4],[],[5,6],[7],[3,8],[9]] [jF 1 1,jl 0,jv 7,jq (.slS 1 false true) [.t 1,.t 2],jF 1 1,jl 4,jv 7,ja 1 5 6,jl 7,jk 143 [.t 3,.t 8],jw 15 (.bin .geq .int) [.t 9,jn 0]])
 (.cond 15 (.seq (.region [jv 7,jz 2 3,jm 3 0,jz 4 5])
 .ret)
 .skip))))
 (.region [jv 7,jq (.bin .add .int) [.t 0,jn 1],jm 7 1])))
def ic107l3:IC:=(.seq (.seq (.region [jv 5,jF 0 1,jl 1,je 2,jw 11 (.bin .lss .int) [.t 0,.t 3]])
 (.cond 11 .skip
 (.exit 0)))
 (.seq (.block 1 (.seq (.region [jN 2 1,jv 5,jk 141 [.t 0,.t 1],jm 6 2])
 (.seq (.region [jv 6,jw 12 (.bin .neq .int) [.t 0,jn 0]])
 (.cond 12 (.seq (.region [jv 5,jv 6,jz 2 2,jm 3 0,jm 4 1])
 .ret)
 .skip))))
 (.region [jv 5,jq (.bin .add .int) [.t 0,jn 1],jm 5 1])))
def ic107:IC:=(.seq (.region [jb 1 0,jz 2 0,jz 3 0,jz 4 0])
 (.seq (.seq (.region [jF 0 1,jl 0,je 1,jk 140 [.t 2,jn 1,jn 12],jq .not [.t 3],jt 4,jg 5 false (.fadd 1) [.v 1],ji 5 false 6,jg 5 false (.len false) [.t 7],jg 5 false (.bin .gtr .int) [.t 8,jn 8],jw 10 .pick [.t 5,jB true,.t 9]])
 (.cond 10 (.seq (.region [jz 2 1,jz 3 0,jz 4 3])
 .ret)
 .skip))
 (.seq (.seq (.region [jz 5 0])
 (.block 0 (.loop ic107l3)))
 (.seq (.seq (.region [jz 7 0])
 (.block 2 (.loop ic107l2)))
 (.seq (.seq (.region [jz 8 0])
 (.block 4 (.loop ic107l1)))
 (.seq (.region [jz 2 0,jz 3 0,jz 4 0])
 .ret))))))
abbrev rs107:List RC:=[(.v 2),(.v 3),(.v 4)]
theorem fok107 (p:Bool):FnOk Tryz.prog 107 ⟨ic107,vs107,95,rs107,p⟩:=.mk2 Tryz.func107 (by kernel_rfl) (by kernel_rfl) (by kernel_rfl) (by kernel_rfl) (by kernel_rfl)
abbrev vs108:List Nat:=[0,1,2,3,4,5,6,7,8,24,34,44,49,63,74,79,84,95,109]
def ic108l0:IC:=(.seq (.seq (.region [jv 8,jF 4 1,jl 1,je 2,jw 16 (.bin .lss .int) [.t 0,.t 3]])
 (.cond 16 .skip
 (.exit 4)))
 (.seq (.block 5 (.seq (.seq (.region [jF 4 1,jl 0,jv 8,ja 2 1 2,jG 0 3,jl 4,jv 3,jk 64 [.t 5,jn 0,.t 6],jw 17 .not [.t 7]])
 (.cond 17 (.seq (.region [jz 2 4])
 .ret)
 .skip))
 (.seq (.dr [[],[0],[],[1,2],[3],[4],[],[6],[7],[8],[9],[10],[5,11,10],[12]] [jF 4 1,jl 0,jv 8,ja 2 1 2,jG 1 3,jl 4,jF 0 1,jG 1 6,jl 7,je 8,jk 83 [.t 9],jq (.bin .sub .int) [.t 10,jn 1],jk 64 [.t 5,jn 0,.t 11],jw 18 .not [.t 12]])
 (.cond 18 (.seq (.region [jz 2 7])
 .ret)
 .skip))))
 (.region [jv 8,jq (.bin .add .int) [.t 0,jn 1],jm 8 1])))
def ic108l1:IC:=(.seq (.seq (.region [jv 5,jF 3 1,jl 1,je 2,jw 12 (.bin .lss .int) [.t 0,.t 3]])
 (.cond 12 .skip
 (.exit 2)))
 (.seq (.block 3 (.seq (.region [jF 3 1,jl 0,jv 5,ja 3 1 2,jq (.loadN 3) [.t 3],jw 6 (.alloc [(.cv .nils),(.cv (.int .i64 0)),(.cv (.int .i64 0))]) [],jq (.store 3) [.v 6,.t 4]])
 (.seq (.region [jF 0 1,jq (.loadN 2) [.t 0],jF 0 6,jl 2,jk 144 [.t 1,.t 3],jm 7 4])
 (.seq (.seq (.region [jv 7,jw 13 (.bin .neq .int) [.t 0,jn 0]])
 (.cond 13 (.seq (.region [jv 7,jm 2 0])
 .ret)
 .skip))
 (.seq (.seq (.region [jF 1 6,jl 0,jk 64 [.t 1,jn 0,jn 1440],jq .not [.t 2],jt 3,jg 4 false (.fadd 2) [.v 6],ji 4 false 5,jf 4 false 64 [.t 6,jn 0,jn 1440],jg 4 false .not [.t 7],jw 14 .pick [.t 4,jB true,.t 8]])
 (.cond 14 (.seq (.region [jz 2 7])
 .ret)
 .skip))
 (.seq (.region [jF 1 6,jl 0,jF 2 6,jl 2,jw 15 (.bin .gtr .int) [.t 1,.t 3]])
 (.cond 15 (.seq (.region [jz 2 2])
 .ret)
 .skip)))))))
 (.region [jv 5,jq (.bin .add .int) [.t 0,jn 1],jm 5 1])))
def ic108l2:IC:=(.seq (.seq (.region [jv 4,jF 2 1,jl 1,je 2,jw 10 (.bin .lss .int) [.t 0,.t 3]])
 (.cond 10 .skip
 (.exit 0)))
 (.seq (.block 1 (.seq (.region [jF 2 1,jl 0,jv 4,ja 1 1 2,jl 3,jv 3,jk 64 [.t 4,jn 0,.t 5],jw 11 .not [.t 6]])
 (.cond 11 (.seq (.region [jz 2 4])
 .ret)
 .skip)))
 (.region [jv 4,jq (.bin .add .int) [.t 0,jn 1],jm 4 1])))
def ic108:IC:=(.seq (.region [jb 1 0,jz 2 0])
 (.seq (.seq (.region [jF 2 1,jl 0,je 1,jq (.bin .gtr .int) [.t 2,jn 8],jt 3,jg 4 false (.fadd 3) [.v 1],ji 4 false 5,jg 4 false (.len false) [.t 6],jg 4 false (.bin .gtr .int) [.t 7,jn 8],jq .pick [.t 4,jB true,.t 8],jt 9,jg 10 false (.fadd 4) [.v 1],ji 10 false 11,jg 10 false (.len false) [.t 12],jg 10 false (.bin .gtr .int) [.t 13,jn 8],jw 9 .pick [.t 10,jB true,.t 14]])
 (.cond 9 (.seq (.region [jz 2 3])
 .ret)
 .skip))
 (.seq (.region [jF 0 1,jG 0 0,jl 1,je 2,jq (.bin .sub .int) [.t 3,jn 1],jm 3 4])
 (.seq (.seq (.region [jz 4 0])
 (.block 0 (.loop ic108l2)))
 (.seq (.seq (.region [jz 5 0])
 (.block 2 (.loop ic108l1)))
 (.seq (.seq (.region [jz 8 0])
 (.block 4 (.loop ic108l0)))
 (.seq (.region [jz 2 0])
 .ret)))))))
abbrev rs108:List RC:=[(.v 2)]
theorem fok108 (p:Bool):FnOk Tryz.prog 108 ⟨ic108,vs108,110,rs108,p⟩:=.mk2 Tryz.func108 (by kernel_rfl) (by kernel_rfl) (by kernel_rfl) (by kernel_rfl) (by kernel_rfl)
theorem Qeg {lo hi:Int} {zs:List Int} {j:Nat} (hj:j<zs.length) (h:inB (zs[j]?.getD 0) lo hi=false):outF lo hi zs=true:=by
 cases ho:outF lo hi zs with
 | true=>rfl
 | false=>rw[PW.1 ho j hj] at h;cases h
end Go.Proofs.YtgkidpolomhghaaGreatDoor.AM
namespace Go.Proofs.YtgkidpolomhghaaGreatDoor.AM
variable [Dr]
open Go
variable {P:Program} {fx:Fx} {s:St} {Q:Exit→St→Prop} {f:FuncId}
theorem WB.later {m:LM} {X:Nat→Prop} {en:En} {w:World} {c:Code} {s':St} {m':LM} {w':World} {ac':Act} (h:WB f P fx c s' Q) (hr:rok fx m) (hs':SRel fx m' X en s' ac' w') (hst:Step fx.n0 m X w m' w') :
  InF f (fen m fx.r) 0 P c (Lift fx m X en w Q) ac' w':=by
 rw[← EQ hr hst]
 exact InF.mono (h m' X en ac' w' hs' (EH hr hst)) fun e ac2 w2 ⟨s2,m2,h1,h2,h3⟩=>⟨s2,m2,h1,h2,hst.trans h3⟩
end Go.Proofs.YtgkidpolomhghaaGreatDoor.AM
namespace Go.Proofs.YtgkidpolomhghaaGreatDoor.AM
variable [Dr]
open Go Pl
section
variable {cs:List Cls} {k:Nat}
theorem cls_0 (h:k<cs.length):(DZ cs)[k*5]? = some (.str (cs[k]!).nm):=flat_get TW h (j:=0) (by omega)
end
theorem c86 (co:List ByteArray) (x:ByteArray) (hz:co.length<2 ^ 63):PC Tryz.prog 143 [.cv (strR co),.cv (.str x)] (.i (FP co x)):=by
 refine ⟨ZF (fok143 true) (QC rfl) ?_,rfl⟩
 simp only[ic143,evA,simprocAttr]
 refine ZW co.length (fun i s=>(∀ j,j<i→decide (co[j]! = x)=false)∧∃ v4 v5,s=⟨[.cv (strR co),.cv (.str x),.i 0,.i i,v4,v5],[]⟩) ?_ 0 (QF _) ⟨by omega,_,_,rfl⟩
 rintro i s hi ⟨hall,v4,v5,rfl⟩
 by_cases h:i<co.length
 ·simp only[ic143l0,QJ,h,XP h,BK h,binS,str_eq,evA,simprocAttr]
  cases hp:decide (co[i]! = x)
  ·simp only[Q6 (show i+1<2 ^ 63 by omega),evA,simprocAttr]
   refine ZL (by first | trivial | omega) ⟨fun j hj=>?_,_,_,rfl⟩
   rcases QQ.1 hj with hj | rfl
   ·exact hall j hj
   ·exact hp
  ·simp only[evA,simprocAttr]
   rw[show FP co x=(i:Int) from EK (p:=fun i=>decide (co[i]! = x)) h hall hp]
   exact frz
 ·simp only[ic143l0,QJ,h,evA,simprocAttr]
  have:i=co.length:=by omega
  subst this
  rw[show FP co x = -1 from EL (p:=fun i=>decide (co[i]! = x)) hall]
  exact frz
theorem c85 (s:Sys) (hs:SSz s) (i:Nat) (hi:i<s.cl.length):PC Tryz.prog 141 [sysV s,.i i] (.i (VR s i)):=by
 refine ⟨ZF (fok141 true) (QC rfl) ?_,rfl⟩
 have hcl:=hs.cl
 have hnm:=hs.nm i hi
 have hin:=hs.inc i hi
 have hw:IntKind.i64.wrap ((s.cl.length:Int)-1)=(s.cl.length:Int)-1:=ZC (by omega)
 have hld:∀ σ,YF 5 [.cv (.rp (DZ s.cl) (i*5))] σ=some (clsA s.cl[i]!,σ):=Qaz hi
 have hia:∀ σ,VP 5 [.cv (clsR s.cl),.cv (.int .i64 i)] σ=some (.cv (.rp (DZ s.cl) (i*5)),σ):=GR hi
 have h21:=c21 (s.cl[i]!).nm hnm
 unfold VR
 generalize s.cl[i]! = c at *
 simp only[ic141,WI,cellsOf,hld,hia,hw,evA,simprocAttr]
 refine h21.call frz ?_
 cases h1:JH c.nm with
 | false =>
  rw[if_pos rfl]
  simp only[evA,simprocAttr]
  exact frz
 | true =>
 rw[if_neg (by decide)]
 simp only[evA,simprocAttr]
 refine ZW i (fun k s'=>(∀ j,j<k→decide ((s.cl[j]!).nm=c.nm)=false)∧∃ v6 v7 v9 v10 v11 v12 v13 v14 v15 v16,s'=⟨[sysV s,.i i,.ptr 0 0,.i 0,.ptr 1 0,.i k,v6,v7,.b false,v9,v10,v11,v12,v13,v14,v15,v16],[.cells [.cv (clsR s.cl),.cv (strR s.co)],.cells [.cv (.str c.nm),ints c.inc,.i c.need,.i c.age,.i c.term]]⟩) ?_ 0 (QF _) ⟨by omega,_,_,_,_,_,_,_,_,_,_,rfl⟩
 rintro k s' hk ⟨hall,v6,v7,v9,v10,v11,v12,v13,v14,v15,v16,rfl⟩
 by_cases hki:k<i
 ·have hk2:k<s.cl.length:=by omega
  simp only[ic141l1,QJ,hki,evA,simprocAttr]
  refine DW_s [] [] hmix (by kernel_rfl) rfl ?_
  simp only[GR hk2,cls_0 hk2,binS,str_eq,evA,simprocAttr]
  cases h2:decide ((s.cl[k]!).nm=c.nm) with
  | true =>
   rw[if_pos (U8.2 ⟨k,hki,h2⟩)]
   simp only[evA,simprocAttr]
   exact frz
  | false =>
   simp only[Q6 (show k+1<2 ^ 63 by omega),evA,simprocAttr]
   refine ZL (by first | trivial | omega) ⟨fun j hj=>?_,_,_,_,_,_,_,_,_,_,_,rfl⟩
   rcases QQ.1 hj with hj | rfl
   ·exact hall j hj
   ·exact h2
 have hki':k=i:=by omega
 subst hki'
 have h2:anyN (fun j=>decide ((s.cl[j]!).nm=c.nm)) k=false:=F8.2 hall
 rw[if_neg (by rw[h2];decide)]
 by_cases h3:s.cl.length<c.inc.length
 ·rw[if_pos (show (c.inc.length:Int)>s.cl.length by omega)]
  simp only[ic141l1,QJ,hki,hw,gt_iff_lt,h3,evA,simprocAttr]
  exact frz
 rw[if_neg (show ¬ (c.inc.length:Int)>s.cl.length by omega)]
 simp only[ic141l1,QJ,hki,hw,gt_iff_lt,h3,evA,simprocAttr]
 refine ZW c.inc.length (fun m s'=>(∀ j,j<m→inB (c.inc[j]?.getD 0) 0 ((s.cl.length:Int)-1)=true)∧∃ v9 v10 v12 v13 v14 v15 v16,s'=⟨[sysV s,.i k,.ptr 0 0,.i 0,.ptr 1 0,.i k,.i ((s.cl.length:Int)-1),.i m,.b false,v9,v10,.b false,v12,v13,v14,v15,v16],[.cells [.cv (clsR s.cl),.cv (strR s.co)],.cells [.cv (.str c.nm),ints c.inc,.i c.need,.i c.age,.i c.term]]⟩) ?_ 0 (QF _) ⟨by omega,_,_,_,_,_,_,_,rfl⟩
 rintro m s' hm ⟨hal2,v9,v10,v12,v13,v14,v15,v16,rfl⟩
 by_cases hmi:m<c.inc.length
 ·simp only[ic141l0,QJ,hmi,evA,simprocAttr]
  refine (c59i (c.inc[m]?.getD 0) 0 ((s.cl.length:Int)-1)).call frz ?_
  cases h4:inB (c.inc[m]?.getD 0) 0 ((s.cl.length:Int)-1) with
  | false =>
   rw[if_pos (by rw[Qeg hmi h4];rfl)]
   simp only[evA,simprocAttr]
   exact frz
  | true =>
   simp only[Q6 (show m+1<2 ^ 63 by omega),evA,simprocAttr]
   refine ZL (by first | trivial | omega) ⟨fun j hj=>?_,_,_,_,_,_,_,_,rfl⟩
   rcases QQ.1 hj with hj | rfl
   ·exact hal2 j hj
   ·exact h4
 have hmi':m=c.inc.length:=by omega
 subst hmi'
 rw[PW.2 hal2,Y3]
 simp only[ic141l0,QJ,hmi,evA,simprocAttr]
 refine (c59i c.need (-1) ((s.cl.length:Int)-1)).call frz ?_
 cases h5:inB c.need (-1) ((s.cl.length:Int)-1) with
 | false =>
  rw[if_pos (show (!false)=true from rfl)]
  simp only[evA,simprocAttr]
  exact frz
 | true =>
 rw[if_neg (show ¬ ((!true)=true) by decide)]
 simp only[evA,simprocAttr]
 cases h6:(c.need == (k:Int)) with
 | true =>
  rw[if_pos rfl]
  simp only[evA,simprocAttr]
  exact frz
 | false =>
 rw[if_neg (by decide)]
 have ho:outF 0 100 [c.age,c.term]=(!inB c.age 0 100 || !inB c.term 0 100):=by
  have e1:=FW 0 100 c.age
  have e2:=FW 0 100 c.term
  simp only[outF,List.any_cons,List.any_nil,Bool.or_false] at e1 e2 ⊢
  rw[e1,e2]
 rw[ho]
 simp only[evA,simprocAttr]
 refine (c59i c.age 0 100).call frz ?_
 cases h7:inB c.age 0 100 with
 | false =>
  rw[if_pos (show (!false || !inB c.term 0 100)=true from rfl)]
  simp only[evA,simprocAttr]
  exact frz
 | true =>
 simp only[evA,simprocAttr]
 refine (c59i c.term 0 100).call frz ?_
 cases h8:inB c.term 0 100 with
 | false =>
  rw[if_pos (show (!true || !false)=true from rfl)]
  simp only[evA,simprocAttr]
  exact frz
 | true =>
  rw[if_neg (show ¬ ((!true || !true)=true) by decide)]
  simp only[evA,simprocAttr]
  exact frz
theorem codIx {s:Sys} {i:Nat} (hi:i<s.co.length):decide (FP (s.co.take i) s.co[i]!≥0)=anyN (fun k=>decide (s.co[k]! = s.co[i]!)) i:=by
 have htl:(s.co.take i).length=i:=by simp;omega
 rw[FP,OA,htl,Q8,U8,U8]
 constructor <;> rintro ⟨k,hk,h⟩ <;> refine ⟨k,hk,?_⟩
 ·rwa [getElem!_pos _ k (by omega),List.getElem_take,← getElem!_pos s.co k (by omega)] at h
 ·rw[getElem!_pos _ k (by omega),List.getElem_take,← getElem!_pos s.co k (by omega)];exact h
theorem c54 (s:Sys) (hs:SSz s):PC Tryz.prog 107 [sysV s] (chkV s):=by
 refine ⟨ZF (fok107 true) (QC rfl) ?_,rfl⟩
 have hcl:=hs.cl
 have hco:=hs.co
 have he2:∀ i,dnB s i=true→dnE s i=9:=fun i h=>by unfold dnE;rw[if_pos h]
 have he3:∀ i,dnB s i=false→dnE s i=0:=fun i h=>by unfold dnE;rw[if_neg (by rw[h];decide)]
 unfold chkV
 simp only[ic107,WI,cellsOf,evA,simprocAttr]
 refine (c59i s.cl.length 1 12).call frz ?_
 cases h1:inB s.cl.length 1 12 with
 | false =>
  have he:sysE s=(1,0,3):=by unfold sysE;rw[h1];rfl
  rw[he]
  simp only[ZY,evA,simprocAttr]
  exact frz
 | true =>
 cases h2:decide ((s.co.length:Int)>8) with
 | true =>
  have he:sysE s=(1,0,3):=by unfold sysE;rw[h1,h2];rfl
  rw[he]
  simp only[Y2,h2,evA,simprocAttr]
  exact frz
 | false =>
 have hn12:s.cl.length≤12:=by rw[VB] at h1;omega
 have e1:sysE s=if (XZ (VR s) 0 s.cl.length).2≠0 then (2,XZ (VR s) 0 s.cl.length) else if (XZ (KM s) 0 s.co.length).2≠0 then (3,XZ (KM s) 0 s.co.length) else if (XZ (dnE s) 0 s.cl.length).2≠0 then (4,XZ (dnE s) 0 s.cl.length) else (0,0,0):=by
  unfold sysE;rw[h1,h2];rfl
 rw[e1]
 simp only[Y2,h2,evA,simprocAttr]
 refine ZW s.cl.length (fun i s'=>(∀ j,j<i→VR s j=0)∧∃ v2 v3 v4 v6 v7 v8 v9 v11 v12 v13 v14 v15 v16 v17 v18,s'=⟨[sysV s,.ptr 0 0,v2,v3,v4,.i i,v6,v7,v8,v9,.b false,v11,v12,v13,v14,v15,v16,v17,v18],[.cells [.cv (clsR s.cl),.cv (strR s.co)]]⟩) ?_ 0 (QF _) ⟨by omega,_,_,_,_,_,_,_,_,_,_,_,_,_,_,_,rfl⟩
 rintro i s' hi ⟨hall,v2,v3,v4,v6,v7,v8,v9,v11,v12,v13,v14,v15,v16,v17,v18,rfl⟩
 by_cases hin:i<s.cl.length
 ·simp only[ic107l3,QJ,hin,evA,simprocAttr]
  refine (c85 s hs i hin).call frz ?_
  by_cases hg:VR s i=0
  ·have hb:(VR s i != 0)=false:=by simpa using hg
   simp only[hb,Q6 (show i+1<2 ^ 63 by omega),evA,simprocAttr]
   refine ZL (by first | trivial | omega) ⟨fun j hj=>?_,_,_,_,_,_,_,_,_,_,_,_,_,_,_,_,rfl⟩
   rcases QQ.1 hj with hj | rfl
   ·exact hall j hj
   ·exact hg
  ·have hb:(VR s i != 0)=true:=by simpa using hg
   rw[VF s.cl.length 0 i (QF _) (by omega) (fun j _ hj=>hall j hj) hg,if_pos hg]
   simp only[hb,evA,simprocAttr]
   exact frz
 have hin':i=s.cl.length:=by omega
 subst hin'
 have hok:OkI s:=Qch (by rw[JY s.cl.length 0 fun j _ hj=>hall j (by omega)])
 rw[JY s.cl.length 0 fun j _ hj=>hall j (by omega),if_neg (show ¬ ((0:Int)≠0) by decide)]
 simp only[ic107l3,QJ,hin,evA,simprocAttr]
 refine ZW s.co.length (fun i s'=>(∀ j,j<i→KM s j=0)∧∃ v2 v3 v4 v5 v6 v8 v9 v11 v12 v13 v14 v15 v16 v17 v18,s'=⟨[sysV s,.ptr 0 0,v2,v3,v4,v5,v6,.i i,v8,v9,.b false,v11,v12,v13,v14,v15,v16,v17,v18],[.cells [.cv (clsR s.cl),.cv (strR s.co)]]⟩) ?_ 0 (QF _) ⟨by omega,_,_,_,_,_,_,_,_,_,_,_,_,_,_,_,rfl⟩
 rintro i s' hi ⟨hal2,v2,v3,v4,v5,v6,v8,v9,v11,v12,v13,v14,v15,v16,v17,v18,rfl⟩
 by_cases hio:i<s.co.length
 ·have hnm:=hs.cm i hio
  have hix:=codIx hio
  have hge:KM s i=if JH s.co[i]! = false then 6 else if decide (FP (s.co.take i) s.co[i]!≥0)=true then 5 else 0:=by rw[hix];rfl
  have hsl:∀ σ,VG 1 false true [.cv (strR s.co),.cv (.int .i64 i)] σ=some (.cv (strR (s.co.take i)),σ):=str_sl (by omega)
  simp only[ic107l2,QJ,hio,XP hio,BK hio,evA,simprocAttr]
  refine (c21 s.co[i]! hnm).call frz ?_
  cases hn:JH s.co[i]! with
  | false =>
   have hg:KM s i=6:=by rw[hge,hn];rfl
   have hfe:=VF s.co.length 0 i (QF _) (by omega) (fun j _ hj=>hal2 j hj) (g:=KM s) (by rw[hg];decide)
   rw[hg] at hfe
   rw[hfe,if_pos (fun h=>by cases h)]
   simp only[evA,simprocAttr]
   exact frz
  | true =>
  simp only[evA,simprocAttr]
  refine DW_s [9] [] hmix (by kernel_rfl) rfl ?_
  simp only[hsl,XP hio,BK hio,evA,simprocAttr]
  refine YE ((c86 (s.co.take i) s.co[i]! (by simp;omega)).call frz ⟨rfl,rfl⟩) rfl ?_
  cases hx:decide (FP (s.co.take i) s.co[i]!≥0) with
  | true =>
   have hg:KM s i=5:=by rw[hge,hn,hx];rfl
   have hfe:=VF s.co.length 0 i (QF _) (by omega) (fun j _ hj=>hal2 j hj) (g:=KM s) (by rw[hg];decide)
   rw[hg] at hfe
   rw[hfe,if_pos (fun h=>by cases h)]
   simp only[hx,evA,simprocAttr]
   exact frz
  | false =>
   have hg:KM s i=0:=by rw[hge,hn,hx];rfl
   simp only[hx,Q6 (show i+1<2 ^ 63 by omega),evA,simprocAttr]
   refine ZL (by first | trivial | omega) ⟨fun j hj=>?_,_,_,_,_,_,_,_,_,_,_,_,_,_,_,_,rfl⟩
   rcases QQ.1 hj with hj | rfl
   ·exact hal2 j hj
   ·exact hg
 have hio':i=s.co.length:=by omega
 subst hio'
 rw[JY s.co.length 0 fun j _ hj=>hal2 j (by omega),if_neg (show ¬ ((0:Int)≠0) by decide)]
 simp only[ic107l2,QJ,hio,evA,simprocAttr]
 refine ZW s.cl.length (fun i s'=>(∀ j,j<i→dnB s j=false)∧∃ v2 v3 v4 v5 v6 v7 v9 v11 v12 v13 v14 v15 v16 v17 v18,s'=⟨[sysV s,.ptr 0 0,v2,v3,v4,v5,v6,v7,.i i,v9,.b false,v11,v12,v13,v14,v15,v16,v17,v18],[.cells [.cv (clsR s.cl),.cv (strR s.co)]]⟩) ?_ 0 (QF _) ⟨by omega,_,_,_,_,_,_,_,_,_,_,_,_,_,_,_,rfl⟩
 rintro i s' hi ⟨hal3,v2,v3,v4,v5,v6,v7,v9,v11,v12,v13,v14,v15,v16,v17,v18,rfl⟩
 by_cases hin:i<s.cl.length
 ·have hinc:=hs.inc i hin
  simp only[ic107l1,QJ,hin,evA,simprocAttr]
  refine ZW (s.cl[i]!).inc.length (fun k s'=>(∀ j,j<k→covB s ((s.cl[i]!).inc[j]?.getD 0).toNat i=false)∧∃ v17 v18,s'=⟨[sysV s,.ptr 0 0,v2,v3,v4,v5,v6,v7,.i i,.i k,.b false,v11,v12,v13,v14,v15,.b true,v17,v18],[.cells [.cv (clsR s.cl),.cv (strR s.co)]]⟩) ?_ 0 (QF _) ⟨by omega,_,_,rfl⟩
  rintro k s' hk ⟨hal4,v17,v18,rfl⟩
  by_cases hki:k<(s.cl[i]!).inc.length
  ·have hzr:=hok i hin ((s.cl[i]!).inc[k]?.getD 0) (by rw[QI hki];exact Q2 hki)
   obtain ⟨z,hze⟩:∃ z:Nat,(s.cl[i]!).inc[k]?.getD 0=(z:Int):=⟨((s.cl[i]!).inc[k]?.getD 0).toNat,by omega⟩
   have e40:(2:Nat) ^ 40=1099511627776:=by decide
   simp only[ic107l0,QJ,hki,GR hin,CW hin,evA,simprocAttr]
   refine DW_s [10] [] hmix (by kernel_rfl) rfl ?_
   simp only[QJ,hki,GR hin,CW hin,hze,evA,simprocAttr]
   refine YE ((c51 s hs (by omega) hok z (by omega)).call frz ⟨rfl,rfl⟩) rfl ?_
   simp only[P1 hin,W3,DN hin,evA,simprocAttr]
   cases hb:covB s z i with
   | true =>
    have hd:dnB s i=true:=U8.2 ⟨k,hki,by rw[hze];exact hb⟩
    have hg:=he2 i hd
    have hfe:=VF s.cl.length 0 i (QF _) (by omega) (fun j _ hj=>he3 j (hal3 j hj)) (g:=dnE s) (by rw[hg];decide)
    rw[hg] at hfe
    rw[hfe,if_pos (fun h=>by cases h)]
    simp only[evA,simprocAttr]
    exact frz
   | false =>
    simp only[Q6 (show k+1<2 ^ 63 by omega),evA,simprocAttr]
    refine ZL (by first | trivial | omega) ⟨fun j hj=>?_,_,_,rfl⟩
    rcases QQ.1 hj with hj | rfl
    ·exact hal4 j hj
    ·rw[hze];exact hb
  have hkl:k=(s.cl[i]!).inc.length:=by omega
  have hd:dnB s i=false:=F8.2 fun j hj=>hal4 j (by omega)
  simp only[ic107l0,QJ,hki,GR hin,CW hin,Q6 (show i+1<2 ^ 63 by omega),evA,simprocAttr]
  refine ZL (by first | trivial | omega) ⟨fun j hj=>?_,_,_,_,_,_,_,_,_,_,_,_,_,_,_,_,rfl⟩
  rcases QQ.1 hj with hj | rfl
  ·exact hal3 j hj
  ·exact hd
 have hin':i=s.cl.length:=by omega
 subst hin'
 rw[JY s.cl.length 0 fun j _ hj=>he3 j (hal3 j (by omega)),if_neg (show ¬ ((0:Int)≠0) by decide)]
 simp only[ic107l1,QJ,hin,evA,simprocAttr]
 exact frz
theorem c48 (s:Sys) (hs:SSz s) (hm:s.co.length≤8) (l:List Rt) (hl:l.length<2 ^ 63):PC Tryz.prog 144 [sysV s,rgL l] (.i (rgsE s l)):=by
 refine ⟨ZF (fok144 true) (QC rfl) ?_,rfl⟩
 have hcl:=hs.cl
 have hb:=HF hm
 have hw:IntKind.i64.wrap ((s.cl.length:Int)-1)=(s.cl.length:Int)-1:=ZC (by omega)
 have hw2:IntKind.i64.wrap (2 ^ s.co.length-1)=setN s-1:=ZC (by omega)
 unfold rgsE
 by_cases h:(l.length:Int)>40
 ·rw[if_pos h]
  simp only[ic144,WI,cellsOf,h,evA,simprocAttr]
  exact frz
 rw[if_neg h]
 simp only[ic144,WI,cellsOf,h,evA,simprocAttr]
 refine ZW l.length (fun i s'=>(∀ j,j<i→HU s l[j]! = 0)∧∃ v6 v7 v8,s'=⟨[sysV s,rgL l,.ptr 0 0,.i 0,.i i,.b false,v6,v7,v8],[.cells [.cv (clsR s.cl),.cv (strR s.co)]]⟩) ?_ 0 (QF _) ⟨by omega,_,_,_,rfl⟩
 rintro i s' hi ⟨hall,v6,v7,v8,rfl⟩
 by_cases hin:i<l.length
 ·have hfe:=fun hne=>VF (g:=fun i=>HU s l[i]!) l.length 0 i (QF _) (by omega) (fun j _ hj=>hall j hj) hne
  have h1:=c59i (l[i]!).1 0 ((s.cl.length:Int)-1)
  have h2:=c59i (l[i]!).2 0 (setN s-1)
  simp only[ic144l0,QJ,hin,evA,simprocAttr]
  refine DW_s [9] [] hmix (by kernel_rfl) rfl ?_
  simp only[L6 hin,rg_0 hin,hw,evA,simprocAttr]
  refine YE (h1.call frz ⟨rfl,rfl⟩) rfl ?_
  cases g1:inB (l[i]!).1 0 ((s.cl.length:Int)-1) with
  | false =>
   have hg:HU s l[i]! = 4:=by unfold HU;rw[g1];rfl
   have hfe':=hfe (by show HU s l[i]!≠0;rw[hg];decide)
   rw[hfe']
   show _
   rw[hg]
   simp only[evA,simprocAttr]
   exact frz
  | true =>
  simp only[evA,simprocAttr]
  refine DW_s [8,10] [] hmix (by kernel_rfl) rfl ?_
  simp only[L6 hin,rg_1 hin,evA,simprocAttr]
  refine YE ((c49 s.co.length hm).call frz ⟨rfl,rfl⟩) rfl ?_
  simp only[hw2,evA,simprocAttr]
  refine YE (h2.call frz ⟨rfl,rfl⟩) rfl ?_
  cases g2:inB (l[i]!).2 0 (setN s-1) with
  | false =>
   have hg:HU s l[i]! = 7:=by unfold HU;rw[g1,g2];rfl
   have hfe':=hfe (by show HU s l[i]!≠0;rw[hg];decide)
   rw[hfe']
   show _
   rw[hg]
   simp only[evA,simprocAttr]
   exact frz
  | true =>
   have hg:HU s l[i]! = 0:=by unfold HU;rw[g1,g2];rfl
   simp only[Q6 (show i+1<2 ^ 63 by omega),evA,simprocAttr]
   refine ZL (by first | trivial | omega) ⟨fun j hj=>?_,_,_,_,rfl⟩
   rcases QQ.1 hj with hj | rfl
   ·exact hall j hj
   ·exact hg
 ·have hin':i=l.length:=by omega
  subst hin'
  rw[JY (g:=fun i=>HU s l[i]!) l.length 0 fun j _ hj=>hall j (by omega)]
  simp only[ic144l0,QJ,hin,evA,simprocAttr]
  exact frz
end Go.Proofs.YtgkidpolomhghaaGreatDoor.AM
namespace Go.Proofs.YtgkidpolomhghaaGreatDoor.Pl
section
variable (can:Nat→Nat→Bool) (n:Nat)
variable {can n}
end
section
variable (nx:List Int)
variable {nx} {can:Nat→Nat→Bool} {rk:Nat→Int} {n:Nat}
theorem LG (h:nx.length=n) {i:Nat}:V3 nx i=false↔∃ p,p<n∧gI nx p=(i:Int):=by
 unfold V3
 rw[Bool.not_eq_false',XS]
 constructor
 ·intro hm
  obtain ⟨p,hp,e⟩:=List.getElem_of_mem hm
  exact ⟨p,by omega,by simp[gI,hp,e]⟩
 ·rintro ⟨p,hp,e⟩
  have:nx[p]'(by omega)=(i:Int):=by simpa[gI,show p<nx.length by omega] using e
  rw[← this];exact Q2 _
theorem heads_len (h:NxW can rk n nx):(DD nx n).length+cnt n (fun j=>decide (0≤gI nx j))=n:=by
 have e1:(DD nx n).length=cnt n (V3 nx):=by
  unfold DD
  have key:∀ m,((List.range m).filter (V3 nx)).length=cnt m (V3 nx):=by
   intro m
   induction m with
   | zero=>rfl
   | succ m ih =>
    rw[WM,List.filter_append,QM,ih,cnt]
    by_cases hm:V3 nx m=true
    ·simp[hm]
    ·simp[hm]
  exact key n
 have e2:cnt n (fun j=>decide (0≤gI nx j))=cnt n (fun i=>!V3 nx i):=by
  refine Nat.le_antisymm (G6 (fun j=>(gI nx j).toNat) (fun j hj hp=>?_) fun j j' hj hj' hp hp' e=>?_) ?_
  ·simp only[decide_eq_true_eq] at hp
   rcases h.ok j hj with h1 | ⟨k,h1,h2,_⟩
   ·omega
   ·refine ⟨by omega,?_⟩
    rw[(LG h.len).2 ⟨j,hj,by omega⟩];rfl
  ·simp only[decide_eq_true_eq] at hp hp'
   exact h.inj j j' hj hj' (by omega) hp
  ·have hex:∀ i:Nat,∃ p:Nat,V3 nx i=false→p<n∧gI nx p=(i:Int):=fun i=>by
    cases hh:V3 nx i with
    | false=>obtain ⟨p,hp⟩:=(LG h.len).1 hh;exact ⟨p,fun _=>hp⟩
    | true=>exact ⟨0,fun e=>by cases e⟩
   obtain ⟨g,hg⟩:=Classical.axiomOfChoice hex
   refine G6 g (fun i hi hp=>?_) fun i i' hi hi' hp hp' e=>?_
   ·obtain ⟨a,b⟩:=hg i (by simpa using hp)
    exact ⟨a,by simp[b]⟩
   ·obtain ⟨a,b⟩:=hg i (by simpa using hp)
    obtain ⟨a',b'⟩:=hg i' (by simpa using hp')
    rw[e] at b;omega
 have e3:=ES (n:=n) (fun _=>true) (V3 nx)
 have e4:cnt n (fun _=>true)=n:=by
  have key:∀ m,cnt m (fun _=>true)=m:=by
   intro m
   induction m with
   | zero=>rfl
   | succ m ih=>simp[cnt,ih]
  exact key n
 simp only[XI] at e3
 have e5:cnt n (fun k=>V3 nx k)=cnt n (V3 nx):=rfl
 omega
def ME (cs:List (List Nat)) (k:Nat):Nat:=(cs.map fun c=>c.count k).sum
end
section
variable (can:Nat→Nat→Bool) (n:Nat)
variable {can n}
end
end Go.Proofs.YtgkidpolomhghaaGreatDoor.Pl
namespace Go.Proofs.YtgkidpolomhghaaGreatDoor.AM
variable [Dr]
open Go Pl
section
variable {l:List Les} {k:Nat}
theorem les_0 (h:k<l.length):(F0 l)[k*7]? = some (.int .i64 (l[k]!).le):=flat_get HJ h (j:=0) (by omega)
theorem les_1 (h:k<l.length):(F0 l)[k*7+1]? = some (.int .i64 (l[k]!).te):=flat_get HJ h (j:=1) (by omega)
theorem les_2 (h:k<l.length):(F0 l)[k*7+2]? = some (.int .i64 (l[k]!).ca):=flat_get HJ h (j:=2) (by omega)
theorem les_4 (h:k<l.length):(F0 l)[k*7+4]? = some (.int .i64 (l[k]!).e):=flat_get HJ h (j:=4) (by omega)
end
theorem le64 (n lo hi:Int):PC Tryz.prog 64 [.i n,.i lo,.i hi] (.b (inB n lo hi)):=by
 refine ⟨ZF (fok64 true) (QC rfl) ?_,rfl⟩
 unfold inB
 by_cases h:n≥lo <;> simp only[ic64,h,evA,simprocAttr] <;> exact frz
end Go.Proofs.YtgkidpolomhghaaGreatDoor.AM
namespace Go.Proofs.YtgkidpolomhghaaGreatDoor.AM
variable [Dr]
open Go Go.ChangeShapes Go.WideShapes Go.ChangeAt Go.RowKit
abbrev noO:Nat→Prop:=Own (fun _=>none) (fun _=>False)
theorem not_noO (b:Nat):¬ noO b:=by rintro (h | ⟨l,hl⟩);exact h;cases hl
theorem DG {α:Type} {Q:Nat→α→Prop}:∀ (n:Nat),(∀ i,i<n→∃ l,Q i l)→∃ L:List α,L.length=n∧∀ (i:Nat) (l:α),L[i]? = some l→Q i l
 | 0,_=>⟨[],rfl,by simp⟩
 | n+1,h=>by
  obtain ⟨L,h1,h2⟩:=DG n (fun i hi=>h i (by omega))
  obtain ⟨l,hl⟩:=h n (by omega)
  refine ⟨L++[l],by simp[h1],fun i l' hi=>?_⟩
  rcases ZB i n with hlt | hge
  ·rw[QE (by omega)] at hi;exact h2 i l' hi
  ·rw[QS (by omega),h1] at hi
   have:i=n:=by
    rcases ZB n i with h' | h'
    ·rw[QN (by simp;omega)] at hi;cases hi
    ·omega
   subst this
   simp at hi;subst hi;exact hl
theorem CJ {R:Nat→CV→Prop} {esz:Nat}:∀ (L:List (List CV)) (n:Nat),(∀ (i:Nat) (l:List CV),L[i]? = some l→l.length=esz∧∀ (j:Nat) (c:CV),l[j]? = some c→R (n+i*esz+j) c) →
  L.flatten.length=L.length*esz∧∀ (k:Nat) (c:CV),L.flatten[k]? = some c→R (n+k) c
 | [],n,_=>by simp
 | l::L,n,h=>by
  obtain ⟨h1,h2⟩:=h 0 l (by simp)
  have ih:=CJ L (n+esz) (fun i l' hi=>by
   obtain ⟨g1,g2⟩:=h (i+1) l' (by simpa using hi)
   refine ⟨g1,fun j c hj=>?_⟩
   have:=g2 j c hj
   rwa [WP,Nat.one_mul,← Nat.add_assoc,Nat.add_right_comm n] at this)
  refine ⟨by simp[h1,ih.1,WP,Nat.add_comm],fun k c hk=>?_⟩
  rw[List.flatten_cons] at hk
  rcases ZB k l.length with hlt | hge
  ·rw[QE hlt] at hk
   have:=h2 k c hk
   simpa using this
  ·rw[QS hge] at hk
   have:=ih.2 (k-l.length) c hk
   rwa [show n+esz+(k-l.length)=n+k by omega] at this
theorem A4 {P:Program} {R:Nat→CV→Prop} {N:Nat}:∀ (fs:List Field) (L:List (List CV)) (n:Nat),J8 P fs n=some N→L.length=fs.length →
  (∀ (i:Nat) (f:Field) (l:List CV),fs[i]? = some f→L[i]? = some l→l.length=P.cellsOf f.type∧∀ (j:Nat) (c:CV),l[j]? = some c→R (f.offset+j) c) →
  n+L.flatten.length=N∧∀ (k:Nat) (c:CV),L.flatten[k]? = some c→R (n+k) c
 | [],L,n,he,hl,_=>by
  have:L=[]:=ZT (by simpa using hl)
  subst this
  simp only[J8,Option.some.injEq] at he
  simp[he]
 | f::fs,[],n,_,hl,_=>by simp at hl
 | f::fs,l::L,n,he,hl,h=>by
  simp only[J8] at he
  split at he
  ·rename_i hoff
   obtain ⟨h1,h2⟩:=h 0 f l (by simp) (by simp)
   have ih:=A4 fs L (n+P.cellsOf f.type) he (by simpa using hl) (fun i f' l' hf hl'=>h (i+1) f' l' (by simpa using hf) (by simpa using hl'))
   refine ⟨by rw[← ih.1];simp[h1];omega,fun k c hk=>?_⟩
   rw[List.flatten_cons] at hk
   rcases ZB k l.length with hlt | hge
   ·rw[QE hlt] at hk
    have:=h2 k c hk
    rwa [hoff] at this
   ·rw[QS hge] at hk
    have:=ih.2 (k-l.length) c hk
    rwa [show n+P.cellsOf f.type+(k-l.length)=n+k by omega] at this
  ·cases he
theorem NT {W:World} {a:Addr}:∀ (cs:List CV) (i:Nat),(∀ (j:Nat) (c:CV),cs[j]? = some c→∃ v,W.cell? (a.add (i+j))=some v∧c.rep W noO v)→CV.reps W noO cs a i
 | [],_,_=>by simp[CV.reps]
 | c::cs,i,h=>by
  simp only[CV.reps]
  refine ⟨not_noO _,by simpa using h 0 c (by simp),NT cs (i+1) fun j c' hj=>?_⟩
  have:=h (j+1) c' (by simpa using hj)
  rwa [show i+(j+1)=i+1+j by omega] at this
section
variable {H:Type} {enc:TypeId × Value→H} {P:Program} {W:World}
theorem EW:∀ (n:Nat) (t:TypeId) (cs:List Value) (x:DataW H × List MemPlace) (fuel:Nat),TG P n t=true→DataW.trod enc P W 0 (fun _=>true) true fuel t cs=some x →
  ∃ cvs:List CV,Typed P t cvs∧cvs.length=cs.length∧∀ (i:Nat) (c:CV) (v:Value),cvs[i]? = some c→cs[i]? = some v→c.rep W noO v
 | 0,t,cs,x,fuel,ho,_=>by simp[TG] at ho
 | n + 1,t,cs,x,fuel,ho,h=>by
  simp only[TG] at ho
  split at ho
  ·rename_i ht
   obtain ⟨b,rfl,_⟩:=DataW.trod_bool ht h
   refine ⟨[.bool b],.bool ht b,rfl,fun i c v h1 h2=>?_⟩
   cases i with
   | zero=>simp at h1 h2;subst h1 h2;simp[CV.rep]
   | succ i=>simp at h1
  ·rename_i k ht
   obtain ⟨b,rfl,_,hw⟩:=DataW.trod_int ht h
   refine ⟨[.int k b],.int ht b hw,rfl,fun i c v h1 h2=>?_⟩
   cases i with
   | zero=>simp at h1 h2;subst h1 h2;simp[CV.rep]
   | succ i=>simp at h1
  ·rename_i ht
   obtain ⟨s,rfl,_,hw⟩:=DataW.trod_string ht h
   refine ⟨[.str s],.str ht s hw,rfl,fun i c v h1 h2=>?_⟩
   cases i with
   | zero=>simp at h1 h2;subst h1 h2;simp[CV.rep]
   | succ i=>simp at h1
  ·rename_i e ht
   rcases DataW.trod_slice ht h with ⟨rfl,_⟩ | ⟨a,len,cap,elems,rest,m,_,rfl,_,_,hlc,hcm,hel,hget,_⟩
   ·refine ⟨[.rsl [] 0],by simpa using Typed.slc ht [] (by simp) (by simp) (by simp),rfl,fun i c v h1 h2=>?_⟩
    cases i with
    | zero=>simp at h1 h2;subst h1 h2;simp[CV.rep]
    | succ i=>simp at h1
   ·obtain ⟨L,hL,hQ⟩:=DG (Q:=fun i l=>Typed P e l∧l.length=P.cellsOf e∧∀ (j:Nat) (c:CV),l[j]? = some c→∃ v,W.cell? (a.add (i*P.cellsOf e+j))=some v∧c.rep W noO v) len (fun i hi=>by
     have hg:=hget i hi
     rw[QI (by omega)] at hg
     obtain ⟨ci,h1,h2⟩:=QB.1 hg
     obtain ⟨_,hlen,hcell⟩:=World.cells?_some h1
     obtain ⟨cvs,g1,g2,g3⟩:=EW n e ci _ _ ho h2
     refine ⟨cvs,g1,by omega,fun j c hj=>?_⟩
     have hjl:j<cvs.length:=(QH.1 hj).1
     have hc:=hcell j (by omega)
     rw[QI (by omega)] at hc
     exact ⟨_,by rw[← Addr.add_add];exact hc,g3 j c _ hj (QI _)⟩)
    have hmem:∀ l∈L,∃ i:Nat,L[i]? = some l:=fun l hl=>List.mem_iff_getElem?.1 hl
    have hfl:=CJ (R:=fun k c=>∃ v,W.cell? (a.add k)=some v∧c.rep W noO v) (esz:=P.cellsOf e) L 0 (fun i l hi=>⟨(hQ i l hi).2.1,fun j c hj=>by simpa using (hQ i l hi).2.2 j c hj⟩)
    refine ⟨[.rsl L.flatten L.length],Typed.slc ht L (by omega) (fun l hl=>let ⟨i,hi⟩:=hmem l hl;(hQ i l hi).2.1) (fun l hl=>let ⟨i,hi⟩:=hmem l hl;(hQ i l hi).1),rfl,fun i c v h1 h2=>?_⟩
    cases i with
    | zero =>
     simp at h1 h2;subst h1 h2
     simp only[CV.rep]
     exact .inr ⟨a,cap,by rw[hL],by omega,NT _ 0 (fun j c hj=>hfl.2 j c hj)⟩
    | succ i=>simp at h1
  ·rename_i k e ht
   simp only[QD,decide_eq_true_eq] at ho
   obtain ⟨xs,m,_,_,hlen,hxs,hget⟩:=DataW.trod_array ht h
   obtain ⟨L,hL,hQ⟩:=DG (Q:=fun i l=>Typed P e l∧l.length=P.cellsOf e∧∀ (j:Nat) (c:CV),l[j]? = some c→∀ v,cs[i*P.cellsOf e+j]? = some v→c.rep W noO v) k (fun i hi=>by
     have hg:=hget i hi
     rw[QI (by omega)] at hg
     obtain ⟨cvs,g1,g2,g3⟩:=EW n e _ _ _ ho.1 hg
     have hik:i*P.cellsOf e+P.cellsOf e≤k*P.cellsOf e:=by
      have:=YQ (P.cellsOf e) (show i+1≤k by omega)
      rwa [WP,Nat.one_mul] at this
     have hl2:cvs.length=P.cellsOf e:=by rw[g2];simp;omega
     refine ⟨cvs,g1,hl2,fun j c hj v hv=>?_⟩
     have hjl:j<cvs.length:=(QH.1 hj).1
     exact g3 j c v hj (by rw[Z7,if_pos (by omega),X4];exact hv))
   have hmem:∀ l∈L,∃ i:Nat,L[i]? = some l:=fun l hl=>List.mem_iff_getElem?.1 hl
   have hfl:=CJ (R:=fun k c=>∀ v,cs[k]? = some v→c.rep W noO v) (esz:=P.cellsOf e) L 0 (fun i l hi=>⟨(hQ i l hi).2.1,fun j c hj=>by simpa using (hQ i l hi).2.2 j c hj⟩)
   exact ⟨L.flatten,Typed.arr ht L hL (fun l hl=>let ⟨i,hi⟩:=hmem l hl;(hQ i l hi).2.1) (fun l hl=>let ⟨i,hi⟩:=hmem l hl;(hQ i l hi).1),by rw[hfl.1,hlen,ho.2,hL],fun i c v h1 h2=>hfl.2 i c h1 v (by simpa using h2)⟩
  ·rename_i fs ht
   simp only[QD,decide_eq_true_eq,Q1] at ho
   obtain ⟨xs,m,_,_,hlen,hxs,hget⟩:=DataW.trod_struct ht h
   obtain ⟨L,hL,hQ⟩:=DG (Q:=fun i l=>∀ f,fs[i]? = some f→Typed P f.type l∧l.length=min (P.cellsOf f.type) (cs.length-f.offset)∧∀ (j:Nat) (c:CV),l[j]? = some c→∀ v,cs[f.offset+j]? = some v→c.rep W noO v) fs.size (fun i hi=>by
     have hfi:fs[i]? = some fs[i]:=Q7 hi
     have hg:=hget i fs[i] hfi
     rw[QI (by omega)] at hg
     obtain ⟨cvs,g1,g2,g3⟩:=EW n _ _ _ _ (ho.1 fs[i] (by simp)) hg
     have hl2:cvs.length=min (P.cellsOf fs[i].type) (cs.length-fs[i].offset):=by rw[g2];simp
     refine ⟨cvs,fun f hf=>?_⟩
     rw[hfi] at hf;cases hf
     refine ⟨g1,hl2,fun j c hj v hv=>?_⟩
     have hjl:j<cvs.length:=(QH.1 hj).1
     exact g3 j c v hj (by rw[Z7,if_pos (by omega),X4];exact hv))
   have hoff:∀ (fs:List Field) (n N:Nat),J8 P fs n=some N→n≤N∧∀ (i:Nat) (f:Field),fs[i]? = some f→f.offset+P.cellsOf f.type≤N:=by
    intro fs
    induction fs with
    | nil=>intro n N h;simp only[J8,Option.some.injEq] at h;simp[h]
    | cons f fs ih =>
     intro n N h
     simp only[J8] at h
     split at h
     ·rename_i ho
      obtain ⟨h1,h2⟩:=ih _ _ h
      refine ⟨by omega,fun i f' hi=>?_⟩
      cases i with
      | zero=>simp at hi;subst hi;omega
      | succ i=>exact h2 i f' (by simpa using hi)
     ·cases h
   have hin:=(hoff _ _ _ ho.2).2
   have hl:∀ (i:Nat) (f:Field) (l:List CV),fs[i]? = some f→L[i]? = some l→l.length=P.cellsOf f.type:=by
    intro i f l hf hl
    obtain ⟨_,h2,_⟩:=hQ i l hl f hf
    have:=hin i f (by simpa using hf)
    omega
   have hfl:=A4 (P:=P) (R:=fun k c=>∀ v,cs[k]? = some v→c.rep W noO v) fs.toList L 0 ho.2 (by simpa using hL) (fun i f l hf hl' =>
    ⟨hl i f l (by simpa using hf) hl',fun j c hj=>(hQ i l hl' f (by simpa using hf)).2.2 j c hj⟩)
   exact ⟨L.flatten,Typed.struct ht L hL hl (fun i f l hf hl'=>(hQ i l hl' f hf).1),by have:=hfl.1;omega,fun i c v h1 h2=>hfl.2 i c h1 v (by simpa using h2)⟩
  ·cases ho
theorem DV:∀ (cvs:List CV) (vs:List Value),cvs.length=vs.length→(∀ (i:Nat) (c:CV) (v:Value),cvs[i]? = some c→vs[i]? = some v→c.rep W noO v)→QK nom noX W (cvs.map .cv) vs
 | [],[],_,_=>by simp[QK]
 | c::cvs,v::vs,hl,h=>by
  simp only[Q0,QK,VRel]
  exact ⟨h 0 c v rfl rfl,DV cvs vs (by simpa using hl) fun i c v h1 h2=>h (i+1) c v (by simpa using h1) (by simpa using h2)⟩
 | [],_::_,hl,_=>by simp at hl
 | _::_,[],hl,_=>by simp at hl
theorem QfB {n:Nat} {t:TypeId} {v:Value} {d:DataW H} {ps:List MemPlace} {r:Reach} {base:Nat} (ho:TG P n t=true) (hval:Value.okWide P W r base t v) (h:DataW.Trod enc P W 0 (fun _=>true) true t v d ps) :
  ∃ cs,Typed P t cs∧VRel nom noX W (avOf P t cs) v:=by
 obtain ⟨fuel,h⟩:=h
 obtain ⟨cvs,h1,h2,h3⟩:=EW n t _ _ _ ho h
 refine ⟨cvs,h1,?_⟩
 unfold avOf
 have one:(v.cells.toList=[v])→VRel nom noX W (.cv (cvs.headD .nilp)) v:=by
  intro hv
  rw[hv] at h2 h3
  match cvs,h2 with
  | [c],_=>simp only[List.headD_cons,VRel];exact h3 0 c v rfl rfl
 cases n with
 | zero=>simp[TG] at ho
 | succ n =>
  simp only[TG] at ho
  split at ho
  ·rename_i ht;rw[ht];obtain ⟨b,rfl⟩:=okWide_bool ht hval;exact one rfl
  ·rename_i ht;rw[ht];obtain ⟨b,rfl⟩:=okWide_int ht hval;exact one rfl
  ·rename_i ht;rw[ht];obtain ⟨b,rfl⟩:=okWide_string ht hval;exact one rfl
  ·rename_i ht;rw[ht];obtain ⟨_,_,_,rfl⟩:=okWide_slice ht hval;exact one rfl
  ·rename_i ht;rw[ht]
   simp only[Value.okWide,ht] at hval
   obtain ⟨arr,rfl,_⟩:=hval
   simp only[VRel]
   exact ⟨arr.toList,by simp,DV _ _ h2 h3⟩
  ·rename_i ht;rw[ht]
   simp only[Value.okWide,ht] at hval
   obtain ⟨arr,rfl,_⟩:=hval
   simp only[VRel]
   exact ⟨arr.toList,by simp,DV _ _ h2 h3⟩
  ·cases ho
theorem C1 {n:Nat} {r:Reach} {base:Nat}:∀ {ts:List TypeId} {vs:List Value} {ds:List (DataW H)} {ps:List MemPlace},(ts.all (TG P n))=true →
  (∀ (j:Nat) (t:TypeId) (v:Value),ts[j]? = some t→vs[j]? = some v→Value.okWide P W r base t v)→DataW.TrodAll enc P W 0 (fun _=>true) true ts vs ds ps →
  ds.length=ts.length∧∃ avs,Args P ts avs∧QK nom noX W avs vs
 | [],_,_,_,_,_,h=>by
  obtain ⟨rfl,rfl,rfl⟩:=trodAll_nil h
  exact ⟨rfl,[],.nil,by simp[QK]⟩
 | t::ts,_,_,_,ho,hval,h=>by
  obtain ⟨v,vs1,d,ds1,a,b,rfl,rfl,rfl,h1,h2⟩:=trodAll_cons h
  simp only[List.all_cons,QD] at ho
  obtain ⟨cs,g1,g2⟩:=QfB ho.1 (hval 0 t v rfl rfl) h1
  obtain ⟨hl,avs,g3,g4⟩:=C1 ho.2 (fun j t v h1 h2=>hval (j+1) t v (by simpa using h1) (by simpa using h2)) h2
  exact ⟨by simp[hl],_,.cons g1 g3,by simp only[QK];exact ⟨g2,g4⟩⟩
theorem LU (hl:laidOutB P=true) {W':World} (hb:Below W.heap.size W W'):∀ {ts:List TypeId} {vs:List Value} {ds:List (DataW H)} {ps:List MemPlace},(ts.all fun t=>P.readableRec t&&decide (t<P.types.size))=true →
  DataW.TrodAll enc P W 0 (fun _=>true) true ts vs ds ps→(∀ x∈ps,x.block<W.heap.size)→DataW.TrodAll enc P W' 0 (fun b=>decide (b<W.heap.size)) true ts vs ds ps
 | [],_,_,_,_,h,_=>by
  obtain ⟨rfl,rfl,rfl⟩:=trodAll_nil h
  exact trodAll_mk0
 | t::ts,_,_,_,ho,h,hlt=>by
  obtain ⟨v,vs1,d,ds1,a,b,rfl,rfl,rfl,h1,h2⟩:=trodAll_cons h
  simp only[List.all_cons,QD,decide_eq_true_eq] at ho
  refine trodAll_cons_mk (Below.trod hl ho.1.1 ho.1.2 h1 hb fun x hx=>hlt x (by simp[hx])) (LU hl hb ?_ h2 fun x hx=>hlt x (by simp[hx]))
  simpa using ho.2
theorem law_of_AC {f:FuncId} {fn:Func} {s:ChangeSpec} {n:Nat} {t:TypeId} {base:Nat} {args:Array Value} {ds gs:List (DataW H)} {before:List MemPlace}
  (hl:laidOutB P=true) (hpar:(fn.params.toList.all fun t=>P.readableRec t&&decide (t<P.types.size))=true) (ho:fn.params.toList.all (TG P n)=true)
  (hres:fn.resultTypes = #[t]) (htb:P.underlying t=some .bool) (hsv:s.vars=[]) (hs:∀ ds:List (DataW H),ds.length=fn.params.toList.length→s.fn H ds = { results:=[.lit (.bool true)],args:=ds })
  (hAC:∀ avs,Args P fn.params.toList avs→AC P f avs [] fun r _=>r=.b true)
  (hval:∀ (j:Nat) t v,fn.params[j]? = some t→args[j]? = some v→Value.okWide P W .any base t v) (hgl:GlOk nom noX W)
  (hW:DataW.Whole enc P fn.params.toList s.vars false W args.toList ds gs before) :
  Calls P f args W fun e W'=>∃ v,e=.returned v∧s.post enc P fn false true false false W args v W':=by
 have hW':=hW
 obtain ⟨p,q,hA,hV,rfl,hfz,hnd⟩:=hW
 rw[hsv] at hV
 obtain ⟨rfl,rfl⟩:=trodVars_none hV
 have hlt:∀ x∈p,x.block<W.heap.size:=fun x hx=>hW'.lt x (by simp[hx])
 obtain ⟨hlen,avs,hav,hrel⟩:=C1 ho (fun j t v h1 h2=>hval j t v (by simpa using h1) (by simpa using h2)) hA
 have hcall:=(hAC avs hav).2 nom noX W args.toList hrel ⟨by simp,by simp,by simp,by simp,by simp,hgl⟩
 have hcall:=callsIn_wide.1 hcall
 simp only[Array.toArray_toList] at hcall
 refine hcall.mono fun e W' ⟨c,r,σ',m',he,hq,hr,_,hst,_⟩=>?_
 subst he hq
 simp only[VRel,CV.rep] at hr
 subst hr
 have hb:Below W.heap.size W W':=⟨hst.os,hst.tape,hst.output,hst.size,fun k hk=>hst.fr k hk (.inr (by simp))⟩
 have hsf:s.fn H (ds++[]) = { results:=[.lit (.bool true)],args:=ds }:=by rw[ZU];exact hs ds hlen
 refine ⟨_,rfl,ds,[],p++[],[],p,[],hW',?_,?_,?_,hb.frame _,fun h=>by simp at h⟩
 ·rw[hsf,hres]
  exact trodAll_mk1 (shut_bool htb true)
 ·rw[hsf]
  exact LU hl hb hpar hA hlt
 ·rw[hsf,hsv]
  rfl
end
end Go.Proofs.YtgkidpolomhghaaGreatDoor.AM
namespace Go.Proofs.YtgkidpolomhghaaGreatDoor.AM
variable [Dr]
open Go
theorem QeV {P:Program} {t:TypeId} {k:IntKind} {cs:List CV} (ht:P.underlying t=some (.int k)) (h:Typed P t cs):∃ n,cs=[.int k n]∧(Lit.int k n).wf=true:=by
 cases h with
 | int ht' n hw=>rw[ht] at ht';cases ht';exact ⟨n,rfl,hw⟩
 | bool ht'=>rw[ht] at ht';cases ht'
 | str ht'=>rw[ht] at ht';cases ht'
 | slc ht'=>rw[ht] at ht';cases ht'
 | arr ht'=>rw[ht] at ht';cases ht'
 | struct ht'=>rw[ht] at ht';cases ht'
theorem typed_str {P:Program} {t:TypeId} {cs:List CV} (ht:P.underlying t=some .string) (h:Typed P t cs):∃ s:ByteArray,cs=[.str s]∧s.size≤maxLen:=by
 cases h with
 | str ht' s hs=>exact ⟨s,rfl,hs⟩
 | bool ht'=>rw[ht] at ht';cases ht'
 | int ht'=>rw[ht] at ht';cases ht'
 | slc ht'=>rw[ht] at ht';cases ht'
 | arr ht'=>rw[ht] at ht';cases ht'
 | struct ht'=>rw[ht] at ht';cases ht'
theorem QeU {P:Program} {t e:TypeId} {cs:List CV} (ht:P.underlying t=some (.slice e)) (h:Typed P t cs):∃ L:List (List CV),cs=[.rsl L.flatten L.length]∧L.length≤maxLen∧(∀ l∈L,l.length=P.cellsOf e)∧∀ l∈L,Typed P e l:=by
 cases h with
 | slc ht' L hn hl h=>rw[ht] at ht';cases ht';exact ⟨L,rfl,hn,hl,h⟩
 | bool ht'=>rw[ht] at ht';cases ht'
 | int ht'=>rw[ht] at ht';cases ht'
 | str ht'=>rw[ht] at ht';cases ht'
 | arr ht'=>rw[ht] at ht';cases ht'
 | struct ht'=>rw[ht] at ht';cases ht'
theorem typed_struct {P:Program} {t:TypeId} {fs:Array Field} {cs:List CV} (ht:P.underlying t=some (.struct fs)) (h:Typed P t cs):∃ L:List (List CV),cs=L.flatten∧L.length=fs.size∧∀ (i:Nat) (f:Field) (l:List CV),fs[i]? = some f→L[i]? = some l→Typed P f.type l:=by
 cases h with
 | struct ht' L hn hl h=>rw[ht] at ht';cases ht';exact ⟨L,rfl,hn,h⟩
 | bool ht'=>rw[ht] at ht';cases ht'
 | int ht'=>rw[ht] at ht';cases ht'
 | str ht'=>rw[ht] at ht';cases ht'
 | slc ht'=>rw[ht] at ht';cases ht'
 | arr ht'=>rw[ht] at ht';cases ht'
theorem Qdi {P:Program} {e:TypeId} {k:IntKind} (he:P.underlying e=some (.int k)):∀ L:List (List CV),(∀ l∈L,Typed P e l)→∃ zs:List Int,L.flatten=zs.map (.int k)∧L.length=zs.length∧∀ z∈zs,(Lit.int k z).wf=true
 | [],_=>⟨[],rfl,rfl,by simp⟩
 | l::L,h=>by
  obtain ⟨n,rfl,hn⟩:=QeV he (h l (by simp))
  obtain ⟨zs,h1,h2,h3⟩:=Qdi he L fun l hl=>h l (by simp[hl])
  exact ⟨n::zs,by simp[h1],by simp[h2],by simpa using ⟨hn,h3⟩⟩
theorem typed_ints {P:Program} {t e:TypeId} {k:IntKind} {cs:List CV} (ht:P.underlying t=some (.slice e)) (he:P.underlying e=some (.int k)) (h:Typed P t cs):∃ zs:List Int,cs=[.rsl (zs.map (.int k)) zs.length]∧zs.length<2 ^ 63∧∀ z∈zs,(Lit.int k z).wf=true:=by
 obtain ⟨L,rfl,hn,_,hl⟩:=QeU ht h
 obtain ⟨zs,h1,h2,h3⟩:=Qdi he L hl
 refine ⟨zs,by rw[h1,h2],?_,h3⟩
 rw[← h2];unfold maxLen at hn;omega
theorem args_cons {P:Program} {t:TypeId} {ts:List TypeId} {avs:List AV} (h:Args P (t::ts) avs):∃ cs avs',avs=avOf P t cs::avs'∧Typed P t cs∧Args P ts avs':=by
 generalize hts:t::ts=u at h
 cases h with
 | nil=>cases hts
 | cons h1 h2=>cases hts;exact ⟨_,_,rfl,h1,h2⟩
theorem args_nil {P:Program} {avs:List AV} (h:Args P [] avs):avs=[]:=by
 generalize hts:([]:List TypeId)=u at h
 cases h with
 | nil=>rfl
 | cons h1 h2=>cases hts
abbrev vs14:List Nat:=[0,1,2,3,4,5,6,7,8,9,10,11,12,13,14,15,27,45,57,158,197]
def ic14l0:IC:=(.seq (.seq (.region [jv 13,jv 7,je 1,jw 20 (.bin .lss .int) [.t 0,.t 2]])
 (.cond 20 .skip
 (.exit 4)))
 (.seq (.block 5 (.region [jv 12,jv 7,jv 13,ja 1 1 2,jl 3,jq (.bin .add .int) [.t 0,.t 4],jm 12 5]))
 (.region [jv 13,jq (.bin .add .int) [.t 0,jn 1],jm 13 1])))
def ic14l1:IC:=(.seq (.seq (.region [jv 9,jv 8,jw 18 (.bin .lss .int) [.t 0,.t 1]])
 (.cond 18 .skip
 (.exit 2)))
 (.seq (.block 3 (.seq (.dr [[],[],[0,1],[2],[3],[],[],[5,6],[7],[8],[4,9],[10],[11],[11],[12,13,11],[14,11],[15,11],[11],[11],[17,18,11],[19,11],[20,11],[16,21,11],[11,22],[23,11],[24],[24],[25,26,24],[27,24],[28,24],[24],[24],[30,31,24],[32,24],[33,24],[29,34,24],[24,35],[36,24,0,1,2,3,4,5,6,7,8,9,10,11,12,13,14,15,16,17,18,19,20,21,22,23,24,25,26,27,28,29,30,31,32,33,34,35,36]] [jv 5,jv 8,ja 7 0 1,jG 0 2,jl 3,jv 5,jv 9,ja 7 5 6,jG 0 7,jl 8,jq (.bin .eql .int) [.t 4,.t 9],jt 10,jh 11 false 5,jh 11 false 8,jg 11 false (.iaS 7) [.t 12,.t 13],jg 11 false (.fadd 1) [.t 14],ji 11 false 15,jh 11 false 5,jh 11 false 9,jg 11 false (.iaS 7) [.t 17,.t 18],jg 11 false (.fadd 1) [.t 19],ji 11 false 20,jg 11 false (.bin .eql .int) [.t 16,.t 21],jq .pick [.t 11,jB true,.t 22],jt 23,jh 24 false 5,jh 24 false 8,jg 24 false (.iaS 7) [.t 25,.t 26],jg 24 false (.fadd 2) [.t 27],ji 24 false 28,jh 24 false 5,jh 24 false 9,jg 24 false (.iaS 7) [.t 30,.t 31],jg 24 false (.fadd 2) [.t 32],ji 24 false 33,jg 24 false (.bin .eql .int) [.t 29,.t 34],jq .pick [.t 24,jB true,.t 35],jm 10 36])
 (.dr [[],[0],[1],[2,1,1],[3],[3],[4,5,3],[6,3],[7,3],[3],[3],[9,10,3],[11,3],[12,3],[8,13,3],[3],[3],[15,16,3],[17,3],[18,3],[3],[3],[20,21,3],[22,3],[23,3],[19,24,3],[14,25,3],[3,26,1],[1,27],[28,3,0,1,2,3,4,5,6,7,8,9,10,11,12,13,14,15,16,17,18,19,20,21,22,23,24,25,26,27,28]] [jv 6,jt 0,jh 1 false 10,jg 1 false .mv [.t 2],jh 3 true 5,jh 3 true 8,jg 3 true (.iaS 7) [.t 4,.t 5],jg 3 true (.fadd 3) [.t 6],ji 3 true 7,jh 3 true 5,jh 3 true 9,jg 3 true (.iaS 7) [.t 9,.t 10],jg 3 true (.fadd 3) [.t 11],ji 3 true 12,jg 3 true .max2 [.t 8,.t 13],jh 3 true 5,jh 3 true 8,jg 3 true (.iaS 7) [.t 15,.t 16],jg 3 true (.fadd 4) [.t 17],ji 3 true 18,jh 3 true 5,jh 3 true 9,jg 3 true (.iaS 7) [.t 20,.t 21],jg 3 true (.fadd 4) [.t 22],ji 3 true 23,jg 3 true .min2 [.t 19,.t 24],jg 3 true (.bin .lss .int) [.t 14,.t 25],jg 1 false .pick [.t 3,.t 26,jB false],jq .pick [.t 1,jB true,.t 27],jm 6 28])))
 (.region [jv 9,jq (.bin .add .int) [.t 0,jn 1],jm 9 1])))
def ic14l2:IC:=(.seq (.seq (.region [jv 8,jv 5,je 1,jw 17 (.bin .lss .int) [.t 0,.t 2]])
 (.cond 17 .skip
 (.exit 0)))
 (.seq (.block 1 (.seq (.region [jv 7,jv 5,jv 8,ja 7 1 2,jG 1 3,jl 4,ja 1 0 5,jq (.store 1) [.t 6,jn 1]])
 (.seq (.seq (.region [jz 9 0])
 (.block 2 (.loop ic14l1)))
 (.seq (.dr [[],[0],[],[],[2,3],[4],[5],[1,6],[7],[],[9,8,0,1,2,3,4,5,6,7,8,9]] [jF 4 1,jl 0,jv 5,jv 8,ja 7 2 3,jG 2 4,jl 5,ja 2 1 6,jq (.loadN 2) [.t 7],jw 11 (.alloc [(.cv (.int .i64 0)),(.cv (.int .i64 0))]) [],jq (.store 2) [.v 11,.t 8]])
 (.dr [[],[0],[1],[2,1],[1],[4,1],[1],[1],[6,7,1],[8,1],[9,1],[5,10,1],[11,1],[12,1],[1],[14,1],[1],[16,1],[3,13,15,17,1,1],[18,1],[1,19],[20,18,0,1,2,3,4,5,6,7,8,9,10,11,12,13,14,15,16,17,18,19,20]] [jv 6,jt 0,jg 1 false (.fadd 0) [.v 1],jg 1 false (.loadN 2) [.t 2],jg 1 false (.fadd 3) [.v 1],ji 1 false 4,jh 1 false 5,jh 1 false 8,jg 1 false (.iaS 7) [.t 6,.t 7],jg 1 false (.fadd 1) [.t 8],ji 1 false 9,jg 1 false (.iaS 3) [.t 5,.t 10],jg 1 false (.fadd 0) [.t 11],ji 1 false 12,jg 1 false (.fadd 0) [.v 11],ji 1 false 14,jg 1 false (.fadd 1) [.v 11],ji 1 false 16,jf 1 false 53 [.t 3,.t 13,.t 15,.t 17],jg 1 false .not [.t 18],jq .pick [.t 1,jB true,.t 19],jm 6 20])))))
 (.region [jv 8,jq (.bin .add .int) [.t 0,jn 1],jm 8 1])))
def ic14:IC:=(.seq (.region [jb 1 0,jw 2 .mv [jB false]])
 (.seq (.region [jN 7 1,jk 35 [.t 0],jt 1,jx 0 2,jx 1 2,jw 3 (.alloc [(.cv (.int .i64 0)),(.cv (.int .i64 0)),(.cv (.int .i64 0))]) [],jq (.store 3) [.v 3,.t 3],jm 4 4])
 (.seq (.seq (.region [jv 4,jq (.bin .neq .int) [.t 0,jn 0],jt 1,jg 2 false (.loadN 7) [.v 1],jf 2 false 52 [.t 3],jg 2 false (.bin .neq .int) [.t 4,jn 0],jw 16 .pick [.t 2,jB true,.t 5]])
 (.cond 16 (.seq (.region [jv 4,jq (.bin .neq .int) [.t 0,jn 0],jt 1,jg 2 true (.loadN 3) [.v 3],jg 2 true (.build [(.cv (.int .i64 0)),(.cv (.int .i64 0)),(.cv (.int .i64 0))] []) [],jg 2 true (.eqS false (true,[(.int .i64),(.int .i64),(.int .i64)])) [.t 3,.t 4],jq .pick [.t 2,.t 5,jB false],jt 6,jf 7 true 22 [],jq .pick [.t 7,.t 8,jB false],jm 2 9])
 .ret)
 .skip))
 (.seq (.region [jF 5 1,jG 1 0,jl 1,jm 5 2])
 (.seq (.region [jw 6 .mv [jB false]])
 (.seq (.region [jq (.mkslice 1 8 [(.cv (.int .i64 0))]) [jn 8,jn 8],jm 7 0])
 (.seq (.seq (.region [jz 8 0])
 (.block 0 (.loop ic14l2)))
 (.seq (.seq (.region [jF 0 3,jl 0,jw 19 (.bin .neq .int) [.t 1,jn 0]])
 (.cond 19 (.seq (.region [jF 0 3,jl 0,jq (.bin .geq .int) [.t 1,jn 1],jt 2,jg 3 true (.fadd 0) [.v 3],ji 3 true 4,jg 3 true (.bin .leq .int) [.t 5,jn 6],jq .pick [.t 3,.t 6,jB false],jt 7,jg 8 true (.fadd 1) [.v 3],ji 8 true 9,jg 8 true (.bin .geq .int) [.t 10,jn 0],jq .pick [.t 8,.t 11,jB false],jt 12,jg 13 true (.fadd 1) [.v 3],ji 13 true 14,jh 13 true 5,jg 13 true (.len false) [.t 16],jg 13 true (.bin .lss .int) [.t 15,.t 17],jq .pick [.t 13,.t 18,jB false],jt 19,jg 20 true (.fadd 2) [.v 3],ji 20 true 21,jg 20 true (.bin .geq .int) [.t 22,jn 0],jq .pick [.t 20,.t 23,jB false],jt 24,jg 25 true (.fadd 2) [.v 3],ji 25 true 26,jh 25 true 5,jg 25 true (.len false) [.t 28],jg 25 true (.bin .lss .int) [.t 27,.t 29],jq .pick [.t 25,.t 30,jB false],jt 31,jf 32 true 22 [],jq .pick [.t 32,.t 33,jB false],jm 2 34])
 .ret)
 .skip))
 (.seq (.region [jz 12 0])
 (.seq (.seq (.region [jz 13 0])
 (.block 4 (.loop ic14l0)))
 (.seq (.region [jF 5 1,jq (.loadN 2) [.t 0],jk 28 [.t 1],jt 2,jx 0 3,jx 1 3,jm 14 4,jm 15 5])
 (.seq (.region [jv 15,jq (.bin .eql .int) [.t 0,jn 0],jt 1,jh 2 true 6,jg 2 true .not [.t 3],jq .pick [.t 2,.t 4,jB false],jt 5,jh 6 true 14,jg 6 true (.len false) [.t 7],jh 6 true 12,jg 6 true (.bin .leq .int) [.t 8,.t 9],jq .pick [.t 6,.t 10,jB false],jt 11,jg 12 true (.loadN 3) [.v 3],jg 12 true (.build [(.cv (.int .i64 0)),(.cv (.int .i64 0)),(.cv (.int .i64 0))] []) [],jg 12 true (.eqS false (true,[(.int .i64),(.int .i64),(.int .i64)])) [.t 13,.t 14],jq .pick [.t 12,.t 15,jB false],jt 16,jf 17 true 22 [],jq .pick [.t 17,.t 18,jB false],jm 2 19])
 .ret))))))))))))
abbrev rs14:List RC:=[(.v 2)]
theorem fok14 (p:Bool):FnOk Tryz.prog 14 ⟨ic14,vs14,232,rs14,p⟩:=.mk2 Tryz.func14 (by kernel_rfl) (by kernel_rfl) (by kernel_rfl) (by kernel_rfl) (by kernel_rfl)
end Go.Proofs.YtgkidpolomhghaaGreatDoor.AM
namespace Go.Proofs.YtgkidpolomhghaaGreatDoor.AM
open Go Pl
theorem typed_list {α:Type} {f:α→List CV} {p:α→Prop} {t:TypeId} (h:∀ cs,Typed Tryz.prog t cs→∃ x,cs=f x∧p x):∀ L:List (List CV),(∀ l∈L,Typed Tryz.prog t l)→∃ xs:List α,L.flatten=xs.flatMap f∧L.length=xs.length∧∀ x∈xs,p x
 | [],_=>⟨[],rfl,rfl,by simp⟩
 | l::L,hl=>by
  obtain ⟨x,h1,h2⟩:=h l (hl l (by simp))
  obtain ⟨xs,g1,g2,g3⟩:=typed_list h L fun l hh=>hl l (by simp[hh])
  exact ⟨x::xs,by simp[h1,g1],by simp[g2],by simpa using ⟨h2,g3⟩⟩
theorem get_of {α:Type} [Inhabited α] {p:α→Prop} {l:List α} (h:∀ x∈l,p x) (i:Nat) (hi:i<l.length):p l[i]! := by
 rw[getElem!_pos l i hi]
 exact h _ (Q2 hi)
theorem typed_i {cs:List CV} (h:Typed Tryz.prog 3 cs):∃ x:Int,cs=[.int .i64 x]:=by
 obtain ⟨n,rfl,_⟩:=QeV Tryz.underlying3 h
 exact ⟨n,rfl⟩
theorem typed_row {cs:List CV} (h:Typed Tryz.prog 23 cs):∃ zs:List Int,cs=[rowC zs]∧zs.length<2 ^ 63:=by
 obtain ⟨zs,h1,h2,_⟩:=typed_ints Tryz.underlying23 Tryz.underlying3 h
 exact ⟨zs,h1,h2⟩
theorem typed_les {cs:List CV} (h:Typed Tryz.prog 94 cs):∃ l:Les,cs=lesC l∧True:=by
 obtain ⟨L,rfl,hn,hf⟩:=typed_struct Tryz.underlying94 h
 match L,hn with
 | [a,b,c,d,e,f,g],_ =>
  obtain ⟨n1,rfl⟩:=typed_i (hf 0 _ a rfl rfl)
  obtain ⟨n2,rfl⟩:=typed_i (hf 1 _ b rfl rfl)
  obtain ⟨n3,rfl⟩:=typed_i (hf 2 _ c rfl rfl)
  obtain ⟨n4,rfl⟩:=typed_i (hf 3 _ d rfl rfl)
  obtain ⟨n5,rfl⟩:=typed_i (hf 4 _ e rfl rfl)
  obtain ⟨n6,rfl⟩:=typed_i (hf 5 _ f rfl rfl)
  obtain ⟨n7,rfl⟩:=typed_i (hf 6 _ g rfl rfl)
  exact ⟨⟨n1,n2,n3,n4,n5,n6,n7⟩,rfl,trivial⟩
theorem typed_dyc {cs:List CV} (h:Typed Tryz.prog 37 cs):∃ d:Dy,cs=[minR d.mi,lesR d.ls]∧DSz d:=by
 obtain ⟨L,rfl,hn,hf⟩:=typed_struct Tryz.underlying37 h
 match L,hn with
 | [a,b],_ =>
  obtain ⟨L1,rfl,n1,_,h1⟩:=QeU Tryz.underlying34 (hf 0 _ a rfl rfl)
  obtain ⟨L2,rfl,n2,_,h2⟩:=QeU Tryz.underlying35 (hf 1 _ b rfl rfl)
  obtain ⟨m,a1,a2,a3⟩:=typed_list (f:=fun zs:List Int=>[rowC zs]) (p:=fun zs=>zs.length<2 ^ 63) (fun cs h=>typed_row h) L1 h1
  obtain ⟨ls,b1,b2,_⟩:=typed_list (fun cs h=>typed_les h) L2 h2
  have hm:maxLen<2 ^ 63:=by decide
  refine ⟨⟨m,ls⟩,?_,⟨by show m.length<_;omega,by show ls.length<_;omega,get_of a3⟩⟩
  simp only[minR,lesR,F0,a1,b1,a2,b2,List.map_eq_flatMap,List.flatten_cons,List.flatten_nil,ZU,List.cons_append,List.nil_append]
theorem typed_cls {cs:List CV} (h:Typed Tryz.prog 217 cs):∃ c:Cls,cs=clsC c∧c.nm.size<2 ^ 63∧c.inc.length<2 ^ 63:=by
 obtain ⟨L,rfl,hn,hf⟩:=typed_struct Tryz.underlying217 h
 match L,hn with
 | [a,b,c,d,e],_ =>
  obtain ⟨s,rfl,h1⟩:=typed_str Tryz.underlying9 (hf 0 _ a rfl rfl)
  obtain ⟨zs,rfl,hz⟩:=typed_row (hf 1 _ b rfl rfl)
  obtain ⟨n1,rfl⟩:=typed_i (hf 2 _ c rfl rfl)
  obtain ⟨n2,rfl⟩:=typed_i (hf 3 _ d rfl rfl)
  obtain ⟨n3,rfl⟩:=typed_i (hf 4 _ e rfl rfl)
  have hm:maxLen<2 ^ 63:=by decide
  exact ⟨⟨s,zs,n1,n2,n3⟩,rfl,by show s.size<_;omega,hz⟩
theorem typed_sysc {cs:List CV} (h:Typed Tryz.prog 52 cs):∃ s:Sys,cs=[clsR s.cl,strR s.co]∧SSz s:=by
 obtain ⟨L,rfl,hn,hf⟩:=typed_struct Tryz.underlying52 h
 match L,hn with
 | [a,b],_ =>
  obtain ⟨L1,rfl,n1,_,h1⟩:=QeU Tryz.underlying49 (hf 0 _ a rfl rfl)
  obtain ⟨L2,rfl,n2,_,h2⟩:=QeU Tryz.underlying50 (hf 1 _ b rfl rfl)
  obtain ⟨cs,a1,a2,a3⟩:=typed_list (fun cs h=>typed_cls h) L1 h1
  obtain ⟨co,b1,b2,b3⟩:=typed_list (f:=fun x:ByteArray=>[CV.str x]) (p:=fun x=>x.size<2 ^ 63) (fun cs h=>by
   obtain ⟨x,rfl,hx⟩:=typed_str Tryz.underlying9 h
   have hm:maxLen<2 ^ 63:=by decide
   exact ⟨x,rfl,by omega⟩) L2 h2
  have hm:maxLen<2 ^ 63:=by decide
  refine ⟨⟨cs,co⟩,?_,⟨by show cs.length<_;omega,by show co.length<_;omega,fun i hi=>(get_of a3 i hi).1,fun i hi=>(get_of a3 i hi).2,fun i hi=>?_⟩⟩
  ·simp only[clsR,strR,DZ,a1,b1,a2,b2,List.map_eq_flatMap,List.flatten_cons,List.flatten_nil,ZU,List.cons_append,List.nil_append]
  ·have hi:i<co.length:=hi
   show (co[i]!).size<_
   rw[getElem!_pos co i hi]
   exact b3 _ (Q2 hi)
theorem typed_rg {cs:List CV} (h:Typed Tryz.prog 176 cs):∃ r:Rt,cs=rgC r∧True:=by
 obtain ⟨L,rfl,hn,hf⟩:=typed_struct Tryz.underlying176 h
 match L,hn with
 | [a,b],_ =>
  obtain ⟨n1,rfl⟩:=typed_i (hf 0 _ a rfl rfl)
  obtain ⟨n2,rfl⟩:=typed_i (hf 1 _ b rfl rfl)
  exact ⟨(n1,n2),rfl,trivial⟩
theorem typed_tch {cs:List CV} (h:Typed Tryz.prog 102 cs):∃ t:Tch,cs=tchC t∧t.rg.length<2 ^ 63:=by
 obtain ⟨L,rfl,hn,hf⟩:=typed_struct Tryz.underlying102 h
 match L,hn with
 | [a,b,c],_ =>
  obtain ⟨L1,rfl,n1,_,h1⟩:=QeU Tryz.underlying100 (hf 0 _ a rfl rfl)
  obtain ⟨l,a1,a2,_⟩:=typed_list (fun cs h=>typed_rg h) L1 h1
  obtain ⟨n1,rfl⟩:=typed_i (hf 1 _ b rfl rfl)
  obtain ⟨n2,rfl⟩:=typed_i (hf 2 _ c rfl rfl)
  have hm:maxLen<2 ^ 63:=by decide
  refine ⟨⟨l,n1,n2⟩,?_,by show l.length<_;omega⟩
  rw[a1,a2];rfl
theorem typed_car {cs:List CV} (h:Typed Tryz.prog 98 cs):∃ c:Car,cs=carC c∧True:=by
 obtain ⟨L,rfl,hn,hf⟩:=typed_struct Tryz.underlying98 h
 match L,hn with
 | [a,b],_ =>
  obtain ⟨n1,rfl⟩:=typed_i (hf 0 _ a rfl rfl)
  obtain ⟨n2,rfl⟩:=typed_i (hf 1 _ b rfl rfl)
  exact ⟨⟨n1,n2⟩,rfl,trivial⟩
theorem typed_pln {cs:List CV} (h:Typed Tryz.prog 56 cs):∃ p:Pln,avOf Tryz.prog 56 cs=plnV p∧PSz p:=by
 obtain ⟨L,rfl,hn,hf⟩:=typed_struct Tryz.underlying56 h
 match L,hn with
 | [a,b,c,d,e],_ =>
  obtain ⟨s,rfl,hs⟩:=typed_sysc (hf 0 _ a rfl rfl)
  obtain ⟨le,rfl,hle⟩:=typed_row (hf 1 _ b rfl rfl)
  obtain ⟨L1,rfl,n1,_,h1⟩:=QeU Tryz.underlying53 (hf 2 _ c rfl rfl)
  obtain ⟨L2,rfl,n2,_,h2⟩:=QeU Tryz.underlying54 (hf 3 _ d rfl rfl)
  obtain ⟨y,rfl,hy⟩:=typed_dyc (hf 4 _ e rfl rfl)
  obtain ⟨te,a1,a2,a3⟩:=typed_list (fun cs h=>typed_tch h) L1 h1
  obtain ⟨ca,b1,b2,_⟩:=typed_list (fun cs h=>typed_car h) L2 h2
  have hm:maxLen<2 ^ 63:=by decide
  refine ⟨⟨s,le,te,ca,y⟩,?_,⟨hs,hle,by show te.length<_;omega,by show ca.length<_;omega,get_of a3,hy⟩⟩
  simp only[avOf,Tryz.underlying56,a1,b1,a2,b2]
  rfl
end Go.Proofs.YtgkidpolomhghaaGreatDoor.AM
namespace Go.Proofs.YtgkidpolomhghaaGreatDoor.AM
variable [Dr]
open Go Pl
theorem outF_alR {lo hi:Int} {zs:List Int} (h:∀ j,j<zs.length→inB (gI zs j) lo hi=true):outF lo hi zs=false:=by
 rw[VL]
 intro z hz
 obtain ⟨j,hj,rfl⟩:=WN.1 hz
 have:=VB.1 (h j hj)
 unfold gI at this
 rwa [QI hj] at this
theorem outF_exR {lo hi:Int} {zs:List Int} {j:Nat} (hj:j<zs.length) (h:inB (gI zs j) lo hi=false):outF lo hi zs=true:=by
 cases hh:outF lo hi zs with
 | true=>rfl
 | false =>
  rw[VB.2 (VL.1 hh _ (Qcs hj))] at h
  cases h
theorem outF_sgR {lo hi z:Int}:outF lo hi [z] = !inB z lo hi:=by
 cases h:inB z lo hi with
 | true =>
  refine outF_alR (zs:=[z]) fun j hj=>?_
  have:j=0:=by simpa using hj
  subst this;exact h
 | false=>exact outF_exR (zs:=[z]) (j:=0) (by simp) h
theorem outF_coR {lo hi z:Int} {zs:List Int}:outF lo hi (z::zs)=(!inB z lo hi||outF lo hi zs):=by
 rw[← outF_sgR]
 unfold outF
 simp
theorem le70 (d:Dy) (hd:DSz d) (i:Nat) (hi:i<d.mi.length):PC Tryz.prog 70 [dyV d,.i i] (.i (rowE d i)):=by
 refine ⟨ZF (fok70 true) (QC rfl) ?_,rfl⟩
 have hrow:=hd.row i hi
 unfold rowE
 simp only[ic70,WI,cellsOf,XP hi,W3,B7 hi,evA,simprocAttr]
 generalize d.mi[i]! = l at *
 by_cases h1:l.length=d.mi.length
 ·have hb:((l.length:Int) != d.mi.length)=false:=by rw[h1];simp
  rw[if_neg (fun h=>h h1)]
  simp only[hb,evA,simprocAttr]
  refine ZW l.length (fun k s=>(∀ j,j<k→inB (gI l j) 0 120=true)∧∃ v7 v8,s=⟨[dyV d,.i i,.ptr 0 0,.i 0,ints l,.i k,.b false,v7,v8,.undef],[.cells [.cv (minR d.mi),.cv (lesR d.ls)]]⟩) ?_ 0 (QF _) ⟨by omega,_,_,rfl⟩
  rintro k s hk ⟨hall,v7,v8,rfl⟩
  by_cases h:k<l.length
  ·simp only[ic70l0,QJ,h,J5 h,J4 h,evA,simprocAttr]
   refine (le64 _ 0 120).call frz ?_
   cases hin:inB (gI l k) 0 120 with
   | true =>
    have hin2:inB (l[k]?.getD 0) 0 120=true:=hin
    simp only[hin2,Q6 (show k+1<2 ^ 63 by omega),evA,simprocAttr]
    refine ZL (by first | trivial | omega) ⟨fun j hj=>?_,_,_,rfl⟩
    rcases QQ.1 hj with hj | rfl
    ·exact hall j hj
    ·exact hin
   | false =>
    have hin2:inB (l[k]?.getD 0) 0 120=false:=hin
    rw[outF_exR h hin]
    simp only[hin2,evA,simprocAttr]
    exact frz
  ·have hke:k=l.length:=by omega
   subst hke
   rw[outF_alR hall]
   have hil:i<l.length:=by omega
   simp only[ic70l0,QJ,h,J5 hil,J4 hil,evA,simprocAttr]
   by_cases h2:gI l i=0
   ·have hb2:(l[i]?.getD 0 != 0)=false:=by simpa using h2
    simp only[hb2,h2,ne_eq,not_true,evA,simprocAttr]
    exact frz
   ·have hb2:(l[i]?.getD 0 != 0)=true:=by simpa using h2
    simp only[hb2,h2,ne_eq,not_false_eq_true,evA,simprocAttr]
    exact frz
 ·have hb:((l.length:Int) != d.mi.length)=true:=by simp;omega
  rw[if_pos h1]
  simp only[hb,evA,simprocAttr]
  exact frz
theorem le71 (d:Dy) (hd:DSz d) (l:Les):PC Tryz.prog 71 [dyV d,lesA l] (.i (lesE d l)):=by
 refine ⟨ZF (fok71 true) (QC rfl) ?_,rfl⟩
 have h63:=hd.mi
 unfold lesE
 have hw:IntKind.i64.wrap ((d.mi.length:Int)-1)=(d.mi.length:Int)-1:=ZC (by omega)
 obtain ⟨le,te,ca,b,e,f,o⟩:=l
 have e1:outF 0 1440 [b,e]=(!inB b 0 1440 || !inB e 0 1440):=by rw[outF_coR,outF_sgR]
 have e2:outF 0 ((d.mi.length:Int)-1) [f,o]=(!inB f 0 ((d.mi.length:Int)-1) || !inB o 0 ((d.mi.length:Int)-1)):=by rw[outF_coR,outF_sgR]
 simp only
 rw[e1,e2]
 clear e1 e2
 simp only[ic71,WI,cellsOf,evA,simprocAttr]
 refine (le64 b 0 1440).call frz ?_
 cases h1:inB b 0 1440 with
 | false =>
  simp only[h1,US,evA,simprocAttr]
  exact frz
 | true =>
 simp only[h1,Y3,evA,simprocAttr]
 refine (le64 e 0 1440).call frz ?_
 cases h2:inB e 0 1440 with
 | false =>
  simp only[h2,US,evA,simprocAttr]
  exact frz
 | true =>
 simp only[h2,Y3,evA,simprocAttr]
 rw[show [AV.i le,.i te,.i ca]=[le,te,ca].map AV.i from rfl]
 generalize hzs:[le,te,ca]=zs
 have hz3:zs.length=3:=by rw[← hzs];rfl
 refine ZW 3 (fun k s=>(∀ j,j<k→inB (gI zs j) 0 7=true)∧∃ v8 v9,s=⟨[dyV d,lesA ⟨le,te,ca,b,e,f,o⟩,.ptr 0 0,.ptr 1 0,.i 0,.sl 2 0 3 1,.i k,.b false,v8,v9,.undef,.undef],[.cells [.cv (minR d.mi),.cv (lesR d.ls)],.cells [.i le,.i te,.i ca,.i b,.i e,.i f,.i o],.cells (zs.map AV.i)]⟩) ?_ 0 (QF _) ⟨by omega,_,_,rfl⟩
 rintro k s hk ⟨hall,v8,v9,rfl⟩
 by_cases h:k<3
 ·have hkz:k<zs.length:=by omega
  have hd3:decide ((k:Int)<3)=true:=decide_eq_true (by omega)
  simp only[ic71l0,hd3,W9 h,ZV,V1 hkz,evA,simprocAttr]
  refine (le64 _ 0 7).call frz ?_
  cases hin:inB (gI zs k) 0 7 with
  | true =>
   have hin2:inB (zs[k]?.getD 0) 0 7=true:=hin
   simp only[hin2,Q6 (show k+1<2 ^ 63 by omega),evA,simprocAttr]
   refine ZL (by first | trivial | omega) ⟨fun j hj=>?_,_,_,rfl⟩
   rcases QQ.1 hj with hj | rfl
   ·exact hall j hj
   ·exact hin
  | false =>
   have hin2:inB (zs[k]?.getD 0) 0 7=false:=hin
   rw[outF_exR hkz hin]
   simp only[hin2,evA,simprocAttr]
   exact frz
 ·have hke:k=3:=by omega
  subst hke
  rw[outF_alR (by rw[hz3];exact hall)]
  simp only[ic71l0,evA,simprocAttr]
  by_cases h3:b≥e
  ·simp only[h3,evA,simprocAttr]
   exact frz
  ·simp only[h3,hw,evA,simprocAttr]
   refine (le64 f 0 _).call frz ?_
   cases h4:inB f 0 ((d.mi.length:Int)-1) with
   | false =>
    simp only[h4,US,evA,simprocAttr]
    exact frz
   | true =>
    simp only[h4,hw,Y3,evA,simprocAttr]
    refine (le64 o 0 _).call frz ?_
    cases h5:inB o 0 ((d.mi.length:Int)-1) with
    | false =>
     simp only[h5,evA,simprocAttr]
     exact frz
    | true =>
     simp only[h5,evA,simprocAttr]
     exact frz
theorem le24 (d:Dy) (hd:DSz d):PC Tryz.prog 24 [dyV d] (chkA d):=by
 refine ⟨ZF (fok24 true) (QC rfl) ?_,rfl⟩
 simp only[ic24,WI,cellsOf,evA,simprocAttr]
 refine (le64 (d.mi.length:Int) 1 16).call frz ?_
 unfold chkA dyE
 rw[outF_sgR]
 cases h1:inB (d.mi.length:Int) 1 16 with
 | false =>
  simp only[h1,US,evA,simprocAttr]
  exact frz
 | true =>
 cases h2:decide ((d.ls.length:Int)>12) with
 | true =>
  simp only[h1,Y3,h2,evA,simprocAttr]
  exact frz
 | false =>
 simp only[h1,Y3,h2,evA,simprocAttr]
 have hm63:=hd.mi
 have hl63:=hd.ls
 refine ZW d.mi.length (fun k s=>(∀ j,j<k→rowE d j=0)∧∃ v6 v10 v11,s=⟨[dyV d,.ptr 0 0,.i 0,.i 0,.i 0,.i k,v6,.undef,.undef,.b false,v10,v11,.undef,.undef],[.cells [.cv (minR d.mi),.cv (lesR d.ls)]]⟩) ?_ 0 (QF _) ⟨by omega,_,_,_,rfl⟩
 rintro k s hk ⟨hall,v6,v10,v11,rfl⟩
 by_cases h:k<d.mi.length
 ·simp only[ic24l1,QJ,h,evA,simprocAttr]
  refine (le70 d hd k h).call frz ?_
  by_cases h0:rowE d k=0
  ·have hb:(rowE d k != 0)=false:=by simpa using h0
   simp only[hb,Q6 (show k+1<2 ^ 63 by omega),evA,simprocAttr]
   refine ZL (by first | trivial | omega) ⟨fun j hj=>?_,_,_,_,rfl⟩
   rcases QQ.1 hj with hj | rfl
   ·exact hall j hj
   ·exact h0
  ·have hb:(rowE d k != 0)=true:=by simpa using h0
   rw[VO d.mi.length 0 k (QF _) (by omega) (fun j _ hj=>hall j hj) h0]
   simp only[hb,h0,ne_eq,not_false_eq_true,evA,simprocAttr]
   exact frz
 ·have hke:k=d.mi.length:=by omega
  subst hke
  rw[J7 d.mi.length 0 fun j _ hj=>hall j (by omega)]
  simp only[ic24l1,QJ,h,ne_eq,not_true,evA,simprocAttr]
  refine ZW d.ls.length (fun k s=>(∀ j,j<k→lesE d d.ls[j]! = 0)∧∃ v8 v12 v13,s=⟨[dyV d,.ptr 0 0,.i 0,.i 0,.i 0,.i d.mi.length,v6,.i k,v8,.b false,.b false,v11,v12,v13],[.cells [.cv (minR d.mi),.cv (lesR d.ls)]]⟩) ?_ 0 (QF _) ⟨by omega,_,_,_,rfl⟩
  clear h hk hall
  rintro k s hk ⟨hall,v8,v12,v13,rfl⟩
  by_cases h:k<d.ls.length
  ·simp only[ic24l0,QJ,h,evA,simprocAttr]
   refine DW_s [6] [] hmix (by kernel_rfl) rfl ?_
   simp only[F5 h,Qcl h,evA,simprocAttr]
   refine YE ((le71 d hd d.ls[k]!).call frz ⟨rfl,rfl⟩) rfl ?_
   simp only[evA,simprocAttr]
   by_cases h0:lesE d d.ls[k]! = 0
   ·have hb:(lesE d d.ls[k]! != 0)=false:=by simpa using h0
    simp only[hb,Q6 (show k+1<2 ^ 63 by omega),evA,simprocAttr]
    refine ZL (by first | trivial | omega) ⟨fun j hj=>?_,_,_,_,rfl⟩
    rcases QQ.1 hj with hj | rfl
    ·exact hall j hj
    ·exact h0
   ·have hb:(lesE d d.ls[k]! != 0)=true:=by simpa using h0
    rw[VO d.ls.length 0 k (QF _) (by omega) (fun j _ hj=>hall j hj) h0]
    simp only[hb,h0,ne_eq,not_false_eq_true,evA,simprocAttr]
    exact frz
  ·have hke:k=d.ls.length:=by omega
   subst hke
   rw[J7 d.ls.length 0 fun j _ hj=>hall j (by omega)]
   simp only[ic24l0,QJ,h,ne_eq,not_true,evA,simprocAttr]
   exact frz
def pplE (p:Pln):Int :=
 if (decide ((p.le.length:Int)>8)||decide ((p.te.length:Int)>8)||decide ((p.ca.length:Int)>8))=true then 3
 else if outF 0 ((p.sys.cl.length:Int)-1) p.le=true then 4
 else if (fndE (fun i=>tchE p.sys p.te[i]!) 0 p.te.length).2≠0 then (fndE (fun i=>tchE p.sys p.te[i]!) 0 p.te.length).2
 else (fndE (fun i=>carE p.sys p.ca[i]!) 0 p.ca.length).2
theorem plnE_eq (p:Pln):plnE p=if (sysE p.sys).2.2≠0 then (sysE p.sys).2.2 else if (dyE p.day).2.2≠0 then (dyE p.day).2.2 else if pplE p≠0 then pplE p else if (p.day.ls.any (whoB p))=true then 4 else 0:=by
 unfold plnE pplE
 split
 ·rfl
 split
 ·rfl
 split
 ·rw[if_pos (by decide)]
 split
 ·rw[if_pos (by decide)]
 split
 ·rename_i h;first | rfl | rw[if_pos h]
 split
 ·rfl
 ·rfl
theorem tchE_ok {s:Sys} (h0:(sysE s).2.2=0) (t:Tch):tchE s t=if rgsE s t.rg≠0 then rgsE s t.rg else if inB t.b 0 1440=false∨inB t.e 0 1440=false then 7 else if t.b>t.e then 2 else 0:=by
 have h1:lstE s t.rg=rgsE s t.rg:=by unfold lstE;rw[h0];rfl
 unfold tchE
 rw[h1,outF_coR,outF_sgR]
 cases inB t.b 0 1440 <;> cases inB t.e 0 1440 <;> simp
theorem carE_ok {s:Sys} (h0:(sysE s).2.2=0) (c:Car):carE s c=if inB c.cl 0 ((s.cl.length:Int)-1)=false then 4 else if inB c.ft 0 (setN s-1)=false then 7 else 0:=by
 have h1:lstE s []=0:=by unfold lstE;rw[h0];rfl
 unfold carE mayE
 rw[h1,if_neg (fun h=>h rfl)]
theorem le108 (p:Pln) (hp:PSz p) (h0:(sysE p.sys).2.2=0):PC Tryz.prog 108 [plnV p] (.i (pplE p)):=by
 obtain ⟨⟨hn1,hn12⟩,hm8,hok⟩:=QaV h0
 refine ⟨ZF (fok108 true) (QC rfl) ?_,rfl⟩
 have hw:IntKind.i64.wrap ((p.sys.cl.length:Int)-1)=(p.sys.cl.length:Int)-1:=ZC (by omega)
 have hpw:=HF hm8
 have hw2:IntKind.i64.wrap ((2:Int) ^ p.sys.co.length-1)=(2:Int) ^ p.sys.co.length-1:=ZC (by omega)
 simp only[ic108,WI,cellsOf,evA,simprocAttr]
 unfold pplE
 cases h1:decide ((p.le.length:Int)>8) with
 | true =>
  simp only[h1,US,evA,simprocAttr]
  exact frz
 | false =>
 cases h2:decide ((p.te.length:Int)>8) with
 | true =>
  simp only[h1,h2,US,Y3,evA,simprocAttr]
  exact frz
 | false =>
 cases h3:decide ((p.ca.length:Int)>8) with
 | true =>
  simp only[h1,h2,h3,US,Y3,evA,simprocAttr]
  exact frz
 | false =>
 have l1:=of_decide_eq_false h1
 have l2:=of_decide_eq_false h2
 have l3:=of_decide_eq_false h3
 simp only[h1,h2,h3,Y3,hw,evA,simprocAttr]
 refine ZW p.le.length (fun k s=>(∀ j,j<k→inB (gI p.le j) 0 ((p.sys.cl.length:Int)-1)=true)∧∃ v10 v11,s=⟨[plnV p,.ptr 0 0,.i 0,.i ((p.sys.cl.length:Int)-1),.i k,.undef,.undef,.undef,.undef,.b false,v10,v11,.undef,.undef,.undef,.undef,.undef,.undef,.undef],[.cells (plnC p)]⟩) ?_ 0 (QF _) ⟨by omega,_,_,rfl⟩
 rintro k s hk ⟨hall,v10,v11,rfl⟩
 by_cases h:k<p.le.length
 ·simp only[ic108l2,QJ,h,J5 h,J4 h,evA,simprocAttr]
  refine (le64 _ 0 _).call frz ?_
  cases hin:inB (gI p.le k) 0 ((p.sys.cl.length:Int)-1) with
  | true =>
   have hin2:inB (p.le[k]?.getD 0) 0 ((p.sys.cl.length:Int)-1)=true:=hin
   simp only[hin2,Q6 (show k+1<2 ^ 63 by omega),evA,simprocAttr]
   refine ZL (by first | trivial | omega) ⟨fun j hj=>?_,_,_,rfl⟩
   rcases QQ.1 hj with hj | rfl
   ·exact hall j hj
   ·exact hin
  | false =>
   have hin2:inB (p.le[k]?.getD 0) 0 ((p.sys.cl.length:Int)-1)=false:=hin
   rw[outF_exR h hin]
   simp only[hin2,evA,simprocAttr]
   exact frz
 have hke:k=p.le.length:=by omega
 subst hke
 rw[outF_alR hall]
 simp only[ic108l2,QJ,h,evA,simprocAttr]
 clear h hk hall
 have hob:∀ o∈[AObj.cells (plnC p)],Z3 1 o=true:=by
  intro o ho
  simp only[ZD,WK,or_false] at ho
  subst ho;rfl
 refine ZW p.te.length (fun k s=>(∀ j,j<k→tchE p.sys p.te[j]! = 0)∧∃ v6 v7 v11 v12 v13 v14 v15,s=⟨[plnV p,.ptr 0 0,.i 0,.i ((p.sys.cl.length:Int)-1),.i p.le.length,.i k,v6,v7,.undef,.b false,.b false,v11,v12,v13,v14,v15,.undef,.undef,.undef],[.cells (plnC p)]⟩) ?_ 0 (QF _) ⟨by omega,_,_,_,_,_,_,_,rfl⟩
 clear v11
 rintro k s hk ⟨hall,v6,v7,v11,v12,v13,v14,v15,rfl⟩
 by_cases h:k<p.te.length
 ·have hld:=tch_ld h
  have hrg:=hp.rg k h
  have hE:=tchE_ok h0 p.te[k]!
  have hfs:=fun h3=>VO (g:=fun i=>tchE p.sys p.te[i]!) p.te.length 0 k (QF _) (by omega) (fun j _ hj=>hall j hj) h3
  have hnext:tchE p.sys p.te[k]! = 0→∀ j,j<k+1→tchE p.sys p.te[j]! = 0:=fun h3 j hj=>by
   rcases QQ.1 hj with hj | rfl
   ·exact hall j hj
   ·exact h3
  generalize p.te[k]! = t at *
  obtain ⟨rg,b,e⟩:=t
  simp only at hld hrg hE
  have ia:∀ σ,VP 3 [.cv (tchR p.te),.cv (.int .i64 k)] σ=some (.cv (.rp (SV p.te) (k*3)),σ):=fun σ=>XP h σ
  simp only[ic108l1,QJ,h,ia,hld,evA,simprocAttr]
  refine (c48 p.sys hp.sys hm8 rg hrg).call frz ?_
  by_cases he:rgsE p.sys rg=0
  ·have hb:(rgsE p.sys rg != 0)=false:=by simpa using he
   rw[if_neg (fun h=>h he)] at hE
   simp only[hb,evA,simprocAttr]
   refine (le64 b 0 1440).call frz ?_
   cases h4:inB b 0 1440 with
   | false =>
    rw[if_pos (.inl h4)] at hE
    rw[hfs (by rw[hE];decide),hE]
    simp only[h4,ne_eq,evA,simprocAttr]
    exact frz
   | true =>
   simp only[h4,evA,simprocAttr]
   refine (le64 e 0 1440).call frz ?_
   cases h5:inB e 0 1440 with
   | false =>
    rw[if_pos (.inr h5)] at hE
    rw[hfs (by rw[hE];decide),hE]
    simp only[h5,ne_eq,evA,simprocAttr]
    exact frz
   | true =>
   rw[if_neg (by rw[h4,h5];simp)] at hE
   by_cases h6:b>e
   ·rw[if_pos h6] at hE
    rw[hfs (by rw[hE];decide),hE]
    simp only[h5,h6,ne_eq,evA,simprocAttr]
    exact frz
   ·rw[if_neg h6] at hE
    simp only[h5,h6,Q6 (show k+1<2 ^ 63 by omega),evA,simprocAttr]
    exact W1 [.cells (plnC p)] _ rfl (by first | trivial | omega) (QF _) hob ⟨hnext hE,_,_,_,_,_,_,_,rfl⟩
  ·have hb:(rgsE p.sys rg != 0)=true:=by simpa using he
   rw[if_pos he] at hE
   rw[hfs (by rw[hE];exact he),hE]
   simp only[hb,he,ne_eq,not_false_eq_true,evA,simprocAttr]
   exact frz
 have hke:k=p.te.length:=by omega
 subst hke
 rw[J7 p.te.length 0 fun j _ hj=>hall j (by omega)]
 simp only[ic108l1,QJ,h,ne_eq,not_true,evA,simprocAttr]
 clear h hk hall
 refine ZW p.ca.length (fun k s=>(∀ j,j<k→carE p.sys p.ca[j]! = 0)∧∃ v16 v17 v18,s=⟨[plnV p,.ptr 0 0,.i 0,.i ((p.sys.cl.length:Int)-1),.i p.le.length,.i p.te.length,v6,v7,.i k,.b false,.b false,v11,.b false,v13,v14,v15,v16,v17,v18],[.cells (plnC p)]⟩) ?_ 0 (QF _) ⟨by omega,_,_,_,rfl⟩
 rintro k s hk ⟨hall,v16,v17,v18,rfl⟩
 by_cases h:k<p.ca.length
 ·have hE:=carE_ok h0 p.ca[k]!
  have hfs:=fun h3=>VO (g:=fun i=>carE p.sys p.ca[i]!) p.ca.length 0 k (QF _) (by omega) (fun j _ hj=>hall j hj) h3
  have hnext:carE p.sys p.ca[k]! = 0→∀ j,j<k+1→carE p.sys p.ca[j]! = 0:=fun h3 j hj=>by
   rcases QQ.1 hj with hj | rfl
   ·exact hall j hj
   ·exact h3
  have ia:∀ σ,VP 2 [.cv (carR p.ca),.cv (.int .i64 k)] σ=some (.cv (.rp (QaH p.ca) (k*2)),σ):=fun σ=>XP h σ
  have ld0:(QaH p.ca)[k*2]? = some (.int .i64 (p.ca[k]!).cl):=flat_get CX h (j:=0) (by omega)
  have ld1:(QaH p.ca)[k*2+1]? = some (.int .i64 (p.ca[k]!).ft):=flat_get CX h (j:=1) (by omega)
  generalize p.ca[k]! = c at *
  obtain ⟨cl,ft⟩:=c
  simp only at ld0 ld1 hE
  simp only[ic108l0,QJ,h,ia,ld0,evA,simprocAttr]
  refine (le64 cl 0 _).call frz ?_
  cases h4:inB cl 0 ((p.sys.cl.length:Int)-1) with
  | false =>
   rw[if_pos h4] at hE
   rw[hfs (by rw[hE];decide),hE]
   simp only[h4,evA,simprocAttr]
   exact frz
  | true =>
  rw[if_neg (by rw[h4];decide)] at hE
  simp only[h4,evA,simprocAttr]
  refine DW_s [10,12] [] hmix (by kernel_rfl) rfl ?_
  simp only[ia,ld1,evA,simprocAttr]
  refine YE ((c49 p.sys.co.length hm8).call frz ⟨rfl,rfl⟩) rfl ?_
  simp only[hw2,evA,simprocAttr]
  refine YE ((le64 ft 0 _).call frz ⟨rfl,rfl⟩) rfl ?_
  unfold setN at hE
  cases h5:inB ft 0 ((2:Int) ^ p.sys.co.length-1) with
  | false =>
   rw[if_pos h5] at hE
   rw[hfs (by rw[hE];decide),hE]
   simp only[h5,evA,simprocAttr]
   exact frz
  | true =>
   rw[if_neg (by rw[h5];decide)] at hE
   simp only[h5,Q6 (show k+1<2 ^ 63 by omega),evA,simprocAttr]
   exact ZL (by first | trivial | omega) ⟨hnext hE,_,_,_,rfl⟩
 ·have hke:k=p.ca.length:=by omega
  subst hke
  rw[J7 p.ca.length 0 fun j _ hj=>hall j (by omega)]
  simp only[ic108l0,QJ,h,ne_eq,not_true,evA,simprocAttr]
  exact frz
theorem le52 (p:Pln) (hp:PSz p):PC Tryz.prog 52 [plnV p] (.i (plnE p)):=by
 have h107:=c54 p.sys hp.sys
 have h24:=le24 p.day hp.day
 have h108:=le108 p hp
 rw[plnE_eq]
 refine ⟨ZF (fok52 true) (QC rfl) ?_,rfl⟩
 simp only[ic52,WI,cellsOf,evA,simprocAttr]
 refine h107.call frz ?_
 unfold chkV
 have hl63:=hp.day.ls
 have hob:∀ o∈[AObj.cells (plnC p)],Z3 1 o=true:=by
  intro o ho
  simp only[ZD,WK,or_false] at ho
  subst ho;rfl
 by_cases hs0:(sysE p.sys).2.2=0
 rotate_left
 ·have hb:((sysE p.sys).2.2 == 0)=false:=by simpa using hs0
  simp only[hb,hs0,ne_eq,not_false_eq_true,evA,simprocAttr]
  refine J1 ?_
  by_cases hl:(0:Int)<p.day.ls.length <;> simp only[ic52l0,hl,hb,evA,simprocAttr] <;> exact frz
 have hb:((sysE p.sys).2.2 == 0)=true:=by simpa using hs0
 simp only[hb,hs0,ne_eq,not_true,evA,simprocAttr]
 refine h24.call frz ?_
 unfold chkA
 by_cases hd0:(dyE p.day).2.2=0
 rotate_left
 ·have hb:((dyE p.day).2.2 == 0)=false:=by simpa using hd0
  simp only[hb,hd0,ne_eq,not_false_eq_true,evA,simprocAttr]
  refine J1 ?_
  by_cases hl:(0:Int)<p.day.ls.length <;> simp only[ic52l0,hl,hb,evA,simprocAttr] <;> exact frz
 have hb:((dyE p.day).2.2 == 0)=true:=by simpa using hd0
 simp only[hb,hd0,ne_eq,not_true,evA,simprocAttr]
 by_cases hp0:pplE p=0
 rotate_left
 ·have hb:(pplE p == 0)=false:=by simpa using hp0
  rw[if_pos hp0]
  refine (h108 hs0).call frz ?_
  simp only[evA,simprocAttr]
  refine J1 ?_
  by_cases hl:(0:Int)<p.day.ls.length <;> simp only[ic52l0,hl,hb,evA,simprocAttr] <;> exact frz
 rw[if_neg (fun h=>h hp0)]
 refine (h108 hs0).call frz ?_
 simp only[hp0,evA,simprocAttr]
 refine ZW p.day.ls.length (fun k s=>∃ e:Int,(e=0∧(∀ j,j<k→whoB p p.day.ls[j]! = false)∨e=4∧p.day.ls.any (whoB p)=true)∧∃ v5 v8 v9,s=⟨[plnV p,.ptr 0 0,.i 0,.i e,.i k,v5,.b true,.b true,v8,v9],[.cells (plnC p)]⟩) ?_ 0 (QF _) ⟨0,.inl ⟨rfl,by omega⟩,_,_,_,rfl⟩
 rintro k s hk ⟨e,he,v5,v8,v9,rfl⟩
 have hany:k<p.day.ls.length→whoB p p.day.ls[k]! = true→p.day.ls.any (whoB p)=true:=fun h hw=>by
  rw[ZZ]
  exact ⟨p.day.ls[k]!,by rw[getElem!_pos p.day.ls k h];exact Q2 h,hw⟩
 rcases he with ⟨rfl,hall⟩ | ⟨rfl,hA⟩
 rotate_left
 ·rw[hA]
  by_cases hl:(k:Int)<p.day.ls.length <;> simp only[ic52l0,hl,evA,simprocAttr] <;> exact frz
 by_cases h:k<p.day.ls.length
 ·have hld:=Qcl h
  have hany:=hany h
  have hnext:whoB p p.day.ls[k]! = false→∀ j,j<k+1→whoB p p.day.ls[j]! = false:=fun h3 j hj=>by
   rcases QQ.1 hj with hj | rfl
   ·exact hall j hj
   ·exact h3
  have hwho:whoB p p.day.ls[k]! = (decide ((p.day.ls[k]!).le≥p.le.length)||decide ((p.day.ls[k]!).te≥p.te.length)||decide ((p.day.ls[k]!).ca≥p.ca.length)):=rfl
  generalize p.day.ls[k]! = l at *
  obtain ⟨l1,l2,l3,l4,l5,l6,l7⟩:=l
  simp only at hld hwho
  simp only[ic52l0,QJ,h,F5 h,hld,evA,simprocAttr]
  cases h1:decide (l1≥p.le.length) with
  | true =>
   rw[h1,US,US] at hwho
   simp only[h1,Q6 (show k+1<2 ^ 63 by omega),evA,simprocAttr]
   exact W1 [.cells (plnC p)] _ rfl (by first | trivial | omega) (QF _) hob ⟨4,.inr ⟨rfl,hany hwho⟩,_,_,_,rfl⟩
  | false =>
  cases h2:decide (l2≥p.te.length) with
  | true =>
   rw[h1,h2,Y3,US] at hwho
   simp only[h1,h2,Q6 (show k+1<2 ^ 63 by omega),evA,simprocAttr]
   exact W1 [.cells (plnC p)] _ rfl (by first | trivial | omega) (QF _) hob ⟨4,.inr ⟨rfl,hany hwho⟩,_,_,_,rfl⟩
  | false =>
  rw[h1,h2,Y3,Y3] at hwho
  cases h3:decide (l3≥p.ca.length) with
  | true =>
   rw[h3] at hwho
   simp only[h1,h2,h3,Q6 (show k+1<2 ^ 63 by omega),evA,simprocAttr]
   exact W1 [.cells (plnC p)] _ rfl (by first | trivial | omega) (QF _) hob ⟨4,.inr ⟨rfl,hany hwho⟩,_,_,_,rfl⟩
  | false =>
   rw[h3] at hwho
   simp only[h1,h2,h3,Q6 (show k+1<2 ^ 63 by omega),evA,simprocAttr]
   exact W1 [.cells (plnC p)] _ rfl (by first | trivial | omega) (QF _) hob ⟨0,.inl ⟨rfl,hnext hwho⟩,_,_,_,rfl⟩
 ·have hke:k=p.day.ls.length:=by omega
  subst hke
  have:p.day.ls.any (whoB p)=false:=by
   rw[W6]
   intro l hl
   obtain ⟨j,hj,rfl⟩:=WN.1 hl
   have:=hall j hj
   rw[getElem!_pos p.day.ls j hj] at this
   rw[this];decide
  rw[this]
  simp only[ic52l0,QJ,h,evA,simprocAttr]
  exact frz
def atD (g:Int→Int) (S:List Int) (z:Int):Nat→Nat
 | 0=>0
 | k+1=>if g (gI S k)>g z then atD g S z k else k+1
theorem atD_le (g:Int→Int) (S:List Int) (z:Int):∀ k,atD g S z k≤k
 | 0=>QG _
 | k+1=>by
  unfold atD
  split
  ·exact Nat.le_succ_of_le (atD_le g S z k)
  ·exact QG _
def insD (g:Int→Int) (S:List Int) (z:Int):List Int:=S.take (atD g S z S.length)++z::S.drop (atD g S z S.length)
theorem atD_app {g:Int→Int} {S T:List Int} {z:Int}:∀ k,k≤S.length→atD g (S++T) z k=atD g S z k
 | 0,_=>rfl
 | k+1,h=>by
  have e:gI (S++T) k=gI S k:=by unfold gI;rw[QE (by omega)]
  unfold atD
  rw[e,atD_app k (by omega)]
theorem insJ_at (g:Int→Int):∀ (j:Nat) (S:List Int) (z:Int) (T:List Int),S.length=j→insJ g j (S++z::T)=insD g S z++T
 | 0,S,z,T,h=>by
  have:S=[]:=ZT h
  subst this;rfl
 | j+1,S,z,T,h=>by
  obtain ⟨R,y,rfl⟩:∃ R y,S=R++[y]:=⟨S.dropLast,S.getLast (by intro h0;rw[h0] at h;cases h),(List.dropLast_concat_getLast _).symm⟩
  have hR:R.length=j:=by simpa using h
  have g1:gI (R++[y]++z::T) (j+1)=z:=by unfold gI;simp[hR]
  have g2:gI (R++[y]++z::T) j=y:=by unfold gI;simp[hR]
  have g3:gI (R++[y]) j=y:=by unfold gI;simp[hR]
  have hsw:swpL (R++[y]++z::T) (j+1)=R++z::y::T:=by
   unfold swpL
   rw[Nat.add_sub_cancel,g1,g2]
   subst hR
   simp[List.set_append]
  unfold insJ ltG insD
  rw[Nat.add_sub_cancel,g1,g2,h]
  unfold atD
  rw[g3]
  by_cases hlt:g z<g y
  ·rw[if_pos (decide_eq_true hlt),if_pos hlt,hsw,insJ_at g j R z (y::T) hR,atD_app j (by omega)]
   have ha:=atD_le g R z j
   unfold insD
   rw[hR,List.take_append_of_le_length (by omega),List.drop_append_of_le_length (by omega)]
   simp
  ·rw[if_neg (by rw[decide_eq_false hlt];decide),if_neg hlt,Q5 (by omega),List.drop_of_length_le (by omega)]
   simp
theorem insJ_app {g:Int→Int} {j:Nat} {X t:List Int} (h:j<X.length):insJ g j (X++t)=insJ g j X++t:=by
 have hX:X=X.take j++X[j]::X.drop (j+1):=by simp
 have hl:(X.take j).length=j:=by simp;omega
 have e1:=insJ_at g j (X.take j) X[j] (X.drop (j+1)) hl
 have e2:=insJ_at g j (X.take j) X[j] (X.drop (j+1)++t) hl
 rw[← hX] at e1
 rw[e1,QW,← e2]
 congr 1
 rw[← List.cons_append,← QW,← hX]
theorem isrt_app {g:Int→Int} {l t:List Int}:∀ k,k≤l.length→isrt g (l++t) k=isrt g l k++t
 | 0,_=>rfl
 | k+1,h=>by
  unfold isrt
  rw[isrt_app k (by omega),insJ_app (by rw[I9];omega)]
theorem isrt_snoc (g:Int→Int) (l:List Int) (z:Int):isrt g (l++[z]) (l++[z]).length=insD g (isrt g l l.length) z:=by
 rw[QM]
 show insJ g l.length (isrt g (l++[z]) l.length)=_
 rw[isrt_app _ (QG _),insJ_at g l.length _ z [] (I9 _ _ _),ZU]
def thK (d:Dy) (w n k:Nat):List Int:=isrt (bgF d) (pkL (whoF w) d.ls n k) (pkL (whoF w) d.ls n k).length
theorem thK_succ (d:Dy) (w n k:Nat):thK d w n (k+1)=if whoF w d.ls[k]! = n then insD (bgF d) (thK d w n k) k else thK d w n k:=by
 unfold thK pkL
 rw[ET]
 by_cases h:whoF w d.ls[k]! = n
 ·rw[if_pos h,if_pos (by simpa using h),isrt_snoc]
 ·rw[if_neg h,if_neg (by simpa using h),ZU]
theorem thK_li (d:Dy) (w n k:Nat) (hk:k≤d.ls.length):∀ i,i<(thK d w n k).length→isLi d (gI (thK d w n k) i) :=
 Qao (bgF d) (fun i hi=>by
  have:=Qcs hi
  obtain ⟨j,e,hj,_⟩:=bits_mem.1 this
  exact ⟨j,by omega,e⟩) _ (QG _)
theorem right_ok {p:Pln} (h:LkOk p) {l:Les} (hl:LiOk p l):Qca p l=alwB p.sys (p.te[l.te.toNat]!).rg (p.ca[l.ca.toNat]!).cl (p.ca[l.ca.toNat]!).ft∧rgsE p.sys (p.te[l.te.toNat]!).rg=0∧inB (p.ca[l.ca.toNat]!).cl 0 ((p.sys.cl.length:Int)-1)=true∧inB (p.ca[l.ca.toNat]!).ft 0 (setN p.sys-1)=true:=by
 have h1:=h.tch l.te.toNat (by have:=hl.te;omega)
 have h2:=h.car l.ca.toNat (by have:=hl.ca;omega)
 unfold Qca
 generalize p.te[l.te.toNat]! = t at *
 generalize p.ca[l.ca.toNat]! = c at *
 have hrg:lstE p.sys t.rg=rgsE p.sys t.rg:=by unfold lstE;rw[h.sys];rfl
 have hnil:lstE p.sys []=0:=by unfold lstE;rw[h.sys];rfl
 unfold tchE at h1
 split at h1
 ·rename_i hh;exact absurd h1 hh
 rename_i hh
 have h0:lstE p.sys t.rg=0:=JE.1 hh
 unfold carE mayE at h2
 rw[hnil,if_neg (fun h=>h rfl)] at h2
 split at h2
 ·cases h2
 rename_i g1
 split at h2
 ·cases h2
 rename_i g2
 have g1:inB c.cl 0 ((p.sys.cl.length:Int)-1)=true:=by simpa using g1
 have g2:inB c.ft 0 (setN p.sys-1)=true:=by simpa using g2
 refine ⟨?_,by rw[← hrg];exact h0,g1,g2⟩
 unfold mayE
 rw[h0,if_neg (fun h=>h rfl),g1,g2,if_neg (by decide),if_neg (by decide)]
 rfl
structure PtOk (ps:List Pat):Prop where
 p12:ps.length≤12
 sh:∀ k,k<ps.length→0≤(ps[k]!).1∧(ps[k]!).1<9223372036854775808
structure ChOk (d:Dy) (C:List (List Nat)):Prop where
 ne:∀ c∈C,c≠[]
 rng:∀ c∈C,∀ x∈c,x<d.ls.length
 can:∀ c∈C,∀ j,j+1<c.length→canB d c[j]! c[j+1]! = true
 one:∀ k,k<d.ls.length→ME C k=1
 len:∀ c∈C,c.length<2 ^ 40
 num:C.length<2 ^ 40
theorem insD_perm (g:Int→Int) (S:List Int) (z:Int):(insD g S z).Perm (z::S):=by
 unfold insD
 refine List.perm_middle.trans (List.Perm.cons z ?_)
 rw[List.take_append_drop]
theorem thK_perm (d:Dy) (w n:Nat):∀ k,(thK d w n k).Perm (pkL (whoF w) d.ls n k)
 | 0=>List.Perm.refl _
 | k+1=>by
  rw[thK_succ]
  unfold pkL
  rw[ET]
  by_cases h:whoF w d.ls[k]! = n
  ·rw[if_pos h,if_pos (by simpa using h)]
   exact (insD_perm _ _ _).trans ((List.Perm.cons _ (thK_perm d w n k)).trans (List.perm_append_singleton _ _).symm)
  ·rw[if_neg h,if_neg (by simpa using h),ZU]
   exact thK_perm d w n k
def tnL (d:Dy) (w n:Nat):List Nat:=(thL d w n).map Int.toNat
theorem tnL_perm (d:Dy) (w n:Nat):(tnL d w n).Perm ((List.range d.ls.length).filter fun i=>whoF w d.ls[i]! == (n:Int)):=by
 have h:=(thK_perm d w n d.ls.length).map Int.toNat
 have e:(pkL (whoF w) d.ls n d.ls.length).map Int.toNat=(List.range d.ls.length).filter fun i=>whoF w d.ls[i]! == (n:Int):=by
  unfold pkL YS
  rw[XW]
  exact (JI fun x _=>by simp).trans (List.map_id _)
 rw[e] at h
 exact h
theorem tnL_mem {d:Dy} {w n x:Nat}:x∈tnL d w n↔x<d.ls.length∧whoF w d.ls[x]! = n:=by
 rw[(tnL_perm d w n).mem_iff,YB,ZI]
 simp
theorem tnL_nodup (d:Dy) (w n:Nat):(tnL d w n).Nodup:=(tnL_perm d w n).nodup_iff.2 (List.nodup_range.filter _)
theorem tnL_get {d:Dy} {w n j:Nat} (h:j<(tnL d w n).length):((tnL d w n)[j]:Int)=gI (thL d w n) j:=by
 have hl:j<(thL d w n).length:=by simpa[tnL] using h
 obtain ⟨x,_,e⟩:=thK_li d w n d.ls.length (QG _) j hl
 have e:gI (thL d w n) j=(x:Int):=e
 have key:∀ (L:List Int) (hL:j<(L.map Int.toNat).length),gI L j=(x:Int)→(((L.map Int.toNat)[j]:Nat):Int)=gI L j:=fun L hL e=>by
  have h2:j<L.length:=by simpa using hL
  unfold gI at e ⊢
  rw[QI h2] at e ⊢
  have e:L[j]=(x:Int):=e
  rw[List.getElem_map]
  show ((L[j].toNat:Nat):Int)=L[j]
  rw[e];simp
 exact key _ h e
section
variable {p:Pln} (h0:plnE p=0) (hb:(brL p).1=0)
include h0 hb
theorem none_ru:(∀ r,r<3→(ruE p r).2=0)∧∀ w,w<3→(whN p.day w).2=0:=by
 have h1:(ru1 p).2=0:=Decidable.byContradiction fun hne=>by
  unfold brL at hb
  rw[if_pos hne] at hb
  have:0≤(ru1 p).1:=(by
   have key:∀ (g:Nat→Int) (k i:Nat),0≤(fndE g i k).1:=fun g k=>by
    induction k with
    | zero=>intro i;simp[fndE]
    | succ k ih =>
     intro i
     unfold fndE
     split
     ·exact ih (i+1)
     ·simp only;omega
   exact key _ _ _)
  simp only at hb
  omega
 have h2:(wh3 p.day).2=0:=Decidable.byContradiction fun hne=>by
  unfold brL at hb
  rw[if_neg (fun h=>h h1),if_pos hne] at hb
  have:0≤(wh3 p.day).1:=(by
   have key:∀ (g:Nat→Int) (k i:Nat),0≤(fndE g i k).1:=fun g k=>by
    induction k with
    | zero=>intro i;simp[fndE]
    | succ k ih =>
     intro i
     unfold fndE
     split
     ·exact ih (i+1)
     ·simp only;omega
   exact key _ _ _)
  simp only at hb
  omega
 exact ⟨fun r hr=>LJ _ 0 h1 r (QF _) (by omega),fun w hw=>LJ _ 0 h2 w (QF _) (by omega)⟩
theorem none_zero:brL p=(0,0,0):=by
 obtain ⟨h1,h2⟩:=none_ru h0 hb
 exact brL_none h1 h2
theorem none_can {w n:Nat} (hw:w<3) (hn:n<8) {j:Nat} (hj:j+1<(tnL p.day w n).length):canB p.day (tnL p.day w n)[j] (tnL p.day w n)[j+1]=true:=by
 have h2:=(none_ru h0 hb).2 w hw
 have h3:=LJ 8 0 h2 n (QF _) (by omega)
 have hl:(tnL p.day w n).length=(thL p.day w n).length:=by simp[tnL]
 have h4:=LJ _ 0 h3 j (QF _) (by omega)
 unfold chE at h4
 rw[← tnL_get (show j<(tnL p.day w n).length by omega),← tnL_get hj,Int.toNat_natCast,Int.toNat_natCast] at h4
 cases hc:canB p.day (tnL p.day w n)[j] (tnL p.day w n)[j+1] with
 | true=>rfl
 | false=>rw[hc] at h4;exact absurd h4 (by decide)
theorem can_be {d:Dy} (hd:DyOk d) {i k:Nat} (hi:i<d.ls.length) (hk:k<d.ls.length) (hc:canB d i k=true):(d.ls[i]!).e≤(d.ls[k]!).b:=by
 have h1:=hd.les i hi
 have h2:=hd.les k hk
 have h3:=of_decide_eq_true hc
 have:=(hd.rng (d.ls[i]!).o.toNat (d.ls[k]!).f.toNat (by have:=h1.o;omega) (by have:=h2.f;omega)).1
 omega
theorem none_le {w n:Nat} (hw:w<3) (hn:n<8):∀ (m a:Nat) (hb2:a+m+1<(tnL p.day w n).length),(p.day.ls[(tnL p.day w n)[a]]!).e≤(p.day.ls[(tnL p.day w n)[a+m+1]]!).b:=by
 have hok:=Qdc h0
 have hlt:∀ j (hj:j<(tnL p.day w n).length),(tnL p.day w n)[j]<p.day.ls.length:=fun j hj=>(tnL_mem.1 (Q2 hj)).1
 intro m
 induction m with
 | zero=>intro a ha;exact can_be h0 hb hok.day (hlt _ _) (hlt _ _) (none_can h0 hb hw hn ha)
 | succ m ih =>
  intro a ha
  have h1:=ih a (by omega)
  have h2:=can_be h0 hb hok.day (hlt (a+m+1) (by omega)) (hlt (a+m+1+1) (by omega)) (none_can h0 hb hw hn (j:=a+m+1) (by omega))
  have h3:=hok.day.les _ (hlt (a+m+1) (by omega))
  have:=h3.be
  show _≤(p.day.ls[(tnL p.day w n)[a+m+1+1]]!).b
  omega
theorem none_dis {w:Nat} (hw:w<3) {i k:Nat} (hi:i<p.day.ls.length) (hk:k<p.day.ls.length) (hne:i≠k) (hs:whoF w p.day.ls[i]! = whoF w p.day.ls[k]!):(p.day.ls[i]!).e≤(p.day.ls[k]!).b∨(p.day.ls[k]!).e≤(p.day.ls[i]!).b:=by
 have hok:=Qdc h0
 obtain ⟨n,hn8,hn⟩:∃ n:Nat,n<8∧whoF w p.day.ls[i]! = n:=by
  have h1:=hok.day.les i hi
  match w,hw with
  | 0,_=>exact ⟨(p.day.ls[i]!).le.toNat,by have:=h1.le;omega,by show (p.day.ls[i]!).le=_;have:=h1.le;omega⟩
  | 1,_=>exact ⟨(p.day.ls[i]!).te.toNat,by have:=h1.te;omega,by show (p.day.ls[i]!).te=_;have:=h1.te;omega⟩
  | 2,_=>exact ⟨(p.day.ls[i]!).ca.toNat,by have:=h1.ca;omega,by show (p.day.ls[i]!).ca=_;have:=h1.ca;omega⟩
 obtain ⟨a,ha,ea⟩:=WN.1 (tnL_mem.2 ⟨hi,hn⟩)
 obtain ⟨b,hbb,eb⟩:=WN.1 (tnL_mem.2 ⟨hk,hs.symm.trans hn⟩)
 rcases Nat.lt_trichotomy a b with h | h | h
 ·left
  obtain ⟨m,rfl⟩:∃ m,b=a+m+1:=⟨b-a-1,by omega⟩
  have:=none_le h0 hb hw hn8 m a hbb
  rw[ea,eb] at this
  exact this
 ·subst h;exact absurd (ea.symm.trans eb) hne
 ·right
  obtain ⟨m,rfl⟩:∃ m,a=b+m+1:=⟨a-b-1,by omega⟩
  have:=none_le h0 hb hw hn8 m b ha
  rw[ea,eb] at this
  exact this
theorem none_many:p.day.ls.length-TH p.day≤cnt 8 fun t=>(List.range p.day.ls.length).any fun x=>(p.day.ls[x]!).te == (t:Int):=by
 have hok:=Qdc h0
 obtain ⟨T,hT⟩:∃ T:Nat→List Nat,T=fun x=>tnL p.day 1 (p.day.ls[x]!).te.toNat:=⟨_,rfl⟩
 have hTx:∀ x,T x=tnL p.day 1 (p.day.ls[x]!).te.toNat:=fun x=>by rw[hT]
 have ht:∀ x,x<p.day.ls.length→(p.day.ls[x]!).te.toNat<8∧((p.day.ls[x]!).te.toNat:Int)=(p.day.ls[x]!).te:=fun x hx=>by
  have:=(hok.day.les x hx).te;omega
 have hmemT:∀ x,x<p.day.ls.length→x∈T x:=fun x hx=>by
  rw[hTx]
  exact tnL_mem.2 ⟨hx,(ht x hx).2.symm⟩
 obtain ⟨g,hg⟩:∃ g:Nat→Option Nat,g=fun x=>(T x)[(T x).idxOf x+1]? := ⟨_,rfl⟩
 have hix:∀ x,x<p.day.ls.length→(T x).idxOf x<(T x).length:=fun x hx=>List.idxOf_lt_length_iff.2 (hmemT x hx)
 have hgx:∀ x,x<p.day.ls.length→∀ (hi:(T x).idxOf x<(T x).length),(T x)[(T x).idxOf x]=x:=fun x hx hi=>List.getElem_idxOf hi
 have hmat:Mat (canB p.day) p.day.ls.length 0 (fun _=>false) g:=by
  refine ⟨fun l k _ hl e=>?_,fun l l' k _ hl _ hl' e e'=>?_⟩
  ·rw[hg] at e
   obtain ⟨hi,e⟩:=QH.1 e
   have hc:=none_can h0 hb (w:=1) (n:=(p.day.ls[l]!).te.toNat) (by omega) (ht l hl).1 (j:=(T l).idxOf l) (by rw[← hTx];exact hi)
   have h1:=hgx l hl (by omega)
   simp only[← hTx] at hc
   rw[h1,e] at hc
   have hk:k∈T l:=by rw[← e];exact Q2 hi
   rw[hTx] at hk
   exact ⟨(tnL_mem.1 hk).1,hc,rfl⟩
  ·rw[hg] at e e'
   obtain ⟨hi,e⟩:=QH.1 e
   obtain ⟨hi',e'⟩:=QH.1 e'
   have hk:k∈T l:=by rw[← e];exact Q2 hi
   have hk':k∈T l':=by rw[← e'];exact Q2 hi'
   rw[hTx] at hk hk'
   have k1:=(tnL_mem.1 hk).2
   have k2:=(tnL_mem.1 hk').2
   have hTT:T l=T l':=by
    rw[hTx,hTx]
    congr 1
    omega
   have hnd:(T l').Nodup:=by rw[hTx];exact tnL_nodup _ _ _
   have h1:=hgx l hl (by omega)
   have h2:=hgx l' hl' (by omega)
   have key:∀ (A:List Nat),A.Nodup→∀ a b (ha:a+1<A.length) (hb:b+1<A.length),A[a+1]=A[b+1]→A[a]=A[b]:=fun A hA a b ha hb he=>by
    have:a=b:=by
     rcases Nat.lt_trichotomy a b with h | h | h
     ·exact absurd he (List.pairwise_iff_getElem.1 hA (a+1) (b+1) ha hb (by omega))
     ·exact h
     ·exact absurd he.symm (List.pairwise_iff_getElem.1 hA (b+1) (a+1) hb ha (by omega))
    subst this;rfl
   simp only[hTT] at e h1 hi
   exact h1.symm.trans ((key (T l') hnd _ _ hi hi' (e.trans e'.symm)).trans h2)
 have h1:=PV p.day.ls.length 0 (fun _=>false) g (by omega) hmat
 have h2:UL p.day.ls.length 0 g=cnt p.day.ls.length fun l=>(g l).isSome:=K1 fun l _=>by simp
 have h3:cnt p.day.ls.length (fun l=>!(g l).isSome)≤cnt 8 fun t=>(List.range p.day.ls.length).any fun x=>(p.day.ls[x]!).te == (t:Int):=by
  refine G6 (fun x=>(p.day.ls[x]!).te.toNat) (fun x hx _=>⟨(ht x hx).1,?_⟩) (fun x y hx hy px py e=>?_)
  ·rw[ZZ]
   exact ⟨x,ZI.2 hx,by show ((p.day.ls[x]!).te == (((p.day.ls[x]!).te.toNat:Nat):Int))=true;exact beq_iff_eq.2 (ht x hx).2.symm⟩
  ·have hTT:T x=T y:=by rw[hTx,hTx,e]
   have last:∀ z,z<p.day.ls.length→(!(g z).isSome)=true→(T z).idxOf z+1=(T z).length:=fun z hz hp=>by
    have hn:g z=none:=by simpa using hp
    rw[hg] at hn
    have:=List.getElem?_eq_none_iff.1 hn
    have:=hix z hz
    omega
   have l1:=last x hx px
   have l2:=last y hy py
   have g1:=hgx x hx (by omega)
   have g2:=hgx y hy (by omega)
   have i1:=hix x hx
   simp only[hTT] at l1 g1 i1
   have:(T y).idxOf x=(T y).idxOf y:=by omega
   simp only[this] at g1
   exact g1.symm.trans g2
 have h4:=ES (n:=p.day.ls.length) (fun _=>true) fun l=>(g l).isSome
 have h5:cnt p.day.ls.length (fun _=>true)=p.day.ls.length:=by
  have:∀ n,cnt n (fun _=>true)=n:=fun n=>by induction n with
   | zero=>rfl
   | succ n ih=>simp[cnt,ih]
  exact this _
 have h6:TH p.day=prF (canB p.day) p.day.ls.length p.day.ls.length 0 (fun _=>false):=rfl
 simp only[XI] at h4
 omega
end
end Go.Proofs.YtgkidpolomhghaaGreatDoor.AM
namespace Go.Proofs.YtgkidpolomhghaaGreatDoor.AM
open Go Pl
theorem n3_ok {a b c:Int} (ha:0≤a∧a≤12) (hb:0≤b∧b≤12) (hc:0≤c∧c≤12):∀ i,i<3→-9223372036854775808≤gI [a,b,c] i∧gI [a,b,c] i≤9223372036854775807
 | 0,_=>by show _≤a∧a≤_;omega
 | 1,_=>by show _≤b∧b≤_;omega
 | 2,_=>by show _≤c∧c≤_;omega
 | i+3,hi=>absurd hi (by omega)
theorem eq3 {a b c:Int} (ha:0≤a∧a≤12) (hb:0≤b∧b≤12) (hc:0≤c∧c≤12):JW (true,[.int .i64,.int .i64,.int .i64]) (.agg [.i a,.i b,.i c]) (.agg [.i a,.i b,.i c])=some true:=by
 have h:=eqk_n (n:=3) (a:=[a,b,c]) (b:=[a,b,c]) rfl rfl (n3_ok ha hb hc) (n3_ok ha hb hc)
 rw[decide_eq_true rfl] at h
 exact h
structure BcOk (ps:List Pat) (l:List Int):Prop where
 few:fewL ps l=(HG (UJ ps l),XX ps (UJ ps l),0)
 len:(UJ ps l).length≤200
 rng:∀ x∈UJ ps l,x<ps.length
 srt:(UJ ps l).Pairwise (·≤·)
 eno:OS ps l (UJ ps l)
 least:∀ cs:List Nat,(∀ x∈cs,x<ps.length)→OS ps l cs→(UJ ps l).length<cs.length∨(UJ ps l).length=cs.length∧XX ps (UJ ps l)≤XX ps cs
theorem PsOk.n3 {ps:List Pat} {l:List Int} (h:PsOk ps l):N3 l:=fun i hi=>h.need i hi
theorem cha_num {d:Dy} (hd:DyOk d):(LQ (nxtL d) d.ls.length).length=d.ls.length-TH d:=by
 have h1:=heads_len (nxW hd)
 have h2:cnt (nxtL d).length (fun j=>decide (0≤gI (nxtL d) j))=TH d:=(nx_ok (can:=canB d) (n:=d.ls.length) d.ls.length 0 (fun _=>false) (by omega)).num
 rw[(nxW hd).len] at h2
 unfold LQ
 rw[ZK]
 omega
def smF (zs:List Int):Nat→Int
 | 0=>0
 | k+1=>smF zs k+gI zs k
theorem smF_set {zs:List Int} {i:Nat} {v:Int} (hi:i<zs.length):∀ k,smF (zs.set i v) k=smF zs k+if i<k then v-gI zs i else 0
 | 0=>by simp[smF]
 | k+1=>by
  unfold smF
  rw[smF_set hi k,JO hi]
  by_cases h:k=i
  ·subst h
   rw[if_pos rfl,if_neg (by omega),if_pos (by omega)];omega
  ·rw[if_neg h]
   by_cases h2:i<k
   ·rw[if_pos h2,if_pos (by omega)];omega
   ·rw[if_neg h2,if_neg (by omega)];omega
theorem smF_bd {zs:List Int} {b:Int} (h:∀ j,0≤gI zs j∧gI zs j≤b):∀ k:Nat,0≤smF zs k∧smF zs k≤b*k
 | 0=>by simp[smF]
 | k+1=>by
  have:=smF_bd h k
  have:=h k
  unfold smF
  rw[show b*((k+1:Nat):Int)=b*k+b by rw[Int.natCast_succ,Int.mul_add,Int.mul_one]]
  omega
def tmA (ls:List Les):Nat→List Int
 | 0=>List.replicate 8 0
 | i+1=>(tmA ls i).set (ls[i]!).te.toNat 1
theorem tmA_len (ls:List Les):∀ i,(tmA ls i).length=8
 | 0=>by simp[tmA]
 | i+1=>by simp[tmA,tmA_len ls i]
theorem tmA_get {ls:List Les} (h:∀ x,x<ls.length→0≤(ls[x]!).te∧(ls[x]!).te≤7):∀ i,i≤ls.length→∀ t:Nat,t<8→gI (tmA ls i) t=if ((List.range i).any fun x=>(ls[x]!).te == (t:Int))=true then 1 else 0
 | 0,_,t,ht=>by
  unfold tmA gI
  rw[YN,if_pos ht];rfl
 | i+1,hi,t,ht=>by
  have h1:=h i (by omega)
  unfold tmA
  rw[JO (by rw[tmA_len];omega),tmA_get h i (by omega) t ht,WM,List.any_append]
  by_cases e:t=(ls[i]!).te.toNat
  ·rw[if_pos e,if_pos]
   have:((ls[i]!).te == (t:Int))=true:=beq_iff_eq.2 (by omega)
   simp only[List.any_cons,List.any_nil,this,Bool.or_true,US]
  ·rw[if_neg e]
   have:((ls[i]!).te == (t:Int))=false:=beq_eq_false_iff_ne.2 (by omega)
   simp only[List.any_cons,List.any_nil,this,Bool.or_false]
theorem sm_cnt {zs:List Int} {P:Nat→Bool}:∀ n,(∀ t,t<n→gI zs t=if P t=true then 1 else 0)→smF zs n=(cnt n P:Int)
 | 0,_=>rfl
 | n+1,h=>by
  have h1:=h n (by omega)
  unfold smF
  rw[sm_cnt n fun t ht=>h t (by omega),h1]
  have h2:cnt (n+1) P=cnt n P+if P n=true then 1 else 0:=rfl
  rw[h2]
  by_cases hp:P n=true <;> simp[hp]
theorem fndE_lt (g:Nat→Int):∀ (k i:Nat),(fndE g i k).2≠0→0≤(fndE g i k).1∧(fndE g i k).1<i+k
 | 0,i,h=>absurd rfl h
 | k+1,i,h=>by
  unfold fndE at h ⊢
  split
  ·rename_i g0
   rw[if_pos g0] at h
   have:=fndE_lt g k (i+1) h
   omega
  ·simp only;omega
theorem brL_pos {p:Pln} (h0:plnE p=0) (hb:(brL p).1≠0):(1≤(brL p).1∧(brL p).1≤6)∧(0≤(brL p).2.1∧(brL p).2.1<p.day.ls.length)∧0≤(brL p).2.2∧(brL p).2.2<p.day.ls.length:=by
 unfold brL at hb ⊢
 by_cases h1:(ru1 p).2≠0
 ·rw [if_pos h1]
  have g1:=fndE_lt (fun r=>(ruE p r).2) 3 0 h1
  have g2:(ruE p (ru1 p).1.toNat).2≠0:=by
   have key:∀ (g:Nat→Int) (k i:Nat),(fndE g i k).2≠0→g (fndE g i k).1.toNat≠0:=fun g k=>by
    induction k with
    | zero=>intro i h;exact absurd rfl h
    | succ k ih =>
     intro i h
     unfold fndE at h ⊢
     split
     ·rename_i g0;rw[if_pos g0] at h;exact ih (i+1) h
     ·rename_i g0;simpa using g0
   exact key (fun r=>(ruE p r).2) 3 0 h1
  have g3:=fndE_lt (rE p (ru1 p).1.toNat) p.day.ls.length 0 g2
  have g1:0≤(ru1 p).1∧(ru1 p).1<((0:Nat):Int)+((3:Nat):Int):=g1
  have g3:0≤(ruE p (ru1 p).1.toNat).1∧(ruE p (ru1 p).1.toNat).1<((0:Nat):Int)+(p.day.ls.length:Int):=g3
  simp only
  omega
 ·rw [if_neg h1] at hb ⊢
  by_cases h2:(wh3 p.day).2≠0
  ·rw[if_pos h2]
   have key:∀ (g:Nat→Int) (k i:Nat),(fndE g i k).2≠0→g (fndE g i k).1.toNat≠0:=fun g k=>by
    induction k with
    | zero=>intro i h;exact absurd rfl h
    | succ k ih =>
     intro i h
     unfold fndE at h ⊢
     split
     ·rename_i g0;rw[if_pos g0] at h;exact ih (i+1) h
     ·rename_i g0;simpa using g0
   have g1:0≤(wh3 p.day).1∧(wh3 p.day).1<((0:Nat):Int)+((3:Nat):Int):=fndE_lt (fun w=>(whN p.day w).2) 3 0 h2
   have g2:=key (fun w=>(whN p.day w).2) 3 0 h2
   have g3:=key (fun n=>(chW p.day (wh3 p.day).1.toNat n).2) 8 0 g2
   have g4:=fndE_lt _ _ 0 g3
   generalize (wh3 p.day).1.toNat=w at *
   have g4:0≤(chW p.day w (whN p.day w).1.toNat).1∧(chW p.day w (whN p.day w).1.toNat).1<((0:Nat):Int)+((((thL p.day w (whN p.day w).1.toNat).length-1:Nat)):Int):=g4
   generalize (whN p.day w).1.toNat=n at *
   have hli:∀ i,i<(thL p.day w n).length→isLi p.day (gI (thL p.day w n) i):=thK_li p.day w n p.day.ls.length (QG _)
   generalize (chW p.day w n).1=j at *
   obtain ⟨x,hx,e1⟩:=hli j.toNat (by omega)
   obtain ⟨y,hy,e2⟩:=hli (j.toNat+1) (by omega)
   have e1:gI (thL p.day w n) j.toNat=(x:Int):=e1
   have e2:gI (thL p.day w n) (j.toNat+1)=(y:Int):=e2
   simp only
   rw[e1,e2]
   omega
  ·rw[if_neg h2] at hb
   exact absurd rfl hb
set_option maxHeartbeats 2000000 in
theorem law14 (p:Pln) (hp:PSz p):PC Tryz.prog 14 [plnV p] (.b true):=by
 have h52:=le52 p hp
 have hz3:=eq3 (a:=0) (b:=0) (c:=0) (by decide) (by decide) (by decide)
 refine ⟨ZF (fok14 true) (QC rfl) ?_,rfl⟩
 simp only[ic14,WI,cellsOf,evA,simprocAttr]
 by_cases he:plnE p=0
 rotate_left
 ·have h35:=le35 p hp
  unfold brA at h35
  rw[if_pos he] at h35
  have hb:(plnE p != 0)=true:=by simpa using he
  refine h35.call frz ?_
  simp only[hb,hz3,evA,simprocAttr]
  refine awake.call .nil ?_
  simp only[evA,simprocAttr]
  (repeat' (first | exact HL.nil | exact KS.nil | exact FrzC.nl | exact FrzC.c _ trivial | apply HL.cons | apply KS.cons | apply FrzV.agg | apply FrzV.tup | apply FrzV.c | refine FrzC.sl _ _ _ _ _ _ rfl (QC rfl) ?_))
 have hok:=Qdc he
 rw[he] at h52
 have h35:=le35 p hp
 unfold brA at h35
 rw[if_neg (fun g=>g he)] at h35
 have h12:=hok.day.l12
 have hdis:=fun (hb:(brL p).1=0)=>@none_dis _ p he hb
 have hmany:=fun (hb:(brL p).1=0)=>@none_many _ p he hb
 have hzero:=fun (hb:(brL p).1=0)=>@none_zero _ p he hb
 have hpos:=fun (hb:(brL p).1≠0)=>brL_pos he hb
 have hru:=fun (hb:(brL p).1=0)=>(@none_ru _ p he hb).1 1 (by omega)
 generalize hbb:brL p=B at *
 obtain ⟨b1,b2,b3⟩:=B
 simp only at hdis hmany hpos hru
 have hmk:∀ σ,XB 1 8 [.i 0] [.i 8,.i 8] σ=some (.sl σ.length 0 8 1,σ++[.cells ((List.replicate 8 (0:Int)).map AV.i)]):=fun σ=>MP (n:=8) (by decide) σ
 have hte:∀ x,x<p.day.ls.length→0≤(p.day.ls[x]!).te∧(p.day.ls[x]!).te≤7:=fun x hx=>(hok.day.les x hx).te
 refine h35.call frz ?_
 simp only[evA,simprocAttr]
 refine h52.call frz ?_
 simp only[hmk,evA,simprocAttr]
 have hob:∀ zs:List Int,∀ o∈[AObj.cells (plnC p),.cells [.i b1,.i b2,.i b3],.cells (zs.map AV.i)],Z3 3 o=true:=by
  intro zs o ho
  simp only[ZD,WK,or_false] at ho
  rcases ho with rfl | rfl | rfl
  ·rfl
  ·rfl
  ·exact Qbf _ _
 refine ZW p.day.ls.length (fun i s=>∃ (cb:Bool) (v9 v10 v11 v17 v18:AV),(b1=0→cb=false)∧s=⟨[plnV p,.ptr 0 0,.b false,.ptr 1 0,.i 0,.cv (lesR p.day.ls),.b cb,.sl 2 0 8 1,.i i,v9,v10,v11,.undef,.undef,.undef,.undef,.b false,v17,v18,.undef,.undef],[.cells (plnC p),.cells [.i b1,.i b2,.i b3],.cells ((tmA p.day.ls i).map AV.i)]⟩) ?_ 0 (QF _) ⟨false,_,_,_,_,_,fun _=>rfl,rfl⟩
 rintro i s hi ⟨cb,v9,v10,v11,v17,v18,hcb,rfl⟩
 by_cases h:i<p.day.ls.length
 ·have hli:=hok.li h
  obtain ⟨y,hy⟩:∃ y:Nat,(p.day.ls[i]!).te=(y:Int):=⟨_,(VI hli.te.1).symm⟩
  obtain ⟨w,hw⟩:∃ w:Nat,(p.day.ls[i]!).ca=(w:Int):=⟨_,(VI hli.ca.1).symm⟩
  have hy8:y<8:=by have:=hte i h;omega
  have hyl:y<p.te.length:=by have:=hli.te;omega
  have hwl:w<p.ca.length:=by have:=hli.ca;omega
  have hl1:=les_1 h
  have hl2:=les_2 h
  have lz:=tmA_len p.day.ls i
  have hts:(tmA p.day.ls i).set y 1=tmA p.day.ls (i+1):=by
   show _=(tmA p.day.ls i).set (p.day.ls[i]!).te.toNat 1
   rw[hy,Int.toNat_natCast]
  rw[hy] at hl1
  rw[hw] at hl2
  have hyz:y+1≤(tmA p.day.ls i).length:=by omega
  simp only[ic14l2,QJ,h,F5 h,hl1,W9 hy8,ZV,ZK,hyz,GC,hts,evA,simprocAttr]
  refine ZW i (fun k s=>∃ (cb:Bool) (v10 v18:AV),(b1=0→cb=false)∧s=⟨[plnV p,.ptr 0 0,.b false,.ptr 1 0,.i 0,.cv (lesR p.day.ls),.b cb,.sl 2 0 8 1,.i i,.i k,v10,v11,.undef,.undef,.undef,.undef,.b false,.b true,v18,.undef,.undef],[.cells (plnC p),.cells [.i b1,.i b2,.i b3],.cells ((tmA p.day.ls (i+1)).map AV.i)]⟩) ?_ 0 (QF _) ⟨cb,_,_,hcb,rfl⟩
  clear v9 v10 v17 v18 hcb cb
  rintro k s hk ⟨cb,v10,v18,hcb,rfl⟩
  by_cases hki:k<i
  ·have hkl:k<p.day.ls.length:=by omega
   have m0:=les_0 h
   have m1:=les_1 h
   have m2:=les_2 h
   have m3:=les_3 h
   have m4:=les_4 h
   have n0:=les_0 hkl
   have n1:=les_1 hkl
   have n2:=les_2 hkl
   have n3:=les_3 hkl
   have n4:=les_4 hkl
   have d0:(p.day.ls[i]!).le=(p.day.ls[k]!).le→b1=0→(p.day.ls[i]!).e≤(p.day.ls[k]!).b∨(p.day.ls[k]!).e≤(p.day.ls[i]!).b:=fun e hb=>hdis hb (w:=0) (by omega) h hkl (by omega) e
   have d1:(p.day.ls[i]!).te=(p.day.ls[k]!).te→b1=0→(p.day.ls[i]!).e≤(p.day.ls[k]!).b∨(p.day.ls[k]!).e≤(p.day.ls[i]!).b:=fun e hb=>hdis hb (w:=1) (by omega) h hkl (by omega) e
   have d2:(p.day.ls[i]!).ca=(p.day.ls[k]!).ca→b1=0→(p.day.ls[i]!).e≤(p.day.ls[k]!).b∨(p.day.ls[k]!).e≤(p.day.ls[i]!).b:=fun e hb=>hdis hb (w:=2) (by omega) h hkl (by omega) e
   have ia:=F5 h
   have ia2:=F5 hkl
   have hwk:=Q6 (show k+1<2 ^ 63 by omega)
   clear hl1 hl2 hy hw
   generalize p.day.ls[i]! = A at *
   generalize p.day.ls[k]! = C at *
   simp only[ic14l1,QJ,hki,evA,simprocAttr]
   cases q1:(A.le == C.le) with
   | true =>
    refine DW_s [] [] hmix (by kernel_rfl) rfl ?_
    simp only[ia,ia2,m0,m1,m2,n0,n1,n2,q1,evA,simprocAttr]
    cases cb with
    | true =>
     refine DW_s [] [] hmix (by kernel_rfl) rfl ?_
     simp only[hwk,evA,simprocAttr]
     exact ZL (by first | trivial | omega) ⟨true,_,_,hcb,rfl⟩
    | false =>
     refine DW_s [] [] hmix (by kernel_rfl) rfl ?_
     simp only[ia,ia2,m3,m4,n3,n4,hwk,evA,simprocAttr]
     refine ZL (by first | trivial | omega) ⟨_,_,_,fun hb=>?_,rfl⟩
     have hd:=d0 (beq_iff_eq.1 q1) hb
     rw[decide_eq_false_iff_not]
     split <;> split <;> omega
   | false =>
   cases q2:(A.te == C.te) with
   | true =>
    refine DW_s [] [] hmix (by kernel_rfl) rfl ?_
    simp only[ia,ia2,m0,m1,m2,n0,n1,n2,q1,q2,evA,simprocAttr]
    cases cb with
    | true =>
     refine DW_s [] [] hmix (by kernel_rfl) rfl ?_
     simp only[hwk,evA,simprocAttr]
     exact ZL (by first | trivial | omega) ⟨true,_,_,hcb,rfl⟩
    | false =>
     refine DW_s [] [] hmix (by kernel_rfl) rfl ?_
     simp only[ia,ia2,m3,m4,n3,n4,hwk,evA,simprocAttr]
     refine ZL (by first | trivial | omega) ⟨_,_,_,fun hb=>?_,rfl⟩
     have hd:=d1 (beq_iff_eq.1 q2) hb
     rw[decide_eq_false_iff_not]
     split <;> split <;> omega
   | false =>
   cases q3:(A.ca == C.ca) with
   | true =>
    refine DW_s [] [] hmix (by kernel_rfl) rfl ?_
    simp only[ia,ia2,m0,m1,m2,n0,n1,n2,q1,q2,q3,evA,simprocAttr]
    cases cb with
    | true =>
     refine DW_s [] [] hmix (by kernel_rfl) rfl ?_
     simp only[hwk,evA,simprocAttr]
     exact ZL (by first | trivial | omega) ⟨true,_,_,hcb,rfl⟩
    | false =>
     refine DW_s [] [] hmix (by kernel_rfl) rfl ?_
     simp only[ia,ia2,m3,m4,n3,n4,hwk,evA,simprocAttr]
     refine ZL (by first | trivial | omega) ⟨_,_,_,fun hb=>?_,rfl⟩
     have hd:=d2 (beq_iff_eq.1 q3) hb
     rw[decide_eq_false_iff_not]
     split <;> split <;> omega
   | false =>
    refine DW_s [] [] hmix (by kernel_rfl) rfl ?_
    simp only[ia,ia2,m0,m1,m2,n0,n1,n2,q1,q2,q3,evA,simprocAttr]
    cases cb with
    | true =>
     refine DW_s [] [] hmix (by kernel_rfl) rfl ?_
     simp only[hwk,evA,simprocAttr]
     exact ZL (by first | trivial | omega) ⟨true,_,_,hcb,rfl⟩
    | false =>
     refine DW_s [] [] hmix (by kernel_rfl) rfl ?_
     simp only[hwk,evA,simprocAttr]
     exact ZL (by first | trivial | omega) ⟨false,_,_,fun _=>rfl,rfl⟩
  ·have hke:k=i:=by omega
   have hld:=car_ld hwl
   have ht0:=tch_0 hyl
   have iac:∀ σ,VP 2 [.cv (carR p.ca),.cv (.int .i64 w)] σ=some (.cv (.rp (QaH p.ca) (w*2)),σ):=fun σ=>XP hwl σ
   have iat:∀ σ,VP 3 [.cv (tchR p.te),.cv (.int .i64 y)] σ=some (.cv (.rp (SV p.te) (y*3)),σ):=fun σ=>XP hyl σ
   obtain ⟨hR,hrg0,hcl,hft⟩:=right_ok hok hli
   rw[hy,hw,Int.toNat_natCast,Int.toNat_natCast] at hR
   rw[hy,Int.toNat_natCast] at hrg0
   rw[hw,Int.toNat_natCast] at hcl hft
   have hpw:=HF (QaV hok.sys).2.1
   have hst:setN p.sys=(2:Int) ^ p.sys.co.length:=rfl
   have h53:=c50 p.sys hp.sys (QaV hok.sys).1.2 (QaV hok.sys).2.2 (p.te[y]!).rg (QaV hok.sys).2.1 (hp.rg y hyl) (ML hrg0).2 (p.ca[w]!).cl ⟨(VB.1 hcl).1,by have:=(VB.1 hcl).2;omega⟩ (p.ca[w]!).ft ⟨(VB.1 hft).1,by have:=(VB.1 hft).2;omega⟩
   have hal:b1=0→alwB p.sys (p.te[y]!).rg (p.ca[w]!).cl (p.ca[w]!).ft=true:=fun hb=>by
    have h1:=LJ _ 0 (hru hb) i (QF _) (by omega)
    unfold rE at h1
    have h2:Qdf p 1 p.day.ls[i]! = true:=by
     cases hk:Qdf p 1 p.day.ls[i]! with
     | true=>rfl
     | false=>rw[hk] at h1;exact absurd h1 (by decide)
    have h2:Qca p p.day.ls[i]! = true:=h2
    rwa [hR] at h2
   clear hR hrg0 hcl hft hli
   generalize p.te[y]! = t at *
   generalize p.ca[w]! = c at *
   obtain ⟨rg,tb,te⟩:=t
   obtain ⟨cl,ft⟩:=c
   simp only at hld ht0 h53 hal
   have hli2:¬ k<i:=hki
   have hwi:=Q6 (show i+1<2 ^ 63 by omega)
   simp only[ic14l1,QJ,hki,evA,simprocAttr]
   refine DW_s [] [(1,9),(6,9),(8,9)] hmix (by kernel_rfl) rfl ?_
   simp only[F5 h,hl2,iac,hld,evA,simprocAttr]
   cases cb with
   | true =>
    refine DW_s [18] [] hmix (by kernel_rfl) rfl ?_
    simp only[hwi,evA,simprocAttr]
    exact W1 [.cells (plnC p),.cells [.i b1,.i b2,.i b3],.cells ((tmA p.day.ls (i+1)).map AV.i)] _ rfl (by first | trivial | omega) (QF _) (hob _) ⟨true,_,_,_,_,_,hcb,rfl⟩
   | false =>
    refine DW_s [18] [] hmix (by kernel_rfl) rfl ?_
    simp only[F5 h,hl1,iat,ht0,evA,simprocAttr]
    refine YE (h53.call frz ⟨rfl,rfl⟩) rfl ?_
    simp only[hwi,evA,simprocAttr]
    exact W1 [.cells (plnC p),.cells [.i b1,.i b2,.i b3],.cells ((tmA p.day.ls (i+1)).map AV.i)] _ rfl (by first | trivial | omega) (QF _) (hob _) ⟨!alwB p.sys rg cl ft,_,_,_,_,_,fun hb=>by rw[hal hb];rfl,rfl⟩
 ·have hie:i=p.day.ls.length:=by omega
  subst hie
  by_cases hb1:b1=0
  rotate_left
  ·have hbn:(b1 != 0)=true:=by simpa using hb1
   obtain ⟨⟨g1,g2⟩,⟨g3,g4⟩,g5,g6⟩:=hpos hb1
   have c1:decide (b1≥1)=true:=decide_eq_true g1
   have c2:decide (b1≤6)=true:=decide_eq_true g2
   have c3:decide (b2≥0)=true:=decide_eq_true g3
   have c4:decide (b2<(p.day.ls.length:Int))=true:=decide_eq_true g4
   have c5:decide (b3≥0)=true:=decide_eq_true g5
   have c6:decide (b3<(p.day.ls.length:Int))=true:=decide_eq_true g6
   simp only[ic14l2,QJ,h,hbn,c1,c2,c3,c4,c5,c6,evA,simprocAttr]
   refine awake.call .nil ?_
   simp only[evA,simprocAttr]
   (repeat' (first | exact HL.nil | exact KS.nil | exact FrzC.nl | exact FrzC.c _ trivial | apply HL.cons | apply KS.cons | apply FrzV.agg | apply FrzV.tup | apply FrzV.c | refine FrzC.sl _ _ _ _ _ _ rfl (QC rfl) ?_))
  ·have hm:=hmany hb1
   have hz:=hzero hb1
   injection hz with e1 e2
   injection e2 with e2 e3
   subst e1 e2 e3
   obtain rfl:=hcb rfl
   have hsm:=sm_cnt (P:=fun t=>(List.range p.day.ls.length).any fun x=>(p.day.ls[x]!).te == (t:Int)) 8 fun t ht=>tmA_get hte _ (QG _) t ht
   have hbd:∀ j,0≤gI (tmA p.day.ls p.day.ls.length) j∧gI (tmA p.day.ls p.day.ls.length) j≤1:=fun j=>by
    by_cases hj:j<8
    ·rw[tmA_get hte _ (QG _) j hj];split <;> decide
    ·unfold gI;rw[QN (by rw[tmA_len];omega)];decide
   have lz:=tmA_len p.day.ls p.day.ls.length
   generalize tmA p.day.ls p.day.ls.length=Z at *
   simp only[ic14l2,QJ,h,evA,simprocAttr]
   refine ZW 8 (fun j s=>∃ v20,s=⟨[plnV p,.ptr 0 0,.b false,.ptr 1 0,.i 0,.cv (lesR p.day.ls),.b false,.sl 2 0 8 1,.i p.day.ls.length,v9,v10,v11,.i (smF Z j),.i j,.undef,.undef,.b false,.b false,v18,.b false,v20],[.cells (plnC p),.cells [.i 0,.i 0,.i 0],.cells (Z.map AV.i)]⟩) ?_ 0 (QF _) ⟨_,rfl⟩
   rintro j s hj ⟨v20,rfl⟩
   by_cases hj8:j<8
   ·have hd8:decide ((j:Int)<8)=true:=decide_eq_true (by omega)
    have hl0:=V1 (zs:=Z) (k:=j) (by omega)
    have hb2:=smF_bd hbd j
    have h1:=hbd j
    have hw:IntKind.i64.wrap (smF Z j+Z[j]?.getD 0)=smF Z (j+1):=by
     show IntKind.i64.wrap (smF Z j+gI Z j)=_
     exact ZC (by omega)
    simp only[ic14l0,hd8,W9 hj8,ZV,hl0,hw,Q6 (show j+1<2 ^ 63 by omega),evA,simprocAttr]
    exact ZL (by first | trivial | omega) ⟨_,rfl⟩
   ·have hje:j=8:=by omega
    subst hje
    have h28:=le28 p.day hp.day
    unfold chaA at h28
    rw[if_neg (fun h=>h hok.dy0),hok.dy0] at h28
    have hlen:(chaL p.day).length=p.day.ls.length-TH p.day:=by unfold chaL;rw[ZK,cha_num hok.day]
    have c1:decide (((chaL p.day).length:Int)≤smF Z 8)=true:=decide_eq_true (by rw[hsm,hlen];omega)
    have hd8:decide (((8:Nat):Int)<8)=false:=by decide
    simp only[ic14l0,hd8,evA,simprocAttr]
    refine h28.call frz ?_
    simp only[c1,hz3,evA,simprocAttr]
    refine awake.call .nil ?_
    simp only[evA,simprocAttr]
    (repeat' (first | exact HL.nil | exact KS.nil | exact FrzC.nl | exact FrzC.c _ trivial | apply HL.cons | apply KS.cons | apply FrzV.agg | apply FrzV.tup | apply FrzV.c | refine FrzC.sl _ _ _ _ _ _ rfl (QC rfl) ?_))
theorem law_LessonNobody (avs:List AV) (h:Args Tryz.prog Tryz.f14.params.toList avs):AC Tryz.prog 14 avs [] fun r _=>r=.b true:=by
 have h:Args Tryz.prog [56] avs:=h
 obtain ⟨cs1,avs,rfl,h1,h⟩:=args_cons h
 cases args_nil h
 obtain ⟨p,e1,hp⟩:=typed_pln h1
 rw[e1]
 exact (law14 p hp).call (by (repeat' (first | exact HL.nil | exact KS.nil | exact FrzC.nl | exact FrzC.c _ trivial | apply HL.cons | apply KS.cons | apply FrzV.agg | apply FrzV.tup | apply FrzV.c | refine FrzC.sl _ _ _ _ _ _ rfl (QC rfl) ?_))) rfl
end Go.Proofs.YtgkidpolomhghaaGreatDoor.AM

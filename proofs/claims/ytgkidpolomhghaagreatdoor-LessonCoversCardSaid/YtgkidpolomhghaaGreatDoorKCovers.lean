/- Parts of the proof of Covers. -/
import Derived.Test.YtgkidpolomhghaaGreatDoorProg
import Derived.Test.YtgkidpolomhghaaGreatDoorRows
import Derived.WalkKit
import Derived.ProofKit
import Derived.OpenShut
import Derived.Carry
import Derived.Shelf.Slices.Clone
import Derived.Test.YtgkidpolomhghaaGreatDoorZ27
set_option linter.unusedVariables false
set_option linter.unusedSimpArgs false
set_option linter.unusedSectionVars false
set_option linter.defProp false
namespace Go.Proofs.YtgkidpolomhghaaGreatDoor.AM
variable [Dr]
open Go
abbrev vs24:List Nat:=[0,1,2,3,4,5,6,7,8,19,24,31,38,49]
def ic24l0:IC:=(.seq (.seq (.region [jv 7,jF 1 1,jl 1,je 2,jw 12 (.bin .lss .int) [.t 0,.t 3]])
 (.cond 12 .skip
 (.exit 2)))
 (.seq (.block 3 (.seq (.dr [[],[],[1],[],[2,3],[4],[0,5],[6,6,0,1,2,3,4,5,6]] [jN 2 1,jF 1 1,jl 1,jv 7,ja 7 2 3,jq (.loadN 7) [.t 4],jk 71 [.t 0,.t 5],jm 8 6])
 (.seq (.region [jv 8,jw 13 (.bin .neq .int) [.t 0,jn 0]])
 (.cond 13 (.seq (.region [jv 7,jv 8,jz 2 3,jm 3 0,jm 4 1])
 .ret)
 .skip))))
 (.region [jv 7,jq (.bin .add .int) [.t 0,jn 1],jm 7 1])))
def ic24l1:IC:=(.seq (.seq (.region [jv 5,jF 0 1,jl 1,je 2,jw 10 (.bin .lss .int) [.t 0,.t 3]])
 (.cond 10 .skip
 (.exit 0)))
 (.seq (.block 1 (.seq (.region [jN 2 1,jv 5,jk 70 [.t 0,.t 1],jm 6 2])
 (.seq (.region [jv 6,jw 11 (.bin .neq .int) [.t 0,jn 0]])
 (.cond 11 (.seq (.region [jv 5,jv 6,jz 2 2,jm 3 0,jm 4 1])
 .ret)
 .skip))))
 (.region [jv 5,jq (.bin .add .int) [.t 0,jn 1],jm 5 1])))
def ic24:IC:=(.seq (.region [jb 1 0,jz 2 0,jz 3 0,jz 4 0])
 (.seq (.seq (.region [jF 0 1,jl 0,je 1,jk 64 [.t 2,jn 1,jn 16],jq .not [.t 3],jt 4,jg 5 false (.fadd 1) [.v 1],ji 5 false 6,jg 5 false (.len false) [.t 7],jg 5 false (.bin .gtr .int) [.t 8,jn 12],jw 9 .pick [.t 5,jB true,.t 9]])
 (.cond 9 (.seq (.region [jz 2 1,jz 3 0,jz 4 3])
 .ret)
 .skip))
 (.seq (.seq (.region [jz 5 0])
 (.block 0 (.loop ic24l1)))
 (.seq (.seq (.region [jz 7 0])
 (.block 2 (.loop ic24l0)))
 (.seq (.region [jz 2 0,jz 3 0,jz 4 0])
 .ret)))))
abbrev rs24:List RC:=[(.v 2),(.v 3),(.v 4)]
theorem fok24 (p:Bool):FnOk Tryz.prog 24 ⟨ic24,vs24,52,rs24,p⟩:=.mk2 Tryz.func24 (by kernel_rfl) (by kernel_rfl) (by kernel_rfl) (by kernel_rfl) (by kernel_rfl)
abbrev vs31:List Nat:=[0,1,2,3,4,7,8,9,10,11,19,29,37,46]
def ic31l0:IC:=(.seq (.seq (.region [jv 8,jF 1 1,jl 1,je 2,jk 83 [.t 3],jw 11 (.bin .lss .int) [.t 0,.t 4]])
 (.cond 11 .skip
 (.exit 0)))
 (.seq (.block 1 (.seq (.region [jv 8,jk 84 [.t 0],je 1,jm 9 2])
 (.seq (.seq (.region [jv 9,jv 7,jw 12 (.bin .lss .int) [.t 0,.t 1]])
 (.cond 12 (.region [jv 9,jN 2 1,jv 8,jk 82 [.t 1,.t 2],je 3,jq (.bin .add .int) [.t 0,.t 4],jm 9 5])
 .skip))
 (.seq (.region [jv 9,jv 7,jw 13 (.bin .lss .int) [.t 0,.t 1]])
 (.cond 13 (.region [jv 8,jv 9,jm 6 0,jm 7 1])
 .skip)))))
 (.region [jv 8,jq (.bin .add .int) [.t 0,jn 1],jm 8 1])))
def ic31:IC:=(.seq (.region [jb 1 0,jw 2 .mv [jS],jw 3 .mv [jS],jz 4 0])
 (.seq (.region [jN 2 1,jk 24 [.t 0],jt 1,jx 0 2,jx 1 2,jx 2 2,jt 3,jt 4,jm 5 5])
 (.seq (.seq (.region [jv 5,jw 10 (.bin .neq .int) [.t 0,jn 0]])
 (.cond 10 (.seq (.region [jv 5,jw 2 .mv [jS],jw 3 .mv [jS],jm 4 0])
 .ret)
 .skip))
 (.seq (.region [jN 2 1,jk 82 [.t 0,jn 0],je 1,jz 6 0,jm 7 2])
 (.seq (.seq (.region [jz 8 1])
 (.block 0 (.loop ic31l0)))
 (.seq (.dr [[],[0],[],[],[2,3,1],[1,4,0,1],[4,5,0,1,2,3,4,5],[6,0,1,2,3,4,5,6]] [jv 6,jk 84 [.t 0],jN 2 1,jv 6,jk 82 [.t 2,.t 3],jm 2 1,jm 3 4,jz 4 0])
 .ret))))))
abbrev rs31:List RC:=[(.v 2),(.v 3),(.v 4)]
theorem fok31 (p:Bool):FnOk Tryz.prog 31 ⟨ic31,vs31,54,rs31,p⟩:=.mk2 Tryz.func31 (by kernel_rfl) (by kernel_rfl) (by kernel_rfl) (by kernel_rfl) (by kernel_rfl)
abbrev vs34:List Nat:=[0,1,2,3,6,7,10,11,12,20,25,40,49,56,74,76]
def ic34l0:IC:=(.seq (.seq (.region [jv 8,jF 1 3,jl 1,je 2,jw 13 (.bin .lss .int) [.t 0,.t 3]])
 (.cond 13 .skip
 (.exit 2)))
 (.seq (.block 3 (.seq (.region [jN 2 3,jv 7,jv 8,jk 51 [.t 0,.t 1,.t 2],jt 3,jh 4 true 1,jh 4 true 7,jf 4 true 92 [.t 5,.t 6],jg 4 true .not [.t 7],jq .pick [.t 4,.t 8,jB false],jt 9,jh 10 true 2,jh 10 true 8,jf 10 true 92 [.t 11,.t 12],jg 10 true .not [.t 13],jw 14 .pick [.t 10,.t 14,jB false]])
 (.cond 14 (.region [jz 6 2])
 .skip)))
 (.region [jv 8,jq (.bin .add .int) [.t 0,jn 1],jm 8 1])))
def ic34l1:IC:=(.seq (.seq (.region [jv 7,jF 1 3,jl 1,je 2,jq (.bin .lss .int) [.t 0,.t 3],jt 4,jh 5 true 6,jg 5 true (.bin .eql .int) [.t 6,jn 0],jw 12 .pick [.t 5,.t 7,jB false]])
 (.cond 12 .skip
 (.exit 0)))
 (.seq (.block 1 (.seq (.region [jz 8 0])
 (.block 2 (.loop ic34l0))))
 (.region [jv 7,jq (.bin .add .int) [.t 0,jn 1],jm 7 1])))
def ic34:IC:=(.seq (.region [jb 3 0,jz 4 0,jz 5 0])
 (.seq (.region [jN 2 3,jk 24 [.t 0],jt 1,jx 0 2,jx 1 2,jx 2 2,jt 3,jt 4,jm 6 5])
 (.seq (.seq (.region [jv 6,jw 9 (.bin .eql .int) [.t 0,jn 0]])
 (.cond 9 (.region [jN 2 3,jv 1,jk 90 [.t 0,.t 1],jm 6 2])
 .skip))
 (.seq (.seq (.region [jv 6,jw 10 (.bin .eql .int) [.t 0,jn 0]])
 (.cond 10 (.region [jN 2 3,jv 2,jk 90 [.t 0,.t 1],jm 6 2])
 .skip))
 (.seq (.seq (.region [jv 6,jq (.bin .eql .int) [.t 0,jn 0],jt 1,jh 2 true 1,jf 2 true 91 [.t 3],jg 2 true .not [.t 4],jg 2 true .mv [.t 5],jh 6 false 2,jf 6 false 91 [.t 7],jg 6 false .not [.t 8],jg 2 true .pick [.t 6,jB true,.t 9],jw 11 .pick [.t 2,.t 10,jB false]])
 (.cond 11 (.region [jz 6 5])
 .skip))
 (.seq (.seq (.region [jz 7 0])
 (.block 0 (.loop ic34l1)))
 (.seq (.seq (.region [jv 6,jw 15 (.bin .neq .int) [.t 0,jn 0]])
 (.cond 15 (.seq (.region [jv 6,jz 4 0,jm 5 0])
 .ret)
 .skip))
 (.seq (.region [jF 1 3,jl 0,je 1,jv 1,je 3,jq (.bin .sub .int) [.t 2,.t 4],jv 2,je 6,jq (.bin .sub .int) [.t 5,.t 7],jq .max2 [jn 0,.t 8],jm 4 9,jz 5 0])
 .ret))))))))
abbrev rs34:List RC:=[(.v 4),(.v 5)]
theorem fok34 (p:Bool):FnOk Tryz.prog 34 ⟨ic34,vs34,88,rs34,p⟩:=.mk2 Tryz.func34 (by kernel_rfl) (by kernel_rfl) (by kernel_rfl) (by kernel_rfl) (by kernel_rfl)
abbrev vs51:List Nat:=[0,1,2,3,6,7,8]
def ic51:IC:=(.seq (.region [jb 3 0,jw 4 .mv [jB false]])
 (.seq (.dr [[],[0],[],[1,2],[3],[],[5],[],[6,7],[8],[],[],[10,4,0,1,2,3,4,10,11],[11,9,12,0,1,2,3,4,5,6,7,8,9,10,11,12]] [jF 1 3,jl 0,jv 1,ja 7 1 2,jq (.loadN 7) [.t 3],jF 1 3,jl 5,jv 2,ja 7 6 7,jq (.loadN 7) [.t 8],jw 5 (.alloc [(.cv (.int .i64 0)),(.cv (.int .i64 0)),(.cv (.int .i64 0)),(.cv (.int .i64 0)),(.cv (.int .i64 0)),(.cv (.int .i64 0)),(.cv (.int .i64 0))]) [],jw 6 (.alloc [(.cv (.int .i64 0)),(.cv (.int .i64 0)),(.cv (.int .i64 0)),(.cv (.int .i64 0)),(.cv (.int .i64 0)),(.cv (.int .i64 0)),(.cv (.int .i64 0))]) [],jq (.store 7) [.v 5,.t 4],jq (.store 7) [.v 6,.t 9]])
 (.seq (.dr [[],[0],[],[2],[],[4],[3,5],[6],[],[8],[7,9],[10],[1,11],[],[13],[12,14],[15,0,1,2,3,4,5,6,7,8,9,10,11,12,13,14,15]] [jF 4 5,jl 0,jF 0 3,jl 2,jF 6 5,jl 4,ja 1 3 5,jl 6,jF 5 6,jl 8,ja 1 7 9,jl 10,jq (.bin .add .int) [.t 1,.t 11],jF 3 6,jl 13,jq (.bin .leq .int) [.t 12,.t 14],jm 4 15])
 .ret)))
abbrev rs51:List RC:=[(.v 4)]
theorem fok51 (p:Bool):FnOk Tryz.prog 51 ⟨ic51,vs51,35,rs51,p⟩:=.mk2 Tryz.func51 (by kernel_rfl) (by kernel_rfl) (by kernel_rfl) (by kernel_rfl) (by kernel_rfl)
abbrev vs64:List Nat:=[0,1,2,6]
def ic64:IC:=(.seq (.region [jw 3 .mv [jB false]])
 (.seq (.region [jv 0,jv 1,jq (.bin .geq .int) [.t 0,.t 1],jt 2,jh 3 true 0,jh 3 true 2,jg 3 true (.bin .leq .int) [.t 4,.t 5],jq .pick [.t 3,.t 6,jB false],jm 3 7])
 .ret))
abbrev rs64:List RC:=[(.v 3)]
theorem fok64 (p:Bool):FnOk Tryz.prog 64 ⟨ic64,vs64,15,rs64,p⟩:=.mk2 Tryz.func64 (by kernel_rfl) (by kernel_rfl) (by kernel_rfl) (by kernel_rfl) (by kernel_rfl)
abbrev vs70:List Nat:=[0,1,2,4,5,6,17,21,29,34]
def ic70l0:IC:=(.seq (.seq (.region [jv 5,jv 4,je 1,jw 7 (.bin .lss .int) [.t 0,.t 2]])
 (.cond 7 .skip
 (.exit 0)))
 (.seq (.block 1 (.seq (.region [jv 4,jv 5,ja 1 0 1,jl 2,jk 64 [.t 3,jn 0,jn 120],jw 8 .not [.t 4]])
 (.cond 8 (.seq (.region [jz 3 7])
 .ret)
 .skip)))
 (.region [jv 5,jq (.bin .add .int) [.t 0,jn 1],jm 5 1])))
def ic70:IC:=(.seq (.region [jb 2 0,jz 3 0])
 (.seq (.region [jF 0 2,jl 0,jv 1,ja 1 1 2,jl 3,jm 4 4])
 (.seq (.seq (.region [jv 4,je 0,jF 0 2,jl 2,je 3,jw 6 (.bin .neq .int) [.t 1,.t 4]])
 (.cond 6 (.seq (.region [jz 3 3])
 .ret)
 .skip))
 (.seq (.seq (.region [jz 5 0])
 (.block 0 (.loop ic70l0)))
 (.seq (.seq (.region [jv 4,jv 1,ja 1 0 1,jl 2,jw 9 (.bin .neq .int) [.t 3,jn 0]])
 (.cond 9 (.seq (.region [jz 3 2])
 .ret)
 .skip))
 (.seq (.region [jz 3 0])
 .ret))))))
abbrev rs70:List RC:=[(.v 3)]
theorem fok70 (p:Bool):FnOk Tryz.prog 70 ⟨ic70,vs70,35,rs70,p⟩:=.mk2 Tryz.func70 (by kernel_rfl) (by kernel_rfl) (by kernel_rfl) (by kernel_rfl) (by kernel_rfl)
abbrev vs71:List Nat:=[0,1,2,3,4,5,6,23,25,33,38,56]
def ic71l0:IC:=(.seq (.seq (.region [jv 6,jw 8 (.bin .lss .int) [.t 0,jn 3]])
 (.cond 8 .skip
 (.exit 0)))
 (.seq (.block 1 (.seq (.region [jv 5,jv 6,ja 1 0 1,jl 2,jk 64 [.t 3,jn 0,jn 7],jw 9 .not [.t 4]])
 (.cond 9 (.seq (.region [jz 4 7])
 .ret)
 .skip)))
 (.region [jv 6,jq (.bin .add .int) [.t 0,jn 1],jm 6 1])))
def ic71:IC:=(.seq (.region [jb 2 0,jb 3 1,jz 4 0])
 (.seq (.region [jF 0 3,jl 0,jF 1 3,jl 2,jF 2 3,jl 4,jq (.bslice 1 3 [(.cv (.int .i64 0)),(.cv (.int .i64 0)),(.cv (.int .i64 0))] [(0,1),(1,1),(2,1)]) [.t 1,.t 3,.t 5],jm 5 6])
 (.seq (.seq (.region [jF 3 3,jl 0,jk 64 [.t 1,jn 0,jn 1440],jq .not [.t 2],jt 3,jg 4 false (.fadd 4) [.v 3],ji 4 false 5,jf 4 false 64 [.t 6,jn 0,jn 1440],jg 4 false .not [.t 7],jw 7 .pick [.t 4,jB true,.t 8]])
 (.cond 7 (.seq (.region [jz 4 7])
 .ret)
 .skip))
 (.seq (.seq (.region [jz 6 0])
 (.block 0 (.loop ic71l0)))
 (.seq (.seq (.region [jF 3 3,jl 0,jF 4 3,jl 2,jw 10 (.bin .geq .int) [.t 1,.t 3]])
 (.cond 10 (.seq (.region [jz 4 2])
 .ret)
 .skip))
 (.seq (.seq (.region [jF 5 3,jl 0,jF 0 2,jl 2,je 3,jq (.bin .sub .int) [.t 4,jn 1],jk 64 [.t 1,jn 0,.t 5],jq .not [.t 6],jt 7,jg 8 false (.fadd 6) [.v 3],ji 8 false 9,jg 8 false (.fadd 0) [.v 2],ji 8 false 11,jg 8 false (.len false) [.t 12],jg 8 false (.bin .sub .int) [.t 13,jn 1],jf 8 false 64 [.t 10,jn 0,.t 14],jg 8 false .not [.t 15],jw 11 .pick [.t 8,jB true,.t 16]])
 (.cond 11 (.seq (.region [jz 4 4])
 .ret)
 .skip))
 (.seq (.region [jz 4 0])
 .ret)))))))
abbrev rs71:List RC:=[(.v 4)]
theorem fok71 (p:Bool):FnOk Tryz.prog 71 ⟨ic71,vs71,57,rs71,p⟩:=.mk2 Tryz.func71 (by kernel_rfl) (by kernel_rfl) (by kernel_rfl) (by kernel_rfl) (by kernel_rfl)
abbrev vs82:List Nat:=[0,1,2,4,5,6,7,8,13,20,36]
def ic82l0:IC:=(.seq (.seq (.region [jv 7,jF 1 2,jl 1,je 2,jw 9 (.bin .lss .int) [.t 0,.t 3]])
 (.cond 9 .skip
 (.exit 2)))
 (.seq (.block 3 (.region [jv 6,jt 0,jg 1 false (.loadN 2) [.v 2],jh 1 false 7,jh 1 false 5,jf 1 false 51 [.t 2,.t 3,.t 4],jg 1 false .mv [.t 5],jh 6 true 1,jh 6 true 7,jf 6 true 43 [.t 7,.t 8],jg 6 true .not [.t 9],jg 1 false .pick [.t 6,.t 10,jB false],jq .pick [.t 1,jB true,.t 11],jm 6 12]))
 (.region [jv 7,jq (.bin .add .int) [.t 0,jn 1],jm 7 1])))
def ic82l1:IC:=(.seq (.seq (.region [jv 5,jF 1 2,jl 1,je 2,jw 8 (.bin .lss .int) [.t 0,.t 3]])
 (.cond 8 .skip
 (.exit 0)))
 (.seq (.block 1 (.seq (.region [jw 6 .mv [jB false]])
 (.seq (.seq (.region [jz 7 0])
 (.block 2 (.loop ic82l0)))
 (.seq (.region [jw 10 .mv [.v 6]])
 (.cond 10 (.region [jv 4,jv 5,jq (.bslice 1 1 [(.cv (.int .i64 0))] [(0,1)]) [.t 1],jq (.append 1 8) [.t 0,.t 2],jm 4 3])
 .skip)))))
 (.region [jv 5,jq (.bin .add .int) [.t 0,jn 1],jm 5 1])))
def ic82:IC:=(.seq (.region [jb 2 0,jw 3 .mv [jS]])
 (.seq (.region [jw 4 .mv [jS]])
 (.seq (.seq (.region [jz 5 0])
 (.block 0 (.loop ic82l1)))
 (.seq (.region [jv 4,jm 3 0])
 .ret))))
abbrev rs82:List RC:=[(.v 3)]
theorem fok82 (p:Bool):FnOk Tryz.prog 82 ⟨ic82,vs82,42,rs82,p⟩:=.mk2 Tryz.func82 (by kernel_rfl) (by kernel_rfl) (by kernel_rfl) (by kernel_rfl) (by kernel_rfl)
abbrev vs84:List Nat:=[0,2,3,4,6,11]
def ic84l0:IC:=(.seq (.seq (.region [jv 3,jw 4 (.bin .lss .int) [.t 0,jn 12]])
 (.cond 4 .skip
 (.exit 0)))
 (.seq (.block 1 (.seq (.region [jv 0,jv 3,jd 5 43 [.t 0,.t 1]])
 (.cond 5 (.region [jv 2,jv 3,jq (.bslice 1 1 [(.cv (.int .i64 0))] [(0,1)]) [.t 1],jq (.append 1 8) [.t 0,.t 2],jm 2 3])
 .skip)))
 (.region [jv 3,jq (.bin .add .int) [.t 0,jn 1],jm 3 1])))
def ic84:IC:=(.seq (.region [jw 1 .mv [jS]])
 (.seq (.region [jw 2 .mv [jS]])
 (.seq (.seq (.region [jz 3 0])
 (.block 0 (.loop ic84l0)))
 (.seq (.region [jv 2,jm 1 0])
 .ret))))
abbrev rs84:List RC:=[(.v 1)]
theorem fok84 (p:Bool):FnOk Tryz.prog 84 ⟨ic84,vs84,17,rs84,p⟩:=.mk2 Tryz.func84 (by kernel_rfl) (by kernel_rfl) (by kernel_rfl) (by kernel_rfl) (by kernel_rfl)
abbrev vs90:List Nat:=[0,1,2,4,5,9,21]
def ic90l0:IC:=(.seq (.seq (.region [jv 4,jv 1,je 1,jw 5 (.bin .lss .int) [.t 0,.t 2]])
 (.cond 5 .skip
 (.exit 0)))
 (.seq (.block 1 (.seq (.dr [[],[],[0,1],[2],[],[4],[5],[6],[3,7],[8]] [jv 1,jv 4,ja 1 0 1,jl 2,jF 1 2,jl 4,je 5,jq (.bin .sub .int) [.t 6,jn 1],jk 64 [.t 3,jn 0,.t 7],jw 6 .not [.t 8]])
 (.cond 6 (.seq (.region [jz 3 4])
 .ret)
 .skip)))
 (.region [jv 4,jq (.bin .add .int) [.t 0,jn 1],jm 4 1])))
def ic90:IC:=(.seq (.region [jb 2 0,jz 3 0])
 (.seq (.seq (.region [jz 4 0])
 (.block 0 (.loop ic90l0)))
 (.seq (.region [jz 3 0])
 .ret)))
abbrev rs90:List RC:=[(.v 3)]
theorem fok90 (p:Bool):FnOk Tryz.prog 90 ⟨ic90,vs90,22,rs90,p⟩:=.mk2 Tryz.func90 (by kernel_rfl) (by kernel_rfl) (by kernel_rfl) (by kernel_rfl) (by kernel_rfl)
abbrev vs91:List Nat:=[0,2,3,7,19]
def ic91l0:IC:=(.seq (.seq (.region [jv 2,jv 0,je 1,jw 3 (.bin .lss .int) [.t 0,.t 2]])
 (.cond 3 .skip
 (.exit 0)))
 (.seq (.block 1 (.seq (.dr [[],[],[0,1],[2],[],[],[5],[4,6],[7],[3,8]] [jv 0,jv 2,ja 1 0 1,jl 2,jv 0,jv 2,jq (.bin .sub .int) [.t 5,jn 1],ja 1 4 6,jl 7,jw 4 (.bin .leq .int) [.t 3,.t 8]])
 (.cond 4 (.seq (.region [jw 1 .mv [jB false]])
 .ret)
 .skip)))
 (.region [jv 2,jq (.bin .add .int) [.t 0,jn 1],jm 2 1])))
def ic91:IC:=(.seq (.region [jw 1 .mv [jB false]])
 (.seq (.seq (.region [jz 2 1])
 (.block 0 (.loop ic91l0)))
 (.seq (.region [jw 1 .mv [jB true]])
 .ret)))
abbrev rs91:List RC:=[(.v 1)]
theorem fok91 (p:Bool):FnOk Tryz.prog 91 ⟨ic91,vs91,20,rs91,p⟩:=.mk2 Tryz.func91 (by kernel_rfl) (by kernel_rfl) (by kernel_rfl) (by kernel_rfl) (by kernel_rfl)
abbrev vs92:List Nat:=[0,1,4,5,9,17]
def ic92l0:IC:=(.seq (.seq (.region [jv 3,jv 0,je 1,jw 4 (.bin .lss .int) [.t 0,.t 2]])
 (.cond 4 .skip
 (.exit 0)))
 (.seq (.block 1 (.seq (.region [jv 0,jv 3,ja 1 0 1,jl 2,jv 1,jw 5 (.bin .eql .int) [.t 3,.t 4]])
 (.cond 5 (.seq (.region [jw 2 .mv [jB true]])
 .ret)
 .skip)))
 (.region [jv 3,jq (.bin .add .int) [.t 0,jn 1],jm 3 1])))
def ic92:IC:=(.seq (.region [jw 2 .mv [jB false]])
 (.seq (.seq (.region [jz 3 0])
 (.block 0 (.loop ic92l0)))
 (.seq (.region [jw 2 .mv [jB false]])
 .ret)))
abbrev rs92:List RC:=[(.v 2)]
theorem fok92 (p:Bool):FnOk Tryz.prog 92 ⟨ic92,vs92,18,rs92,p⟩:=.mk2 Tryz.func92 (by kernel_rfl) (by kernel_rfl) (by kernel_rfl) (by kernel_rfl) (by kernel_rfl)
theorem accFrom_append {b:Nat} {σ:List AObj} {v:AV} {zs:List Int} (z:Int) (h:G9 b σ v zs) (hl:zs.length<2 ^ 40) :
  ∃ (v':AV) (σ':List AObj),ZX 1 8 [v,.sl σ.length 0 1 1] (σ++[AObj.cells [.i z]])=some (v',σ')∧G9 b σ' v' (zs++[z])∧∀ l,l<b→rowOf σ' l=rowOf σ l:=by
 have hsrc:Z9 (σ++[AObj.cells [.i z]]) 1 (.sl σ.length 0 1 1)=some [.i z]:=by simp[Z9,rowOf]
 have low:∀ l,l<b→rowOf (σ++[AObj.cells [.i z]]) l=rowOf σ l:=fun l hl=>by
  unfold rowOf;rw[QE (by have:=h.1;omega)]
 have hb:=h.1
 rcases h.2 with ⟨rfl,rfl⟩ | ⟨l,hbl,rfl,hr⟩
 ·refine ⟨.sl (σ++[AObj.cells [.i z]]).length 0 1 1,(σ++[AObj.cells [.i z]])++[AObj.cells [.i z]],?_,⟨by simp;omega,.inr ⟨(σ++[AObj.cells [.i z]]).length,by simp;omega,rfl,?_⟩⟩,fun l hl=>?_⟩
  ·simp only[ZX,hsrc,lenF,Option.bind_some]
   rfl
  ·rw[XH];rfl
  ·rw[← low l hl];unfold rowOf;rw[QE (by simp;omega)]
 ·have hr':=FU hr (AObj.cells [.i z])
  refine ⟨.sl (σ++[AObj.cells [.i z]]).length 0 (zs.length+1) 1,(σ++[AObj.cells [.i z]]).set l AObj.dead++[AObj.cells (zs.map AV.i++[.i z])],?_,⟨by simp;omega,.inr ⟨(σ++[AObj.cells [.i z]]).length,by simp;omega,by simp,?_⟩⟩,fun l' hl'=>?_⟩
  ·simp only[ZX,hr',hsrc,lenF,Option.bind_some]
   have hp:(2:Nat) ^ 40=1099511627776:=by decide
   have hp2:(2:Nat) ^ 44=17592186044416:=by decide
   have hc:(True∧zs.length*1≤(zs.map AV.i).length∧1*1=[AV.i z].length∧(zs.length+1)*8≤2 ^ 44∧zs.length+1≤2 ^ 44∧[AV.i z].all AV.isSc=true):=by
    refine ⟨trivial,by simp,rfl,by omega,by omega,rfl⟩
   rw[if_pos hc,W3,Q5 (by simp)]
  ·have:(σ++[AObj.cells [.i z]]).length=((σ++[AObj.cells [.i z]]).set l AObj.dead).length:=by simp
   rw[this,XH];simp
  ·rw[← low l' hl']
   have:rowOf ((σ++[AObj.cells [.i z]]).set l AObj.dead) l'=rowOf (σ++[AObj.cells [.i z]]) l':=QX (by omega) _
   rw[← this];unfold rowOf;rw[QE (by simp;omega)]
end Go.Proofs.YtgkidpolomhghaaGreatDoor.AM
namespace Go.Proofs.YtgkidpolomhghaaGreatDoor.AM
variable [Dr]
open Go
variable {P:Program} {fx:Fx} {s:St} {Q:Exit→St→Prop} {f:FuncId}
theorem WB.later {m:LM} {X:Nat→Prop} {en:En} {w:World} {c:Code} {s':St} {m':LM} {w':World} {ac':Act} (h:WB f P fx c s' Q) (hr:rok fx m) (hs':SRel fx m' X en s' ac' w') (hst:Step fx.n0 m X w m' w') :
  InF f (fen m fx.r) 0 P c (Lift fx m X en w Q) ac' w':=by
 rw[← EQ hr hst]
 exact InF.mono (h m' X en ac' w' hs' (EH hr hst)) fun e ac2 w2 ⟨s2,m2,h1,h2,h3⟩=>⟨s2,m2,h1,h2,hst.trans h3⟩
end Go.Proofs.YtgkidpolomhghaaGreatDoor.AM
namespace Go.Proofs.YtgkidpolomhghaaGreatDoor.AM
variable [Dr]
open Go Pl
theorem le64 (n lo hi:Int):PC Tryz.prog 64 [.i n,.i lo,.i hi] (.b (inB n lo hi)):=by
 refine ⟨ZF (fok64 true) (QC rfl) ?_,rfl⟩
 unfold inB
 by_cases h:n≥lo <;> simp only[ic64,h,evA,simprocAttr] <;> exact frz
theorem le51 (d:Dy) (hd:DyOk d) {i k:Nat} (hi:i<d.ls.length) (hk:k<d.ls.length):PC Tryz.prog 51 [dyV d,.i i,.i k] (.b (canB d i k)):=by
 obtain ⟨o,f,ho,hf,ho2,hf2,hw,hc⟩:=can_ar hd hi hk
 refine ⟨ZF (fok51 true) (QC rfl) ?_,rfl⟩
 rw[hc]
 have hl:=MR hi
 have hl2:=MR hk
 have ia:=F5 hi
 have ia2:=F5 hk
 generalize d.ls[i]! = a at *
 generalize d.ls[k]! = b at *
 obtain ⟨a1,a2,a3,a4,a5,a6,a7⟩:=a
 obtain ⟨b1,b2,b3,b4,b5,b6,b7⟩:=b
 simp only at ho hf hw hl hl2
 subst ho hf
 simp only[ic51,WI,cellsOf,evA,simprocAttr]
 refine DW_s [] [(1,10),(1,11),(4,10),(4,11),(6,10),(6,11),(6,12),(9,10),(9,11),(9,12),(10,11),(11,10)] hmix (by kernel_rfl) rfl ?_
 simp only[ia,ia2,hl,hl2,evA,simprocAttr]
 refine DW_s [] [] hmix (by kernel_rfl) rfl ?_
 simp only[XP ho2,W3,B7 ho2,J5 hf2,J4 hf2,WA,hw,evA,simprocAttr]
 exact frz
end Go.Proofs.YtgkidpolomhghaaGreatDoor.AM
namespace Go.Proofs.YtgkidpolomhghaaGreatDoor.AM
variable [Dr]
open Go Go.ChangeShapes Go.WideShapes Go.ChangeAt Go.RowKit
abbrev noO:Nat→Prop:=Own (fun _=>none) (fun _=>False)
theorem not_noO (b:Nat):¬ noO b:=by rintro (h | ⟨l,hl⟩);exact h;cases hl
theorem DG {α:Type} {Q:Nat→α→Prop}:∀ (n:Nat),(∀ i,i<n→∃ l,Q i l)→∃ L:List α,L.length=n∧∀ (i:Nat) (l:α),L[i]? = some l→Q i l
 | 0,_=>⟨[],rfl,by simp⟩
 | n+1,h=>by
  obtain ⟨L,h1,h2⟩:=DG n (fun i hi=>h i (by omega))
  obtain ⟨l,hl⟩:=h n (by omega)
  refine ⟨L++[l],by simp[h1],fun i l' hi=>?_⟩
  rcases ZB i n with hlt | hge
  ·rw[QE (by omega)] at hi;exact h2 i l' hi
  ·rw[QS (by omega),h1] at hi
   have:i=n:=by
    rcases ZB n i with h' | h'
    ·rw[QN (by simp;omega)] at hi;cases hi
    ·omega
   subst this
   simp at hi;subst hi;exact hl
theorem CJ {R:Nat→CV→Prop} {esz:Nat}:∀ (L:List (List CV)) (n:Nat),(∀ (i:Nat) (l:List CV),L[i]? = some l→l.length=esz∧∀ (j:Nat) (c:CV),l[j]? = some c→R (n+i*esz+j) c) →
  L.flatten.length=L.length*esz∧∀ (k:Nat) (c:CV),L.flatten[k]? = some c→R (n+k) c
 | [],n,_=>by simp
 | l::L,n,h=>by
  obtain ⟨h1,h2⟩:=h 0 l (by simp)
  have ih:=CJ L (n+esz) (fun i l' hi=>by
   obtain ⟨g1,g2⟩:=h (i+1) l' (by simpa using hi)
   refine ⟨g1,fun j c hj=>?_⟩
   have:=g2 j c hj
   rwa [WP,Nat.one_mul,← Nat.add_assoc,Nat.add_right_comm n] at this)
  refine ⟨by simp[h1,ih.1,WP,Nat.add_comm],fun k c hk=>?_⟩
  rw[List.flatten_cons] at hk
  rcases ZB k l.length with hlt | hge
  ·rw[QE hlt] at hk
   have:=h2 k c hk
   simpa using this
  ·rw[QS hge] at hk
   have:=ih.2 (k-l.length) c hk
   rwa [show n+esz+(k-l.length)=n+k by omega] at this
theorem A4 {P:Program} {R:Nat→CV→Prop} {N:Nat}:∀ (fs:List Field) (L:List (List CV)) (n:Nat),J8 P fs n=some N→L.length=fs.length →
  (∀ (i:Nat) (f:Field) (l:List CV),fs[i]? = some f→L[i]? = some l→l.length=P.cellsOf f.type∧∀ (j:Nat) (c:CV),l[j]? = some c→R (f.offset+j) c) →
  n+L.flatten.length=N∧∀ (k:Nat) (c:CV),L.flatten[k]? = some c→R (n+k) c
 | [],L,n,he,hl,_=>by
  have:L=[]:=ZT (by simpa using hl)
  subst this
  simp only[J8,Option.some.injEq] at he
  simp[he]
 | f::fs,[],n,_,hl,_=>by simp at hl
 | f::fs,l::L,n,he,hl,h=>by
  simp only[J8] at he
  split at he
  ·rename_i hoff
   obtain ⟨h1,h2⟩:=h 0 f l (by simp) (by simp)
   have ih:=A4 fs L (n+P.cellsOf f.type) he (by simpa using hl) (fun i f' l' hf hl'=>h (i+1) f' l' (by simpa using hf) (by simpa using hl'))
   refine ⟨by rw[← ih.1];simp[h1];omega,fun k c hk=>?_⟩
   rw[List.flatten_cons] at hk
   rcases ZB k l.length with hlt | hge
   ·rw[QE hlt] at hk
    have:=h2 k c hk
    rwa [hoff] at this
   ·rw[QS hge] at hk
    have:=ih.2 (k-l.length) c hk
    rwa [show n+P.cellsOf f.type+(k-l.length)=n+k by omega] at this
  ·cases he
theorem NT {W:World} {a:Addr}:∀ (cs:List CV) (i:Nat),(∀ (j:Nat) (c:CV),cs[j]? = some c→∃ v,W.cell? (a.add (i+j))=some v∧c.rep W noO v)→CV.reps W noO cs a i
 | [],_,_=>by simp[CV.reps]
 | c::cs,i,h=>by
  simp only[CV.reps]
  refine ⟨not_noO _,by simpa using h 0 c (by simp),NT cs (i+1) fun j c' hj=>?_⟩
  have:=h (j+1) c' (by simpa using hj)
  rwa [show i+(j+1)=i+1+j by omega] at this
section
variable {H:Type} {enc:TypeId × Value→H} {P:Program} {W:World}
theorem EW:∀ (n:Nat) (t:TypeId) (cs:List Value) (x:DataW H × List MemPlace) (fuel:Nat),TG P n t=true→DataW.trod enc P W 0 (fun _=>true) true fuel t cs=some x →
  ∃ cvs:List CV,Typed P t cvs∧cvs.length=cs.length∧∀ (i:Nat) (c:CV) (v:Value),cvs[i]? = some c→cs[i]? = some v→c.rep W noO v
 | 0,t,cs,x,fuel,ho,_=>by simp[TG] at ho
 | n + 1,t,cs,x,fuel,ho,h=>by
  simp only[TG] at ho
  split at ho
  ·rename_i ht
   obtain ⟨b,rfl,_⟩:=DataW.trod_bool ht h
   refine ⟨[.bool b],.bool ht b,rfl,fun i c v h1 h2=>?_⟩
   cases i with
   | zero=>simp at h1 h2;subst h1 h2;simp[CV.rep]
   | succ i=>simp at h1
  ·rename_i k ht
   obtain ⟨b,rfl,_,hw⟩:=DataW.trod_int ht h
   refine ⟨[.int k b],.int ht b hw,rfl,fun i c v h1 h2=>?_⟩
   cases i with
   | zero=>simp at h1 h2;subst h1 h2;simp[CV.rep]
   | succ i=>simp at h1
  ·rename_i ht
   obtain ⟨s,rfl,_,hw⟩:=DataW.trod_string ht h
   refine ⟨[.str s],.str ht s hw,rfl,fun i c v h1 h2=>?_⟩
   cases i with
   | zero=>simp at h1 h2;subst h1 h2;simp[CV.rep]
   | succ i=>simp at h1
  ·rename_i e ht
   rcases DataW.trod_slice ht h with ⟨rfl,_⟩ | ⟨a,len,cap,elems,rest,m,_,rfl,_,_,hlc,hcm,hel,hget,_⟩
   ·refine ⟨[.rsl [] 0],by simpa using Typed.slc ht [] (by simp) (by simp) (by simp),rfl,fun i c v h1 h2=>?_⟩
    cases i with
    | zero=>simp at h1 h2;subst h1 h2;simp[CV.rep]
    | succ i=>simp at h1
   ·obtain ⟨L,hL,hQ⟩:=DG (Q:=fun i l=>Typed P e l∧l.length=P.cellsOf e∧∀ (j:Nat) (c:CV),l[j]? = some c→∃ v,W.cell? (a.add (i*P.cellsOf e+j))=some v∧c.rep W noO v) len (fun i hi=>by
     have hg:=hget i hi
     rw[QI (by omega)] at hg
     obtain ⟨ci,h1,h2⟩:=QB.1 hg
     obtain ⟨_,hlen,hcell⟩:=World.cells?_some h1
     obtain ⟨cvs,g1,g2,g3⟩:=EW n e ci _ _ ho h2
     refine ⟨cvs,g1,by omega,fun j c hj=>?_⟩
     have hjl:j<cvs.length:=(QH.1 hj).1
     have hc:=hcell j (by omega)
     rw[QI (by omega)] at hc
     exact ⟨_,by rw[← Addr.add_add];exact hc,g3 j c _ hj (QI _)⟩)
    have hmem:∀ l∈L,∃ i:Nat,L[i]? = some l:=fun l hl=>List.mem_iff_getElem?.1 hl
    have hfl:=CJ (R:=fun k c=>∃ v,W.cell? (a.add k)=some v∧c.rep W noO v) (esz:=P.cellsOf e) L 0 (fun i l hi=>⟨(hQ i l hi).2.1,fun j c hj=>by simpa using (hQ i l hi).2.2 j c hj⟩)
    refine ⟨[.rsl L.flatten L.length],Typed.slc ht L (by omega) (fun l hl=>let ⟨i,hi⟩:=hmem l hl;(hQ i l hi).2.1) (fun l hl=>let ⟨i,hi⟩:=hmem l hl;(hQ i l hi).1),rfl,fun i c v h1 h2=>?_⟩
    cases i with
    | zero =>
     simp at h1 h2;subst h1 h2
     simp only[CV.rep]
     exact .inr ⟨a,cap,by rw[hL],by omega,NT _ 0 (fun j c hj=>hfl.2 j c hj)⟩
    | succ i=>simp at h1
  ·rename_i k e ht
   simp only[QD,decide_eq_true_eq] at ho
   obtain ⟨xs,m,_,_,hlen,hxs,hget⟩:=DataW.trod_array ht h
   obtain ⟨L,hL,hQ⟩:=DG (Q:=fun i l=>Typed P e l∧l.length=P.cellsOf e∧∀ (j:Nat) (c:CV),l[j]? = some c→∀ v,cs[i*P.cellsOf e+j]? = some v→c.rep W noO v) k (fun i hi=>by
     have hg:=hget i hi
     rw[QI (by omega)] at hg
     obtain ⟨cvs,g1,g2,g3⟩:=EW n e _ _ _ ho.1 hg
     have hik:i*P.cellsOf e+P.cellsOf e≤k*P.cellsOf e:=by
      have:=YQ (P.cellsOf e) (show i+1≤k by omega)
      rwa [WP,Nat.one_mul] at this
     have hl2:cvs.length=P.cellsOf e:=by rw[g2];simp;omega
     refine ⟨cvs,g1,hl2,fun j c hj v hv=>?_⟩
     have hjl:j<cvs.length:=(QH.1 hj).1
     exact g3 j c v hj (by rw[Z7,if_pos (by omega),X4];exact hv))
   have hmem:∀ l∈L,∃ i:Nat,L[i]? = some l:=fun l hl=>List.mem_iff_getElem?.1 hl
   have hfl:=CJ (R:=fun k c=>∀ v,cs[k]? = some v→c.rep W noO v) (esz:=P.cellsOf e) L 0 (fun i l hi=>⟨(hQ i l hi).2.1,fun j c hj=>by simpa using (hQ i l hi).2.2 j c hj⟩)
   exact ⟨L.flatten,Typed.arr ht L hL (fun l hl=>let ⟨i,hi⟩:=hmem l hl;(hQ i l hi).2.1) (fun l hl=>let ⟨i,hi⟩:=hmem l hl;(hQ i l hi).1),by rw[hfl.1,hlen,ho.2,hL],fun i c v h1 h2=>hfl.2 i c h1 v (by simpa using h2)⟩
  ·rename_i fs ht
   simp only[QD,decide_eq_true_eq,Q1] at ho
   obtain ⟨xs,m,_,_,hlen,hxs,hget⟩:=DataW.trod_struct ht h
   obtain ⟨L,hL,hQ⟩:=DG (Q:=fun i l=>∀ f,fs[i]? = some f→Typed P f.type l∧l.length=min (P.cellsOf f.type) (cs.length-f.offset)∧∀ (j:Nat) (c:CV),l[j]? = some c→∀ v,cs[f.offset+j]? = some v→c.rep W noO v) fs.size (fun i hi=>by
     have hfi:fs[i]? = some fs[i]:=Q7 hi
     have hg:=hget i fs[i] hfi
     rw[QI (by omega)] at hg
     obtain ⟨cvs,g1,g2,g3⟩:=EW n _ _ _ _ (ho.1 fs[i] (by simp)) hg
     have hl2:cvs.length=min (P.cellsOf fs[i].type) (cs.length-fs[i].offset):=by rw[g2];simp
     refine ⟨cvs,fun f hf=>?_⟩
     rw[hfi] at hf;cases hf
     refine ⟨g1,hl2,fun j c hj v hv=>?_⟩
     have hjl:j<cvs.length:=(QH.1 hj).1
     exact g3 j c v hj (by rw[Z7,if_pos (by omega),X4];exact hv))
   have hoff:∀ (fs:List Field) (n N:Nat),J8 P fs n=some N→n≤N∧∀ (i:Nat) (f:Field),fs[i]? = some f→f.offset+P.cellsOf f.type≤N:=by
    intro fs
    induction fs with
    | nil=>intro n N h;simp only[J8,Option.some.injEq] at h;simp[h]
    | cons f fs ih =>
     intro n N h
     simp only[J8] at h
     split at h
     ·rename_i ho
      obtain ⟨h1,h2⟩:=ih _ _ h
      refine ⟨by omega,fun i f' hi=>?_⟩
      cases i with
      | zero=>simp at hi;subst hi;omega
      | succ i=>exact h2 i f' (by simpa using hi)
     ·cases h
   have hin:=(hoff _ _ _ ho.2).2
   have hl:∀ (i:Nat) (f:Field) (l:List CV),fs[i]? = some f→L[i]? = some l→l.length=P.cellsOf f.type:=by
    intro i f l hf hl
    obtain ⟨_,h2,_⟩:=hQ i l hl f hf
    have:=hin i f (by simpa using hf)
    omega
   have hfl:=A4 (P:=P) (R:=fun k c=>∀ v,cs[k]? = some v→c.rep W noO v) fs.toList L 0 ho.2 (by simpa using hL) (fun i f l hf hl' =>
    ⟨hl i f l (by simpa using hf) hl',fun j c hj=>(hQ i l hl' f (by simpa using hf)).2.2 j c hj⟩)
   exact ⟨L.flatten,Typed.struct ht L hL hl (fun i f l hf hl'=>(hQ i l hl' f hf).1),by have:=hfl.1;omega,fun i c v h1 h2=>hfl.2 i c h1 v (by simpa using h2)⟩
  ·cases ho
theorem DV:∀ (cvs:List CV) (vs:List Value),cvs.length=vs.length→(∀ (i:Nat) (c:CV) (v:Value),cvs[i]? = some c→vs[i]? = some v→c.rep W noO v)→QK nom noX W (cvs.map .cv) vs
 | [],[],_,_=>by simp[QK]
 | c::cvs,v::vs,hl,h=>by
  simp only[Q0,QK,VRel]
  exact ⟨h 0 c v rfl rfl,DV cvs vs (by simpa using hl) fun i c v h1 h2=>h (i+1) c v (by simpa using h1) (by simpa using h2)⟩
 | [],_::_,hl,_=>by simp at hl
 | _::_,[],hl,_=>by simp at hl
theorem QfB {n:Nat} {t:TypeId} {v:Value} {d:DataW H} {ps:List MemPlace} {r:Reach} {base:Nat} (ho:TG P n t=true) (hval:Value.okWide P W r base t v) (h:DataW.Trod enc P W 0 (fun _=>true) true t v d ps) :
  ∃ cs,Typed P t cs∧VRel nom noX W (avOf P t cs) v:=by
 obtain ⟨fuel,h⟩:=h
 obtain ⟨cvs,h1,h2,h3⟩:=EW n t _ _ _ ho h
 refine ⟨cvs,h1,?_⟩
 unfold avOf
 have one:(v.cells.toList=[v])→VRel nom noX W (.cv (cvs.headD .nilp)) v:=by
  intro hv
  rw[hv] at h2 h3
  match cvs,h2 with
  | [c],_=>simp only[List.headD_cons,VRel];exact h3 0 c v rfl rfl
 cases n with
 | zero=>simp[TG] at ho
 | succ n =>
  simp only[TG] at ho
  split at ho
  ·rename_i ht;rw[ht];obtain ⟨b,rfl⟩:=okWide_bool ht hval;exact one rfl
  ·rename_i ht;rw[ht];obtain ⟨b,rfl⟩:=okWide_int ht hval;exact one rfl
  ·rename_i ht;rw[ht];obtain ⟨b,rfl⟩:=okWide_string ht hval;exact one rfl
  ·rename_i ht;rw[ht];obtain ⟨_,_,_,rfl⟩:=okWide_slice ht hval;exact one rfl
  ·rename_i ht;rw[ht]
   simp only[Value.okWide,ht] at hval
   obtain ⟨arr,rfl,_⟩:=hval
   simp only[VRel]
   exact ⟨arr.toList,by simp,DV _ _ h2 h3⟩
  ·rename_i ht;rw[ht]
   simp only[Value.okWide,ht] at hval
   obtain ⟨arr,rfl,_⟩:=hval
   simp only[VRel]
   exact ⟨arr.toList,by simp,DV _ _ h2 h3⟩
  ·cases ho
theorem LU (hl:laidOutB P=true) {W':World} (hb:Below W.heap.size W W'):∀ {ts:List TypeId} {vs:List Value} {ds:List (DataW H)} {ps:List MemPlace},(ts.all fun t=>P.readableRec t&&decide (t<P.types.size))=true →
  DataW.TrodAll enc P W 0 (fun _=>true) true ts vs ds ps→(∀ x∈ps,x.block<W.heap.size)→DataW.TrodAll enc P W' 0 (fun b=>decide (b<W.heap.size)) true ts vs ds ps
 | [],_,_,_,_,h,_=>by
  obtain ⟨rfl,rfl,rfl⟩:=trodAll_nil h
  exact trodAll_mk0
 | t::ts,_,_,_,ho,h,hlt=>by
  obtain ⟨v,vs1,d,ds1,a,b,rfl,rfl,rfl,h1,h2⟩:=trodAll_cons h
  simp only[List.all_cons,QD,decide_eq_true_eq] at ho
  refine trodAll_cons_mk (Below.trod hl ho.1.1 ho.1.2 h1 hb fun x hx=>hlt x (by simp[hx])) (LU hl hb ?_ h2 fun x hx=>hlt x (by simp[hx]))
  simpa using ho.2
end
end Go.Proofs.YtgkidpolomhghaaGreatDoor.AM
namespace Go.Proofs.YtgkidpolomhghaaGreatDoor.AM
variable [Dr]
open Go
theorem QeV {P:Program} {t:TypeId} {k:IntKind} {cs:List CV} (ht:P.underlying t=some (.int k)) (h:Typed P t cs):∃ n,cs=[.int k n]∧(Lit.int k n).wf=true:=by
 cases h with
 | int ht' n hw=>rw[ht] at ht';cases ht';exact ⟨n,rfl,hw⟩
 | bool ht'=>rw[ht] at ht';cases ht'
 | str ht'=>rw[ht] at ht';cases ht'
 | slc ht'=>rw[ht] at ht';cases ht'
 | arr ht'=>rw[ht] at ht';cases ht'
 | struct ht'=>rw[ht] at ht';cases ht'
theorem QeU {P:Program} {t e:TypeId} {cs:List CV} (ht:P.underlying t=some (.slice e)) (h:Typed P t cs):∃ L:List (List CV),cs=[.rsl L.flatten L.length]∧L.length≤maxLen∧(∀ l∈L,l.length=P.cellsOf e)∧∀ l∈L,Typed P e l:=by
 cases h with
 | slc ht' L hn hl h=>rw[ht] at ht';cases ht';exact ⟨L,rfl,hn,hl,h⟩
 | bool ht'=>rw[ht] at ht';cases ht'
 | int ht'=>rw[ht] at ht';cases ht'
 | str ht'=>rw[ht] at ht';cases ht'
 | arr ht'=>rw[ht] at ht';cases ht'
 | struct ht'=>rw[ht] at ht';cases ht'
theorem typed_struct {P:Program} {t:TypeId} {fs:Array Field} {cs:List CV} (ht:P.underlying t=some (.struct fs)) (h:Typed P t cs):∃ L:List (List CV),cs=L.flatten∧L.length=fs.size∧∀ (i:Nat) (f:Field) (l:List CV),fs[i]? = some f→L[i]? = some l→Typed P f.type l:=by
 cases h with
 | struct ht' L hn hl h=>rw[ht] at ht';cases ht';exact ⟨L,rfl,hn,h⟩
 | bool ht'=>rw[ht] at ht';cases ht'
 | int ht'=>rw[ht] at ht';cases ht'
 | str ht'=>rw[ht] at ht';cases ht'
 | slc ht'=>rw[ht] at ht';cases ht'
 | arr ht'=>rw[ht] at ht';cases ht'
theorem Qdi {P:Program} {e:TypeId} {k:IntKind} (he:P.underlying e=some (.int k)):∀ L:List (List CV),(∀ l∈L,Typed P e l)→∃ zs:List Int,L.flatten=zs.map (.int k)∧L.length=zs.length∧∀ z∈zs,(Lit.int k z).wf=true
 | [],_=>⟨[],rfl,rfl,by simp⟩
 | l::L,h=>by
  obtain ⟨n,rfl,hn⟩:=QeV he (h l (by simp))
  obtain ⟨zs,h1,h2,h3⟩:=Qdi he L fun l hl=>h l (by simp[hl])
  exact ⟨n::zs,by simp[h1],by simp[h2],by simpa using ⟨hn,h3⟩⟩
theorem typed_ints {P:Program} {t e:TypeId} {k:IntKind} {cs:List CV} (ht:P.underlying t=some (.slice e)) (he:P.underlying e=some (.int k)) (h:Typed P t cs):∃ zs:List Int,cs=[.rsl (zs.map (.int k)) zs.length]∧zs.length<2 ^ 63∧∀ z∈zs,(Lit.int k z).wf=true:=by
 obtain ⟨L,rfl,hn,_,hl⟩:=QeU ht h
 obtain ⟨zs,h1,h2,h3⟩:=Qdi he L hl
 refine ⟨zs,by rw[h1,h2],?_,h3⟩
 rw[← h2];unfold maxLen at hn;omega
theorem args_cons {P:Program} {t:TypeId} {ts:List TypeId} {avs:List AV} (h:Args P (t::ts) avs):∃ cs avs',avs=avOf P t cs::avs'∧Typed P t cs∧Args P ts avs':=by
 generalize hts:t::ts=u at h
 cases h with
 | nil=>cases hts
 | cons h1 h2=>cases hts;exact ⟨_,_,rfl,h1,h2⟩
theorem args_nil {P:Program} {avs:List AV} (h:Args P [] avs):avs=[]:=by
 generalize hts:([]:List TypeId)=u at h
 cases h with
 | nil=>rfl
 | cons h1 h2=>cases hts
abbrev vs5:List Nat:=[0,1,2,3,6,7,8,9,10,11,12,13,14,41]
def ic5:IC:=(.seq (.region [jb 3 0,jw 4 .mv [jB false]])
 (.seq (.region [jN 2 3,jk 30 [.t 0],jt 1,jx 0 2,jx 1 2,jx 2 2,jm 5 3,jm 6 4,jm 7 5])
 (.seq (.region [jN 2 3,jk 31 [.t 0],jt 1,jx 0 2,jx 1 2,jx 2 2,jm 8 3,jm 9 4,jm 10 5])
 (.seq (.seq (.region [jv 5,jv 8,jk 32 [.t 0,.t 1],jq .not [.t 2],jt 3,jh 4 false 6,jh 4 false 9,jf 4 false 32 [.t 5,.t 6],jg 4 false .not [.t 7],jq .pick [.t 4,jB true,.t 8],jt 9,jh 10 false 7,jh 10 false 10,jg 10 false (.bin .neq .int) [.t 11,.t 12],jw 13 .pick [.t 10,jB true,.t 13]])
 (.cond 13 (.seq (.region [jw 4 .mv [jB false]])
 .ret)
 .skip))
 (.seq (.region [jN 2 3,jv 1,jv 2,jk 33 [.t 0,.t 1,.t 2],jt 3,jx 0 4,jx 1 4,jm 11 5,jm 7 6])
 (.seq (.region [jN 2 3,jv 1,jv 2,jk 34 [.t 0,.t 1,.t 2],jt 3,jx 0 4,jx 1 4,jm 12 5,jm 10 6])
 (.seq (.region [jv 11,jv 12,jq (.bin .eql .int) [.t 0,.t 1],jt 2,jh 3 true 7,jh 3 true 10,jg 3 true (.bin .eql .int) [.t 4,.t 5],jq .pick [.t 3,.t 6,jB false],jt 7,jf 8 true 22 [],jq .pick [.t 8,.t 9,jB false],jm 4 10])
 .ret)))))))
abbrev rs5:List RC:=[(.v 4)]
theorem fok5 (p:Bool):FnOk Tryz.prog 5 ⟨ic5,vs5,67,rs5,p⟩:=.mk2 Tryz.func5 (by kernel_rfl) (by kernel_rfl) (by kernel_rfl) (by kernel_rfl) (by kernel_rfl)
end Go.Proofs.YtgkidpolomhghaaGreatDoor.AM
namespace Go.Proofs.YtgkidpolomhghaaGreatDoor.AM
open Go Pl
theorem typed_list {α:Type} {f:α→List CV} {p:α→Prop} {t:TypeId} (h:∀ cs,Typed Tryz.prog t cs→∃ x,cs=f x∧p x):∀ L:List (List CV),(∀ l∈L,Typed Tryz.prog t l)→∃ xs:List α,L.flatten=xs.flatMap f∧L.length=xs.length∧∀ x∈xs,p x
 | [],_=>⟨[],rfl,rfl,by simp⟩
 | l::L,hl=>by
  obtain ⟨x,h1,h2⟩:=h l (hl l (by simp))
  obtain ⟨xs,g1,g2,g3⟩:=typed_list h L fun l hh=>hl l (by simp[hh])
  exact ⟨x::xs,by simp[h1,g1],by simp[g2],by simpa using ⟨h2,g3⟩⟩
theorem get_of {α:Type} [Inhabited α] {p:α→Prop} {l:List α} (h:∀ x∈l,p x) (i:Nat) (hi:i<l.length):p l[i]! := by
 rw[getElem!_pos l i hi]
 exact h _ (Q2 hi)
theorem typed_i {cs:List CV} (h:Typed Tryz.prog 3 cs):∃ x:Int,cs=[.int .i64 x]:=by
 obtain ⟨n,rfl,_⟩:=QeV Tryz.underlying3 h
 exact ⟨n,rfl⟩
theorem typed_row {cs:List CV} (h:Typed Tryz.prog 23 cs):∃ zs:List Int,cs=[rowC zs]∧zs.length<2 ^ 63:=by
 obtain ⟨zs,h1,h2,_⟩:=typed_ints Tryz.underlying23 Tryz.underlying3 h
 exact ⟨zs,h1,h2⟩
theorem typed_les {cs:List CV} (h:Typed Tryz.prog 94 cs):∃ l:Les,cs=lesC l∧True:=by
 obtain ⟨L,rfl,hn,hf⟩:=typed_struct Tryz.underlying94 h
 match L,hn with
 | [a,b,c,d,e,f,g],_ =>
  obtain ⟨n1,rfl⟩:=typed_i (hf 0 _ a rfl rfl)
  obtain ⟨n2,rfl⟩:=typed_i (hf 1 _ b rfl rfl)
  obtain ⟨n3,rfl⟩:=typed_i (hf 2 _ c rfl rfl)
  obtain ⟨n4,rfl⟩:=typed_i (hf 3 _ d rfl rfl)
  obtain ⟨n5,rfl⟩:=typed_i (hf 4 _ e rfl rfl)
  obtain ⟨n6,rfl⟩:=typed_i (hf 5 _ f rfl rfl)
  obtain ⟨n7,rfl⟩:=typed_i (hf 6 _ g rfl rfl)
  exact ⟨⟨n1,n2,n3,n4,n5,n6,n7⟩,rfl,trivial⟩
theorem typed_dyc {cs:List CV} (h:Typed Tryz.prog 37 cs):∃ d:Dy,cs=[minR d.mi,lesR d.ls]∧DSz d:=by
 obtain ⟨L,rfl,hn,hf⟩:=typed_struct Tryz.underlying37 h
 match L,hn with
 | [a,b],_ =>
  obtain ⟨L1,rfl,n1,_,h1⟩:=QeU Tryz.underlying34 (hf 0 _ a rfl rfl)
  obtain ⟨L2,rfl,n2,_,h2⟩:=QeU Tryz.underlying35 (hf 1 _ b rfl rfl)
  obtain ⟨m,a1,a2,a3⟩:=typed_list (f:=fun zs:List Int=>[rowC zs]) (p:=fun zs=>zs.length<2 ^ 63) (fun cs h=>typed_row h) L1 h1
  obtain ⟨ls,b1,b2,_⟩:=typed_list (fun cs h=>typed_les h) L2 h2
  have hm:maxLen<2 ^ 63:=by decide
  refine ⟨⟨m,ls⟩,?_,⟨by show m.length<_;omega,by show ls.length<_;omega,get_of a3⟩⟩
  simp only[minR,lesR,F0,a1,b1,a2,b2,List.map_eq_flatMap,List.flatten_cons,List.flatten_nil,ZU,List.cons_append,List.nil_append]
theorem typed_day {cs:List CV} (h:Typed Tryz.prog 37 cs):∃ d:Dy,avOf Tryz.prog 37 cs=dyV d∧DSz d:=by
 obtain ⟨d,rfl,hd⟩:=typed_dyc h
 exact ⟨d,by simp only[avOf,Tryz.underlying37];rfl,hd⟩
theorem typed_need {cs:List CV} (h:Typed Tryz.prog 23 cs):∃ zs:List Int,avOf Tryz.prog 23 cs=ints zs∧zs.length<2 ^ 63:=by
 obtain ⟨zs,rfl,hz⟩:=typed_row h
 exact ⟨zs,by simp only[avOf,Tryz.underlying23];rfl,hz⟩
end Go.Proofs.YtgkidpolomhghaaGreatDoor.AM
namespace Go.Proofs.YtgkidpolomhghaaGreatDoor.AM
variable [Dr]
open Go Pl
structure TabAt (σ:List AObj) (b T size:Nat) (K:List (List Int)):Prop where
 out:rowOf σ b=some ((List.range T).map fun j=>AV.sl (b+1+j) 0 size 1)
 kl:K.length=T
 rows:∀ j,j<T→rowOf σ (b+1+j)=some ((K[j]?.getD []).map AV.i)∧(K[j]?.getD []).length=size
section
variable (can:Nat→Nat→Bool) (n:Nat)
variable {can n}
structure MemT (can:Nat→Nat→Bool) (n:Nat) (K:List (List Int)):Prop where
 kl:K.length=n
 rl:∀ j,j<n→(K[j]?.getD []).length=2 ^ n
 rt:∀ j,j<n→∀ S,S<2 ^ n→(K[j]?.getD [])[S]?.getD 0≥0→(K[j]?.getD [])[S]?.getD 0=(prF can n (n-j) j S.testBit:Int)
end
end Go.Proofs.YtgkidpolomhghaaGreatDoor.AM
namespace Go.Proofs.YtgkidpolomhghaaGreatDoor.AM
open Go Pl
theorem pow_bw {m:Nat} (h:m≤12):1≤(2:Int) ^ m∧(2:Int) ^ m≤4096:=by
 match m,h with
 | 0,_ | 1,_ | 2,_ | 3,_ | 4,_ | 5,_ | 6,_ | 7,_ | 8,_ | 9,_ | 10,_ | 11,_ | 12,_=>decide
theorem le83 (m:Nat) (hm:m≤12):PC Tryz.prog 83 [.i m] (.i (2 ^ m)):=by
 refine ⟨ZF (fok83 true) (QC rfl) ?_,rfl⟩
 simp only[ic83,evA,simprocAttr]
 refine ZW m (fun i s'=>∃ v4,s'=⟨[.i m,.i 0,.i (2 ^ i),.i i,v4],[]⟩) ?_ 0 (QF _) ⟨_,rfl⟩
 rintro i s' hi ⟨v4,rfl⟩
 by_cases h:i<m
 ·have hb:=pow_bw (show i≤12 by omega)
  have hw:IntKind.i64.wrap (2*2 ^ i)=2 ^ (i+1):=by rw[ZC (by omega),Int.pow_succ,Int.mul_comm]
  simp only[ic83l0,QJ,h,hw,Q6 (show i+1<2 ^ 63 by omega),evA,simprocAttr]
  exact ZL (by first | trivial | omega) ⟨_,rfl⟩
 ·have:i=m:=by omega
  subst this
  simp only[ic83l0,QJ,h,evA,simprocAttr]
  exact frz
theorem le43 (a:Nat) (h0:a<4096) (k:Nat) (hk:k≤12):PC Tryz.prog 43 [.i a,.i k] (.b (a.testBit k)):=by
 refine ⟨ZF (fok43 true) (QC rfl) ?_,rfl⟩
 have hb:=pow_bw hk
 have h0':0≤(a:Int):=by omega
 have hq:IntKind.i64.wrap ((a:Int).tdiv (2 ^ k))=(a:Int).tdiv (2 ^ k):=by
  rw[Int.tdiv_eq_ediv_of_nonneg h0']
  have h1:0≤(a:Int) / 2 ^ k:=Int.ediv_nonneg h0' (by omega)
  have h2:(a:Int) / 2 ^ k≤a:=Int.ediv_le_self _ h0'
  exact ZC (by omega)
 have hd:=bit_div (a:Int) h0' k
 have hne:¬ ((2:Int) ^ k=0):=by omega
 have hbt:bit (a:Int) k=a.testBit k:=rfl
 rw[hbt] at hd
 simp only[ic43,evA,simprocAttr]
 refine (le83 k hk).call frz ?_
 generalize (2:Int) ^ k=p at *
 have hx:binI .quo .i64 a p=some (.cv (.int .i64 ((a:Int).tdiv p))):=by
  unfold binI;rw[if_neg hne,hq]
 simp only[hne,hq,hd,evA,simprocAttr]
 exact frz
end Go.Proofs.YtgkidpolomhghaaGreatDoor.AM
namespace Go.Proofs.YtgkidpolomhghaaGreatDoor.AM
variable [Dr]
open Go Pl
theorem outF_alR {lo hi:Int} {zs:List Int} (h:∀ j,j<zs.length→inB (gI zs j) lo hi=true):outF lo hi zs=false:=by
 rw[VL]
 intro z hz
 obtain ⟨j,hj,rfl⟩:=WN.1 hz
 have:=VB.1 (h j hj)
 unfold gI at this
 rwa [QI hj] at this
theorem outF_exR {lo hi:Int} {zs:List Int} {j:Nat} (hj:j<zs.length) (h:inB (gI zs j) lo hi=false):outF lo hi zs=true:=by
 cases hh:outF lo hi zs with
 | true=>rfl
 | false =>
  rw[VB.2 (VL.1 hh _ (Qcs hj))] at h
  cases h
theorem outF_sgR {lo hi z:Int}:outF lo hi [z] = !inB z lo hi:=by
 cases h:inB z lo hi with
 | true =>
  refine outF_alR (zs:=[z]) fun j hj=>?_
  have:j=0:=by simpa using hj
  subst this;exact h
 | false=>exact outF_exR (zs:=[z]) (j:=0) (by simp) h
theorem outF_coR {lo hi z:Int} {zs:List Int}:outF lo hi (z::zs)=(!inB z lo hi||outF lo hi zs):=by
 rw[← outF_sgR]
 unfold outF
 simp
theorem le70 (d:Dy) (hd:DSz d) (i:Nat) (hi:i<d.mi.length):PC Tryz.prog 70 [dyV d,.i i] (.i (rowE d i)):=by
 refine ⟨ZF (fok70 true) (QC rfl) ?_,rfl⟩
 have hrow:=hd.row i hi
 unfold rowE
 simp only[ic70,WI,cellsOf,XP hi,W3,B7 hi,evA,simprocAttr]
 generalize d.mi[i]! = l at *
 by_cases h1:l.length=d.mi.length
 ·have hb:((l.length:Int) != d.mi.length)=false:=by rw[h1];simp
  rw[if_neg (fun h=>h h1)]
  simp only[hb,evA,simprocAttr]
  refine ZW l.length (fun k s=>(∀ j,j<k→inB (gI l j) 0 120=true)∧∃ v7 v8,s=⟨[dyV d,.i i,.ptr 0 0,.i 0,ints l,.i k,.b false,v7,v8,.undef],[.cells [.cv (minR d.mi),.cv (lesR d.ls)]]⟩) ?_ 0 (QF _) ⟨by omega,_,_,rfl⟩
  rintro k s hk ⟨hall,v7,v8,rfl⟩
  by_cases h:k<l.length
  ·simp only[ic70l0,QJ,h,J5 h,J4 h,evA,simprocAttr]
   refine (le64 _ 0 120).call frz ?_
   cases hin:inB (gI l k) 0 120 with
   | true =>
    have hin2:inB (l[k]?.getD 0) 0 120=true:=hin
    simp only[hin2,Q6 (show k+1<2 ^ 63 by omega),evA,simprocAttr]
    refine ZL (by first | trivial | omega) ⟨fun j hj=>?_,_,_,rfl⟩
    rcases QQ.1 hj with hj | rfl
    ·exact hall j hj
    ·exact hin
   | false =>
    have hin2:inB (l[k]?.getD 0) 0 120=false:=hin
    rw[outF_exR h hin]
    simp only[hin2,evA,simprocAttr]
    exact frz
  ·have hke:k=l.length:=by omega
   subst hke
   rw[outF_alR hall]
   have hil:i<l.length:=by omega
   simp only[ic70l0,QJ,h,J5 hil,J4 hil,evA,simprocAttr]
   by_cases h2:gI l i=0
   ·have hb2:(l[i]?.getD 0 != 0)=false:=by simpa using h2
    simp only[hb2,h2,ne_eq,not_true,evA,simprocAttr]
    exact frz
   ·have hb2:(l[i]?.getD 0 != 0)=true:=by simpa using h2
    simp only[hb2,h2,ne_eq,not_false_eq_true,evA,simprocAttr]
    exact frz
 ·have hb:((l.length:Int) != d.mi.length)=true:=by simp;omega
  rw[if_pos h1]
  simp only[hb,evA,simprocAttr]
  exact frz
theorem le71 (d:Dy) (hd:DSz d) (l:Les):PC Tryz.prog 71 [dyV d,lesA l] (.i (lesE d l)):=by
 refine ⟨ZF (fok71 true) (QC rfl) ?_,rfl⟩
 have h63:=hd.mi
 unfold lesE
 have hw:IntKind.i64.wrap ((d.mi.length:Int)-1)=(d.mi.length:Int)-1:=ZC (by omega)
 obtain ⟨le,te,ca,b,e,f,o⟩:=l
 have e1:outF 0 1440 [b,e]=(!inB b 0 1440 || !inB e 0 1440):=by rw[outF_coR,outF_sgR]
 have e2:outF 0 ((d.mi.length:Int)-1) [f,o]=(!inB f 0 ((d.mi.length:Int)-1) || !inB o 0 ((d.mi.length:Int)-1)):=by rw[outF_coR,outF_sgR]
 simp only
 rw[e1,e2]
 clear e1 e2
 simp only[ic71,WI,cellsOf,evA,simprocAttr]
 refine (le64 b 0 1440).call frz ?_
 cases h1:inB b 0 1440 with
 | false =>
  simp only[h1,US,evA,simprocAttr]
  exact frz
 | true =>
 simp only[h1,Y3,evA,simprocAttr]
 refine (le64 e 0 1440).call frz ?_
 cases h2:inB e 0 1440 with
 | false =>
  simp only[h2,US,evA,simprocAttr]
  exact frz
 | true =>
 simp only[h2,Y3,evA,simprocAttr]
 rw[show [AV.i le,.i te,.i ca]=[le,te,ca].map AV.i from rfl]
 generalize hzs:[le,te,ca]=zs
 have hz3:zs.length=3:=by rw[← hzs];rfl
 refine ZW 3 (fun k s=>(∀ j,j<k→inB (gI zs j) 0 7=true)∧∃ v8 v9,s=⟨[dyV d,lesA ⟨le,te,ca,b,e,f,o⟩,.ptr 0 0,.ptr 1 0,.i 0,.sl 2 0 3 1,.i k,.b false,v8,v9,.undef,.undef],[.cells [.cv (minR d.mi),.cv (lesR d.ls)],.cells [.i le,.i te,.i ca,.i b,.i e,.i f,.i o],.cells (zs.map AV.i)]⟩) ?_ 0 (QF _) ⟨by omega,_,_,rfl⟩
 rintro k s hk ⟨hall,v8,v9,rfl⟩
 by_cases h:k<3
 ·have hkz:k<zs.length:=by omega
  have hd3:decide ((k:Int)<3)=true:=decide_eq_true (by omega)
  simp only[ic71l0,hd3,W9 h,ZV,V1 hkz,evA,simprocAttr]
  refine (le64 _ 0 7).call frz ?_
  cases hin:inB (gI zs k) 0 7 with
  | true =>
   have hin2:inB (zs[k]?.getD 0) 0 7=true:=hin
   simp only[hin2,Q6 (show k+1<2 ^ 63 by omega),evA,simprocAttr]
   refine ZL (by first | trivial | omega) ⟨fun j hj=>?_,_,_,rfl⟩
   rcases QQ.1 hj with hj | rfl
   ·exact hall j hj
   ·exact hin
  | false =>
   have hin2:inB (zs[k]?.getD 0) 0 7=false:=hin
   rw[outF_exR hkz hin]
   simp only[hin2,evA,simprocAttr]
   exact frz
 ·have hke:k=3:=by omega
  subst hke
  rw[outF_alR (by rw[hz3];exact hall)]
  simp only[ic71l0,evA,simprocAttr]
  by_cases h3:b≥e
  ·simp only[h3,evA,simprocAttr]
   exact frz
  ·simp only[h3,hw,evA,simprocAttr]
   refine (le64 f 0 _).call frz ?_
   cases h4:inB f 0 ((d.mi.length:Int)-1) with
   | false =>
    simp only[h4,US,evA,simprocAttr]
    exact frz
   | true =>
    simp only[h4,hw,Y3,evA,simprocAttr]
    refine (le64 o 0 _).call frz ?_
    cases h5:inB o 0 ((d.mi.length:Int)-1) with
    | false =>
     simp only[h5,evA,simprocAttr]
     exact frz
    | true =>
     simp only[h5,evA,simprocAttr]
     exact frz
theorem le24 (d:Dy) (hd:DSz d):PC Tryz.prog 24 [dyV d] (chkA d):=by
 refine ⟨ZF (fok24 true) (QC rfl) ?_,rfl⟩
 simp only[ic24,WI,cellsOf,evA,simprocAttr]
 refine (le64 (d.mi.length:Int) 1 16).call frz ?_
 unfold chkA dyE
 rw[outF_sgR]
 cases h1:inB (d.mi.length:Int) 1 16 with
 | false =>
  simp only[h1,US,evA,simprocAttr]
  exact frz
 | true =>
 cases h2:decide ((d.ls.length:Int)>12) with
 | true =>
  simp only[h1,Y3,h2,evA,simprocAttr]
  exact frz
 | false =>
 simp only[h1,Y3,h2,evA,simprocAttr]
 have hm63:=hd.mi
 have hl63:=hd.ls
 refine ZW d.mi.length (fun k s=>(∀ j,j<k→rowE d j=0)∧∃ v6 v10 v11,s=⟨[dyV d,.ptr 0 0,.i 0,.i 0,.i 0,.i k,v6,.undef,.undef,.b false,v10,v11,.undef,.undef],[.cells [.cv (minR d.mi),.cv (lesR d.ls)]]⟩) ?_ 0 (QF _) ⟨by omega,_,_,_,rfl⟩
 rintro k s hk ⟨hall,v6,v10,v11,rfl⟩
 by_cases h:k<d.mi.length
 ·simp only[ic24l1,QJ,h,evA,simprocAttr]
  refine (le70 d hd k h).call frz ?_
  by_cases h0:rowE d k=0
  ·have hb:(rowE d k != 0)=false:=by simpa using h0
   simp only[hb,Q6 (show k+1<2 ^ 63 by omega),evA,simprocAttr]
   refine ZL (by first | trivial | omega) ⟨fun j hj=>?_,_,_,_,rfl⟩
   rcases QQ.1 hj with hj | rfl
   ·exact hall j hj
   ·exact h0
  ·have hb:(rowE d k != 0)=true:=by simpa using h0
   rw[VO d.mi.length 0 k (QF _) (by omega) (fun j _ hj=>hall j hj) h0]
   simp only[hb,h0,ne_eq,not_false_eq_true,evA,simprocAttr]
   exact frz
 ·have hke:k=d.mi.length:=by omega
  subst hke
  rw[J7 d.mi.length 0 fun j _ hj=>hall j (by omega)]
  simp only[ic24l1,QJ,h,ne_eq,not_true,evA,simprocAttr]
  refine ZW d.ls.length (fun k s=>(∀ j,j<k→lesE d d.ls[j]! = 0)∧∃ v8 v12 v13,s=⟨[dyV d,.ptr 0 0,.i 0,.i 0,.i 0,.i d.mi.length,v6,.i k,v8,.b false,.b false,v11,v12,v13],[.cells [.cv (minR d.mi),.cv (lesR d.ls)]]⟩) ?_ 0 (QF _) ⟨by omega,_,_,_,rfl⟩
  clear h hk hall
  rintro k s hk ⟨hall,v8,v12,v13,rfl⟩
  by_cases h:k<d.ls.length
  ·simp only[ic24l0,QJ,h,evA,simprocAttr]
   refine DW_s [6] [] hmix (by kernel_rfl) rfl ?_
   simp only[F5 h,Qcl h,evA,simprocAttr]
   refine YE ((le71 d hd d.ls[k]!).call frz ⟨rfl,rfl⟩) rfl ?_
   simp only[evA,simprocAttr]
   by_cases h0:lesE d d.ls[k]! = 0
   ·have hb:(lesE d d.ls[k]! != 0)=false:=by simpa using h0
    simp only[hb,Q6 (show k+1<2 ^ 63 by omega),evA,simprocAttr]
    refine ZL (by first | trivial | omega) ⟨fun j hj=>?_,_,_,_,rfl⟩
    rcases QQ.1 hj with hj | rfl
    ·exact hall j hj
    ·exact h0
   ·have hb:(lesE d d.ls[k]! != 0)=true:=by simpa using h0
    rw[VO d.ls.length 0 k (QF _) (by omega) (fun j _ hj=>hall j hj) h0]
    simp only[hb,h0,ne_eq,not_false_eq_true,evA,simprocAttr]
    exact frz
  ·have hke:k=d.ls.length:=by omega
   subst hke
   rw[J7 d.ls.length 0 fun j _ hj=>hall j (by omega)]
   simp only[ic24l0,QJ,h,ne_eq,not_true,evA,simprocAttr]
   exact frz
end Go.Proofs.YtgkidpolomhghaaGreatDoor.AM
namespace Go.Proofs.YtgkidpolomhghaaGreatDoor.AM
open Go Pl
theorem le84 (S:Nat) (hS:S<4096):PC Tryz.prog 84 [.i S] (ints (Pl.YS 12 S.testBit)):=by
 refine ⟨ZF (fok84 true) (QC rfl) ?_,rfl⟩
 simp only[ic84,evA,simprocAttr]
 refine ZW 12 (fun k s=>∃ v2 v4 v5 H,SB H v2 (Pl.YS k S.testBit)∧s=⟨[.i S,.cv .nils,v2,.i k,v4,v5],H⟩) ?_ 0 (QF _) ⟨_,_,_,_,.nil _,rfl⟩
 rintro k s hk ⟨v2,v4,v5,H,hA,rfl⟩
 by_cases h:k<12
 ·have hd:decide ((k:Int)<12)=true:=decide_eq_true (by omega)
  have hw:=Q6 (show k+1<2 ^ 63 by omega)
  have hsu:=ET S.testBit k
  have hbl:(Pl.YS k S.testBit).length≤k:=M7
  have h40:(2:Nat) ^ 40=1099511627776:=by decide
  simp only[ic84l0,hd,evA,simprocAttr]
  refine (le43 S hS k (by omega)).call frz ?_
  cases hb:S.testBit k
  ·simp only[hw,evA,simprocAttr]
   exact ZL (by first | trivial | omega) ⟨_,_,_,_,by rw[hsu,hb];simpa using hA,rfl⟩
  ·obtain ⟨v',σ',g1,g2⟩:=QdK (k:Int) hA (by omega)
   simp only[g1,hw,evA,simprocAttr]
   exact ZL (by first | trivial | omega) ⟨_,_,_,_,by rw[hsu,hb];exact g2,rfl⟩
 ·have:k=12:=by omega
  subst this
  have hd:decide (((12:Nat):Int)<12)=false:=by decide
  simp only[ic84l0,hd,evA,simprocAttr]
  exact acc_frz (fun _=>trivial) hA
theorem one_row {c0:List AV} {J H:List AObj} (h:∀ l,l<1→rowOf H l=rowOf (AObj.cells c0::J) l):∃ I,H=AObj.cells c0::I:=by
 have h0:=WO ((h 0 (by omega)).trans rfl)
 match H,h0 with
 | x::I,h0 =>
  injection h0 with h0
  exact ⟨I,by rw[h0]⟩
def ndI (d:Dy) (S k i:Nat):Bool:=(List.range i).any fun j=>canB d j k && !S.testBit j
theorem ndI_succ (d:Dy) (S k i:Nat):ndI d S k (i+1)=(ndI d S k i||canB d i k && !S.testBit i):=by simp[ndI,WM]
theorem le82 (d:Dy) (hd:DyOk d) (S:Nat) (hS:S<4096):PC Tryz.prog 82 [dyV d,.i S] (ints (Pl.YS d.ls.length (L0 (canB d) d.ls.length (S:Nat)))):=by
 have h12:=hd.l12
 have h40:(2:Nat) ^ 40=1099511627776:=by decide
 have hnd:L0 (canB d) d.ls.length (S:Nat)=fun k=>ndI d S k d.ls.length:=rfl
 rw[hnd]
 refine ⟨ZF (fok82 true) (QC rfl) ?_,rfl⟩
 simp only[ic82,WI,cellsOf,evA,simprocAttr]
 refine ZW d.ls.length (fun k s=>∃ v4 v6 v7 v8 v9 v10 J,G9 1 (AObj.cells [.cv (minR d.mi),.cv (lesR d.ls)]::J) v4 (Pl.YS k fun k=>ndI d S k d.ls.length)∧s=⟨[dyV d,.i S,.ptr 0 0,.cv .nils,v4,.i k,v6,v7,v8,v9,v10],.cells [.cv (minR d.mi),.cv (lesR d.ls)]::J⟩) ?_ 0 (QF _) ⟨_,_,_,_,_,_,[],.nil (by simp),rfl⟩
 rintro k s hk ⟨v4,v6,v7,v8,v9,v10,J,hA,rfl⟩
 by_cases h:k<d.ls.length
 rotate_left
 ·have hke:k=d.ls.length:=by omega
  subst hke
  simp only[ic82l1,QJ,h,evA,simprocAttr]
  exact acc_frz (fun _=>trivial) hA.acc
 have hw:=Q6 (show k+1<2 ^ 63 by omega)
 have hsu:=ET (fun k=>ndI d S k d.ls.length) k
 have hbl:(Pl.YS k fun k=>ndI d S k d.ls.length).length≤k:=M7
 have hn0:ndI d S k 0=false:=rfl
 simp only[ic82l1,QJ,h,evA,simprocAttr]
 refine ZW d.ls.length (fun i s=>∃ v9,s=⟨[dyV d,.i S,.ptr 0 0,.cv .nils,v4,.i k,.b (ndI d S k i),.i i,.b true,v9,v10],.cells [.cv (minR d.mi),.cv (lesR d.ls)]::J⟩) ?_ 0 (QF _) ⟨_,by rw[hn0];rfl⟩
 rintro i s hi ⟨v9,rfl⟩
 by_cases hil:i<d.ls.length
 ·have hwi:=Q6 (show i+1<2 ^ 63 by omega)
  have hs2:=ndI_succ d S k i
  simp only[ic82l0,QJ,hil,evA,simprocAttr]
  cases hn:ndI d S k i
  ·simp only[evA,simprocAttr]
   refine (le51 d hd hil h).call frz ?_
   rw[hn] at hs2
   cases hc:canB d i k
   ·rw[hc] at hs2
    simp only[hwi,evA,simprocAttr]
    exact ZL (by first | trivial | omega) ⟨_,by rw[hs2];rfl⟩
   ·rw[hc] at hs2
    simp only[evA,simprocAttr]
    refine (le43 S hS i (by omega)).call frz ?_
    simp only[hwi,evA,simprocAttr]
    exact ZL (by first | trivial | omega) ⟨_,by rw[hs2];rfl⟩
  ·rw[hn] at hs2
   simp only[hwi,evA,simprocAttr]
   exact ZL (by first | trivial | omega) ⟨_,by rw[hs2];rfl⟩
 ·have hie:i=d.ls.length:=by omega
  subst hie
  simp only[ic82l0,QJ,hil,evA,simprocAttr]
  cases hn:ndI d S k d.ls.length
  ·simp only[hw,evA,simprocAttr]
   exact ZL (by first | trivial | omega) ⟨_,_,_,_,_,_,J,by rw[hsu,hn];simpa using hA,rfl⟩
  ·obtain ⟨v',σ',g1,g2,g3⟩:=accFrom_append (k:Int) hA (by omega)
   obtain ⟨I,rfl⟩:=one_row g3
   simp only[List.length_cons,List.cons_append] at g1
   simp only[g1,hw,evA,simprocAttr]
   exact ZL (by first | trivial | omega) ⟨_,_,_,_,_,_,I,by rw[hsu,hn];exact g2,rfl⟩
theorem le90 (d:Dy) (h12:d.ls.length≤12) (zs:List Int) (hz:zs.length<2 ^ 63):PC Tryz.prog 90 [dyV d,ints zs] (.i (if outF 0 ((d.ls.length:Int)-1) zs=true then 4 else 0)):=by
 have hwn:IntKind.i64.wrap ((d.ls.length:Int)-1)=(d.ls.length:Int)-1:=ZC (by omega)
 refine ⟨ZF (fok90 true) (QC rfl) ?_,by split <;> rfl⟩
 simp only[ic90,WI,cellsOf,evA,simprocAttr]
 refine ZW zs.length (fun i s=>(∀ j,j<i→inB (gI zs j) 0 ((d.ls.length:Int)-1)=true)∧∃ v5 v6,s=⟨[dyV d,ints zs,.ptr 0 0,.i 0,.i i,v5,v6],[.cells [.cv (minR d.mi),.cv (lesR d.ls)]]⟩) ?_ 0 (QF _) ⟨fun j h=>absurd h (W5 _),_,_,rfl⟩
 rintro i s hi ⟨hall,v5,v6,rfl⟩
 by_cases h:i<zs.length
 ·simp only[ic90l0,QJ,h,evA,simprocAttr]
  refine DW_s [8] [] hmix (by kernel_rfl) rfl ?_
  simp only[J5 h,J4 h,WA,hwn,evA,simprocAttr]
  refine YE ((le64 (gI zs i) 0 ((d.ls.length:Int)-1)).call frz ⟨rfl,rfl⟩) rfl ?_
  cases hb:inB (gI zs i) 0 ((d.ls.length:Int)-1)
  ·rw[if_pos (outF_exR h hb)]
   simp only[evA,simprocAttr]
   exact frz
  ·simp only[Q6 (show i+1<2 ^ 63 by omega),evA,simprocAttr]
   refine ZL (by first | trivial | omega) ⟨fun j hj=>?_,_,_,rfl⟩
   rcases QQ.1 hj with hj | rfl
   ·exact hall j hj
   ·exact hb
 ·have hie:i=zs.length:=by omega
  subst hie
  rw[if_neg (by rw[outF_alR hall];decide)]
  simp only[ic90l0,QJ,h,evA,simprocAttr]
  exact frz
theorem le91 (zs:List Int) (hz:zs.length<2 ^ 62):PC Tryz.prog 91 [ints zs] (.b (HT zs)):=by
 have e62:(2:Nat) ^ 62=4611686018427387904:=by decide
 refine ⟨ZF (fok91 true) (QC rfl) ?_,rfl⟩
 simp only[ic91,evA,simprocAttr]
 refine ZW zs.length (fun i s=>(∀ j,j<i→j+1<zs.length→gI zs j<gI zs (j+1))∧∃ v3 v4,s=⟨[ints zs,.b false,.i (i+1:Nat),v3,v4],[]⟩) ?_ 0 (QF _) ⟨fun j h=>absurd h (W5 _),_,_,rfl⟩
 rintro i s hi ⟨hall,v3,v4,rfl⟩
 by_cases h:i+1<zs.length
 ·have hi2:i<zs.length:=by omega
  have hlt:decide (((i+1:Nat):Int)<(zs.length:Int))=true:=decide_eq_true (by omega)
  have hws:IntKind.i64.wrap (((i+1:Nat):Int)-1)=(i:Int):=by rw[ZC (by omega)];omega
  have hwi:IntKind.i64.wrap (((i+1:Nat):Int)+1)=((i+1+1:Nat):Int):=by rw[ZC (by omega)];rfl
  simp only[ic91l0,hlt,evA,simprocAttr]
  refine DW_s [] [] hmix (by kernel_rfl) rfl ?_
  simp only[J5 h,J4 h,J5 hi2,J4 hi2,WA,hws,evA,simprocAttr]
  by_cases hle:gI zs (i+1)≤gI zs i
  ·have hd:decide (zs[i+1]?.getD 0≤zs[i]?.getD 0)=true:=decide_eq_true hle
   have hr:HT zs=false:=by
    cases hr:HT zs with
    | false=>rfl
    | true=>have:=BW.1 hr i h;omega
   rw[hr]
   simp only[hd,evA,simprocAttr]
   exact frz
  ·have hd:decide (zs[i+1]?.getD 0≤zs[i]?.getD 0)=false:=decide_eq_false hle
   simp only[hd,hwi,evA,simprocAttr]
   refine ZL (by omega) ⟨fun j hj hj2=>?_,_,_,rfl⟩
   rcases QQ.1 hj with hj | rfl
   ·exact hall j hj hj2
   ·omega
 ·have hlt:decide (((i+1:Nat):Int)<(zs.length:Int))=false:=decide_eq_false (by omega)
  have hr:HT zs=true:=BW.2 fun j hj=>hall j (by omega) hj
  rw[hr]
  simp only[ic91l0,hlt,evA,simprocAttr]
  exact frz
theorem le92 (zs:List Int) (z:Int) (hz:zs.length<2 ^ 63):PC Tryz.prog 92 [ints zs,.i z] (.b (zs.contains z)):=by
 refine ⟨ZF (fok92 true) (QC rfl) ?_,rfl⟩
 simp only[ic92,evA,simprocAttr]
 refine ZW zs.length (fun i s=>(∀ j,j<i→gI zs j≠z)∧∃ v4 v5,s=⟨[ints zs,.i z,.b false,.i i,v4,v5],[]⟩) ?_ 0 (QF _) ⟨fun j h=>absurd h (W5 _),_,_,rfl⟩
 rintro i s hi ⟨hall,v4,v5,rfl⟩
 by_cases h:i<zs.length
 ·simp only[ic92l0,QJ,h,J5 h,J4 h,WA,evA,simprocAttr]
  by_cases he:gI zs i=z
  ·have hd:(zs[i]?.getD 0 == z)=true:=beq_iff_eq.2 he
   have hr:zs.contains z=true:=by
    rw[XS,← he]
    exact Qcs h
   rw[hr]
   simp only[hd,evA,simprocAttr]
   exact frz
  ·have hd:(zs[i]?.getD 0 == z)=false:=beq_eq_false_iff_ne.2 he
   simp only[hd,Q6 (show i+1<2 ^ 63 by omega),evA,simprocAttr]
   refine ZL (by first | trivial | omega) ⟨fun j hj=>?_,_,_,rfl⟩
   rcases QQ.1 hj with hj | rfl
   ·exact hall j hj
   ·exact he
 ·have hie:i=zs.length:=by omega
  subst hie
  have hr:zs.contains z=false:=by
   cases hr:zs.contains z with
   | false=>rfl
   | true =>
    rw[XS] at hr
    obtain ⟨j,hj,e⟩:=WN.1 hr
    have:=hall j hj
    unfold gI at this
    rw[QI hj] at this
    exact absurd e this
  rw[hr]
  simp only[ic92l0,QJ,h,evA,simprocAttr]
  exact frz
def opK (d:Dy) (p q:List Int) (i k:Nat):Bool:=(List.range k).any fun k=>canB d i k && !p.contains (i:Int) && !q.contains (k:Int)
def opI (d:Dy) (p q:List Int) (i:Nat):Bool:=(List.range i).any fun i=>opK d p q i d.ls.length
theorem opK_succ (d:Dy) (p q:List Int) (i k:Nat):opK d p q i (k+1)=(opK d p q i k||canB d i k && !p.contains (i:Int) && !q.contains (k:Int)):=by simp[opK,WM]
theorem opI_succ (d:Dy) (p q:List Int) (i:Nat):opI d p q (i+1)=(opI d p q i||opK d p q i d.ls.length):=by simp[opI,WM]
theorem opI_open (d:Dy) (p q:List Int):opI d p q d.ls.length=openB d p q:=rfl
def eOf (b:Bool):Int:=if b=true then 2 else 0
theorem opI_mono {d:Dy} {p q:List Int} {i n:Nat} (h:i≤n) (ho:opI d p q i=true):opI d p q n=true:=by
 unfold opI at ho ⊢
 rw[ZZ] at ho ⊢
 obtain ⟨j,hj,e⟩:=ho
 exact ⟨j,ZI.2 (by have:=ZI.1 hj;omega),e⟩
theorem lp34 {Q:Exit→St→Prop} (d:Dy) (hd:DyOk d) (p q:List Int) (lp:p.length<2 ^ 63) (lq:q.length<2 ^ 63) (v9 v10 v11:AV)
  (hend:∀ v7 v8 v12 v13 v14,Q (.exit 0) ⟨[dyV d,ints p,ints q,.ptr 0 0,.i 0,.i 0,.i (eOf (openB d p q)),v7,v8,v9,v10,v11,v12,v13,v14,.undef],[.cells [.cv (minR d.mi),.cv (lesR d.ls)]]⟩) :
  IL Tryz.prog ⟨vs34,88,none,0⟩ ic34l1 ⟨[dyV d,ints p,ints q,.ptr 0 0,.i 0,.i 0,.i 0,.i 0,.undef,v9,v10,v11,.undef,.undef,.undef,.undef],[.cells [.cv (minR d.mi),.cv (lesR d.ls)]]⟩ Q:=by
 have h12:=hd.l12
 refine ZW d.ls.length (fun i s=>∃ v8 v12 v13 v14,s=⟨[dyV d,ints p,ints q,.ptr 0 0,.i 0,.i 0,.i (eOf (opI d p q i)),.i i,v8,v9,v10,v11,v12,v13,v14,.undef],[.cells [.cv (minR d.mi),.cv (lesR d.ls)]]⟩) ?_ 0 (QF _) ⟨_,_,_,_,rfl⟩
 rintro i s hi ⟨v8,v12,v13,v14,rfl⟩
 by_cases h:i<d.ls.length
 rotate_left
 ·have hie:i=d.ls.length:=by omega
  subst hie
  rw[opI_open]
  simp only[ic34l1,QJ,h,evA,simprocAttr]
  exact hend _ _ _ _ _
 have hsI:=opI_succ d p q i
 cases ho:opI d p q i
 rotate_left
 ·have h2:openB d p q=true:=opI_mono (by omega) ho
  rw[h2] at hend
  have e2:eOf true=2:=rfl
  rw[e2] at hend ⊢
  simp only[ic34l1,QJ,h,evA,simprocAttr]
  exact hend _ _ _ _ _
 have e0:eOf false=0:=rfl
 have e2:eOf true=2:=rfl
 rw[ho,Y3] at hsI
 rw[e0]
 have hwi:=Q6 (show i+1<2 ^ 63 by omega)
 simp only[ic34l1,QJ,h,evA,simprocAttr]
 have k0:opK d p q i 0=false:=rfl
 refine ZW d.ls.length (fun k s=>∃ v13 v14,s=⟨[dyV d,ints p,ints q,.ptr 0 0,.i 0,.i 0,.i (eOf (opK d p q i k)),.i i,.i k,v9,v10,v11,.b true,v13,v14,.undef],[.cells [.cv (minR d.mi),.cv (lesR d.ls)]]⟩) ?_ 0 (QF _) ⟨_,_,by rw[k0];rfl⟩
 rintro k s hk ⟨v13,v14,rfl⟩
 by_cases hkn:k<d.ls.length
 ·have hwk:=Q6 (show k+1<2 ^ 63 by omega)
  have hsK:=opK_succ d p q i k
  generalize opK d p q i k=o at *
  simp only[ic34l0,QJ,hkn,evA,simprocAttr]
  refine (le51 d hd h hkn).call frz ?_
  cases hc:canB d i k
  ·rw[hc] at hsK
   simp only[Bool.false_and,Bool.or_false] at hsK
   simp only[hwk,evA,simprocAttr]
   exact ZL (by first | trivial | omega) ⟨_,_,by rw[hsK]⟩
  simp only[evA,simprocAttr]
  refine (le92 p i lp).call frz ?_
  cases hp:p.contains (i:Int)
  rotate_left
  ·rw[hc,hp] at hsK
   simp only[Y2,UA,Bool.false_and,Bool.or_false] at hsK
   simp only[hwk,evA,simprocAttr]
   exact ZL (by first | trivial | omega) ⟨_,_,by rw[hsK]⟩
  simp only[evA,simprocAttr]
  refine (le92 q k lq).call frz ?_
  cases hq:q.contains (k:Int)
  rotate_left
  ·rw[hc,hp,hq] at hsK
   simp only[Y2,UA,Bool.or_false] at hsK
   simp only[hwk,evA,simprocAttr]
   exact ZL (by first | trivial | omega) ⟨_,_,by rw[hsK]⟩
  ·rw[hc,hp,hq] at hsK
   simp only[ZY,Bool.and_self,Bool.or_true] at hsK
   simp only[hwk,evA,simprocAttr]
   exact ZL (by first | trivial | omega) ⟨_,_,by rw[hsK,e2]⟩
 ·have hke:k=d.ls.length:=by omega
  subst hke
  rw[← hsI]
  simp only[ic34l0,QJ,hkn,hwi,evA,simprocAttr]
  exact ZL (by first | trivial | omega) ⟨_,_,_,_,rfl⟩
theorem out34 {Q:Exit→St→Prop} (d:Dy) (p q:List Int) (e:Int) (hne:e≠0) (v9 v10 v11:AV)
  (hend:∀ v12,Q (.exit 0) ⟨[dyV d,ints p,ints q,.ptr 0 0,.i 0,.i 0,.i e,.i 0,.undef,v9,v10,v11,v12,.undef,.undef,.undef],[.cells [.cv (minR d.mi),.cv (lesR d.ls)]]⟩) :
  IL Tryz.prog ⟨vs34,88,none,0⟩ ic34l1 ⟨[dyV d,ints p,ints q,.ptr 0 0,.i 0,.i 0,.i e,.i 0,.undef,v9,v10,v11,.undef,.undef,.undef,.undef],[.cells [.cv (minR d.mi),.cv (lesR d.ls)]]⟩ Q:=by
 have hb:(e == 0)=false:=beq_eq_false_iff_ne.2 hne
 refine ZW 0 (fun t s=>s=⟨[dyV d,ints p,ints q,.ptr 0 0,.i 0,.i 0,.i e,.i 0,.undef,v9,v10,v11,.undef,.undef,.undef,.undef],[.cells [.cv (minR d.mi),.cv (lesR d.ls)]]⟩) ?_ 0 (QF _) rfl
 rintro t s ht rfl
 cases hz:decide ((0:Int)<(d.ls.length:Int))
 ·simp only[ic34l1,hz,evA,simprocAttr]
  exact hend _
 ·simp only[ic34l1,hz,hb,evA,simprocAttr]
  exact hend _
theorem le34 (d:Dy) (hd:DSz d) (p q:List Int) (lp:p.length<2 ^ 62) (lq:q.length<2 ^ 62):PC Tryz.prog 34 [dyV d,ints p,ints q] (proA d p q):=by
 have h24:=le24 d hd
 unfold chkA at h24
 have e62:(2:Nat) ^ 62=4611686018427387904:=by decide
 have e63:(2:Nat) ^ 63=9223372036854775808:=by decide
 refine ⟨ZF (fok34 true) (QC rfl) ?_,rfl⟩
 simp only[ic34,WI,cellsOf,evA,simprocAttr]
 refine h24.call frz ?_
 unfold proA proL
 by_cases he:(dyE d).2.2=0
 rotate_left
 ·have hb:((dyE d).2.2 == 0)=false:=by simpa using he
  have hb2:((dyE d).2.2 != 0)=true:=by simpa using he
  rw[if_pos he]
  simp only[hb,evA,simprocAttr]
  refine out34 d p q _ he _ _ _ fun v12=>?_
  simp only[hb2,evA,simprocAttr]
  exact frz
 have hok:=LO he
 have h12:=hok.l12
 have q1:=le90 d h12 p (by omega)
 have q2:=le90 d h12 q (by omega)
 rw[if_neg (fun h=>h he)]
 simp only[he,evA,simprocAttr]
 refine q1.call frz ?_
 have bool4:((4:Int) == 0)=false∧((4:Int) != 0)=true∧((5:Int) != 0)=true∧((2:Int) != 0)=true:=by decide
 cases o1:outF 0 ((d.ls.length:Int)-1) p
 rotate_left
 ·rw[if_pos rfl,US,if_pos rfl]
  simp only[bool4.1,evA,simprocAttr]
  refine out34 d p q _ (by decide) _ _ _ fun v12=>?_
  simp only[bool4.2.1,evA,simprocAttr]
  exact frz
 rw[if_neg (by decide),Y3]
 simp only[evA,simprocAttr]
 refine q2.call frz ?_
 cases o2:outF 0 ((d.ls.length:Int)-1) q
 rotate_left
 ·rw[if_pos rfl,if_pos rfl]
  simp only[bool4.1,evA,simprocAttr]
  refine out34 d p q _ (by decide) _ _ _ fun v12=>?_
  simp only[bool4.2.1,evA,simprocAttr]
  exact frz
 rw[if_neg (by decide),if_neg (by decide)]
 simp only[evA,simprocAttr]
 refine (le91 p lp).call frz ?_
 cases r1:HT p
 ·rw[Bool.false_and,if_pos rfl]
  simp only[evA,simprocAttr]
  refine out34 d p q _ (by decide) _ _ _ fun v12=>?_
  simp only[bool4.2.2.1,evA,simprocAttr]
  exact frz
 rw[XI]
 simp only[evA,simprocAttr]
 refine (le91 q lq).call frz ?_
 cases r2:HT q
 ·rw[if_pos rfl]
  simp only[evA,simprocAttr]
  refine out34 d p q _ (by decide) _ _ _ fun v12=>?_
  simp only[bool4.2.2.1,evA,simprocAttr]
  exact frz
 rw[if_neg (by decide)]
 simp only[evA,simprocAttr]
 refine lp34 d hok p q (by omega) (by omega) _ _ _ fun v7 v8 v12 v13 v14=>?_
 have e0:eOf false=0:=rfl
 have e2:eOf true=2:=rfl
 cases ho:openB d p q
 rotate_left
 ·rw[if_pos rfl,e2]
  simp only[bool4.2.2.2,evA,simprocAttr]
  exact frz
 ·rw[if_neg (by decide),e0]
  have w1:IntKind.i64.wrap ((d.ls.length:Int)-(p.length:Int))=(d.ls.length:Int)-(p.length:Int):=ZC (by omega)
  have w2:IntKind.i64.wrap ((d.ls.length:Int)-(p.length:Int)-(q.length:Int))=(d.ls.length:Int)-(p.length:Int)-(q.length:Int):=ZC (by omega)
  simp only[w1,w2,GT,Qad,evA,simprocAttr]
  exact frz
abbrev cvK (d:Dy) (s:Nat):Nat:=cvrN (canB d) d.ls.length (s:Nat)
theorem le31 (d:Dy) (hd:DSz d):PA Tryz.prog 31 [dyV d] (cvA d):=by
 have h24:=le24 d hd
 unfold chkA at h24
 refine ⟨ZF (fok31 true) (QC rfl) ?_,rfl,rfl⟩
 simp only[ic31,WI,cellsOf,evA,simprocAttr]
 refine h24.call frz ?_
 unfold cvA cvBef cvBeh
 by_cases he:(dyE d).2.2=0
 rotate_left
 ·have hb:((dyE d).2.2 != 0)=true:=by simpa using he
  rw[if_pos he,if_pos he]
  simp only[hb,evA,simprocAttr]
  exact .tup (.cons (.c .nl) (.cons (.c .nl) (.cons (.c (.c _ trivial)) .nil)))
 have hb:((dyE d).2.2 != 0)=false:=by simpa using he
 have hok:=LO he
 have h12:=hok.l12
 rw[if_neg (fun h=>h he),if_neg (fun h=>h he)]
 simp only[hb,he,evA,simprocAttr]
 have h2n:2 ^ d.ls.length≤2 ^ 12:=Nat.pow_le_pow_right (by decide) h12
 have e12:(2:Nat) ^ 12=4096:=by decide
 have hpos:=Nat.two_pow_pos d.ls.length
 have h83:=le83 d.ls.length h12
 have hpz:(2:Int) ^ d.ls.length=((2 ^ d.ls.length:Nat):Int):=by push_cast;rfl
 rw[hpz] at h83
 have hle:∀ P:Nat→Bool,cnt d.ls.length P≤12:=fun P=>YR P7 h12
 have hcut:∀ S:Nat,S<2 ^ d.ls.length→Pl.YS 12 S.testBit=Pl.YS d.ls.length (bit (S:Nat)):=fun S hS=>NL 12 h12 fun k hk=>QeF hS hk
 have hct:∀ S:Nat,S<2 ^ d.ls.length→(Pl.YS 12 S.testBit).length=cnt d.ls.length (bit (S:Nat)):=fun S hS=>by rw[hcut S hS,QcG]
 have hnl:∀ S:Nat,(Pl.YS d.ls.length (L0 (canB d) d.ls.length (S:Nat))).length=cnt d.ls.length (L0 (canB d) d.ls.length (S:Nat)):=fun S=>QcG _
 have h82:=le82 d hok 0 (by decide)
 have hc0:cvK d 0=cnt d.ls.length (L0 (canB d) d.ls.length ((0:Nat):Int)):=by
  show cnt _ (bit ((0:Nat):Int))+_=_
  rw[KN fun k _=>by show (0:Nat).testBit k=false;exact Nat.zero_testBit k,ZV]
 have hl0:=hnl 0
 rw[← hc0] at hl0
 generalize Pl.YS d.ls.length (L0 (canB d) d.ls.length ((0:Nat):Int))=L0₀ at *
 refine h82.call frz ?_
 have hbs:∀ t,bstS (cvK d) t≤t:=fun t=>(QaI (c:=cvK d) t).1
 simp only[hl0,evA,simprocAttr]
 refine ZW (2 ^ d.ls.length-1) (fun t s=>∃ v9 v11 v12 v13,s=⟨[dyV d,.ptr 0 0,.cv .nils,.cv .nils,.i 0,.i 0,.i (bstS (cvK d) t:Nat),.i (cvK d (bstS (cvK d) t):Nat),.i (t+1:Nat),v9,.b false,v11,v12,v13],[.cells [.cv (minR d.mi),.cv (lesR d.ls)]]⟩) ?_ 0 (QF _) ⟨_,_,_,_,rfl⟩
 rintro t s ht ⟨v9,v11,v12,v13,rfl⟩
 have hb1:=hbs t
 have hbd:bstS (cvK d) t<2 ^ d.ls.length:=by omega
 have hcb:cvK d (bstS (cvK d) t)≤24:=by have:=hle (bit ((bstS (cvK d) t:Nat):Int));have:=hle (L0 (canB d) d.ls.length ((bstS (cvK d) t:Nat):Int));show _+_≤24;omega
 have hsu:bstS (cvK d) (t+1)=if cvK d (t+1)<cvK d (bstS (cvK d) t) then t+1 else bstS (cvK d) t:=rfl
 by_cases h:t<2 ^ d.ls.length-1
 ·have hS:t+1<2 ^ d.ls.length:=by omega
  have hlt:decide (((t+1:Nat):Int)<((2 ^ d.ls.length:Nat):Int))=true:=decide_eq_true (by omega)
  have hw:IntKind.i64.wrap (((t+1:Nat):Int)+1)=((t+1+1:Nat):Int):=by rw[ZC (by omega)];rfl
  have k84:=le84 (t+1) (by omega)
  have k82:=le82 d hok (t+1) (by omega)
  have hl1:=hct (t+1) hS
  have hl2:=hnl (t+1)
  have b1:=hle (bit ((t+1:Nat):Int))
  have b2:=hle (L0 (canB d) d.ls.length ((t+1:Nat):Int))
  have hcs:cvK d (t+1)=cnt d.ls.length (bit ((t+1:Nat):Int))+cnt d.ls.length (L0 (canB d) d.ls.length ((t+1:Nat):Int)):=rfl
  generalize Pl.YS 12 (t+1).testBit=L1 at *
  generalize Pl.YS d.ls.length (L0 (canB d) d.ls.length ((t+1:Nat):Int))=L2 at *
  generalize cnt d.ls.length (bit ((t+1:Nat):Int))=n1 at *
  generalize cnt d.ls.length (L0 (canB d) d.ls.length ((t+1:Nat):Int))=n2 at *
  generalize bstS (cvK d) t=B at *
  generalize hM:cvK d B=M at *
  have ha:IntKind.i64.wrap ((n1:Int)+(n2:Int))=((n1+n2:Nat):Int):=by rw[ZC (by omega)];rfl
  simp only[ic31l0,evA,simprocAttr]
  refine h83.call frz ?_
  simp only[hlt,evA,simprocAttr]
  refine k84.call frz ?_
  simp only[hl1,evA,simprocAttr]
  by_cases hn1:n1<M
  ·have d1:decide ((n1:Int)<(M:Int))=true:=decide_eq_true (by omega)
   simp only[d1,evA,simprocAttr]
   refine k82.call frz ?_
   by_cases hn2:n1+n2<M
   ·have d2:decide (((n1+n2:Nat):Int)<(M:Int))=true:=decide_eq_true (by omega)
    rw[hcs,if_pos hn2] at hsu
    simp only[hl2,ha,d2,hw,evA,simprocAttr]
    exact ZL (by first | trivial | omega) ⟨_,_,_,_,by rw[hsu,hcs]⟩
   ·have d2:decide (((n1+n2:Nat):Int)<(M:Int))=false:=decide_eq_false (by omega)
    rw[hcs,if_neg hn2] at hsu
    simp only[hl2,ha,d2,hw,evA,simprocAttr]
    exact ZL (by first | trivial | omega) ⟨_,_,_,_,by rw[hsu,hM]⟩
  ·have d1:decide ((n1:Int)<(M:Int))=false:=decide_eq_false (by omega)
   rw[hcs,if_neg (by omega)] at hsu
   simp only[d1,hw,evA,simprocAttr]
   exact ZL (by first | trivial | omega) ⟨_,_,_,_,by rw[hsu,hM]⟩
 ·have hte:t=2 ^ d.ls.length-1:=by omega
  have hlt:decide (((t+1:Nat):Int)<((2 ^ d.ls.length:Nat):Int))=false:=decide_eq_false (by omega)
  have hbe:bstS (cvK d) t=covS d:=by rw[hte];rfl
  rw[hbe] at hbd ⊢
  have k84:=le84 (covS d) (by omega)
  have k82:=le82 d hok (covS d) (by omega)
  rw[hcut _ hbd] at k84
  simp only[ic31l0,evA,simprocAttr]
  refine h83.call frz ?_
  simp only[hlt,evA,simprocAttr]
  refine DW_s [1,4] [] hmix (by kernel_rfl) rfl ?_
  simp only[evA,simprocAttr]
  refine YE (k84.call frz ⟨rfl,rfl⟩) rfl ?_
  simp only[evA,simprocAttr]
  refine YE (k82.call frz ⟨rfl,rfl⟩) rfl ?_
  simp only[evA,simprocAttr]
  exact .tup (.cons (.c (.c _ trivial)) (.cons (.c (.c _ trivial)) (.cons (.c (.c _ trivial)) .nil)))
end Go.Proofs.YtgkidpolomhghaaGreatDoor.AM
namespace Go.Proofs.YtgkidpolomhghaaGreatDoor.AM
open Go Go.Shelf
def cloneL_ren:Go.Shelf.Ren:=⟨fun | 15=>87 | n=>n,fun | 22=>23 | 3=>3 | 4=>4 | n=>n,fun | n=>n⟩
theorem cloneL:Go.Proofs.Lays2.n15 Tryz.prog cloneL_ren:={
 mixed:=by kernel_rfl
 f15:=Tryz.func87.trans (congrArg some (by kernel_rfl))
 t3:=Tryz.underlying3
 a3:=Tryz.isAgg3
 z3:=Tryz.sizeOf3
 v3:=Tryz.zeroValue3
 t4:=Tryz.underlying4
 a4:=Tryz.isAgg4
 z4:=Tryz.sizeOf4
 v4:=Tryz.zeroValue4
 t22:=Tryz.underlying23
 a22:=Tryz.isAgg23
 z22:=Tryz.sizeOf23
 v22:=Tryz.zeroValue23
 i3:=by kernel_rfl }
end Go.Proofs.YtgkidpolomhghaaGreatDoor.AM
namespace Go.Proofs.YtgkidpolomhghaaGreatDoor.AM
open Go Pl
theorem le87e (σ:List AObj):AC Tryz.prog 87 [ints []] σ fun r τ=>r=ints []∧τ=σ:=by
 refine ⟨(le87n σ).1,fun m X w cargs ha hh=>?_⟩
 obtain ⟨v,us,rfl,h1,k1⟩:=QK.cons ha
 have k2:=QK.nil' k1
 subst k2
 have h1:(v=.slice none 0 0∧(0:Nat)=0∧([]:List CV)=[])∨∃ a cap,v=.slice (some a) 0 cap∧0≤cap∧CV.reps w (Own m X) [] a 0:=by
  simp only[VRel,CV.rep] at h1
  exact h1
 rcases h1 with ⟨rfl,_,_⟩ | ⟨a,cap,rfl,_,_⟩
 ·refine ((le87n σ).2 m X w [.slice none 0 0] (by simp only[QK,VRel,CV.rep,and_self]) hh).mono ?_
  rintro e w' ⟨c,r,σ',m',h1,⟨rfl,rfl⟩,h3,h4,h5,h6⟩
  refine ⟨c,_,_,m',h1,⟨rfl,rfl⟩,?_,h4,h5,h6⟩
  have h3:c=.slice none 0 0:=by simpa only[VRel,CV.rep] using h3
  show CV.rep w' (Own m' X) (.rsl [] 0) c
  exact .inl ⟨h3,rfl,rfl⟩
 ·refine callsIn_wide.2 ((Any.slices_Clone_int_zero cloneL a cap w).mono ?_)
  rintro e w' ⟨v',rfl,hown,_,hb⟩
  have hblk:∀ b,b<w.heap.size→w'.heap[b]? = w.heap[b]? := hb.block
  refine ⟨v',_,_,m,rfl,⟨rfl,rfl⟩,?_,hh.below hb.size hblk,⟨fun _ _=>rfl,fun l b h=>.inl ⟨l,h⟩,hb.size,fun b hb' _=>hblk b hb',fun b c t h=>⟨c,by rw[hblk b (Q3.1 h).1];exact h,rfl⟩,hb.os,hb.tape,hb.output,fun h=>h.elim⟩,QG _⟩
  show CV.rep w' (Own m X) (.rsl [] 0) v'
  rcases hown.2 with ⟨rfl,_⟩ | ⟨g,cap',cur,rfl,_,_,h,_⟩
  ·exact .inl ⟨rfl,rfl,rfl⟩
  ·exact .inr ⟨_,cap',rfl,h,trivial⟩
theorem le86e (σ:List AObj):AC Tryz.prog 86 [ints []] σ fun r τ=>r=ints []∧τ=σ:=by
 refine ZF (fok86 true) (QC rfl) ?_
 have hd:decide (((([]:List Int).length:Nat):Int)<2)=true:=by decide
 simp only[ic86,hd,evA,simprocAttr]
theorem le89w {p q:List Int} (lp:p.length<2 ^ 63) (lq:q.length<2 ^ 63) (x:Nat × Nat) (σ:List AObj):AC Tryz.prog 89 [.agg [.i (x.1:Nat),.i (x.2:Nat)],.cv (.rp [rowC p] 0),.cv (.rp [rowC q] 0)] σ fun r τ=>r=.b (opnP p q x)∧τ=σ:=by
 refine AC.cutF ?_ rfl
 refine ZF (fok89 true) (QC rfl) ?_
 simp only[ic89,WI,cellsOf,WW,evA,simprocAttr]
 refine (le76 p x.1 lp).call (.cons (.c (.c _ trivial)) (.cons (.c (.c _ trivial)) .nil)) ?_
 unfold opnP
 cases h1:p.contains (x.1:Int) with
 | true =>
  simp only[Y2,Bool.false_and,evA,simprocAttr]
  exact ⟨_,rfl⟩
 | false =>
  simp only[ZY,XI,WW,evA,simprocAttr]
  refine (le76 q x.2 lq).call (.cons (.c (.c _ trivial)) (.cons (.c (.c _ trivial)) .nil)) ?_
  simp only[evA,simprocAttr]
  exact ⟨_,rfl⟩
end Go.Proofs.YtgkidpolomhghaaGreatDoor.AM
namespace Go.Proofs.YtgkidpolomhghaaGreatDoor.AM
open Go Pl Go.Shelf Go.RowKit Go.Lib
section
variable {P:Program} {ρ:Ren}
set_option maxHeartbeats 2000000 in
set_option maxRecDepth 100000 in
theorem clone_any (L:Go.Proofs.Lays2.n15 P ρ) (a:Addr) (n c:Nat) (zs:List Int) (w:World) (hz:zs.length=n) (hbig:n*8≤140737488355328) (hc:∀ j u,(zs.map (Value.int .i64))[j]? = some u→w.cell? (a.add j)=some u) :
  Calls P (ρ.f 15) #[.slice (some a) n c] w fun e w'=>∃ v',e=.returned v'∧w'.ownsRow w.heap.size (ρ.t 3) 1 v' n (zs.map (Value.int .i64))∧v'≠.slice none 0 0∧Below w.heap.size w w':=by
 have mixed:=L.mixed;have t3:=L.t3;have a3:=L.a3;have z3:=L.z3;have v3:=L.v3;have t4:=L.t4;have a4:=L.a4;have z4:=L.z4;have v4:=L.v4;have t22:=L.t22;have a22:=L.a22;have z22:=L.z22;have v22:=L.v22
 obtain ⟨i0,hi,hz0,hz1,hz2⟩:=info_parts L.i3
 have q22:∀ (w:World) (a:Option Addr) (n c n' c':Nat),(binOp .eql (ρ.t 22) (.slice a n c) (.slice none n' c')).run P w=.ok (.bool a.isNone) w:=fun w a n c n' c'=>Lib.run_eql_slice_nil w _ _ a n c n' c' L.t22
 have u22:∀ w,Sem.run P (underlying (ρ.t 22)) w=.ok (TypeDesc.slice (ρ.t 3)) w:=run_underlying t22
 have A:Aside (∀ j u,(zs.map (Value.int .i64))[j]? = some u→w.cell? (a.add j)=some u):=hc
 clear hc
 go_enter L.f15,Body2.n15_ntmps ρ
 go_wp2_with (at_builtin;refine wpList_append_own _ rfl _ _ (ρ.t 22) rfl w.heap.size (ρ.t 3) i0 (.int .i64 0) 1 8 t22 hi hz0 hz1 hz2 rfl (by decide) _ _ _ rfl (World.ownsRow_made w #[] 0 (QG _) (QF _) rfl) a n c (zs.map (Value.int .i64)) rfl ?qc1 ?qc2 ?qc3 ?qc4 ?qc5 ?qc6 ?_)
 case qc1=>simp;omega
 case qc2 =>
  intro j u hj
  exact Lib.cell?_alloc_some _ (A.out j u hj)
 case qc3=>intro u hu;obtain ⟨x,_,rfl⟩:=ZP.1 hu;rfl
 case qc4=>unfold maxLen;omega
 case qc5=>omega
 case qc6=>simp
 intro v' w1 hown hgrow hnil
 go_wp2
 go_ret
 refine ⟨v',rfl,by simpa using hown,?_,?_⟩
 ·exact hnil
 ·exact ((Below.refl _ w).alloc (QG _) _).grown hgrow (by simp) (by intro k hk;simp[Value.ownBlock] at hk;omega)
end
section
variable {m:LM} {X:Nat→Prop} {σ:List AObj} {w:World}
theorem vals_ints:∀ {zs:List Int} {vs:List Value},QK m X w (zs.map AV.i) vs→vs=zs.map (Value.int .i64)
 | [],[],_=>rfl
 | z::zs,v::vs,h=>by
  simp only[Q0,QK,VRel,CV.rep] at h
  rw[Q0,h.1,vals_ints h.2]
 | [],_::_,h=>by simp[QK] at h
 | _::_,[],h=>by simp[QK] at h
theorem ints_vals:∀ (zs:List Int),QK m X w (zs.map AV.i) (zs.map (Value.int .i64))
 | []=>by simp[QK]
 | z::zs=>by simp only[Q0,QK,VRel,CV.rep];exact ⟨trivial,ints_vals zs⟩
theorem HRel.newBlock [Dr] (h:HRel m X σ w) {w':World} (hb:Below w.heap.size w w') (hdr:Dr.on→w.drawn≤w'.drawn) {g:Nat} (hg:w.heap.size≤g) (hg2:g<w'.heap.size) (ao:AObj) (ho:ORel (m.put σ.length g) X w' (some g) ao) :
  HRel (m.put σ.length g) X (σ++[ao]) w'∧Step σ.length m X w (m.put σ.length g) w':=by
 have hblk:∀ b,b<w.heap.size→w'.heap[b]? = w.heap[b]? := hb.block
 have hs:Step σ.length m X w (m.put σ.length g) w' :=
  {keep:=fun x hx=>LM.put_other m (by omega)
   new:=fun x b hb=>by
    by_cases hx:x=σ.length
    ·subst hx;rw[LM.put_same] at hb;right;cases hb;exact hg
    ·rw[LM.put_other m hx] at hb;exact .inl ⟨x,hb⟩
   size:=hb.size
   fr:=fun b hb' _=>hblk b hb'
   shp:=fun b c e h=>⟨c,by rw[hblk b (Q3.1 h).1];exact h,rfl⟩
   os:=hb.os,tape:=hb.tape,output:=hb.output,drawn:=hdr }
 have hm:=h.mono_of_step hs (QG _)
 refine ⟨⟨?_,?_,?_,?_,?_,h.gl.mono hm⟩,hs⟩
 ·intro b hb2;have:=h.xb b hb2;have:=hb.size;omega
 ·intro l b hb2
  by_cases hl:l=σ.length
  ·subst hl;rw[LM.put_same] at hb2;cases hb2
   exact ⟨by simp,hg2⟩
  ·rw[LM.put_other m hl] at hb2
   have:=h.dom l b hb2
   have:=hb.size
   exact ⟨by simp;omega,by omega⟩
 ·intro l b o1 hb2 ho1 hv
  by_cases hl:l=σ.length
  ·subst hl;rw[LM.put_same] at hb2;cases hb2
   exact fun hx=>by have:=h.xb _ hx;omega
  ·rw[LM.put_other m hl] at hb2
   rw[QE (h.dom l b hb2).1] at ho1
   exact h.own l b o1 hb2 ho1 hv
 ·intro l l' b o2 hb2 hb' ho2 hv2
  by_cases hl:l=σ.length <;> by_cases hl':l'=σ.length
  ·omega
  ·subst hl;rw[LM.put_same] at hb2;cases hb2;rw[LM.put_other m hl'] at hb'
   have:=(h.dom _ _ hb').2;omega
  ·subst hl';rw[LM.put_same] at hb';cases hb';rw[LM.put_other m hl] at hb2
   have:=(h.dom _ _ hb2).2;omega
  ·rw[LM.put_other m hl] at hb2;rw[LM.put_other m hl'] at hb'
   have h2:=(h.dom _ _ hb').1
   rw[QE h2] at ho2
   exact h.inj l l' b o2 hb2 hb' ho2 hv2
 ·intro l o1 ho1
  by_cases hl:l<σ.length
  ·rw[QE hl] at ho1
   rw[LM.put_other m (by omega)]
   have:=h.obj l o1 ho1
   cases hml:m l with
   | none=>rw[hml] at this;cases o1 <;> simp[ORel] at this ⊢
   | some b=>rw[hml] at this;exact ORel.mono hm (hblk b (h.dom l b hml).2) this
  ·rw[QS (by omega)] at ho1
   have hl':l=σ.length:=by
    rcases ZB (l-σ.length) 1 with h1 | h1
    ·omega
    ·rw[QN (by simpa using h1)] at ho1;cases ho1
   subst hl'
   simp at ho1;subst ho1
   rw[LM.put_same];exact ho
end
theorem le87z {zs:List Int} (hne:zs≠[]) (hz:zs.length*8≤140737488355328) (σ:List AObj):AC Tryz.prog 87 [ints zs] σ fun r τ=>r=.sl σ.length 0 zs.length 1∧τ=σ++[.cells (zs.map AV.i)]:=by
 have hpos:=List.length_pos_iff.2 hne
 have h1:SlV (ints zs) zs:=.inl ⟨rfl,hne⟩
 refine ⟨(le87n σ).1,fun m X w cargs ha hh=>?_⟩
 obtain ⟨v,us,rfl,h1,k1⟩:=QK.cons ha
 have k2:=QK.nil' k1
 subst k2
 have h1:(v=.slice none 0 0∧zs.length=0∧zs.map (CV.int .i64)=[])∨∃ a cap,v=.slice (some a) zs.length cap∧zs.length≤cap∧CV.reps w (Own m X) (zs.map (CV.int .i64)) a 0:=by
  simp only[VRel,CV.rep] at h1
  exact h1
 rcases h1 with ⟨_,h0,_⟩ | ⟨a,cap,rfl,_,hreps⟩
 ·omega
 obtain ⟨vs,hv1,hv2,hv3⟩:=LA hreps
 have hvs:vs=zs.map (Value.int .i64):=vals_ints (m:=m) (X:=X) (w:=w) (by rw[XW] at hv2;exact hv2)
 subst hvs
 refine callsIn_wide.2 ((clone_any cloneL a zs.length cap zs w rfl hz fun j u hj=>by have:=hv3 j u hj;rwa [ZV] at this).mono ?_)
 rintro e w' ⟨v',rfl,hown,_,hb⟩
 rcases hown.2 with ⟨_,h0⟩ | ⟨g,cap',cur,rfl,hg,hheap,hcap,_,hcur,htake⟩
 ·omega
 rw[W3] at hcur htake
 have hsz:cur.size=cap':=hcur
 have hg2:g<w'.heap.size:=(Q3.1 hheap).1
 obtain ⟨q1,q2⟩:=hh.newBlock (w':=w') hb (fun h=>h.elim) hg hg2 (.cells (zs.map AV.i)) (by
  simp only[ORel]
  refine ⟨cur,_,hheap,by simp;omega,?_⟩
  rw[ZK,htake]
  exact ints_vals zs)
 refine ⟨_,_,_,m.put σ.length g,rfl,⟨rfl,rfl⟩,?_,q1,q2,by simp⟩
 simp only[VRel]
 exact ⟨g,cap',LM.put_same _ _ _,rfl,hcap,cur,_,hheap,by omega⟩
theorem le33w (d:Dy) (hd:DSz d) (p q:List Int) (lp:p.length≤2 ^ 44) (lq:q.length≤2 ^ 44):PC Tryz.prog 33 [dyV d,ints p,ints q] (proA d p q):=by
 have h44:(2:Nat) ^ 44=17592186044416:=by decide
 have h45:(2:Nat) ^ 45=35184372088832:=by decide
 have h63:(2:Nat) ^ 63=9223372036854775808:=by decide
 refine ⟨ZF (fok33 true) (QC rfl) ?_,rfl⟩
 simp only[ic33,WI,cellsOf,evA,simprocAttr]
 refine (le72 d hd).call ?_
 unfold proA proL
 by_cases he:(dyE d).2.2=0
 ·have hb:((dyE d).2.2 != 0)=false:=by simpa using he
  have hok:=LO he
  have h12:=hok.l12
  have hw:IntKind.i64.wrap ((d.ls.length:Int)-1)=(d.ls.length:Int)-1:=ZC (by omega)
  rw[if_neg (fun h=>h he)]
  simp only[hb,he,hw,evA,simprocAttr]
  refine (le63 0 ((d.ls.length:Int)-1) p (by omega)).call (.cons (.c (.c _ trivial)) (.cons (.c (.c _ trivial)) (.cons (.c (.c _ trivial)) .nil))) ?_
  cases h1:outF 0 ((d.ls.length:Int)-1) p with
  | true =>
   simp only[US,evA,simprocAttr]
   exact frz
  | false =>
  simp only[Y3,evA,simprocAttr]
  refine (le63 0 ((d.ls.length:Int)-1) q (by omega)).call (.cons (.c (.c _ trivial)) (.cons (.c (.c _ trivial)) (.cons (.c (.c _ trivial)) .nil))) ?_
  cases h2:outF 0 ((d.ls.length:Int)-1) q with
  | true =>
   simp only[evA,simprocAttr]
   exact frz
  | false =>
  simp only[evA,simprocAttr]
  have rise_of:∀ zs:List Int,(∀ i,i+1<zs.length→gI zs i≤gI zs (i+1))→(∀ i,i+1<zs.length→gI zs i≠gI zs (i+1))→HT zs=true:=fun zs a b=>BW.2 fun i hi=>by
   have:=a i hi
   have:=b i hi
   omega
  have hnr:∀ zs:List Int,(zs=p∨zs=q)→HT zs=false→(HT p&&HT q)=false:=by
   rintro zs (rfl | rfl) h <;> simp[h]
  refine ZW 2 (fun i s=>(1≤i→HT p=true)∧(2≤i→HT q=true)∧∃ v10 v16 v17,s=⟨[dyV d,ints p,ints q,.ptr 0 0,.ptr 1 0,.ptr 2 0,.i 0,.i 0,.ptr 3 0,.i ((d.ls.length:Int)-1),v10,.b false,.b false,.sl 4 0 2 1,.i 2,.i i,v16,v17,.undef],[.cells [.cv (minR d.mi),.cv (lesR d.ls)],.cells [ints p],.cells [ints q],.cells [.cv (minR d.mi),.cv (lesR d.ls)],.cells [ints p,ints q]]⟩) ?_ 0 (QF _) ⟨by omega,by omega,_,_,_,rfl⟩
  rintro i s hi ⟨hi1,hi2,v10,v16,v17,rfl⟩
  have hob:∀ o∈[AObj.cells [.cv (minR d.mi),.cv (lesR d.ls)],.cells [ints p],.cells [ints q],.cells [.cv (minR d.mi),.cv (lesR d.ls)],.cells [ints p,ints q]],Z3 5 o=true:=by
   intro o ho
   simp only[ZD,WK,or_false] at ho
   rcases ho with rfl | rfl | rfl | rfl | rfl <;> rfl
  by_cases h:i<2
  ·obtain ⟨zs,g1,g3,g4,g5⟩:∃ (zs:List Int),([ints p,ints q])[i]? = some (ints zs)∧zs.length≤2 ^ 44∧(zs=p∨zs=q)∧(HT zs=true→(1≤i+1→HT p=true)∧(2≤i+1→HT q=true)):=by
    match i,h with
    | 0,_=>exact ⟨p,rfl,lp,.inl rfl,fun h=>⟨fun _=>h,fun h=>by omega⟩⟩
    | 1,_=>exact ⟨q,rfl,lq,.inr rfl,fun h=>⟨fun _=>hi1 (by omega),fun _=>h⟩⟩
   have hd:decide ((i:Int)<2)=true:=decide_eq_true (by omega)
   have hw2:IntKind.i64.wrap ((i:Int)+1)=((i+1:Nat):Int):=by rw[ZC (by omega)];rfl
   obtain ⟨b,hbi,h85⟩:=le85 zs (by omega)
   simp only[ic33l0,hd,W9 h,ZV,g1,evA,simprocAttr]
   refine h85.call (.cons (.c (.c _ trivial)) .nil) ?_
   cases b with
   | false =>
    have hr:HT zs=false:=by
     cases hr:HT zs with
     | false=>rfl
     | true=>exact absurd (hbi.2 fun i hi=>Int.le_of_lt (BW.1 hr i hi)) (by decide)
    rw[if_pos (hnr zs g4 hr)]
    simp only[ZY,evA,simprocAttr]
    exact frz
   | true =>
   simp only[Y2,evA,simprocAttr]
   by_cases hz:zs=[]
   ·subst hz
    refine (le87e _).run ?_
    simp only[evA,simprocAttr]
    refine (le86e _).run ?_
    simp only[hw2,evA,simprocAttr]
    have hr:HT []=true:=rfl
    exact ZL (by first | trivial | omega) ⟨fun _=>(g5 hr).1 (by omega),fun _=>(g5 hr).2 (by omega),_,_,_,rfl⟩
   refine (le87z hz (by omega) _).run ?_
   simp only[evA,simprocAttr]
   refine (le86 (p:=5) zs (by omega) rfl).mono ?_
   rintro r τ (⟨ha,rfl,rfl⟩ | ⟨⟨j,hj,he2⟩,k,ws,hk,rfl,rfl⟩)
   ·have hlt:decide ((zs.length:Int)<zs.length)=false:=decide_eq_false (by omega)
    simp only[hlt,hw2,evA,simprocAttr]
    have hr:=rise_of zs (hbi.1 rfl) ha
    refine W1 [.cells [.cv (minR d.mi),.cv (lesR d.ls)],.cells [ints p],.cells [ints q],.cells [.cv (minR d.mi),.cv (lesR d.ls)],.cells [ints p,ints q]] _ rfl (by first | trivial | omega) (QF _) hob ⟨fun _=>(g5 hr).1 (by omega),fun _=>(g5 hr).2 (by omega),_,_,_,rfl⟩
   ·have hlt:decide ((k:Int)<zs.length)=true:=decide_eq_true (by omega)
    have hr:HT zs=false:=by
     cases hr:HT zs with
     | false=>rfl
     | true=>have:=BW.1 hr j hj;omega
    rw[if_pos (hnr zs g4 hr)]
    simp only[hlt,evA,simprocAttr]
    exact frz
  ·have hie:i=2:=by omega
   subst hie
   have r1:=hi1 (by omega)
   have r2:=hi2 (by omega)
   rw[r1,r2,if_neg (by decide),open_any]
   simp only[ic33l0,evA,simprocAttr]
   refine (le78 d hok).call frz ?_
   have hpl:=IV d d.ls.length
   have hpl2:d.ls.length*d.ls.length≤12*12:=Nat.mul_le_mul h12 h12
   simp only[evA,simprocAttr]
   have h88:PC Tryz.prog 88 [.cv (.rsl (prCs (prsL d d.ls.length)) (prsL d d.ls.length).length),.fn (.func 89) [.cv (.rp [rowC p] 0),.cv (.rp [rowC q] 0)]] (.b ((prsL d d.ls.length).any (opnP p q))) :=
    ⟨(le88 (prsL d d.ls.length) (.fn (.func 89) [.cv (.rp [rowC p] 0),.cv (.rp [rowC q] 0)]) (opnP p q) (by omega) (fun x σ=>le89w (p:=p) (q:=q) (by omega) (by omega) x σ) []).mono fun r τ h=>by rw[h.1];exact .c (.c _ trivial),rfl⟩
   refine h88.call (.cons (.c (.c _ trivial)) (.cons (.fn (.cons (.c (.ptr 1 0 _ _ rfl (.cons (.c _ trivial) .nil))) (.cons (.c (.ptr 2 0 _ _ rfl (.cons (.c _ trivial) .nil))) .nil))) .nil)) ?_
   cases hop:(prsL d d.ls.length).any (opnP p q) with
   | true =>
    simp only[evA,simprocAttr]
    exact frz
   | false =>
    have hw1:IntKind.i64.wrap ((d.ls.length:Int)-p.length)=(d.ls.length:Int)-p.length:=ZC (by omega)
    have hw2:IntKind.i64.wrap ((d.ls.length:Int)-p.length-q.length)=(d.ls.length:Int)-p.length-q.length:=ZC (by omega)
    simp only[hw1,hw2,Qad,evA,simprocAttr]
    exact .tup (.cons (.c (.c _ trivial)) (.cons (.c (.c _ trivial)) .nil))
 ·have hb:((dyE d).2.2 != 0)=true:=by simpa using he
  rw[if_pos he]
  simp only[hb,evA,simprocAttr]
  exact frz
end Go.Proofs.YtgkidpolomhghaaGreatDoor.AM
namespace Go.Proofs.YtgkidpolomhghaaGreatDoor.AM
variable [Dr]
open Go Go.ChangeShapes Go.WideShapes Go.ChangeAt Go.RowKit
def SzAll (P:Program):List TypeId→List AV→Prop
 | t::ts,a::as_=>(∀ e l n,P.underlying t=some (.slice e)→a=.cv (.rsl l n)→n*P.bytesOf e≤reachBytes)∧SzAll P ts as_
 | _,_=>True
section
variable {H:Type} {enc:TypeId × Value→H} {P:Program} {W:World}
theorem sz_of {t e:TypeId} {v:Value} {d:DataW H} {ps:List MemPlace} {l:List CV} {n:Nat} (ht:P.underlying t=some (.slice e)) (h:DataW.Trod enc P W 0 (fun _=>true) true t v d ps) (hw:∀ x∈d.weights P t,x≤reachBytes) (hr:VRel nom noX W (.cv (.rsl l n)) v):n*P.bytesOf e≤reachBytes:=by
 obtain ⟨fuel,h⟩:=h
 have hr:(v=.slice none 0 0∧n=0∧l=[])∨∃ a cap,v=.slice (some a) n cap∧n≤cap∧CV.reps W (Own nom noX) l a 0:=by
  simp only[VRel,CV.rep] at hr
  exact hr
 rcases hr with ⟨_,rfl,_⟩ | ⟨a,cap,rfl,_⟩
 ·simp
 rcases DataW.trod_slice ht h with ⟨h1,_⟩ | ⟨a',len,cap',elems,rest,m,_,h1,h2,_,_,_,hlen,_⟩
 ·simp[Value.cells] at h1
 ·have e1:n=len:=by
   simp[Value.cells] at h1
   exact h1.2.1
  have e2:d=.slice (elems.map (·.1)) (rest.map (·.1)):=congrArg Prod.fst h2
  subst e1 e2
  have:=hw _ (by
   simp only[DataW.weights,ht]
   exact List.mem_cons_self ..)
  simp only[ZK,hlen] at this
  exact YR (YQ _ (Nat.le_add_right _ _)) this
theorem args_sz {n:Nat} {r:Reach} {base:Nat}:∀ {ts vt:List TypeId} {vs:List Value} {ds gs:List (DataW H)} {ps:List MemPlace},(ts.all (TG P n))=true →
  (∀ (j:Nat) (t:TypeId) (v:Value),ts[j]? = some t→vs[j]? = some v→Value.okWide P W r base t v)→DataW.TrodAll enc P W 0 (fun _=>true) true ts vs ds ps →
  (∀ x∈DataW.weightsEach P (ts++vt) (ds++gs),x≤reachBytes) →
  ds.length=ts.length∧∃ avs,Args P ts avs∧QK nom noX W avs vs∧SzAll P ts avs
 | [],_,_,_,_,_,_,_,h,_=>by
  obtain ⟨rfl,rfl,rfl⟩:=trodAll_nil h
  exact ⟨rfl,[],.nil,by simp[QK],trivial⟩
 | t::ts,vt,_,_,gs,_,ho,hval,h,hw=>by
  obtain ⟨v,vs1,d,ds1,a,b,rfl,rfl,rfl,h1,h2⟩:=trodAll_cons h
  simp only[List.all_cons,QD] at ho
  obtain ⟨cs,g1,g2⟩:=QfB ho.1 (hval 0 t v rfl rfl) h1
  have hw1:∀ x∈d.weights P t,x≤reachBytes:=fun x hx=>hw x (by
   simp only[List.cons_append,DataW.weightsEach]
   exact J3 _ hx)
  have hw2:∀ x∈DataW.weightsEach P (ts++vt) (ds1++gs),x≤reachBytes:=fun x hx=>hw x (by
   simp only[List.cons_append,DataW.weightsEach]
   exact List.mem_append_right _ hx)
  obtain ⟨hl,avs,g3,g4,g5⟩:=args_sz ho.2 (fun j t v h1 h2=>hval (j+1) t v (by simpa using h1) (by simpa using h2)) h2 hw2
  exact ⟨by simp[hl],_,.cons g1 g3,by simp only[QK];exact ⟨g2,g4⟩,fun e l n ht ha=>sz_of ht h1 hw1 (by rw[← ha];exact g2),g5⟩
theorem law_of_AC_sz {f:FuncId} {fn:Func} {s:ChangeSpec} {n:Nat} {t:TypeId} {base:Nat} {args:Array Value} {ds gs:List (DataW H)} {before:List MemPlace}
  (hl:laidOutB P=true) (hpar:(fn.params.toList.all fun t=>P.readableRec t&&decide (t<P.types.size))=true) (ho:fn.params.toList.all (TG P n)=true)
  (hres:fn.resultTypes = #[t]) (htb:P.underlying t=some .bool) (hsv:s.vars=[]) (hs:∀ ds:List (DataW H),ds.length=fn.params.toList.length→s.fn H ds = { results:=[.lit (.bool true)],args:=ds })
  (hAC:∀ avs,Args P fn.params.toList avs→SzAll P fn.params.toList avs→AC P f avs [] fun r _=>r=.b true)
  (hval:∀ (j:Nat) t v,fn.params[j]? = some t→args[j]? = some v→Value.okWide P W .any base t v) (hgl:GlOk nom noX W)
  (hwt:(DataW.weightsEach P (fn.params.toList++s.plain.varTypes P) (ds++gs)).all (·≤reachBytes)=true)
  (hW:DataW.Whole enc P fn.params.toList s.vars false W args.toList ds gs before) :
  Calls P f args W fun e W'=>∃ v,e=.returned v∧s.post enc P fn false true false false W args v W':=by
 have hW':=hW
 obtain ⟨p,q,hA,hV,rfl,hfz,hnd⟩:=hW
 rw[hsv] at hV
 obtain ⟨rfl,rfl⟩:=trodVars_none hV
 have hlt:∀ x∈p,x.block<W.heap.size:=fun x hx=>hW'.lt x (by simp[hx])
 obtain ⟨hlen,avs,hav,hrel,hsz⟩:=args_sz ho (fun j t v h1 h2=>hval j t v (by simpa using h1) (by simpa using h2)) hA fun x hx=>of_decide_eq_true (Q1.1 hwt x hx)
 have hcall:=(hAC avs hav hsz).2 nom noX W args.toList hrel ⟨by simp,by simp,by simp,by simp,by simp,hgl⟩
 have hcall:=callsIn_wide.1 hcall
 simp only[Array.toArray_toList] at hcall
 refine hcall.mono fun e W' ⟨c,r,σ',m',he,hq,hr,_,hst,_⟩=>?_
 subst he hq
 simp only[VRel,CV.rep] at hr
 subst hr
 have hb:Below W.heap.size W W':=⟨hst.os,hst.tape,hst.output,hst.size,fun k hk=>hst.fr k hk (.inr (by simp))⟩
 have hsf:s.fn H (ds++[]) = { results:=[.lit (.bool true)],args:=ds }:=by rw[ZU];exact hs ds hlen
 refine ⟨_,rfl,ds,[],p++[],[],p,[],hW',?_,?_,?_,hb.frame _,fun h=>by simp at h⟩
 ·rw[hsf,hres]
  exact trodAll_mk1 (shut_bool htb true)
 ·rw[hsf]
  exact LU hl hb hpar hA hlt
 ·rw[hsf,hsv]
  rfl
end
end Go.Proofs.YtgkidpolomhghaaGreatDoor.AM
namespace Go.Proofs.YtgkidpolomhghaaGreatDoor.AM
open Go Pl
theorem law5 (d:Dy) (hd:DSz d) (p q:List Int) (lp:p.length≤2 ^ 44) (lq:q.length≤2 ^ 44):PC Tryz.prog 5 [dyV d,ints p,ints q] (.b true):=by
 have h30:=le30 d hd
 have h31:=le31 d hd
 have h33:=le33w d hd p q lp lq
 have e44:(2:Nat) ^ 44=17592186044416:=by decide
 have e62:(2:Nat) ^ 62=4611686018427387904:=by decide
 have e63:(2:Nat) ^ 63=9223372036854775808:=by decide
 have h34:=le34 d hd p q (by omega) (by omega)
 unfold cvA at h30 h31
 unfold proA at h33 h34
 have hl:∀ P:Nat→Bool,(dyE d).2.2=0→(Pl.YS d.ls.length P).length<2 ^ 63:=fun P he=>by
  have h12:=(LO he).l12
  have:(Pl.YS d.ls.length P).length≤d.ls.length:=M7
  omega
 have l1:(cvBef d).length<2 ^ 63:=by
  unfold cvBef
  split
  ·simp
  ·rename_i he;exact hl _ (JE.1 he)
 have l2:(cvBeh d).length<2 ^ 63:=by
  unfold cvBeh
  split
  ·simp
  ·rename_i he;exact hl _ (JE.1 he)
 generalize cvBef d=A at *
 generalize cvBeh d=B at *
 have k1:=c45 A A l1 l1
 have k2:=c45 B B l2 l2
 rw[decide_eq_true rfl] at k1 k2
 generalize proL d p q=R at *
 obtain ⟨r1,r2⟩:=R
 generalize (dyE d).2.2=e at *
 simp only at h33 h34
 refine ⟨ZF (fok5 true) (QC rfl) ?_,rfl⟩
 simp only[ic5,WI,cellsOf,evA,simprocAttr]
 refine h30.call ?_
 simp only[evA,simprocAttr]
 refine h31.call ?_
 simp only[evA,simprocAttr]
 refine k1.call frz ?_
 simp only[evA,simprocAttr]
 refine k2.call frz ?_
 simp only[bne_self_eq_false,evA,simprocAttr]
 refine h33.call frz ?_
 simp only[evA,simprocAttr]
 refine h34.call frz ?_
 simp only[beq_self_eq_true,evA,simprocAttr]
 refine awake.call .nil ?_
 simp only[evA,simprocAttr]
 (repeat' (first | exact HL.nil | exact KS.nil | exact FrzC.nl | exact FrzC.c _ trivial | apply HL.cons | apply KS.cons | apply FrzV.agg | apply FrzV.tup | apply FrzV.c | refine FrzC.sl _ _ _ _ _ _ rfl (QC rfl) ?_))
theorem sz_need {cs:List CV} {zs:List Int} (e:avOf Tryz.prog 23 cs=ints zs) {ts:List TypeId} {as_:List AV} (h:SzAll Tryz.prog (23::ts) (avOf Tryz.prog 23 cs::as_)):zs.length≤2 ^ 44:=by
 have h1:=h.1 3 _ zs.length Tryz.underlying23 e
 have h2:Tryz.prog.bytesOf 3=8:=by kernel_rfl
 have h3:reachBytes=140737488351232:=by decide
 have h4:(2:Nat) ^ 44=17592186044416:=by decide
 rw[h2,h3] at h1
 omega
theorem law_LessonCovers (avs:List AV) (h:Args Tryz.prog Tryz.f5.params.toList avs) (hz:SzAll Tryz.prog Tryz.f5.params.toList avs):AC Tryz.prog 5 avs [] fun r _=>r=.b true:=by
 have h:Args Tryz.prog [37,23,23] avs:=h
 have hz:SzAll Tryz.prog [37,23,23] avs:=hz
 obtain ⟨cs1,avs,rfl,h1,h⟩:=args_cons h
 obtain ⟨cs2,avs,rfl,h2,h⟩:=args_cons h
 obtain ⟨cs3,avs,rfl,h3,h⟩:=args_cons h
 cases args_nil h
 obtain ⟨d,e1,hd⟩:=typed_day h1
 obtain ⟨p,e2,hp⟩:=typed_need h2
 obtain ⟨q,e3,hq⟩:=typed_need h3
 have lp:=sz_need e2 hz.2
 have lq:=sz_need e3 hz.2.2
 rw[e1,e2,e3]
 exact (law5 d hd p q lp lq).call (by (repeat' (first | exact HL.nil | exact KS.nil | exact FrzC.nl | exact FrzC.c _ trivial | apply HL.cons | apply KS.cons | apply FrzV.agg | apply FrzV.tup | apply FrzV.c | refine FrzC.sl _ _ _ _ _ _ rfl (QC rfl) ?_))) rfl
end Go.Proofs.YtgkidpolomhghaaGreatDoor.AM

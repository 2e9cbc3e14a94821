/- Parts of the proof of Forms. -/
import Derived.Test.YtgkidpolomhghaaGreatDoorProg
import Derived.Test.YtgkidpolomhghaaGreatDoorRows
import Derived.WalkKit
import Derived.ProofKit
import Derived.OpenShut
import Derived.Carry
import Derived.Test.YtgkidpolomhghaaGreatDoorX6
set_option linter.unusedVariables false
set_option linter.unusedSimpArgs false
set_option linter.unusedSectionVars false
namespace Go.Proofs.YtgkidpolomhghaaGreatDoor.AM
variable [Dr]
open Go
abbrev vs24:List Nat:=[0,1,2,3,4,5,6,7,8,19,24,31,38,49]
def ic24l0:IC:=(.seq (.seq (.region [jv 7,jF 1 1,jl 1,je 2,jw 12 (.bin .lss .int) [.t 0,.t 3]])
 (.cond 12 .skip
 (.exit 2)))
 (.seq (.block 3 (.seq (.dr [[],[],[1],[],[2,3],[4],[0,5],[6,6,0,1,2,3,4,5,6]] [jN 2 1,jF 1 1,jl 1,jv 7,ja 7 2 3,jq (.loadN 7) [.t 4],jk 71 [.t 0,.t 5],jm 8 6])
 (.seq (.region [jv 8,jw 13 (.bin .neq .int) [.t 0,jn 0]])
 (.cond 13 (.seq (.region [jv 7,jv 8,jz 2 3,jm 3 0,jm 4 1])
 .ret)
 .skip))))
 (.region [jv 7,jq (.bin .add .int) [.t 0,jn 1],jm 7 1])))
def ic24l1:IC:=(.seq (.seq (.region [jv 5,jF 0 1,jl 1,je 2,jw 10 (.bin .lss .int) [.t 0,.t 3]])
 (.cond 10 .skip
 (.exit 0)))
 (.seq (.block 1 (.seq (.region [jN 2 1,jv 5,jk 70 [.t 0,.t 1],jm 6 2])
 (.seq (.region [jv 6,jw 11 (.bin .neq .int) [.t 0,jn 0]])
 (.cond 11 (.seq (.region [jv 5,jv 6,jz 2 2,jm 3 0,jm 4 1])
 .ret)
 .skip))))
 (.region [jv 5,jq (.bin .add .int) [.t 0,jn 1],jm 5 1])))
def ic24:IC:=(.seq (.region [jb 1 0,jz 2 0,jz 3 0,jz 4 0])
 (.seq (.seq (.region [jF 0 1,jl 0,je 1,jk 64 [.t 2,jn 1,jn 16],jq .not [.t 3],jt 4,jg 5 false (.fadd 1) [.v 1],ji 5 false 6,jg 5 false (.len false) [.t 7],jg 5 false (.bin .gtr .int) [.t 8,jn 12],jw 9 .pick [.t 5,jB true,.t 9]])
 (.cond 9 (.seq (.region [jz 2 1,jz 3 0,jz 4 3])
 .ret)
 .skip))
 (.seq (.seq (.region [jz 5 0])
 (.block 0 (.loop ic24l1)))
 (.seq (.seq (.region [jz 7 0])
 (.block 2 (.loop ic24l0)))
 (.seq (.region [jz 2 0,jz 3 0,jz 4 0])
 .ret)))))
abbrev rs24:List RC:=[(.v 2),(.v 3),(.v 4)]
theorem fok24 (p:Bool):FnOk Tryz.prog 24 ⟨ic24,vs24,52,rs24,p⟩:=.mk2 Tryz.func24 (by kernel_rfl) (by kernel_rfl) (by kernel_rfl) (by kernel_rfl) (by kernel_rfl)
abbrev vs52:List Nat:=[0,1,2,5,6,7,16,25,37,67]
def ic52l0:IC:=(.seq (.seq (.region [jv 4,jF 5 1,jG 1 1,jl 2,je 3,jq (.bin .lss .int) [.t 0,.t 4],jt 5,jh 6 true 3,jg 6 true (.bin .eql .int) [.t 7,jn 0],jw 8 .pick [.t 6,.t 8,jB false]])
 (.cond 8 .skip
 (.exit 0)))
 (.seq (.block 1 (.seq (.region [jF 5 1,jG 1 0,jl 1,jv 4,ja 7 2 3,jq (.loadN 7) [.t 4],jw 5 (.alloc [(.cv (.int .i64 0)),(.cv (.int .i64 0)),(.cv (.int .i64 0)),(.cv (.int .i64 0)),(.cv (.int .i64 0)),(.cv (.int .i64 0)),(.cv (.int .i64 0))]) [],jq (.store 7) [.v 5,.t 5]])
 (.seq (.region [jF 0 5,jl 0,jF 2 1,jl 2,je 3,jq (.bin .geq .int) [.t 1,.t 4],jt 5,jg 6 false (.fadd 1) [.v 5],ji 6 false 7,jg 6 false (.fadd 3) [.v 1],ji 6 false 9,jg 6 false (.len false) [.t 10],jg 6 false (.bin .geq .int) [.t 8,.t 11],jq .pick [.t 6,jB true,.t 12],jt 13,jg 14 false (.fadd 2) [.v 5],ji 14 false 15,jg 14 false (.fadd 4) [.v 1],ji 14 false 17,jg 14 false (.len false) [.t 18],jg 14 false (.bin .geq .int) [.t 16,.t 19],jw 9 .pick [.t 14,jB true,.t 20]])
 (.cond 9 (.region [jz 3 4])
 .skip))))
 (.region [jv 4,jq (.bin .add .int) [.t 0,jn 1],jm 4 1])))
def ic52:IC:=(.seq (.region [jb 1 0,jz 2 0])
 (.seq (.region [jF 0 1,jq (.loadN 2) [.t 0],jk 107 [.t 1],jt 2,jx 0 3,jx 1 3,jx 2 3,jt 4,jt 5,jm 3 6])
 (.seq (.seq (.region [jv 3,jw 6 (.bin .eql .int) [.t 0,jn 0]])
 (.cond 6 (.region [jF 5 1,jq (.loadN 2) [.t 0],jk 24 [.t 1],jt 2,jx 0 3,jx 1 3,jx 2 3,jm 3 6])
 .skip))
 (.seq (.seq (.region [jv 3,jw 7 (.bin .eql .int) [.t 0,jn 0]])
 (.cond 7 (.region [jN 7 1,jk 108 [.t 0],jm 3 1])
 .skip))
 (.seq (.seq (.region [jz 4 0])
 (.block 0 (.loop ic52l0)))
 (.seq (.region [jv 3,jm 2 0])
 .ret))))))
abbrev rs52:List RC:=[(.v 2)]
theorem fok52 (p:Bool):FnOk Tryz.prog 52 ⟨ic52,vs52,69,rs52,p⟩:=.mk2 Tryz.func52 (by kernel_rfl) (by kernel_rfl) (by kernel_rfl) (by kernel_rfl) (by kernel_rfl)
abbrev vs55:List Nat:=[0,1,2,3,6,7,8,9,10,12,14,15,16,26,29,30,31,32,35,36,37,38,46,47,48,73,96]
def ic55l0:IC:=(.seq (.region [jw 24 (.bin .lss .int) [.v 23,.v 22]])
 (.seq (.cond 24 .skip
 (.exit 4))
 (.seq (.block 5 (.seq (.region [jv 23,jm 11 0])
 (.seq (.dr [[],[0],[1],[2],[],[4],[3,5],[6],[],[7,8],[9],[10],[11],[12,11],[13,11],[14,11],[11],[16,11],[15,17,11],[18,11],[11],[19,20,11],[21,11],[11,22]] [jv 6,jc 0,jG 2 1,jl 2,jF 0 9,jl 4,ja 1 3 5,jl 6,jv 11,ja 1 7 8,jl 9,jt 10,jh 11 true 6,jg 11 true .nilck [.t 12],jg 11 true (.fadd 2) [.t 13],ji 11 true 14,jg 11 true (.fadd 0) [.v 10],ji 11 true 16,jg 11 true (.iaS 1) [.t 15,.t 17],ji 11 true 18,jh 11 true 11,jg 11 true (.iaS 1) [.t 19,.t 20],ji 11 true 21,jw 25 .pick [.t 11,.t 22,jB false]])
 (.cond 25 (.dr [[],[],[],[2],[],[4],[3,5],[1,6],[0,7],[8],[0,7,0,1,2,3,4,5,6,7],[10],[0,11,9,10,0,1,2,3,4,5,6,7,8,9,10,11]] [jv 8,jv 11,jF 1 9,jl 2,jF 1 10,jl 4,jq (.bin .or .int) [.t 3,.t 5],jq (.build [(.cv (.int .i64 0)),(.cv (.int .i64 0))] [(0,1),(1,1)]) [.t 1,.t 6],jq (.lookup (true,[(.int .i64),(.int .i64)]) (.cv (.int .i64 0)) false) [.t 0,.t 7],jq (.bin .add .int) [.t 8,jn 1],jq (.mapent (true,[(.int .i64),(.int .i64)]) (.cv (.int .i64 0))) [.t 0,.t 7],jx 1 10,jq .entst [.t 0,.t 11,.t 9]])
 .skip))))
 (.region [jq (.bin .add .int) [.v 23,jn 1],jm 23 0]))))
def ic55l1:IC:=(.seq (.region [jw 21 (.bin .lss .int) [.v 20,.v 19]])
 (.seq (.cond 21 .skip
 (.exit 2))
 (.seq (.block 3 (.seq (.region [jq (.iaS 2) [.v 18,.v 20],jq (.loadN 2) [.t 0],jw 10 (.alloc [(.cv (.int .i64 0)),(.cv (.int .i64 0))]) [],jq (.store 2) [.v 10,.t 1]])
 (.seq (.region [jv 6,jc 0,jG 0 1,jG 0 2,jl 3,jw 22 (.len false) [.t 4],jz 23 0])
 (.block 4 (.loop ic55l0)))))
 (.region [jq (.bin .add .int) [.v 20,jn 1],jm 20 0]))))
def ic55l2:IC:=(.seq (.region [jw 17 (.bin .lss .int) [.v 16,.v 15]])
 (.seq (.cond 17 .skip
 (.exit 0))
 (.seq (.block 1 (.seq (.region [jq (.iaS 2) [.v 14,.v 16],jq (.loadN 2) [.t 0],jw 9 (.alloc [(.cv (.int .i64 0)),(.cv (.int .i64 0))]) [],jq (.store 2) [.v 9,.t 1]])
 (.seq (.region [jw 18 .mv [.v 2],jw 19 (.len false) [.v 18],jz 20 0])
 (.block 2 (.loop ic55l1)))))
 (.region [jq (.bin .add .int) [.v 16,jn 1],jm 16 0]))))
def ic55:IC:=(.seq (.region [jb 3 0,jw 4 .mv [jS],jz 5 0])
 (.seq (.region [jN 2 3,jv 1,jv 2,jq (.bslice 1 2 [(.cv .nils),(.cv .nils)] [(0,1),(1,1)]) [.t 1,.t 2],jk 110 [.t 0,.t 3],jt 4,jx 0 5,jx 1 5,jm 6 6,jm 7 7])
 (.seq (.seq (.region [jv 7,jw 13 (.bin .neq .int) [.t 0,jn 0]])
 (.cond 13 (.seq (.region [jv 7,jw 4 .mv [jS],jm 5 0])
 .ret)
 .skip))
 (.seq (.region [jq .mkmap [],jm 8 0])
 (.seq (.seq (.region [jw 14 .mv [.v 1],jw 15 (.len false) [.v 14],jz 16 0])
 (.block 0 (.loop ic55l2)))
 (.seq (.region [jv 6,jv 8,jk 113 [.t 1],jk 112 [.t 2],jk 111 [.t 0,.t 3],jm 12 4])
 (.seq (.seq (.region [jv 12,je 0,jw 26 (.bin .gtr .int) [.t 1,jn 40]])
 (.cond 26 (.seq (.region [jw 4 .mv [jS],jz 5 3])
 .ret)
 .skip))
 (.seq (.region [jv 12,jm 4 0,jz 5 0])
 .ret))))))))
abbrev rs55:List RC:=[(.v 4),(.v 5)]
theorem fok55 (p:Bool):FnOk Tryz.prog 55 ⟨ic55,vs55,98,rs55,p⟩:=.mk2 Tryz.func55 (by kernel_rfl) (by kernel_rfl) (by kernel_rfl) (by kernel_rfl) (by kernel_rfl)
abbrev vs141:List Nat:=[0,1,2,4,5,6,7,8,17,20,31,42,47,57,62,66,76]
def ic141l0:IC:=(.seq (.seq (.region [jv 7,jF 1 4,jl 1,je 2,jw 12 (.bin .lss .int) [.t 0,.t 3]])
 (.cond 12 .skip
 (.exit 2)))
 (.seq (.block 3 (.seq (.region [jF 1 4,jl 0,jv 7,ja 1 1 2,jl 3,jv 6,jk 140 [.t 4,jn 0,.t 5],jw 13 .not [.t 6]])
 (.cond 13 (.seq (.region [jz 3 4])
 .ret)
 .skip)))
 (.region [jv 7,jq (.bin .add .int) [.t 0,jn 1],jm 7 1])))
def ic141l1:IC:=(.seq (.seq (.region [jv 5,jv 1,jw 9 (.bin .lss .int) [.t 0,.t 1]])
 (.cond 9 .skip
 (.exit 0)))
 (.seq (.block 1 (.seq (.dr [[],[0],[],[1,2],[3],[4],[],[6],[5,7]] [jF 0 2,jl 0,jv 5,ja 5 1 2,jG 0 3,jl 4,jF 0 4,jl 6,jw 10 (.bin .eql .str) [.t 5,.t 7]])
 (.cond 10 (.seq (.region [jz 3 5])
 .ret)
 .skip)))
 (.region [jv 5,jq (.bin .add .int) [.t 0,jn 1],jm 5 1])))
def ic141:IC:=(.seq (.region [jb 2 0,jz 3 0])
 (.seq (.region [jF 0 2,jl 0,jv 1,ja 5 1 2,jq (.loadN 5) [.t 3],jw 4 (.alloc [(.cv (.str (bts []))),(.cv .nils),(.cv (.int .i64 0)),(.cv (.int .i64 0)),(.cv (.int .i64 0))]) [],jq (.store 5) [.v 4,.t 4]])
 (.seq (.seq (.region [jF 0 4,jl 0,jk 142 [.t 1],jw 8 .not [.t 2]])
 (.cond 8 (.seq (.region [jz 3 6])
 .ret)
 .skip))
 (.seq (.seq (.region [jz 5 0])
 (.block 0 (.loop ic141l1)))
 (.seq (.region [jF 0 2,jl 0,je 1,jq (.bin .sub .int) [.t 2,jn 1],jm 6 3])
 (.seq (.seq (.region [jF 1 4,jl 0,je 1,jF 0 2,jl 3,je 4,jw 11 (.bin .gtr .int) [.t 2,.t 5]])
 (.cond 11 (.seq (.region [jz 3 3])
 .ret)
 .skip))
 (.seq (.seq (.region [jz 7 0])
 (.block 2 (.loop ic141l0)))
 (.seq (.seq (.region [jF 2 4,jl 0,jv 6,jk 140 [.t 1,jn (-1),.t 2],jw 14 .not [.t 3]])
 (.cond 14 (.seq (.region [jz 3 4])
 .ret)
 .skip))
 (.seq (.seq (.region [jF 2 4,jl 0,jv 1,jw 15 (.bin .eql .int) [.t 1,.t 2]])
 (.cond 15 (.seq (.region [jz 3 2])
 .ret)
 .skip))
 (.seq (.seq (.region [jF 3 4,jl 0,jk 140 [.t 1,jn 0,jn 100],jq .not [.t 2],jt 3,jg 4 false (.fadd 4) [.v 4],ji 4 false 5,jf 4 false 140 [.t 6,jn 0,jn 100],jg 4 false .not [.t 7],jw 16 .pick [.t 4,jB true,.t 8]])
 (.cond 16 (.seq (.region [jz 3 7])
 .ret)
 .skip))
 (.seq (.region [jz 3 0])
 .ret)))))))))))
abbrev rs141:List RC:=[(.v 3)]
theorem fok141 (p:Bool):FnOk Tryz.prog 141 ⟨ic141,vs141,77,rs141,p⟩:=.mk2 Tryz.func141 (by kernel_rfl) (by kernel_rfl) (by kernel_rfl) (by kernel_rfl) (by kernel_rfl)
abbrev vs143:List Nat:=[0,1,4,5,9,17]
def ic143l0:IC:=(.seq (.seq (.region [jv 3,jv 0,je 1,jw 4 (.bin .lss .int) [.t 0,.t 2]])
 (.cond 4 .skip
 (.exit 0)))
 (.seq (.block 1 (.seq (.region [jv 0,jv 3,ja 1 0 1,jl 2,jv 1,jw 5 (.bin .eql .str) [.t 3,.t 4]])
 (.cond 5 (.seq (.region [jv 3,jm 2 0])
 .ret)
 .skip)))
 (.region [jv 3,jq (.bin .add .int) [.t 0,jn 1],jm 3 1])))
def ic143:IC:=(.seq (.region [jz 2 0])
 (.seq (.seq (.region [jz 3 0])
 (.block 0 (.loop ic143l0)))
 (.seq (.region [jz 2 (-1)])
 .ret)))
abbrev rs143:List RC:=[(.v 2)]
theorem fok143 (p:Bool):FnOk Tryz.prog 143 ⟨ic143,vs143,19,rs143,p⟩:=.mk2 Tryz.func143 (by kernel_rfl) (by kernel_rfl) (by kernel_rfl) (by kernel_rfl) (by kernel_rfl)
abbrev vs144:List Nat:=[0,1,2,4,5,8,12,25,37]
def ic144l0:IC:=(.seq (.seq (.region [jv 4,jv 1,je 1,jw 6 (.bin .lss .int) [.t 0,.t 2]])
 (.cond 6 .skip
 (.exit 0)))
 (.seq (.block 1 (.seq (.seq (.dr [[],[],[0,1],[2],[3],[],[5],[6],[7],[4,8],[9]] [jv 1,jv 4,ja 2 0 1,jG 0 2,jl 3,jF 0 2,jl 5,je 6,jq (.bin .sub .int) [.t 7,jn 1],jk 140 [.t 4,jn 0,.t 8],jw 7 .not [.t 9]])
 (.cond 7 (.seq (.region [jz 3 4])
 .ret)
 .skip))
 (.seq (.dr [[],[],[0,1],[2],[3],[],[5],[6],[7],[8],[4,9,8],[10]] [jv 1,jv 4,ja 2 0 1,jG 1 2,jl 3,jF 1 2,jl 5,je 6,jk 83 [.t 7],jq (.bin .sub .int) [.t 8,jn 1],jk 140 [.t 4,jn 0,.t 9],jw 8 .not [.t 10]])
 (.cond 8 (.seq (.region [jz 3 7])
 .ret)
 .skip))))
 (.region [jv 4,jq (.bin .add .int) [.t 0,jn 1],jm 4 1])))
def ic144:IC:=(.seq (.region [jb 2 0,jz 3 0])
 (.seq (.seq (.region [jv 1,je 0,jw 5 (.bin .gtr .int) [.t 1,jn 40]])
 (.cond 5 (.seq (.region [jz 3 3])
 .ret)
 .skip))
 (.seq (.seq (.region [jz 4 0])
 (.block 0 (.loop ic144l0)))
 (.seq (.region [jz 3 0])
 .ret))))
abbrev rs144:List RC:=[(.v 3)]
theorem fok144 (p:Bool):FnOk Tryz.prog 144 ⟨ic144,vs144,38,rs144,p⟩:=.mk2 Tryz.func144 (by kernel_rfl) (by kernel_rfl) (by kernel_rfl) (by kernel_rfl) (by kernel_rfl)
abbrev vs64:List Nat:=[0,1,2,6]
def ic64:IC:=(.seq (.region [jw 3 .mv [jB false]])
 (.seq (.region [jv 0,jv 1,jq (.bin .geq .int) [.t 0,.t 1],jt 2,jh 3 true 0,jh 3 true 2,jg 3 true (.bin .leq .int) [.t 4,.t 5],jq .pick [.t 3,.t 6,jB false],jm 3 7])
 .ret))
abbrev rs64:List RC:=[(.v 3)]
theorem fok64 (p:Bool):FnOk Tryz.prog 64 ⟨ic64,vs64,15,rs64,p⟩:=.mk2 Tryz.func64 (by kernel_rfl) (by kernel_rfl) (by kernel_rfl) (by kernel_rfl) (by kernel_rfl)
abbrev vs70:List Nat:=[0,1,2,4,5,6,17,21,29,34]
def ic70l0:IC:=(.seq (.seq (.region [jv 5,jv 4,je 1,jw 7 (.bin .lss .int) [.t 0,.t 2]])
 (.cond 7 .skip
 (.exit 0)))
 (.seq (.block 1 (.seq (.region [jv 4,jv 5,ja 1 0 1,jl 2,jk 64 [.t 3,jn 0,jn 120],jw 8 .not [.t 4]])
 (.cond 8 (.seq (.region [jz 3 7])
 .ret)
 .skip)))
 (.region [jv 5,jq (.bin .add .int) [.t 0,jn 1],jm 5 1])))
def ic70:IC:=(.seq (.region [jb 2 0,jz 3 0])
 (.seq (.region [jF 0 2,jl 0,jv 1,ja 1 1 2,jl 3,jm 4 4])
 (.seq (.seq (.region [jv 4,je 0,jF 0 2,jl 2,je 3,jw 6 (.bin .neq .int) [.t 1,.t 4]])
 (.cond 6 (.seq (.region [jz 3 3])
 .ret)
 .skip))
 (.seq (.seq (.region [jz 5 0])
 (.block 0 (.loop ic70l0)))
 (.seq (.seq (.region [jv 4,jv 1,ja 1 0 1,jl 2,jw 9 (.bin .neq .int) [.t 3,jn 0]])
 (.cond 9 (.seq (.region [jz 3 2])
 .ret)
 .skip))
 (.seq (.region [jz 3 0])
 .ret))))))
abbrev rs70:List RC:=[(.v 3)]
theorem fok70 (p:Bool):FnOk Tryz.prog 70 ⟨ic70,vs70,35,rs70,p⟩:=.mk2 Tryz.func70 (by kernel_rfl) (by kernel_rfl) (by kernel_rfl) (by kernel_rfl) (by kernel_rfl)
abbrev vs71:List Nat:=[0,1,2,3,4,5,6,23,25,33,38,56]
def ic71l0:IC:=(.seq (.seq (.region [jv 6,jw 8 (.bin .lss .int) [.t 0,jn 3]])
 (.cond 8 .skip
 (.exit 0)))
 (.seq (.block 1 (.seq (.region [jv 5,jv 6,ja 1 0 1,jl 2,jk 64 [.t 3,jn 0,jn 7],jw 9 .not [.t 4]])
 (.cond 9 (.seq (.region [jz 4 7])
 .ret)
 .skip)))
 (.region [jv 6,jq (.bin .add .int) [.t 0,jn 1],jm 6 1])))
def ic71:IC:=(.seq (.region [jb 2 0,jb 3 1,jz 4 0])
 (.seq (.region [jF 0 3,jl 0,jF 1 3,jl 2,jF 2 3,jl 4,jq (.bslice 1 3 [(.cv (.int .i64 0)),(.cv (.int .i64 0)),(.cv (.int .i64 0))] [(0,1),(1,1),(2,1)]) [.t 1,.t 3,.t 5],jm 5 6])
 (.seq (.seq (.region [jF 3 3,jl 0,jk 64 [.t 1,jn 0,jn 1440],jq .not [.t 2],jt 3,jg 4 false (.fadd 4) [.v 3],ji 4 false 5,jf 4 false 64 [.t 6,jn 0,jn 1440],jg 4 false .not [.t 7],jw 7 .pick [.t 4,jB true,.t 8]])
 (.cond 7 (.seq (.region [jz 4 7])
 .ret)
 .skip))
 (.seq (.seq (.region [jz 6 0])
 (.block 0 (.loop ic71l0)))
 (.seq (.seq (.region [jF 3 3,jl 0,jF 4 3,jl 2,jw 10 (.bin .geq .int) [.t 1,.t 3]])
 (.cond 10 (.seq (.region [jz 4 2])
 .ret)
 .skip))
 (.seq (.seq (.region [jF 5 3,jl 0,jF 0 2,jl 2,je 3,jq (.bin .sub .int) [.t 4,jn 1],jk 64 [.t 1,jn 0,.t 5],jq .not [.t 6],jt 7,jg 8 false (.fadd 6) [.v 3],ji 8 false 9,jg 8 false (.fadd 0) [.v 2],ji 8 false 11,jg 8 false (.len false) [.t 12],jg 8 false (.bin .sub .int) [.t 13,jn 1],jf 8 false 64 [.t 10,jn 0,.t 14],jg 8 false .not [.t 15],jw 11 .pick [.t 8,jB true,.t 16]])
 (.cond 11 (.seq (.region [jz 4 4])
 .ret)
 .skip))
 (.seq (.region [jz 4 0])
 .ret)))))))
abbrev rs71:List RC:=[(.v 4)]
theorem fok71 (p:Bool):FnOk Tryz.prog 71 ⟨ic71,vs71,57,rs71,p⟩:=.mk2 Tryz.func71 (by kernel_rfl) (by kernel_rfl) (by kernel_rfl) (by kernel_rfl) (by kernel_rfl)
abbrev vs107:List Nat:=[0,1,2,3,4,5,6,7,8,9,20,25,32,39,48,60,66,77,93]
def ic107l0:IC:=(.seq (.seq (.region [jv 9,jF 0 1,jl 1,jv 8,ja 5 2 3,jG 1 4,jl 5,je 6,jw 17 (.bin .lss .int) [.t 0,.t 7]])
 (.cond 17 .skip
 (.exit 6)))
 (.seq (.block 7 (.seq (.dr [[],[],[1],[],[2,3],[4],[5],[],[6,7],[8],[0,9],[],[10,11],[12]] [jN 2 1,jF 0 1,jl 1,jv 8,ja 5 2 3,jG 1 4,jl 5,jv 9,ja 1 6 7,jl 8,jk 109 [.t 0,.t 9],jv 8,ja 1 10 11,jw 18 .load1 [.t 12]])
 (.cond 18 (.seq (.region [jv 8,jz 2 4,jm 3 0,jz 4 9])
 .ret)
 .skip)))
 (.region [jv 9,jq (.bin .add .int) [.t 0,jn 1],jm 9 1])))
def ic107l1:IC:=(.seq (.seq (.region [jv 8,jF 0 1,jl 1,je 2,jw 16 (.bin .lss .int) [.t 0,.t 3]])
 (.cond 16 .skip
 (.exit 4)))
 (.seq (.block 5 (.seq (.region [jz 9 0])
 (.block 6 (.loop ic107l0))))
 (.region [jv 8,jq (.bin .add .int) [.t 0,jn 1],jm 8 1])))
def ic107l2:IC:=(.seq (.seq (.region [jv 7,jF 1 1,jl 1,je 2,jw 13 (.bin .lss .int) [.t 0,.t 3]])
 (.cond 13 .skip
 (.exit 2)))
 (.seq (.block 3 (.seq (.seq (.region [jF 1 1,jl 0,jv 7,ja 1 1 2,jl 3,jk 142 [.t 4],jw 14 .not [.t 5]])
 (.cond 14 (.seq (.region [jv 7,jz 2 3,jm 3 0,jz 4 6])
 .ret)
 .skip))
 (.seq (.dr [[],[0],[],[1,2],[],[4],[],[5,6],[7],[3,8],[9]] [jF 1 1,jl 0,jv 7,jq (.slS 1 false true) [.t 1,.t 2],jF 1 1,jl 4,jv 7,ja 1 5 6,jl 7,jk 143 [.t 3,.t 8],jw 15 (.bin .geq .int) [.t 9,jn 0]])
 (.cond 15 (.seq (.region [jv 7,jz 2 3,jm 3 0,jz 4 5])
 .ret)
 .skip))))
 (.region [jv 7,jq (.bin .add .int) [.t 0,jn 1],jm 7 1])))
def ic107l3:IC:=(.seq (.seq (.region [jv 5,jF 0 1,jl 1,je 2,jw 11 (.bin .lss .int) [.t 0,.t 3]])
 (.cond 11 .skip
 (.exit 0)))
 (.seq (.block 1 (.seq (.region [jN 2 1,jv 5,jk 141 [.t 0,.t 1],jm 6 2])
 (.seq (.region [jv 6,jw 12 (.bin .neq .int) [.t 0,jn 0]])
 (.cond 12 (.seq (.region [jv 5,jv 6,jz 2 2,jm 3 0,jm 4 1])
 .ret)
 .skip))))
 (.region [jv 5,jq (.bin .add .int) [.t 0,jn 1],jm 5 1])))
def ic107:IC:=(.seq (.region [jb 1 0,jz 2 0,jz 3 0,jz 4 0])
 (.seq (.seq (.region [jF 0 1,jl 0,je 1,jk 140 [.t 2,jn 1,jn 12],jq .not [.t 3],jt 4,jg 5 false (.fadd 1) [.v 1],ji 5 false 6,jg 5 false (.len false) [.t 7],jg 5 false (.bin .gtr .int) [.t 8,jn 8],jw 10 .pick [.t 5,jB true,.t 9]])
 (.cond 10 (.seq (.region [jz 2 1,jz 3 0,jz 4 3])
 .ret)
 .skip))
 (.seq (.seq (.region [jz 5 0])
 (.block 0 (.loop ic107l3)))
 (.seq (.seq (.region [jz 7 0])
 (.block 2 (.loop ic107l2)))
 (.seq (.seq (.region [jz 8 0])
 (.block 4 (.loop ic107l1)))
 (.seq (.region [jz 2 0,jz 3 0,jz 4 0])
 .ret))))))
abbrev rs107:List RC:=[(.v 2),(.v 3),(.v 4)]
theorem fok107 (p:Bool):FnOk Tryz.prog 107 ⟨ic107,vs107,95,rs107,p⟩:=.mk2 Tryz.func107 (by kernel_rfl) (by kernel_rfl) (by kernel_rfl) (by kernel_rfl) (by kernel_rfl)
abbrev vs108:List Nat:=[0,1,2,3,4,5,6,7,8,24,34,44,49,63,74,79,84,95,109]
def ic108l0:IC:=(.seq (.seq (.region [jv 8,jF 4 1,jl 1,je 2,jw 16 (.bin .lss .int) [.t 0,.t 3]])
 (.cond 16 .skip
 (.exit 4)))
 (.seq (.block 5 (.seq (.seq (.region [jF 4 1,jl 0,jv 8,ja 2 1 2,jG 0 3,jl 4,jv 3,jk 64 [.t 5,jn 0,.t 6],jw 17 .not [.t 7]])
 (.cond 17 (.seq (.region [jz 2 4])
 .ret)
 .skip))
 (.seq (.dr [[],[0],[],[1,2],[3],[4],[],[6],[7],[8],[9],[10],[5,11,10],[12]] [jF 4 1,jl 0,jv 8,ja 2 1 2,jG 1 3,jl 4,jF 0 1,jG 1 6,jl 7,je 8,jk 83 [.t 9],jq (.bin .sub .int) [.t 10,jn 1],jk 64 [.t 5,jn 0,.t 11],jw 18 .not [.t 12]])
 (.cond 18 (.seq (.region [jz 2 7])
 .ret)
 .skip))))
 (.region [jv 8,jq (.bin .add .int) [.t 0,jn 1],jm 8 1])))
def ic108l1:IC:=(.seq (.seq (.region [jv 5,jF 3 1,jl 1,je 2,jw 12 (.bin .lss .int) [.t 0,.t 3]])
 (.cond 12 .skip
 (.exit 2)))
 (.seq (.block 3 (.seq (.region [jF 3 1,jl 0,jv 5,ja 3 1 2,jq (.loadN 3) [.t 3],jw 6 (.alloc [(.cv .nils),(.cv (.int .i64 0)),(.cv (.int .i64 0))]) [],jq (.store 3) [.v 6,.t 4]])
 (.seq (.region [jF 0 1,jq (.loadN 2) [.t 0],jF 0 6,jl 2,jk 144 [.t 1,.t 3],jm 7 4])
 (.seq (.seq (.region [jv 7,jw 13 (.bin .neq .int) [.t 0,jn 0]])
 (.cond 13 (.seq (.region [jv 7,jm 2 0])
 .ret)
 .skip))
 (.seq (.seq (.region [jF 1 6,jl 0,jk 64 [.t 1,jn 0,jn 1440],jq .not [.t 2],jt 3,jg 4 false (.fadd 2) [.v 6],ji 4 false 5,jf 4 false 64 [.t 6,jn 0,jn 1440],jg 4 false .not [.t 7],jw 14 .pick [.t 4,jB true,.t 8]])
 (.cond 14 (.seq (.region [jz 2 7])
 .ret)
 .skip))
 (.seq (.region [jF 1 6,jl 0,jF 2 6,jl 2,jw 15 (.bin .gtr .int) [.t 1,.t 3]])
 (.cond 15 (.seq (.region [jz 2 2])
 .ret)
 .skip)))))))
 (.region [jv 5,jq (.bin .add .int) [.t 0,jn 1],jm 5 1])))
def ic108l2:IC:=(.seq (.seq (.region [jv 4,jF 2 1,jl 1,je 2,jw 10 (.bin .lss .int) [.t 0,.t 3]])
 (.cond 10 .skip
 (.exit 0)))
 (.seq (.block 1 (.seq (.region [jF 2 1,jl 0,jv 4,ja 1 1 2,jl 3,jv 3,jk 64 [.t 4,jn 0,.t 5],jw 11 .not [.t 6]])
 (.cond 11 (.seq (.region [jz 2 4])
 .ret)
 .skip)))
 (.region [jv 4,jq (.bin .add .int) [.t 0,jn 1],jm 4 1])))
def ic108:IC:=(.seq (.region [jb 1 0,jz 2 0])
 (.seq (.seq (.region [jF 2 1,jl 0,je 1,jq (.bin .gtr .int) [.t 2,jn 8],jt 3,jg 4 false (.fadd 3) [.v 1],ji 4 false 5,jg 4 false (.len false) [.t 6],jg 4 false (.bin .gtr .int) [.t 7,jn 8],jq .pick [.t 4,jB true,.t 8],jt 9,jg 10 false (.fadd 4) [.v 1],ji 10 false 11,jg 10 false (.len false) [.t 12],jg 10 false (.bin .gtr .int) [.t 13,jn 8],jw 9 .pick [.t 10,jB true,.t 14]])
 (.cond 9 (.seq (.region [jz 2 3])
 .ret)
 .skip))
 (.seq (.region [jF 0 1,jG 0 0,jl 1,je 2,jq (.bin .sub .int) [.t 3,jn 1],jm 3 4])
 (.seq (.seq (.region [jz 4 0])
 (.block 0 (.loop ic108l2)))
 (.seq (.seq (.region [jz 5 0])
 (.block 2 (.loop ic108l1)))
 (.seq (.seq (.region [jz 8 0])
 (.block 4 (.loop ic108l0)))
 (.seq (.region [jz 2 0])
 .ret)))))))
abbrev rs108:List RC:=[(.v 2)]
theorem fok108 (p:Bool):FnOk Tryz.prog 108 ⟨ic108,vs108,110,rs108,p⟩:=.mk2 Tryz.func108 (by kernel_rfl) (by kernel_rfl) (by kernel_rfl) (by kernel_rfl) (by kernel_rfl)
theorem Qeg {lo hi:Int} {zs:List Int} {j:Nat} (hj:j<zs.length) (h:inB (zs[j]?.getD 0) lo hi=false):outF lo hi zs=true:=by
 cases ho:outF lo hi zs with
 | true=>rfl
 | false=>rw[PW.1 ho j hj] at h;cases h
theorem PH.get {g:Nat→Nat} {k:Nat} {σ:List AObj} {as_ bs:List AV} (h:PH g k σ as_ bs):∀ i,Move1 g k σ (as_.getD i .undef) (bs.getD i .undef):=by
 induction h with
 | nil=>intro i;exact .inl ⟨by simp[List.getD,ren],by simp[List.getD,QR]⟩
 | cons h _ ih =>
  intro i;cases i with
  | zero=>simpa[List.getD] using h
  | succ i=>simpa[List.getD] using ih i
theorem HRel.forgetF {m:LM} {X:Nat→Prop} {σ σf:List AObj} {w:World} (h:HRel m X σ w) (hl:σf.length=σ.length) (hf:∀ (l:Nat) o,σf[l]? = some o→o=.dead∨σ[l]? = some o):HRel m X σf w:=by
 have hlv:∀ (l:Nat) o,σf[l]? = some o→o.live→σ[l]? = some o:=fun l o ho hv=>by
  rcases hf l o ho with rfl | h
  ·exact hv.elim
  ·exact h
 refine ⟨h.xb,fun l b hb=>by rw[hl];exact h.dom l b hb,fun l b o hb ho hv=>h.own l b o hb (hlv l o ho hv) hv,fun l l' b o' hb hb' ho' hv=>h.inj l l' b o' hb hb' (hlv l' o' ho' hv) hv,fun l o ho=>?_,h.gl⟩;rcases hf l o ho with rfl | h2
 ·cases m l <;> simp[ORel]
 ·exact h.obj l o h2
theorem Weak.move {fx:Fx} {vals vals2:List AV} {σ σ2 σf:List AObj} {g:Nat→Nat} (h0:fx.n0=0) (hg:∀ a b,a<b→b<σ2.length→g a<g b) (hfl:σf.length=σ.length)
  (hf:∀ (l:Nat) o,σf[l]? = some o→o=.dead∨(σ[l]? = some o∧∀ l2,l2<σ2.length→g l2≠l)) (hv:PH g σ2.length σf vals vals2)
  (ho:∀ (l:Nat) (o2:AObj),σ2[l]? = some o2→∃ o,σ[g l]? = some o∧o.live∧((o=renO g o2∧Z3 σ2.length o2=true)∨∃ as_ bs,o=.cells as_∧o2=.cells bs∧PH g σ2.length σf as_ bs)) :
  Weak fx ⟨vals,σ⟩ ⟨vals2,σ2⟩:=by
 intro m X en ac w hs;have hh:=hs.heap
 let m2:LM:=fun l=>if l<σ2.length then m (g l) else none
 have hm2:∀ l,l<σ2.length→m2 l=m (g l):=fun l hl=>by simp only[m2];rw[if_pos hl]
 have hm2s:∀ l b,m2 l=some b→l<σ2.length∧m (g l)=some b:=fun l b hl=>by
  simp only[m2] at hl;split at hl
  ·rename_i h;exact ⟨h,hl⟩
  ·cases hl
 have how:∀ b,Own m2 X b→Own m X b:=by
  rintro b (hx | ⟨l,hl⟩)
  ·exact .inl hx
  ·exact .inr ⟨g l,(hm2s l b hl).2⟩
 have hlv:∀ l,l<σ2.length→∃ o,σ[g l]? = some o∧o.live:=fun l hl=>by obtain ⟨o,h1,h2,_⟩:=ho l _ (QI hl);exact ⟨o,h1,h2⟩
 have hnot:∀ (l b:Nat) (o:AObj),m l=some b→σf[l]? = some o→o.live→¬ Own m2 X b:=by
  intro l b o hb hlo hlive hown;rcases hf l o hlo with rfl | ⟨h1,h2⟩
  ·exact hlive.elim
  ·rcases hown with hx | ⟨l2,h3⟩
   ·exact hh.own l b o hb h1 hlive hx
   ·obtain ⟨h4,h5⟩:=hm2s l2 b h3;obtain ⟨o2,h6,h7⟩:=hlv l2 h4;have a1:=hh.inj l (g l2) b _ hb h5 h6 h7;have a2:=hh.inj (g l2) l b _ h5 hb h1 hlive;exact h2 l2 h4 (by omega)
 have hhf:=hh.forgetF hfl fun l o h=>(hf l o h).imp id fun h=>h.1
 have one:∀ {a b:AV},Move1 g σ2.length σf a b→∀ v,VRel m X w a v→VRel m2 X w b v:=by
  rintro a b (⟨rfl,h⟩ | h) v hv
  ·exact VRel.ren hm2 how b v h hv
  ·exact RX hhf (fun c v _ h=>CV.rep_less how c v h) hnot h v hv
 have many:∀ {as_ bs:List AV},PH g σ2.length σf as_ bs→∀ vs,QK m X w as_ vs→QK m2 X w bs vs:=by
  intro as_ bs h
  induction h with
  | nil=>intro vs hv;rw[QK.nil' hv];simp[QK]
  | cons h1 _ ih =>
   intro vs hv;obtain ⟨v,us,rfl,g1,g2⟩:=hv.cons;exact ⟨one h1 v g1,ih us g2⟩
 refine ⟨m2,⟨hs.size,?_,?_,⟨hh.xb,?_,?_,?_,?_,hh.gl.less how⟩,by rw[h0];exact QF _,hs.entry⟩,?_⟩
 ·intro i t hi;exact one (hv.get i) _ (hs.vars i t hi)
 ·obtain ⟨bs,h1,h2,h3⟩:=hs.defs;exact ⟨bs,h1,h2,fun b hb=>let ⟨g1,g2,g3,g4⟩:=h3 b hb;⟨g1,g2,g3,fun hx=>g4 (how b hx)⟩⟩
 ·intro l b hl;obtain ⟨h1,h2⟩:=hm2s l b hl;exact ⟨h1,(hh.dom (g l) b h2).2⟩
 ·intro l b o hl hlo hv;obtain ⟨h1,h2⟩:=hm2s l b hl;obtain ⟨o',h3,h4⟩:=hlv l h1;exact hh.own (g l) b o' h2 h3 h4
 ·intro l l' b o' hl hl' hlo hv;obtain ⟨h1,h2⟩:=hm2s l b hl;obtain ⟨h1',h2'⟩:=hm2s l' b hl';obtain ⟨o2,h3,h4⟩:=hlv l' h1';have:=hh.inj (g l) (g l') b o2 h2 h2' h3 h4;rcases ZB l' l with hlt | hge
  ·have:=hg l' l hlt h1;omega
  ·exact hge
 ·intro l o2 hlo;obtain ⟨o,h1,h2,h3⟩:=ho l o2 hlo;have hlt:l<σ2.length:=(QH.1 hlo).1;have hob:=hh.obj (g l) o h1;rw[hm2 l hlt];rcases h3 with ⟨rfl,hc⟩ | ⟨as_,bs,rfl,rfl,ht⟩
  ·exact ORel.ren hm2 how hc hob
  ·cases hm:m (g l) with
   | none=>rw[hm] at hob;exact hob.elim
   | some b =>
    rw[hm] at hob;obtain ⟨c,e,g1,g2,g3⟩:=hob;refine ⟨c,e,g1,by rw[← ht.len];exact g2,?_⟩;rw[← ht.len];exact many ht _ g3
 ·rw[h0];exact ⟨fun l hl=>absurd hl (W5 _),fun l b hl=>.inl ⟨g l,(hm2s l b hl).2⟩,QG _,fun _ _ _=>rfl,fun b c e hb=>⟨c,hb,rfl⟩,rfl,rfl,rfl,fun _=>QG _⟩
end Go.Proofs.YtgkidpolomhghaaGreatDoor.AM
namespace Go.Proofs.YtgkidpolomhghaaGreatDoor.AM
variable [Dr]
open Go
variable {P:Program} {fx:Fx} {s:St} {Q:Exit→St→Prop} {f:FuncId}
theorem WB.later {m:LM} {X:Nat→Prop} {en:En} {w:World} {c:Code} {s':St} {m':LM} {w':World} {ac':Act} (h:WB f P fx c s' Q) (hr:rok fx m) (hs':SRel fx m' X en s' ac' w') (hst:Step fx.n0 m X w m' w') :
  InF f (fen m fx.r) 0 P c (Lift fx m X en w Q) ac' w':=by
 rw[← EQ hr hst];exact InF.mono (h m' X en ac' w' hs' (EH hr hst)) fun e ac2 w2 ⟨s2,m2,h1,h2,h3⟩=>⟨s2,m2,h1,h2,hst.trans h3⟩
end Go.Proofs.YtgkidpolomhghaaGreatDoor.AM
namespace Go.Proofs.YtgkidpolomhghaaGreatDoor.AM
variable [Dr]
open Go Pl
section
variable {cs:List Cls} {k:Nat}
theorem cls_0 (h:k<cs.length):(DZ cs)[k*5]? = some (.str (cs[k]!).nm):=flat_get TW h (j:=0) (by omega)
end
theorem c86 (co:List ByteArray) (x:ByteArray) (hz:co.length<2 ^ 63):PC Tryz.prog 143 [.cv (strR co),.cv (.str x)] (.i (FP co x)):=by
 refine ⟨ZF (fok143 true) (QC rfl) ?_,rfl⟩;simp only[ic143,evA,simprocAttr];refine ZW co.length (fun i s=>(∀ j,j<i→decide (co[j]! = x)=false)∧∃ v4 v5,s=⟨[.cv (strR co),.cv (.str x),.i 0,.i i,v4,v5],[]⟩) ?_ 0 (QF _) ⟨by omega,_,_,rfl⟩;rintro i s hi ⟨hall,v4,v5,rfl⟩;by_cases h:i<co.length
 ·simp only[ic143l0,QJ,h,XP h,BK h,binS,str_eq,evA,simprocAttr];cases hp:decide (co[i]! = x)
  ·simp only[Q6 (show i+1<2 ^ 63 by omega),evA,simprocAttr];refine ZL (by first | trivial | omega) ⟨fun j hj=>?_,_,_,rfl⟩;rcases QQ.1 hj with hj | rfl
   ·exact hall j hj
   ·exact hp
  ·simp only[evA,simprocAttr];rw[show FP co x=(i:Int) from EK (p:=fun i=>decide (co[i]! = x)) h hall hp];exact frz
 ·simp only[ic143l0,QJ,h,evA,simprocAttr];have:i=co.length:=by omega
  subst this;rw[show FP co x = -1 from EL (p:=fun i=>decide (co[i]! = x)) hall];exact frz
theorem c85 (s:Sys) (hs:SSz s) (i:Nat) (hi:i<s.cl.length):PC Tryz.prog 141 [sysV s,.i i] (.i (VR s i)):=by
 refine ⟨ZF (fok141 true) (QC rfl) ?_,rfl⟩;have hcl:=hs.cl;have hnm:=hs.nm i hi;have hin:=hs.inc i hi;have hw:IntKind.i64.wrap ((s.cl.length:Int)-1)=(s.cl.length:Int)-1:=ZC (by omega);have hld:∀ σ,YF 5 [.cv (.rp (DZ s.cl) (i*5))] σ=some (clsA s.cl[i]!,σ):=Qaz hi;have hia:∀ σ,VP 5 [.cv (clsR s.cl),.cv (.int .i64 i)] σ=some (.cv (.rp (DZ s.cl) (i*5)),σ):=GR hi;have h21:=c21 (s.cl[i]!).nm hnm;unfold VR;generalize s.cl[i]! = c at *;simp only[ic141,WI,cellsOf,hld,hia,hw,evA,simprocAttr];refine h21.call frz ?_;cases h1:JH c.nm with
 | false =>
  rw[if_pos rfl];simp only[evA,simprocAttr];exact frz
 | true =>
 rw[if_neg (by decide)];simp only[evA,simprocAttr];refine ZW i (fun k s'=>(∀ j,j<k→decide ((s.cl[j]!).nm=c.nm)=false)∧∃ v6 v7 v9 v10 v11 v12 v13 v14 v15 v16,s'=⟨[sysV s,.i i,.ptr 0 0,.i 0,.ptr 1 0,.i k,v6,v7,.b false,v9,v10,v11,v12,v13,v14,v15,v16],[.cells [.cv (clsR s.cl),.cv (strR s.co)],.cells [.cv (.str c.nm),ints c.inc,.i c.need,.i c.age,.i c.term]]⟩) ?_ 0 (QF _) ⟨by omega,_,_,_,_,_,_,_,_,_,_,rfl⟩;rintro k s' hk ⟨hall,v6,v7,v9,v10,v11,v12,v13,v14,v15,v16,rfl⟩;by_cases hki:k<i
 ·have hk2:k<s.cl.length:=by omega
  simp only[ic141l1,QJ,hki,evA,simprocAttr];refine DW_s [] [] hmix (by kernel_rfl) rfl ?_;simp only[GR hk2,cls_0 hk2,binS,str_eq,evA,simprocAttr];cases h2:decide ((s.cl[k]!).nm=c.nm) with
  | true =>
   rw[if_pos (U8.2 ⟨k,hki,h2⟩)];simp only[evA,simprocAttr];exact frz
  | false =>
   simp only[Q6 (show k+1<2 ^ 63 by omega),evA,simprocAttr];refine ZL (by first | trivial | omega) ⟨fun j hj=>?_,_,_,_,_,_,_,_,_,_,_,rfl⟩;rcases QQ.1 hj with hj | rfl
   ·exact hall j hj
   ·exact h2
 have hki':k=i:=by omega
 subst hki';have h2:anyN (fun j=>decide ((s.cl[j]!).nm=c.nm)) k=false:=F8.2 hall;rw[if_neg (by rw[h2];decide)];by_cases h3:s.cl.length<c.inc.length
 ·rw[if_pos (show (c.inc.length:Int)>s.cl.length by omega)];simp only[ic141l1,QJ,hki,hw,gt_iff_lt,h3,evA,simprocAttr];exact frz
 rw[if_neg (show ¬ (c.inc.length:Int)>s.cl.length by omega)];simp only[ic141l1,QJ,hki,hw,gt_iff_lt,h3,evA,simprocAttr];refine ZW c.inc.length (fun m s'=>(∀ j,j<m→inB (c.inc[j]?.getD 0) 0 ((s.cl.length:Int)-1)=true)∧∃ v9 v10 v12 v13 v14 v15 v16,s'=⟨[sysV s,.i k,.ptr 0 0,.i 0,.ptr 1 0,.i k,.i ((s.cl.length:Int)-1),.i m,.b false,v9,v10,.b false,v12,v13,v14,v15,v16],[.cells [.cv (clsR s.cl),.cv (strR s.co)],.cells [.cv (.str c.nm),ints c.inc,.i c.need,.i c.age,.i c.term]]⟩) ?_ 0 (QF _) ⟨by omega,_,_,_,_,_,_,_,rfl⟩;rintro m s' hm ⟨hal2,v9,v10,v12,v13,v14,v15,v16,rfl⟩;by_cases hmi:m<c.inc.length
 ·simp only[ic141l0,QJ,hmi,evA,simprocAttr];refine (c59i (c.inc[m]?.getD 0) 0 ((s.cl.length:Int)-1)).call frz ?_;cases h4:inB (c.inc[m]?.getD 0) 0 ((s.cl.length:Int)-1) with
  | false =>
   rw[if_pos (by rw[Qeg hmi h4];rfl)];simp only[evA,simprocAttr];exact frz
  | true =>
   simp only[Q6 (show m+1<2 ^ 63 by omega),evA,simprocAttr];refine ZL (by first | trivial | omega) ⟨fun j hj=>?_,_,_,_,_,_,_,_,rfl⟩;rcases QQ.1 hj with hj | rfl
   ·exact hal2 j hj
   ·exact h4
 have hmi':m=c.inc.length:=by omega
 subst hmi';rw[PW.2 hal2,Y3];simp only[ic141l0,QJ,hmi,evA,simprocAttr];refine (c59i c.need (-1) ((s.cl.length:Int)-1)).call frz ?_;cases h5:inB c.need (-1) ((s.cl.length:Int)-1) with
 | false =>
  rw[if_pos (show (!false)=true from rfl)];simp only[evA,simprocAttr];exact frz
 | true =>
 rw[if_neg (show ¬ ((!true)=true) by decide)];simp only[evA,simprocAttr];cases h6:(c.need == (k:Int)) with
 | true =>
  rw[if_pos rfl];simp only[evA,simprocAttr];exact frz
 | false =>
 rw[if_neg (by decide)];have ho:outF 0 100 [c.age,c.term]=(!inB c.age 0 100 || !inB c.term 0 100):=by have e1:=FW 0 100 c.age;have e2:=FW 0 100 c.term;simp only[outF,List.any_cons,List.any_nil,Bool.or_false] at e1 e2 ⊢;rw[e1,e2]
 rw[ho];simp only[evA,simprocAttr];refine (c59i c.age 0 100).call frz ?_;cases h7:inB c.age 0 100 with
 | false =>
  rw[if_pos (show (!false || !inB c.term 0 100)=true from rfl)];simp only[evA,simprocAttr];exact frz
 | true =>
 simp only[evA,simprocAttr];refine (c59i c.term 0 100).call frz ?_;cases h8:inB c.term 0 100 with
 | false =>
  rw[if_pos (show (!true || !false)=true from rfl)];simp only[evA,simprocAttr];exact frz
 | true =>
  rw[if_neg (show ¬ ((!true || !true)=true) by decide)];simp only[evA,simprocAttr];exact frz
theorem codIx {s:Sys} {i:Nat} (hi:i<s.co.length):decide (FP (s.co.take i) s.co[i]!≥0)=anyN (fun k=>decide (s.co[k]! = s.co[i]!)) i:=by
 have htl:(s.co.take i).length=i:=by simp;omega
 rw[FP,OA,htl,Q8,U8,U8];constructor <;> rintro ⟨k,hk,h⟩ <;> refine ⟨k,hk,?_⟩
 ·rwa [getElem!_pos _ k (by omega),List.getElem_take,← getElem!_pos s.co k (by omega)] at h
 ·rw[getElem!_pos _ k (by omega),List.getElem_take,← getElem!_pos s.co k (by omega)];exact h
theorem c54 (s:Sys) (hs:SSz s):PC Tryz.prog 107 [sysV s] (chkV s):=by
 refine ⟨ZF (fok107 true) (QC rfl) ?_,rfl⟩;have hcl:=hs.cl;have hco:=hs.co;have he2:∀ i,dnB s i=true→dnE s i=9:=fun i h=>by unfold dnE;rw[if_pos h]
 have he3:∀ i,dnB s i=false→dnE s i=0:=fun i h=>by unfold dnE;rw[if_neg (by rw[h];decide)]
 unfold chkV;simp only[ic107,WI,cellsOf,evA,simprocAttr];refine (c59i s.cl.length 1 12).call frz ?_;cases h1:inB s.cl.length 1 12 with
 | false =>
  have he:sysE s=(1,0,3):=by unfold sysE;rw[h1];rfl
  rw[he];simp only[ZY,evA,simprocAttr];exact frz
 | true =>
 cases h2:decide ((s.co.length:Int)>8) with
 | true =>
  have he:sysE s=(1,0,3):=by unfold sysE;rw[h1,h2];rfl
  rw[he];simp only[Y2,h2,evA,simprocAttr];exact frz
 | false =>
 have hn12:s.cl.length≤12:=by rw[VB] at h1;omega
 have e1:sysE s=if (XZ (VR s) 0 s.cl.length).2≠0 then (2,XZ (VR s) 0 s.cl.length) else if (XZ (KM s) 0 s.co.length).2≠0 then (3,XZ (KM s) 0 s.co.length) else if (XZ (dnE s) 0 s.cl.length).2≠0 then (4,XZ (dnE s) 0 s.cl.length) else (0,0,0):=by unfold sysE;rw[h1,h2];rfl
 rw[e1];simp only[Y2,h2,evA,simprocAttr];refine ZW s.cl.length (fun i s'=>(∀ j,j<i→VR s j=0)∧∃ v2 v3 v4 v6 v7 v8 v9 v11 v12 v13 v14 v15 v16 v17 v18,s'=⟨[sysV s,.ptr 0 0,v2,v3,v4,.i i,v6,v7,v8,v9,.b false,v11,v12,v13,v14,v15,v16,v17,v18],[.cells [.cv (clsR s.cl),.cv (strR s.co)]]⟩) ?_ 0 (QF _) ⟨by omega,_,_,_,_,_,_,_,_,_,_,_,_,_,_,_,rfl⟩;rintro i s' hi ⟨hall,v2,v3,v4,v6,v7,v8,v9,v11,v12,v13,v14,v15,v16,v17,v18,rfl⟩;by_cases hin:i<s.cl.length
 ·simp only[ic107l3,QJ,hin,evA,simprocAttr];refine (c85 s hs i hin).call frz ?_;by_cases hg:VR s i=0
  ·have hb:(VR s i != 0)=false:=by simpa using hg
   simp only[hb,Q6 (show i+1<2 ^ 63 by omega),evA,simprocAttr];refine ZL (by first | trivial | omega) ⟨fun j hj=>?_,_,_,_,_,_,_,_,_,_,_,_,_,_,_,_,rfl⟩;rcases QQ.1 hj with hj | rfl
   ·exact hall j hj
   ·exact hg
  ·have hb:(VR s i != 0)=true:=by simpa using hg
   rw[VF s.cl.length 0 i (QF _) (by omega) (fun j _ hj=>hall j hj) hg,if_pos hg];simp only[hb,evA,simprocAttr];exact frz
 have hin':i=s.cl.length:=by omega
 subst hin';have hok:OkI s:=Qch (by rw[JY s.cl.length 0 fun j _ hj=>hall j (by omega)]);rw[JY s.cl.length 0 fun j _ hj=>hall j (by omega),if_neg (show ¬ ((0:Int)≠0) by decide)];simp only[ic107l3,QJ,hin,evA,simprocAttr];refine ZW s.co.length (fun i s'=>(∀ j,j<i→KM s j=0)∧∃ v2 v3 v4 v5 v6 v8 v9 v11 v12 v13 v14 v15 v16 v17 v18,s'=⟨[sysV s,.ptr 0 0,v2,v3,v4,v5,v6,.i i,v8,v9,.b false,v11,v12,v13,v14,v15,v16,v17,v18],[.cells [.cv (clsR s.cl),.cv (strR s.co)]]⟩) ?_ 0 (QF _) ⟨by omega,_,_,_,_,_,_,_,_,_,_,_,_,_,_,_,rfl⟩;rintro i s' hi ⟨hal2,v2,v3,v4,v5,v6,v8,v9,v11,v12,v13,v14,v15,v16,v17,v18,rfl⟩;by_cases hio:i<s.co.length
 ·have hnm:=hs.cm i hio;have hix:=codIx hio;have hge:KM s i=if JH s.co[i]! = false then 6 else if decide (FP (s.co.take i) s.co[i]!≥0)=true then 5 else 0:=by rw[hix];rfl
  have hsl:∀ σ,VG 1 false true [.cv (strR s.co),.cv (.int .i64 i)] σ=some (.cv (strR (s.co.take i)),σ):=str_sl (by omega);simp only[ic107l2,QJ,hio,XP hio,BK hio,evA,simprocAttr];refine (c21 s.co[i]! hnm).call frz ?_;cases hn:JH s.co[i]! with
  | false =>
   have hg:KM s i=6:=by rw[hge,hn];rfl
   have hfe:=VF s.co.length 0 i (QF _) (by omega) (fun j _ hj=>hal2 j hj) (g:=KM s) (by rw[hg];decide);rw[hg] at hfe;rw[hfe,if_pos (fun h=>by cases h)];simp only[evA,simprocAttr];exact frz
  | true =>
  simp only[evA,simprocAttr];refine DW_s [9] [] hmix (by kernel_rfl) rfl ?_;simp only[hsl,XP hio,BK hio,evA,simprocAttr];refine YE ((c86 (s.co.take i) s.co[i]! (by simp;omega)).call frz ⟨rfl,rfl⟩) rfl ?_;cases hx:decide (FP (s.co.take i) s.co[i]!≥0) with
  | true =>
   have hg:KM s i=5:=by rw[hge,hn,hx];rfl
   have hfe:=VF s.co.length 0 i (QF _) (by omega) (fun j _ hj=>hal2 j hj) (g:=KM s) (by rw[hg];decide);rw[hg] at hfe;rw[hfe,if_pos (fun h=>by cases h)];simp only[hx,evA,simprocAttr];exact frz
  | false =>
   have hg:KM s i=0:=by rw[hge,hn,hx];rfl
   simp only[hx,Q6 (show i+1<2 ^ 63 by omega),evA,simprocAttr];refine ZL (by first | trivial | omega) ⟨fun j hj=>?_,_,_,_,_,_,_,_,_,_,_,_,_,_,_,_,rfl⟩;rcases QQ.1 hj with hj | rfl
   ·exact hal2 j hj
   ·exact hg
 have hio':i=s.co.length:=by omega
 subst hio';rw[JY s.co.length 0 fun j _ hj=>hal2 j (by omega),if_neg (show ¬ ((0:Int)≠0) by decide)];simp only[ic107l2,QJ,hio,evA,simprocAttr];refine ZW s.cl.length (fun i s'=>(∀ j,j<i→dnB s j=false)∧∃ v2 v3 v4 v5 v6 v7 v9 v11 v12 v13 v14 v15 v16 v17 v18,s'=⟨[sysV s,.ptr 0 0,v2,v3,v4,v5,v6,v7,.i i,v9,.b false,v11,v12,v13,v14,v15,v16,v17,v18],[.cells [.cv (clsR s.cl),.cv (strR s.co)]]⟩) ?_ 0 (QF _) ⟨by omega,_,_,_,_,_,_,_,_,_,_,_,_,_,_,_,rfl⟩;rintro i s' hi ⟨hal3,v2,v3,v4,v5,v6,v7,v9,v11,v12,v13,v14,v15,v16,v17,v18,rfl⟩;by_cases hin:i<s.cl.length
 ·have hinc:=hs.inc i hin;simp only[ic107l1,QJ,hin,evA,simprocAttr];refine ZW (s.cl[i]!).inc.length (fun k s'=>(∀ j,j<k→covB s ((s.cl[i]!).inc[j]?.getD 0).toNat i=false)∧∃ v17 v18,s'=⟨[sysV s,.ptr 0 0,v2,v3,v4,v5,v6,v7,.i i,.i k,.b false,v11,v12,v13,v14,v15,.b true,v17,v18],[.cells [.cv (clsR s.cl),.cv (strR s.co)]]⟩) ?_ 0 (QF _) ⟨by omega,_,_,rfl⟩;rintro k s' hk ⟨hal4,v17,v18,rfl⟩;by_cases hki:k<(s.cl[i]!).inc.length
  ·have hzr:=hok i hin ((s.cl[i]!).inc[k]?.getD 0) (by rw[QI hki];exact Q2 hki);obtain ⟨z,hze⟩:∃ z:Nat,(s.cl[i]!).inc[k]?.getD 0=(z:Int):=⟨((s.cl[i]!).inc[k]?.getD 0).toNat,by omega⟩;have e40:(2:Nat) ^ 40=1099511627776:=by decide
   simp only[ic107l0,QJ,hki,GR hin,CW hin,evA,simprocAttr];refine DW_s [10] [] hmix (by kernel_rfl) rfl ?_;simp only[QJ,hki,GR hin,CW hin,hze,evA,simprocAttr];refine YE ((c51 s hs (by omega) hok z (by omega)).call frz ⟨rfl,rfl⟩) rfl ?_;simp only[P1 hin,W3,DN hin,evA,simprocAttr];cases hb:covB s z i with
   | true =>
    have hd:dnB s i=true:=U8.2 ⟨k,hki,by rw[hze];exact hb⟩;have hg:=he2 i hd;have hfe:=VF s.cl.length 0 i (QF _) (by omega) (fun j _ hj=>he3 j (hal3 j hj)) (g:=dnE s) (by rw[hg];decide);rw[hg] at hfe;rw[hfe,if_pos (fun h=>by cases h)];simp only[evA,simprocAttr];exact frz
   | false =>
    simp only[Q6 (show k+1<2 ^ 63 by omega),evA,simprocAttr];refine ZL (by first | trivial | omega) ⟨fun j hj=>?_,_,_,rfl⟩;rcases QQ.1 hj with hj | rfl
    ·exact hal4 j hj
    ·rw[hze];exact hb
  have hkl:k=(s.cl[i]!).inc.length:=by omega
  have hd:dnB s i=false:=F8.2 fun j hj=>hal4 j (by omega)
  simp only[ic107l0,QJ,hki,GR hin,CW hin,Q6 (show i+1<2 ^ 63 by omega),evA,simprocAttr];refine ZL (by first | trivial | omega) ⟨fun j hj=>?_,_,_,_,_,_,_,_,_,_,_,_,_,_,_,_,rfl⟩;rcases QQ.1 hj with hj | rfl
  ·exact hal3 j hj
  ·exact hd
 have hin':i=s.cl.length:=by omega
 subst hin';rw[JY s.cl.length 0 fun j _ hj=>he3 j (hal3 j (by omega)),if_neg (show ¬ ((0:Int)≠0) by decide)];simp only[ic107l1,QJ,hin,evA,simprocAttr];exact frz
end Go.Proofs.YtgkidpolomhghaaGreatDoor.AM
namespace Go.Proofs.YtgkidpolomhghaaGreatDoor.Pl
def orI (a b:Int):Int:=((a.toNat ||| b.toNat:Nat):Int)
theorem QbB (a b:Int) (k:Nat):bit (orI a b) k=(bit a k||bit b k):=by simp[bit,orI,Nat.testBit_or]
theorem Qa9 (a b:Int):0≤orI a b:=VV _
theorem Qcf {a b:Int} {m:Nat} (h:a<2 ^ m) (h2:b<2 ^ m):orI a b<2 ^ m:=Qae (Qa9 _ _) fun k hk=>by rw[QbB,TY h hk,TY h2 hk];rfl
theorem SY {a b:Int} (ha:a<2 ^ 63):subI a b=0↔∀ k,bit a k=true→bit b k=true:=by
 constructor
 ·intro h k h1;have:=M8 (b:=b) ha k;rw[h,h1,OO] at this;cases h2:bit b k
  ·rw[h2] at this;cases this
  ·rfl
 ·intro h;refine QbE (MF _ _) (Int.le_refl _) fun k=>?_
  rw[M8 ha,OO];have:=h k;cases h1:bit a k <;> simp_all
end Go.Proofs.YtgkidpolomhghaaGreatDoor.Pl
namespace Go.Proofs.YtgkidpolomhghaaGreatDoor.AM
variable [Dr]
open Go Pl
theorem c48 (s:Sys) (hs:SSz s) (hm:s.co.length≤8) (l:List Rt) (hl:l.length<2 ^ 63):PC Tryz.prog 144 [sysV s,rgL l] (.i (rgsE s l)):=by
 refine ⟨ZF (fok144 true) (QC rfl) ?_,rfl⟩;have hcl:=hs.cl;have hb:=HF hm;have hw:IntKind.i64.wrap ((s.cl.length:Int)-1)=(s.cl.length:Int)-1:=ZC (by omega);have hw2:IntKind.i64.wrap (2 ^ s.co.length-1)=setN s-1:=ZC (by omega);unfold rgsE;by_cases h:(l.length:Int)>40
 ·rw[if_pos h];simp only[ic144,WI,cellsOf,h,evA,simprocAttr];exact frz
 rw[if_neg h];simp only[ic144,WI,cellsOf,h,evA,simprocAttr];refine ZW l.length (fun i s'=>(∀ j,j<i→HU s l[j]! = 0)∧∃ v6 v7 v8,s'=⟨[sysV s,rgL l,.ptr 0 0,.i 0,.i i,.b false,v6,v7,v8],[.cells [.cv (clsR s.cl),.cv (strR s.co)]]⟩) ?_ 0 (QF _) ⟨by omega,_,_,_,rfl⟩;rintro i s' hi ⟨hall,v6,v7,v8,rfl⟩;by_cases hin:i<l.length
 ·have hfe:=fun hne=>VF (g:=fun i=>HU s l[i]!) l.length 0 i (QF _) (by omega) (fun j _ hj=>hall j hj) hne
  have h1:=c59i (l[i]!).1 0 ((s.cl.length:Int)-1);have h2:=c59i (l[i]!).2 0 (setN s-1);simp only[ic144l0,QJ,hin,evA,simprocAttr];refine DW_s [9] [] hmix (by kernel_rfl) rfl ?_;simp only[L6 hin,rg_0 hin,hw,evA,simprocAttr];refine YE (h1.call frz ⟨rfl,rfl⟩) rfl ?_;cases g1:inB (l[i]!).1 0 ((s.cl.length:Int)-1) with
  | false =>
   have hg:HU s l[i]! = 4:=by unfold HU;rw[g1];rfl
   have hfe':=hfe (by show HU s l[i]!≠0;rw[hg];decide);rw[hfe'];show _;rw[hg];simp only[evA,simprocAttr];exact frz
  | true =>
  simp only[evA,simprocAttr];refine DW_s [8,10] [] hmix (by kernel_rfl) rfl ?_;simp only[L6 hin,rg_1 hin,evA,simprocAttr];refine YE ((c49 s.co.length hm).call frz ⟨rfl,rfl⟩) rfl ?_;simp only[hw2,evA,simprocAttr];refine YE (h2.call frz ⟨rfl,rfl⟩) rfl ?_;cases g2:inB (l[i]!).2 0 (setN s-1) with
  | false =>
   have hg:HU s l[i]! = 7:=by unfold HU;rw[g1,g2];rfl
   have hfe':=hfe (by show HU s l[i]!≠0;rw[hg];decide);rw[hfe'];show _;rw[hg];simp only[evA,simprocAttr];exact frz
  | true =>
   have hg:HU s l[i]! = 0:=by unfold HU;rw[g1,g2];rfl
   simp only[Q6 (show i+1<2 ^ 63 by omega),evA,simprocAttr];refine ZL (by first | trivial | omega) ⟨fun j hj=>?_,_,_,_,rfl⟩;rcases QQ.1 hj with hj | rfl
   ·exact hall j hj
   ·exact hg
 ·have hin':i=l.length:=by omega
  subst hin';rw[JY (g:=fun i=>HU s l[i]!) l.length 0 fun j _ hj=>hall j (by omega)];simp only[ic144l0,QJ,hin,evA,simprocAttr];exact frz
theorem or_wrap {a b:Int} (ha:0≤a∧a<256) (hb:0≤b∧b<256):IntKind.i64.wrap (BitVec.ofInt IntKind.i64.bits a ||| BitVec.ofInt IntKind.i64.bits b).toNat=orI a b:=by
 have e1:(BitVec.ofInt 64 a).toNat=a.toNat:=by rw[BitVec.toNat_ofInt];omega
 have e2:(BitVec.ofInt 64 b).toNat=b.toNat:=by rw[BitVec.toNat_ofInt];omega
 have e3:(BitVec.ofInt IntKind.i64.bits a ||| BitVec.ofInt IntKind.i64.bits b).toNat=a.toNat ||| b.toNat:=by show (BitVec.ofInt 64 a ||| BitVec.ofInt 64 b).toNat=_;rw[BitVec.toNat_or,e1,e2]
 have h1:=Qcf (a:=a) (b:=b) (m:=8) (by omega) (by omega);have h0:=Qa9 a b;rw[e3];have:((a.toNat ||| b.toNat:Nat):Int)=orI a b:=rfl;rw[this,ZC (by omega)]
theorem rgsE_of {s:Sys} {l:List Rt} (h1:l.length≤40) (h2:∀ r∈l,RgOk s r):rgsE s l=0:=by
 unfold rgsE;rw[if_neg (by omega),JY];intro j _ hj;show HU s l[j]! = 0;rw[getElem!_pos l j (by omega)];exact S4.2 (h2 _ (Q2 _))
theorem c94 (ks:List Rt) (hl:ks.length<2 ^ 38):PC Tryz.prog 147 [.cv .nils,TU ks] (rgL ks):=⟨(ac94 ks hl).mono fun r τ h=>GI h (MN ks),rfl⟩
theorem c71 (ks:List Rt) (hl:ks.length<2 ^ 38):PA Tryz.prog 112 [TU ks] (rgL ks):=by
 refine ⟨ZF (fok112 true) (QC rfl) ?_,rfl,rfl⟩;simp only[ic112,evA,simprocAttr];refine (c94 ks hl).call frz ?_;simp only[evA,simprocAttr];exact .c (.c _ trivial)
theorem UP {l:List Rt} {x:Rt}:x∈ddR l↔x∈l:=by rw[ddR,Qax l l.length (QG _),X7]
section
variable {p q:CV→Prop} {σ:List AObj}
end
theorem rdE_ok2 {s:Sys} {a b:List Rt} (h:rdE s (sysE s).2.2 [a,b]=0):(sysE s).2.2=0∧rgsE s a=0∧rgsE s b=0:=by
 have hrd:rdE s (sysE s).2.2 [a,b]=rdE s (rdE s (sysE s).2.2 [a]) [b]:=rfl;rw[hrd] at h;have h1:rdE s (sysE s).2.2 [a]=0:=Decidable.byContradiction fun hne=>by rw[Qa4 s _ _ hne] at h;exact hne h
 rw[h1] at h;obtain ⟨g1,g2⟩:=Qcd h1;exact ⟨g1,g2,h⟩
end Go.Proofs.YtgkidpolomhghaaGreatDoor.AM
namespace Go.Proofs.YtgkidpolomhghaaGreatDoor.AM
variable [Dr]
open Go
variable {P:Program} {fx:Fx} {m m':LM} {X X':Nat→Prop} {en:En} {w w':World} {s:St} {ac:Act}
theorem wp_op1 {ro:Option Nat} {ops:Array Oper} {Q:Exit→Act→World→Prop} {l:List Nat} {i:Nat} {o:Oper} {v:Value} (ho:ops[i]? = some o) (hg:o.guard=none) (hnd:∀ c,o.op≠.defer c)
  (hrun:(execOp ac.eval o).run P w=.ok (.value v) w'∨((execOp ac.eval o).run P w=.ok .skip w'∧v=Go.undef)) (h:wpOpsIn (wfen ro) 0 P ops Q l (ac.put o.dst v) w'):wpOpsIn (wfen ro) 0 P ops Q (i::l) ac w:=by
 have hw:Region.wanted o (yielded ops ac.tmps)=true:=by simp[Region.wanted,hg]
 simp only[wpOpsIn,ho,hw,if_true];refine ⟨fun _ _=>trivial,?_⟩;rcases hrun with hrun | ⟨hrun,rfl⟩
 ·rw[Oper.semAt_eq _ _ _ hnd,hrun];exact h
 ·rw[Oper.semAt_eq _ _ _ hnd,hrun];exact h
theorem wp_sched {ro:Option Nat} {ops:Array Oper} {Q:Exit→Act→World→Prop} {dir:Nat→List Nat} {n:Nat} (Inv:List Nat→Act→World→Prop)
  (hstep:∀ D i ac w,i<n→i∉D→(∀ e∈dir i,e∈D)→Inv D ac w→∃ (o:Oper) (v:Value) (w':World),ops[i]? = some o∧o.guard=none∧(∀ c,o.op≠.defer c) ∧
   ((execOp ac.eval o).run P w=.ok (.value v) w'∨((execOp ac.eval o).run P w=.ok .skip w'∧v=Go.undef))∧Inv (i::D) (ac.put o.dst v) w')
  (hend:∀ D ac w,(∀ i,i<n→i∈D)→Inv D ac w→Q .normal ac w):∀ (l D:List Nat) (ac:Act) (w:World),C7 dir n D l→Inv D ac w→wpOpsIn (wfen ro) 0 P ops Q l ac w:=by
 intro l
 induction l with
 | nil =>
  intro D ac w hs hi;cases hs with
  | nil h=>exact hend D ac w h hi
 | cons i l ih =>
  intro D ac w hs hi;cases hs with
  | cons h1 h2 h3 h4 =>
   obtain ⟨o,v,w',g1,g2,g3,g4,g5⟩:=hstep D i ac w h1 h2 h3 hi;exact wp_op1 g1 g2 g3 g4 (ih (i::D) _ _ h4 g5)
theorem N1 {vars:List Nat} {dsts:List (Option Nat)}:∀ {os:List Oper} {is:List Ins},HK P vars dsts os=some is→os.length=is.length∧∀ (j:Nat) (i:Ins),is[j]? = some i→∃ o,os[j]? = some o∧JP P vars dsts o=some i
 | [],is,h=>by simp[HK] at h;subst h;simp
 | o::os,is,h=>by
  simp only[HK] at h;split at h
  ·cases h
  ·rename_i i hi;split at h
   ·cases h
   ·rename_i is' his;cases h;obtain ⟨h1,h2⟩:=N1 his;refine ⟨by simp[h1],fun j i' hj=>?_⟩;cases j with
    | zero=>simp at hj;subst hj;exact ⟨o,by simp,hi⟩
    | succ j=>simpa using h2 j i' (by simpa using hj)
def IZ (P:Program) (o:Oper) (io:IOp) (os:List Operand):Prop :=
 match io with
 | .lookup ks z ok=>∃ t x ix kt e,o.op=.lookup t x ix ok∧P.underlying t=some (.map kt e)∧keyK P kt=some ks∧zeroOf P e=some z∧os=[x,ix]
 | .mapent ks z=>∃ t x k kt e,o.op=.mapEntry t x k∧P.underlying t=some (.map kt e)∧keyK P kt=some ks∧zeroOf P e=some z∧os=[x,k]
 | .entst=>∃ t x st v,o.op=.entryStore t x st v∧os=[x,st,v]
 | _=>True
theorem OM {b:Builtin} {ats:List TypeId} {io:IOp} (h:GG P b ats=some io) (o:Oper) (os:List Operand):IZ P o io os:=by
 unfold GG at h;split at h
 all_goals (repeat' (split at h))
 all_goals first
  | (cases h;done)
  | (cases h;trivial)
  | (simp only[QA] at h;obtain ⟨_,_,he⟩:=h;cases he;trivial)
  | (simp only[QB] at h;obtain ⟨_,_,_,_,he⟩:=h;split at he <;> first | (cases he;done) | (cases he;trivial))
theorem DO {cm:Bool} {o:Oper} {io:IOp} {os:List Operand} (h:TV P cm o=some (io,os)):IZ P o io os:=by
 unfold TV at h;split at h
 all_goals (repeat' (split at h))
 all_goals first
  | (cases h;done)
  | (cases h;trivial)
  | (rename_i ho;simp only[QA] at h;obtain ⟨_,hb,he⟩:=h;cases he;exact OM hb _ _)
  | (simp only[QA] at h;obtain ⟨_,_,he⟩:=h;cases he;trivial)
  | (simp only[QB,QA] at h;obtain ⟨_,_,_,_,he⟩:=h;cases he;trivial)
  | (simp only[QB,QA] at h;obtain ⟨_,_,he⟩:=h;split at he <;> first | (cases he;done) | (cases he;trivial))
  | (simp only[QB,QA] at h;obtain ⟨_,_,_,_,he⟩:=h;split at he <;> first | (cases he;done) | (cases he;trivial))
  | skip
 ·rename_i ho;simp only[QB] at h;obtain ⟨g,_,he⟩:=h;split at he
  ·simp only[QA] at he;obtain ⟨_,_,he⟩:=he;cases he;trivial
  ·cases he;trivial
 ·rename_i ho _ _ _ hu;simp only[QB,QA] at h;obtain ⟨ks,hk,z,hz,he⟩:=h;cases he;exact ⟨_,_,_,_,_,ho,hu,hk,hz,rfl⟩
 ·simp only[QB,QA] at h;obtain ⟨_,_,_,_,_,_,he⟩:=h;cases he;trivial
 ·rename_i ho _ _ _ hu;simp only[QB,QA] at h;obtain ⟨ks,hk,z,hz,he⟩:=h;cases he;exact ⟨_,_,_,_,_,ho,hu,hk,hz,rfl⟩
 ·rename_i ho;cases h;exact ⟨_,_,_,_,ho,rfl⟩
theorem HB.pf {es:List (AV × AV)} {ces:List MapEntry} (h:HB m X w es ces) (hp:∀ p∈es,PF p.1∧PF p.2):∀ m' X' w',HB m' X' w' es ces:=by
 intro m' X' w'
 induction es generalizing ces with
 | nil=>cases ces with
  | nil=>trivial
  | cons c cs=>exact h.elim
 | cons p es ih =>
  obtain ⟨k,a⟩:=p;cases ces with
  | nil=>simp[HB] at h
  | cons c cs =>
   obtain ⟨h1,h2,h3⟩:=h;have:=hp (k,a) (by simp);exact ⟨this.1 _ _ _ _ _ _ _ h1,this.2 _ _ _ _ _ _ _ h2,ih h3 fun q hq=>hp q (by simp[hq])⟩
theorem HB.append {es es':List (AV × AV)} {ces ces':List MapEntry} (h:HB m X w es ces) (h':HB m X w es' ces'):HB m X w (es++es') (ces++ces'):=by
 induction es generalizing ces with
 | nil=>cases ces with
  | nil=>exact h'
  | cons c cs=>exact h.elim
 | cons p es ih =>
  obtain ⟨k,a⟩:=p;cases ces with
  | nil=>simp[HB] at h
  | cons c cs=>exact ⟨h.1,h.2.1,ih h.2.2⟩
theorem TQ {ks:Bool × List KK} {k z:AV} (hk:JW ks k k=some true):∀ (es:List (AV × AV)) (i:Nat),findKey ks k es i=some none→findKey ks k (es++[(k,z)]) i=some (some (i+es.length,z))
 | [],i,_=>by simp[findKey,hk]
 | (k',a)::es,i,h=>by
  simp only[findKey] at h;split at h
  ·cases h
  ·rename_i hr;have:=TQ (z:=z) hk es (i+1) h;simp only[List.cons_append,findKey,hr,this,List.length_cons];congr 3;omega
  ·cases h
theorem G0 {ces:Array MapEntry} {j:Nat} {v:Value}:(ces.modify j fun e=>{ e with val:=v }).toList.map (·.born)=ces.toList.map (·.born):=by
 apply Z1;intro q;simp only[ZR,Y7,W8];split <;> cases ces[q]? <;> simp
theorem Qev {t kt e:TypeId} {ks:Bool × List KK} {z k:AV} {y:Value} {es:List (AV × AV)} {ces:Array MapEntry} {clock bm:Nat} {res:Option (Nat × AV)}
  (hu:P.underlying t=some (.map kt e)) (hks:keyK P kt=some ks) (hz:zeroOf P e=some z) (hzp:PF z) (hi:F4 ks k=true) (hkk:JW ks k k=some true) (hk:∀ m X w,VRel m X w k y)
  (hmp:w.heap[bm]? = some (.map ces clock)) (hborn:∀ e∈ces,e.born<clock) (hnd:(ces.toList.map (·.born)).Nodup) (hsz:ces.size=es.length) (hE:∀ m X w,HB m X w es ces.toList)
  (hg:∀ (i:Nat) (k a:AV),es[i]? = some (k,a)→∃ e:MapEntry,ces[i]? = some e∧(∀ m X w,VRel m X w k e.key)∧∀ m X w,VRel m X w a e.val) (hres:findKey ks k es 0=some res) :
  ∃ (ces1:Array MapEntry) (clk1 j born:Nat) (v0:Value),(Instr.mapEntry t (.map (some bm)) y).run P w=.ok (.tuple #[v0,.int .i64 born]) (w.putObj bm (.map ces1 clk1))∧(∀ m X w,VRel m X w ((res.map (·.2)).getD z) v0) ∧
   (∃ es1 res1,findKey ks k es1 0=some res1∧(res1.map (·.2)).getD z=(res.map (·.2)).getD z∧∀ m X w,HB m X w es1 ces1.toList) ∧
   (∀ (t':TypeId) (w':World) (nv:Value),w'.heap[bm]? = some (.map ces1 clk1)→(Instr.entryStore t' (.map (some bm)) (.int .i64 born) nv).run P w'=.ok () (w'.putObj bm (.map (ces1.modify j fun e=>{ e with val:=nv }) clk1))) ∧
   (∀ (a':AV) (nv:Value),(∀ m X w,VRel m X w a' nv)→(∀ e∈(ces1.modify j fun e=>{ e with val:=nv }),e.born<clk1)∧((ces1.modify j fun e=>{ e with val:=nv }).toList.map (·.born)).Nodup ∧
    (ces1.modify j fun e=>{ e with val:=nv }).size=(XU es k a' res).length ∧
    ∀ (i:Nat) (k' a'':AV),(XU es k a' res)[i]? = some (k',a'')→∃ e:MapEntry,(ces1.modify j fun e=>{ e with val:=nv })[i]? = some e∧(∀ m X w,VRel m X w k' e.key)∧∀ m X w,VRel m X w a'' e.val):=by
 obtain ⟨res',h1,h2⟩:=UH (P:=P) (m:=fun _=>none) (X:=fun _=>False) (w:=w) hks (hk _ _ _) (hE _ _ _) hres;have hck:=KO (P:=P) (m:=fun _=>none) (X:=fun _=>False) (w:=w) hks hi (hk _ _ _) false;have hbm:bm<w.heap.size:=(Q3.1 hmp).1;have store:∀ (ces1:Array MapEntry) (clk1 j:Nat) (e1:MapEntry),(ces1.toList.map (·.born)).Nodup→ces1[j]? = some e1→∀ (t':TypeId) (w':World) (nv:Value),w'.heap[bm]? = some (.map ces1 clk1)→(Instr.entryStore t' (.map (some bm)) (.int .i64 e1.born) nv).run P w'=.ok () (w'.putObj bm (.map (ces1.modify j fun e=>{ e with val:=nv }) clk1)):=by
  intro ces1 clk1 j e1 hn1 hj t' w' nv hw';have hidx:ces1.findIdx? (fun e=>(e.born:Int) == (e1.born:Int))=some j:=by
   rw[Array.findIdx?_eq_some_iff_getElem];obtain ⟨hj1,hj2⟩:=Q3.1 hj;refine ⟨hj1,by rw[hj2];simp,fun q hq=>?_⟩;have hq1:ces1[q]? = some (ces1[q]'(by omega)):=Q7 _;have:¬ (ces1[q]'(by omega)).born=e1.born:=fun h=>by have:=born_inj hn1 hq1 hj h;omega
   have h':¬ (((ces1[q]'(by omega)).born:Int)=(e1.born:Int)):=by omega
   simpa using h'
  simp[Instr.entryStore,MapKept.run_getObj_map hw',asInt,asIntOf,hidx,KH hw']
 cases res with
 | none =>
  cases res' with
  | some q=>exact h2.elim
  | none =>
   unfold zeroOf at hz;cases hin:P.info? e with
   | none=>rw[hin] at hz;cases hz
   | some inf =>
   rw[hin] at hz;simp only[Option.bind_some,QA] at hz;obtain ⟨z0,hz0,rfl⟩:=hz;have hzr:∀ m X w,VRel m X w (VX z0) z0:=fun m X w=>UZ z0
   have hnd1:((ces.push { key:=y,val:=z0,born:=clock }).toList.map (·.born)).Nodup:=by simp only[Array.toList_push,ZS,Q0,WS];refine List.nodup_append.2 ⟨hnd,by simp,?_⟩;intro p hp q hq;simp only[WZ] at hq;subst hq;obtain ⟨e',he',rfl⟩:=ZP.1 hp;exact Nat.ne_of_lt (hborn e' (by simpa using he'))
   have hat:(ces.push { key:=y,val:=z0,born:=clock })[ces.size]? = some { key:=y,val:=z0,born:=clock }:=by simp
   refine ⟨ces.push { key:=y,val:=z0,born:=clock },clock+1,ces.size,clock,z0,?_,hzr,⟨es++[(k,VX z0)],some (es.length,VX z0),?_,rfl,?_⟩,store _ _ _ _ hnd1 hat,?_⟩
   ·simp[Instr.mapEntry,QY hu,MapKept.run_getObj_map hmp,hck,h1,GV hin hz0,KH hmp,goInt]
   ·have:=TQ (z:=VX z0) hkk es 0 hres;simpa using this
   ·intro m X w;rw[Array.toList_push];exact (hE m X w).append ⟨hk m X w,hzr m X w,trivial⟩
   ·intro a' nv hnv;refine ⟨?_,by rw[G0];exact hnd1,by simp[XU,hsz],?_⟩
    ·intro e' he';have:e'.born∈(ces.push { key:=y,val:=z0,born:=clock }).toList.map (·.born):=by
      rw[← G0];exact ZP.2 ⟨e',XG.2 he',rfl⟩
     obtain ⟨e2,p1,p2⟩:=ZP.1 this;rcases Array.mem_push.1 (XG.1 p1) with h | rfl
     ·have:=hborn e2 h;omega
     ·simp at p2;omega
    ·intro i k' a'' hia;simp only[XU] at hia;rcases ZB i es.length with hlt | hge
     ·rw[QE hlt] at hia;obtain ⟨e',p1,p2,p3⟩:=hg i k' a'' hia;refine ⟨e',?_,p2,p3⟩;rw[W8,if_neg (by omega),K5,if_neg (by omega)];exact p1
     ·rw[QS hge] at hia;have hil:i=es.length:=by
       have:=(QH.1 hia).1;simp at this;omega
      subst hil;simp at hia;obtain ⟨rfl,rfl⟩:=hia;exact ⟨{ key:=y,val:=nv,born:=clock },by rw[W8,if_pos hsz,K5,if_pos hsz.symm];rfl,hk,hnv⟩
 | some p =>
  cases res' with
  | none=>exact h2.elim
  | some p' =>
   obtain ⟨j,a0⟩:=p;obtain ⟨j',v0⟩:=p';obtain ⟨rfl,_,e0,hj,rfl,hav,hkey⟩:=h2;have hj':ces[j]? = some e0:=by simpa using hj
   have hj1:=(Q3.1 hj').1;have hst:∀ w:World,(Instr.keyThatStays y y).run P w=.ok y w:=fun w=>AQ hks hi (hk (fun _=>none) (fun _=>False) w)
   have hsame:(ces.modify j fun e=>{ e with key:=y })=ces:=by
    apply Array.ext_getElem?;intro q;rw[W8];split
    ·rename_i hq;subst hq;rw[hj'];simp[← hkey]
    ·rfl
   obtain ⟨e0',g1,g2,g3⟩:=hg j (es[j]'(by omega)).1 (es[j]'(by omega)).2 (by rw[QI (by omega)]);rw[hj'] at g1;cases g1;have hfa:(es[j]'(by omega)).2=a0:=by
    have:∀ (es:List (AV × AV)) (i:Nat),findKey ks k es i=some (some (j,a0))→i≤j∧∃ kk,es[j-i]? = some (kk,a0):=by
     intro es
     induction es with
     | nil=>intro i h;simp[findKey] at h
     | cons q es ih =>
      obtain ⟨k',a'⟩:=q;intro i h;simp only[findKey] at h;split at h
      ·cases h;exact ⟨QG _,k',by simp⟩
      ·obtain ⟨h1,kk,h2⟩:=ih (i+1) h;exact ⟨by omega,kk,by rw[show j-i=(j-(i+1))+1 by omega];simpa using h2⟩
      ·cases h
    obtain ⟨_,kk,hkk'⟩:=this es 0 hres;rw[Nat.sub_zero,QI (by omega)] at hkk';rw[Option.some.inj hkk']
   refine ⟨ces,clock,j,e0.born,e0.val,?_,by simp only[Option.map_some,Option.getD_some];rw[← hfa];exact g3,⟨es,_,hres,rfl,hE⟩,store _ _ _ _ hnd hj',?_⟩
   ·have hcs:w.putObj bm (.map ces clock)=w.putObj bm (.map (ces.modify j fun e=>{ e with key:=y }) clock):=by rw[hsame]
    rw[hcs];simp[Instr.mapEntry,QY hu,MapKept.run_getObj_map hmp,hck,h1,hj',hkey,hst,KH hmp,goInt]
   ·intro a' nv hnv;refine ⟨?_,by rw[G0];exact hnd,by simp[XU,hsz],?_⟩
    ·intro e' he';have:e'.born∈ces.toList.map (·.born):=by
      rw[← G0 (j:=j) (v:=nv)];exact ZP.2 ⟨e',XG.2 he',rfl⟩
     obtain ⟨e2,p1,p2⟩:=ZP.1 this;have:=hborn e2 (XG.1 p1);omega
    ·intro i k' a'' hia;simp only[XU] at hia;rw[ZO] at hia;by_cases hij:j=i
     ·subst hij;rw[if_pos rfl] at hia;split at hia
      ·simp at hia;obtain ⟨rfl,rfl⟩:=hia;exact ⟨{ e0 with val:=nv },by rw[W8,if_pos rfl,hj'];rfl,by intro m X w;dsimp only;rw[hkey];exact hk m X w,hnv⟩
      ·cases hia
     ·rw[if_neg hij] at hia;obtain ⟨e',p1,p2,p3⟩:=hg i k' a'' hia;exact ⟨e',by rw[W8,if_neg hij];exact p1,p2,p3⟩
def rhoD (r:Nat→AV) (D:List Nat) (b:Nat):List AV:=(List.range 13).map fun j=>if j∈D then (if j=10 then .tup [r 8,.i b] else if j=11 then .i b else r j) else .undef
theorem VA {r:Nat→AV} {D:List Nat} {b j:Nat} (hj:j<13):(rhoD r D b).getD j .undef=if j∈D then (if j=10 then .tup [r 8,.i b] else if j=11 then .i b else r j) else .undef:=by
 simp[rhoD,hj]
theorem BX {r:Nat→AV} {D:List Nat} {b j:Nat} (hj:¬ j<13):(rhoD r D b).getD j .undef=.undef:=by
 simp only[rhoD,List.getD,ZR];rw[QN (by simp;omega)];rfl
theorem rhoD_b {r:Nat→AV} {D:List Nat} {b b':Nat} (h0:10∉D) (h1:11∉D):rhoD r D b=rhoD r D b':=by
 unfold rhoD;apply JI;intro j _;by_cases hj:j∈D
 ·have:j≠10:=fun h=>h0 (h ▸ hj)
  have:j≠11:=fun h=>h1 (h ▸ hj)
  simp[*]
 ·simp[hj]
theorem T1 {vars:List Nat} {N:Nat} {ops:List Oper} {r:Nat→AV} {D:List Nat} {b i:Nat} {o:Oper} {c:Value} (hok:GU vars N ops=true) (ho:ops[i]? = some o) (hi:i<13) (hsz:ac.tmps.size=N) (ht:TRel m X w vars ops (rhoD r D b) ac.tmps)
  (hc:VRel m X w ((rhoD r (i::D) b).getD i .undef) c):TRel m X w vars ops (rhoD r (i::D) b) (ac.put o.dst c).tmps:=by
 unfold GU at hok;simp only[QD,decide_eq_true_eq,Q1] at hok;obtain ⟨⟨⟨⟨hnd,hvn⟩,hlt⟩,hvlt⟩,hg⟩:=hok;intro j t hj htv;by_cases hji:j=i
 ·subst hji;have hd:o.dst=some t:=by rw[ho] at hj;simpa using hj
  have htN:t<ac.tmps.size:=by rw[hsz];have:=hlt t (X3.2 ⟨o,QZ ho,hd⟩);simpa using this
  have:(ac.put o.dst c).tmps.getD t Go.undef=c:=by simp[Act.put,hd,QV,htN]
  rw[this];exact hc
 ·have e1:(rhoD r (i::D) b).getD j .undef=(rhoD r D b).getD j .undef:=by
   by_cases h13:j<13
   ·rw[VA h13,VA h13];simp[hji]
   ·rw[BX h13,BX h13]
  have e2:(ac.put o.dst c).tmps.getD t Go.undef=ac.tmps.getD t Go.undef:=by
   cases hd:o.dst with
   | none=>rfl
   | some t' =>
    have:t≠t':=by rintro rfl;exact hji (Qdv htv ops hnd j i hj (by rw[ho];simpa using hd))
    simp only[Act.put,QV];rw[W2 (fun h=>this h.symm)]
  rw[e1,e2];exact ht j t hj htv
theorem SRel.put_dst {dst:Option Nat} {v:Value} (hd:KA fx.vars dst=none) (hs:SRel fx m X en s ac w):SRel fx m X en s (ac.put dst v) w:=by
 cases dst with
 | none=>exact hs
 | some t=>exact hs.put_other (U3 hd)
theorem TRel.mono' {vars:List Nat} {ops:List Oper} {ρ:List AV} {tmps:Array Value} (hm:Mono m X w m' X' w') (h:TRel m X w vars ops ρ tmps):TRel m' X' w' vars ops ρ tmps:=fun j t h1 h2=>VRel.mono hm _ _ (h j t h1 h2)
theorem SRel.takeMap {l bm:Nat} {es:List (AV × AV)} (hs:SRel fx m X en s ac w) (hml:m l=some bm) (hl:s.heap[l]? = some (.map es)) :
  SRel { fx with n0:=s.heap.length } m (fun b=>X b∨b=bm) en ⟨s.vals,s.heap.set l .dead⟩ ac w:=by
 have hm:Mono m X w m (fun b=>X b∨b=bm) w:=⟨fun _ _ h=>h,fun b hb _=>⟨rfl,by
  rintro ((hx | rfl) | h)
  ·exact hb (.inl hx)
  ·exact hb (.inr ⟨l,hml⟩)
  ·exact hb (.inr h)⟩,fun b c e h=>⟨c,h,rfl⟩⟩
 have hlt:l<s.heap.length:=(hs.heap.dom l bm hml).1;have hobj:∀ (l':Nat) (o':AObj),(s.heap.set l AObj.dead)[l']? = some o'→o'=.dead∨(l'≠l∧s.heap[l']? = some o'):=by
  intro l' o' h;by_cases hl':l=l'
  ·subst hl';rw[Z2 hlt] at h;cases h;exact .inl rfl
  ·rw[QU hl'] at h;exact .inr ⟨fun h=>hl' h.symm,h⟩
 refine ⟨hs.size,hs.vars.mono hm,?_,⟨?_,fun l' b h=>by simpa using hs.heap.dom l' b h,?_,?_,?_,hs.heap.gl.mono hm⟩,by simp,hs.entry⟩
 ·obtain ⟨bs,h1,h2,h3⟩:=hs.defs;refine ⟨bs,h1,h2,fun b hb=>?_⟩;obtain ⟨g1,g2,g3,g4⟩:=h3 b hb;refine ⟨g1,g2,g3,?_⟩;rintro ((hx | rfl) | h)
  ·exact g4 (.inl hx)
  ·exact g4 (.inr ⟨l,hml⟩)
  ·exact g4 (.inr h)
 ·rintro b (hb | rfl)
  ·exact hs.heap.xb b hb
  ·exact (hs.heap.dom l b hml).2
 ·intro l' b o' h ho hv;rcases hobj l' o' ho with rfl | ⟨h1,h2⟩
  ·exact hv.elim
  ·rintro (hx | rfl)
   ·exact hs.heap.own l' b o' h h2 hv hx
   ·exact h1 (hs.heap.inj2 l' l b o' _ h hml h2 hl hv trivial)
 ·intro l1 l2 b o' h h' ho hv;rcases hobj l2 o' ho with rfl | ⟨h1,h2⟩
  ·exact hv.elim
  ·exact hs.heap.inj l1 l2 b o' h h' h2 hv
 ·intro l' o' ho;rcases hobj l' o' ho with rfl | ⟨h1,h2⟩
  ·simp[ORel]
  ·have:=hs.heap.obj l' o' h2;cases hml':m l' with
   | none=>rw[hml'] at this;cases o' <;> simp[ORel] at this ⊢
   | some b=>rw[hml'] at this;exact ORel.mono hm rfl this
theorem SRel.giveMap {l bm n0:Nat} {es:List (AV × AV)} {vals:List AV} {σ:List AObj} {ces:Array MapEntry} {clock:Nat} (hs:SRel fx m (fun b=>X b∨b=bm) en ⟨vals,σ⟩ ac w) (hl:l<σ.length) (hml:m l=some bm) (hnx:¬ X bm) (hfst:∀ l',m l'=some bm→l'≤l) (hn:n0≤σ.length)
  (hmp:w.heap[bm]? = some (.map ces clock)) (hborn:∀ e∈ces,e.born<clock) (hnd:(ces.toList.map (·.born)).Nodup) (hsz:ces.size=es.length)
  (hg:∀ (i:Nat) (k a:AV),es[i]? = some (k,a)→∃ e:MapEntry,ces[i]? = some e∧(∀ m X w,VRel m X w k e.key)∧∀ m X w,VRel m X w a e.val):SRel { fx with n0:=n0 } m X en ⟨vals,σ.set l (.map es)⟩ ac w:=by
 have hs1:=SRel.lessX (X:=X) (fun b h=>.inl h) hs;refine ⟨hs1.size,hs1.vars,hs1.defs,⟨hs1.heap.xb,fun l' b h=>by simpa using hs1.heap.dom l' b h,?_,?_,?_,hs1.heap.gl⟩,by simpa using hn,hs1.entry⟩
 ·intro l' b o' h ho hv;by_cases hl':l=l'
  ·subst hl';rw[hml] at h;cases h;exact hnx
  ·rw[QU hl'] at ho;exact hs1.heap.own l' b o' h ho hv
 ·intro l1 l2 b o' h h' ho hv;by_cases hl':l=l2
  ·subst hl';rw[hml] at h';cases h';exact hfst l1 h
  ·rw[QU hl'] at ho;exact hs1.heap.inj l1 l2 b o' h h' ho hv
 ·intro l' o' ho;by_cases hl':l=l'
  ·subst hl';rw[Z2 hl] at ho;cases ho;rw[hml];refine ⟨ces,clock,hmp,hborn,hnd,hsz,fun i k a hi=>?_⟩;obtain ⟨e,g1,g2,g3⟩:=hg i k a hi;exact ⟨e,g1,g2 _ _ _,g3 _ _ _⟩
  ·rw[QU hl'] at ho;exact hs1.heap.obj l' o' ho
set_option maxHeartbeats 1000000 in
theorem DW_incr {Q:Exit→St→Prop} {dirs:List (List Nat)} {is:List Ins} {lm:Nat} {es:List (AV × AV)} {ks:Bool × List KK} {z k:AV} {res:Option (Nat × AV)} (r:Nat→AV)
  (hmix:P.follows .mixedOrders=true) (hdl:dirs.length=13) (hback:∀ i,i<13→∀ e∈dirs.getD i [],e<i)
  (i8:is[8]? = some ⟨none,none,.prim (.lookup ks z false),[.t 0,.t 7]⟩) (i10:is[10]? = some ⟨none,none,.prim (.mapent ks z),[.t 0,.t 7]⟩) (i11:is[11]? = some ⟨none,none,.prim (.extract 1),[.t 10]⟩) (i12:is[12]? = some ⟨none,none,.prim .entst,[.t 0,.t 11,.t 9]⟩)
  (d8:0∈dirs.getD 8 []∧7∈dirs.getD 8 []) (d10:0∈dirs.getD 10 []∧7∈dirs.getD 10 []) (d11:10∈dirs.getD 11 []) (d12:∀ i,i<12→i∈dirs.getD 12 [])
  (hp:∀ j,j<8∨j=9→∃ io args,is[j]? = some ⟨none,none,.prim io,args⟩∧(∀ e,Opd.t e∈args→e∈dirs.getD j [])∧ZQ io (args.map (WY s.vals ((List.range 13).map r))) (s.heap.set lm .dead)=some (r j,s.heap.set lm .dead))
  (r0:r 0=.map lm) (r12:r 12=.undef) (r7:r 7=k) (r8:r 8=(res.map (·.2)).getD z) (r9:PF (r 9)) (hl:s.heap[lm]? = some (.map es)) (hes:∀ p∈es,PF p.1∧PF p.2) (hzp:PF z) (hkp:PF k) (hi:F4 ks k=true) (hkk:JW ks k k=some true) (hres:findKey ks k es 0=some res)
  (hQ:Q .normal ⟨s.vals,s.heap.set lm (.map (XU es k (r 9) res))⟩):DW P fx dirs is s Q:=by
 intro id ops hdirs hc m X en ac w hs hr;unfold VY at hc;split at hc
 rotate_left
 ·cases hc
 rename_i hok;obtain ⟨hlen,hget⟩:=N1 hc;have hsz13:ops.size=13:=by rw[← hdl,← hdirs];simp[UU]
 have hdir:∀ i,i<13→V9 ops i=dirs.getD i []:=fun i hi=>by rw[← hdirs];simp[UU,List.getD,hsz13,hi]
 obtain ⟨bm,ces,clock,hml,hl',hmp0,hborn,hnd,hsz,hE0,hg0⟩:=hs.heap.mapRow (l:=lm) (es:=es) (by simp[mapOf,hl]);have hnx:¬ X bm:=hs.heap.own lm bm _ hml hl trivial;have hfst:∀ l',m l'=some bm→l'≤lm:=fun l' h=>hs.heap.inj l' lm bm _ h hml hl trivial
 have hlt:lm<s.heap.length:=(hs.heap.dom lm bm hml).1;have hE:=hE0.pf hes;have hg:∀ (i:Nat) (k a:AV),es[i]? = some (k,a)→∃ e:MapEntry,ces[i]? = some e∧(∀ m X w,VRel m X w k e.key)∧∀ m X w,VRel m X w a e.val:=fun i k a hi=>by obtain ⟨e,g1,g2,g3⟩:=hg0 i k a hi;obtain ⟨p1,p2⟩:=hes (k,a) (QZ hi);exact ⟨e,g1,fun m' X' w'=>p1 _ _ _ _ _ _ _ g2,fun m' X' w'=>p2 _ _ _ _ _ _ _ g3⟩
 have hvk:∀ i,(s.vals.getD i .undef)=(s.vals.getD i .undef):=fun _=>rfl
 let X':Nat→Prop:=fun b=>X b∨b=bm
 let σd:List AObj:=s.heap.set lm .dead
 let fx':Fx:={ fx with n0:=s.heap.length }
 have hσl:σd.length=s.heap.length:=by simp[σd]
 have hs0:SRel fx' m X' en ⟨s.vals,σd⟩ ac w.drew:=(hs.takeMap hml hl).drew
 let After:Array MapEntry→Nat→Nat→Prop:=fun ces' clk' b=>∃ j,(∀ (t':TypeId) (w':World) (nv:Value),w'.heap[bm]? = some (.map ces' clk')→(Instr.entryStore t' (.map (some bm)) (.int .i64 b) nv).run P w'=.ok () (w'.putObj bm (.map (ces'.modify j fun e=>{ e with val:=nv }) clk'))) ∧
   (∀ (a':AV) (nv:Value),(∀ m X w,VRel m X w a' nv)→(∀ e∈(ces'.modify j fun e=>{ e with val:=nv }),e.born<clk')∧((ces'.modify j fun e=>{ e with val:=nv }).toList.map (·.born)).Nodup ∧
    (ces'.modify j fun e=>{ e with val:=nv }).size=(XU es k a' res).length ∧
    ∀ (i:Nat) (k' a'':AV),(XU es k a' res)[i]? = some (k',a'')→∃ e:MapEntry,(ces'.modify j fun e=>{ e with val:=nv })[i]? = some e∧(∀ m X w,VRel m X w k' e.key)∧∀ m X w,VRel m X w a'' e.val)
 let Look:Array MapEntry→Prop:=fun ces'=>∃ es1 res1,findKey ks k es1 0=some res1∧(res1.map (·.2)).getD z=(res.map (·.2)).getD z∧∀ m X w,HB m X w es1 ces'.toList
 let Fin:Array MapEntry→Nat→Prop:=fun ces' clk'=>(∀ e∈ces',e.born<clk')∧(ces'.toList.map (·.born)).Nodup∧ces'.size=(XU es k (r 9) res).length ∧
    ∀ (i:Nat) (k' a'':AV),(XU es k (r 9) res)[i]? = some (k',a'')→∃ e:MapEntry,ces'[i]? = some e∧(∀ m X w,VRel m X w k' e.key)∧∀ m X w,VRel m X w a'' e.val
 let Inv:List Nat→Act→World→Prop:=fun D ac1 w1=>SRel fx' m X' en ⟨s.vals,σd⟩ ac1 w1∧Step s.heap.length m X w m w1∧(∀ i∈D,∀ e∈dirs.getD i [],e∈D)∧∃ (ces':Array MapEntry) (clk' b:Nat),w1.heap[bm]? = some (.map ces' clk')∧TRel m X' w1 fx.vars ops.toList (rhoD r D b) ac1.tmps ∧
  (12∈D→Fin ces' clk')∧(12∉D→Look ces')∧(10∉D→ces'=ces∧clk'=clock)∧(10∈D→12∉D→After ces' clk' b)
 refine wpIn_region_draw fun t=>?_
 have hsch:Region.schedule (P.follows .mixedOrders) ops t=Region.linearise .any ops t:=by simp[Region.schedule,hmix]
 rw[hsch];have hdirOut:∀ i,∀ e∈V9 ops i,i<13:=fun i e he=>by
  by_cases h:i<13
  ·exact h
  ·have:ops[i]? = none:=Array.getElem?_eq_none (by omega);simp[V9,this] at he
 refine wp_sched (ro:=fx.r.bind m) (n:=13) (dir:=V9 ops) Inv ?_ ?_ _ [] ac w.drew (by have:=FR (ops:=ops) (fun i hi e he=>by rw[hdir i (by omega)] at he;exact hback i (by omega) e he) t;rwa [hsz13] at this) ?_
 rotate_left
 · -- the end
  rintro D ac1 w1 hall ⟨h1,h2,h3,ces',clk',b,h4,h5,h6,h7,h8,h9⟩;obtain ⟨f1,f2,f3,f4⟩:=h6 (hall 12 (by omega));have hs2:SRel fx m X en ⟨s.vals,σd.set lm (.map (XU es k (r 9) res))⟩ ac1 w1:=by have:=SRel.giveMap (n0:=fx.n0) (es:=XU es k (r 9) res) h1 (by rw[hσl];exact hlt) hml hnx hfst (by rw[hσl];exact hs.base) h4 f1 f2 f3 f4;exact this
  refine ⟨_,m,hQ,?_,h2.less hs.base⟩;have:σd.set lm (.map (XU es k (r 9) res))=s.heap.set lm (.map (XU es k (r 9) res)):=by simp[σd,List.set_set]
  rw[this] at hs2;exact hs2
 · -- the start
  refine ⟨hs0,Step.of_heap rfl rfl rfl rfl (XE _),by simp,ces,clock,0,hmp0,?_,by simp,fun _=>⟨es,res,hres,rfl,hE⟩,fun _=>⟨rfl,rfl⟩,by simp⟩;intro j u hj _;by_cases h13:j<13
  ·rw[VA h13];simp[VRel]
  ·rw[BX h13];simp[VRel]
 rintro D i ac1 w1 hi13 hiD hdep ⟨h1,h2,h3,ces',clk',b,h4,h5,h6,h7,h8,h9⟩;rw[hdir i hi13] at hdep;have h12:12∉D:=fun h=>by
  have:i<12:=by
   rcases ZB i 12 with h' | h'
   ·exact h'
   ·have:i=12:=by omega
    subst this;exact absurd h hiD
  exact hiD (h3 12 h i (d12 i this))
 have hcl:∀ j∈i::D,∀ e∈dirs.getD j [],e∈i::D:=fun j hj e he=>by
  rcases ZD.1 hj with rfl | hj
  ·exact WU _ (hdep e he)
  ·exact WU _ (h3 j hj e he)
 have hsz1:=h1.size;have hev:∀ (D:List Nat) (b:Nat) (args:List Opd),(∀ e,Opd.t e∈args→e∈D∧e<10)→args.map (WY s.vals (rhoD r D b))=args.map (WY s.vals ((List.range 13).map r)):=by
  intro D b args ha;apply JI;intro x hx;cases x with
  | v i=>rfl
  | c a=>rfl
  | t e =>
   obtain ⟨q1,q2⟩:=ha e hx;simp only[WY];rw[VA (by omega),if_pos q1,if_neg (by omega),if_neg (by omega)];simp[show e<13 by omega]
 have hv0:∀ x:Operand,XA fx.vars (ops.toList.map (·.dst)) x=.t 0→0∈D→ac1.eval x=.map (some bm):=fun x hx h0=>by have:=U7 (ds:=ac1.defers) (fx:=fx) h1.heap.gl h1.vars h5 x;rw[hx] at this;simp only[WY] at this;rw[VA (by omega),if_pos h0,if_neg (by omega),if_neg (by omega),r0] at this;simp only[VRel] at this;obtain ⟨b',hb',he⟩:=this;rw[hml] at hb';cases hb';exact he
 have hv7:∀ x:Operand,XA fx.vars (ops.toList.map (·.dst)) x=.t 7→7∈D→∀ m X w,VRel m X w k (ac1.eval x):=fun x hx h0 m1 X1 w2=>by have:=U7 (ds:=ac1.defers) (fx:=fx) h1.heap.gl h1.vars h5 x;rw[hx] at this;simp only[WY] at this;rw[VA (by omega),if_pos h0,if_neg (by omega),if_neg (by omega),r7] at this;exact hkp _ _ _ _ _ _ _ this
 have two:∀ {os:List Operand} {a c:Opd},[a,c]=os.map (XA fx.vars (ops.toList.map (·.dst)))→∃ x y,os=[x,y]∧XA fx.vars (ops.toList.map (·.dst)) x=a∧XA fx.vars (ops.toList.map (·.dst)) y=c:=by
  intro os a c h
  match os,h with
  | [x,y],h=>simp at h;exact ⟨x,y,rfl,h.1.symm,h.2.symm⟩
 have hopd:∀ (o:Oper) (i0:Ins),ops.toList[i]? = some o→JP P fx.vars (ops.toList.map (·.dst)) o=some i0→i0.dst=none→i0.gd=none→KA fx.vars o.dst=none∧o.guard=none:=fun o i0 _ h hd hgd=>by obtain ⟨q1,q2⟩:=R1 h;exact ⟨by rw[← q1];exact hd,by rw[← q2];exact hgd⟩
 by_cases hpure:i<8∨i=9
 · -- an operation that only reckons
  obtain ⟨io,args,g1,g2,g3⟩:=hp i hpure;obtain ⟨o,ho,hci⟩:=hget i _ g1;obtain ⟨hd1,hgd⟩:=hopd o _ ho hci rfl rfl;obtain ⟨os,hco,hargs,_,_⟩:=VC hci rfl;have hlt10:i<10:=by omega
  have he:=hev D b args fun e he=>⟨hdep e (g2 e he),by have:=hback i hi13 e (g2 e he);omega⟩
  have hrel:=UT (fx:=fx') (a:=ac1) h1.heap.gl h1.vars h5 os
  dsimp only at hargs
  rw[← he,hargs] at g3;obtain ⟨nx,w2,m2,hrun,hres2,hh2,hst2⟩:=FV hco h1.heap hrel g3;have hm2:m2=m:=by
   funext l'
   by_cases hl':l'<σd.length
   ·exact hst2.keep l' hl'
   ·have e1:m l'=none:=by
     cases h:m l' with
     | none=>rfl
     | some b'=>exact absurd (h1.heap.dom l' b' h).1 hl'
    have e2:m2 l'=none:=by
     cases h:m2 l' with
     | none=>rfl
     | some b'=>exact absurd (hh2.dom l' b' h).1 hl'
    rw[e1,e2]
  subst hm2;have hmo:=h1.heap.mono_of_step hst2 (QG _);have hsame:w2.heap[bm]? = some (.map ces' clk'):=by rw[hst2.fr bm (Q3.1 h4).1 (.inl (.inr rfl))];exact h4
  have hs2:SRel fx' m2 X' en ⟨s.vals,σd⟩ ac1 w2:=h1.of_heap hh2 hst2 (QG _);have hst2':Step s.heap.length m2 X' w1 m2 w2:=by rw[← hσl];exact hst2
  have hstep2:Step s.heap.length m2 X w m2 w2:=h2.trans (hst2'.lessX (X:=X) fun b h=>Or.inl h);have key:∀ c,VRel m2 X' w2 (r i) c→Inv (i::D) (ac1.put o.dst c) w2:=by
   intro c hc';refine ⟨SRel.put_dst (fx:=fx') hd1 hs2,hstep2,hcl,ces',clk',b,hsame,?_,?_,?_,?_,?_⟩
   ·refine T1 (N:=fx.N) hok ho hi13 hsz1 (h5.mono' hmo) ?_;rw[VA hi13,if_pos (by simp),if_neg (by omega),if_neg (by omega)];exact hc'
   ·intro h;simp at h;rcases h with h | h
    ·omega
    ·exact absurd h h12
   ·intro _;exact h7 h12
   ·intro h;exact h8 fun h'=>h (WU _ h')
   ·intro h _;simp at h;rcases h with h | h
    ·omega
    ·exact h9 h h12
  rcases hres2 with ⟨c,rfl,hv⟩ | ⟨rfl,hu⟩
  ·exact ⟨o,c,w2,by simpa using ho,hgd,YY hco,.inl hrun,key c hv⟩
  ·exact ⟨o,Go.undef,w2,by simpa using ho,hgd,YY hco,.inr ⟨hrun,rfl⟩,key _ (by rw[hu];simp[VRel])⟩
 have hcase:i=8∨i=10∨i=11∨i=12:=by omega
 rcases hcase with rfl | rfl | rfl | rfl
 · -- the look-up
  obtain ⟨o,ho,hci⟩:=hget 8 _ i8;obtain ⟨hd1,hgd⟩:=hopd o _ ho hci rfl rfl;obtain ⟨os,hco,hargs,_,_⟩:=VC hci rfl;obtain ⟨t1,x,ix,kt,e,hop,hu,hks,hz,hos⟩:IZ P o (.lookup ks z false) os:=DO hco;obtain ⟨x',y',hos',hx0,hx7⟩:=two hargs;rw[hos] at hos';cases hos';have hx:=hv0 x hx0 (hdep 0 d8.1);have hy:=hv7 ix hx7 (hdep 7 d8.2);obtain ⟨es1,res1,q1,q2,q3⟩:=h7 h12;have hsnd:=BN (P:=P) (m:=m) (X:=X') (w:=w1) (t:=t1) (kt:=kt) (e:=e) (ks:=ks) (z:=z) (ok:=false) (x:=.map (some bm)) (y:=ac1.eval ix) (avs:=[.map lm,k]) (σ:=σd) (r:=.undef) (σ':=σd);obtain ⟨res',p1,p2⟩:=UH (P:=P) (m:=m) (X:=X') (w:=w1) hks (hy _ _ _) (q3 _ _ _) q1;have hck:=KO (P:=P) (m:=m) (X:=X') (w:=w1) hks hi (hy _ _ _) ces'.isEmpty;have hlook:∃ v,(Instr.lookup t1 (.map (some bm)) (ac1.eval ix) false).run P w1=.ok v w1∧VRel m X' w1 (r 8) v:=by
   rw[r8,← q2];unfold zeroOf at hz;cases hin:P.info? e with
   | none=>rw[hin] at hz;cases hz
   | some inf =>
   rw[hin] at hz;simp only[Option.bind_some,QA] at hz;obtain ⟨z0,hz0,rfl⟩:=hz;cases res1 with
   | none =>
    cases res' with
    | some q=>exact p2.elim
    | none =>
     refine ⟨z0,?_,UZ z0⟩;simp[Instr.lookup,QY hu,MapKept.run_getObj_map h4,hck,p1,GV hin hz0]
   | some p =>
    cases res' with
    | none=>exact p2.elim
    | some p' =>
     obtain ⟨j,a⟩:=p;obtain ⟨j',v⟩:=p';obtain ⟨rfl,_,e',_,rfl,hav,_⟩:=p2;refine ⟨e'.val,?_,hav⟩;simp[Instr.lookup,QY hu,MapKept.run_getObj_map h4,hck,p1]
  obtain ⟨v,hrun,hv⟩:=hlook;refine ⟨o,v,w1,by simpa using ho,hgd,YY hco,.inl ?_,SRel.put_dst (fx:=fx') hd1 h1,h2,hcl,ces',clk',b,h4,?_,?_,?_,?_,?_⟩
  ·simp only[execOp,hop,hx];simp[hrun]
  ·refine T1 (N:=fx.N) hok ho hi13 hsz1 h5 ?_;rw[VA hi13,if_pos (by simp),if_neg (by omega),if_neg (by omega)];exact hv
  ·intro h;simp at h;exact absurd h h12
  ·intro _;exact h7 h12
  ·intro h;exact h8 fun h'=>h (WU _ h')
  ·intro h _;simp at h;exact h9 h h12
 · -- the entry is made
  obtain ⟨o,ho,hci⟩:=hget 10 _ i10;obtain ⟨hd1,hgd⟩:=hopd o _ ho hci rfl rfl;obtain ⟨os,hco,hargs,_,_⟩:=VC hci rfl;obtain ⟨t1,x,ix,kt,e,hop,hu,hks,hz,hos⟩:IZ P o (.mapent ks z) os:=DO hco;obtain ⟨x',y',hos',hx0,hx7⟩:=two hargs;rw[hos] at hos';cases hos';have hx:=hv0 x hx0 (hdep 0 d10.1);have hy:=hv7 ix hx7 (hdep 7 d10.2);obtain ⟨rfl,rfl⟩:=h8 hiD;have h11:11∉D:=fun h=>hiD (h3 11 h 10 d11)
  obtain ⟨ces1,clk1,j,born,v0,hrun,hv0',hlook,hstore,hfin⟩:=Qev (w:=w1) hu hks hz hzp hi hkk hy h4 hborn hnd hsz hE hg hres;have hbm:bm<w1.heap.size:=(Q3.1 h4).1;have hx':X' bm:=.inr rfl;have hmo:Mono m X' w1 m X' (w1.putObj bm (.map ces1 clk1)):=Mono.putX hx' h4 (by intro c e;simp);refine ⟨o,.tuple #[v0,.int .i64 born],w1.putObj bm (.map ces1 clk1),by simpa using ho,hgd,YY hco,.inl ?_,SRel.put_dst (fx:=fx') hd1 (SRel.putX hx' h4 (by intro c e;simp) h1),?_,hcl,ces1,clk1,born,World.putObj_heap_same hbm,?_,?_,?_,?_,?_⟩
  ·simp only[execOp,hop,hx];simp[hrun]
  ·have ht:YZ w1 (w1.putObj bm (.map ces1 clk1)) bm:=YZ.obj w1 _ h4 (by simp);exact h2.trans (ht.step (X:=X) s.heap.length hml hnx)
  ·refine T1 (N:=fx.N) hok ho hi13 hsz1 ?_ ?_
   ·rw[rhoD_b (b':=b) hiD h11];exact h5.mono' hmo
   ·rw[VA hi13,if_pos (by simp),if_pos rfl];simp only[VRel];refine ⟨_,rfl,?_⟩;simp only[QK];exact ⟨by rw[r8];exact hv0' _ _ _,by simp[VRel,CV.rep],trivial⟩
  ·intro h;simp at h;exact absurd h h12
  ·intro _;exact hlook
  ·intro h;simp at h
  ·intro _ _;exact ⟨j,hstore,hfin⟩
 · -- its stamp is read
  obtain ⟨o,ho,hci⟩:=hget 11 _ i11;obtain ⟨hd1,hgd⟩:=hopd o _ ho hci rfl rfl;obtain ⟨os,hco,hargs,_,_⟩:=VC hci rfl;have hrel:=UT (fx:=fx') (a:=ac1) h1.heap.gl h1.vars h5 os;rw[← hargs] at hrel;have h10:10∈D:=hdep 10 d11;simp only[Q0,WS,WY] at hrel;rw[VA (by omega),if_pos h10,if_pos rfl] at hrel;obtain ⟨nx,w2,m2,hrun,hres2,hh2,hst2⟩:=FV (r:=.i b) (σ':=σd) hco h1.heap hrel (by simp[ZQ,U6]);have hm2:m2=m:=by
   funext l'
   by_cases hl':l'<σd.length
   ·exact hst2.keep l' hl'
   ·have e1:m l'=none:=by
     cases h:m l' with
     | none=>rfl
     | some b'=>exact absurd (h1.heap.dom l' b' h).1 hl'
    have e2:m2 l'=none:=by
     cases h:m2 l' with
     | none=>rfl
     | some b'=>exact absurd (hh2.dom l' b' h).1 hl'
    rw[e1,e2]
  subst hm2;have hmo:=h1.heap.mono_of_step hst2 (QG _);have hsame:w2.heap[bm]? = some (.map ces' clk'):=by rw[hst2.fr bm (Q3.1 h4).1 (.inl (.inr rfl))];exact h4
  have hs2:SRel fx' m2 X' en ⟨s.vals,σd⟩ ac1 w2:=h1.of_heap hh2 hst2 (QG _);have hst2':Step s.heap.length m2 X' w1 m2 w2:=by rw[← hσl];exact hst2
  have hstep2:Step s.heap.length m2 X w m2 w2:=h2.trans (hst2'.lessX (X:=X) fun b h=>Or.inl h);rcases hres2 with ⟨c,rfl,hv⟩ | ⟨rfl,hu⟩
  rotate_left
  ·cases hu
  refine ⟨o,c,w2,by simpa using ho,hgd,YY hco,.inl hrun,SRel.put_dst (fx:=fx') hd1 hs2,hstep2,hcl,ces',clk',b,hsame,?_,?_,?_,?_,?_⟩
  ·refine T1 (N:=fx.N) hok ho hi13 hsz1 (h5.mono' hmo) ?_;rw[VA hi13,if_pos (by simp),if_neg (by omega),if_pos rfl];exact hv
  ·intro h;simp at h;exact absurd h h12
  ·intro _;exact h7 h12
  ·intro h;exact h8 fun h'=>h (WU _ h')
  ·intro h _;simp at h;exact h9 h h12
 · -- it is written
  obtain ⟨o,ho,hci⟩:=hget 12 _ i12;obtain ⟨hd1,hgd⟩:=hopd o _ ho hci rfl rfl;obtain ⟨os,hco,hargs,_,_⟩:=VC hci rfl;obtain ⟨t1,x,st,v,hop,hos⟩:IZ P o .entst os:=DO hco;rw[hos] at hargs;simp only[Q0,WS,List.cons.injEq,and_true] at hargs;obtain ⟨hx0,hx11,hx9⟩:=hargs;have hx:=hv0 x hx0.symm (hdep 0 (d12 0 (by omega)));have h10:10∈D:=hdep 10 (d12 10 (by omega));have hst:ac1.eval st=.int .i64 b:=by have:=U7 (ds:=ac1.defers) (fx:=fx) h1.heap.gl h1.vars h5 st;rw[← hx11] at this;simp only[WY] at this;rw[VA (by omega),if_pos (hdep 11 (d12 11 (by omega))),if_neg (by omega),if_pos rfl] at this;simpa only[VRel,CV.rep] using this
  have hnv:∀ m X w,VRel m X w (r 9) (ac1.eval v):=by have:=U7 (ds:=ac1.defers) (fx:=fx) h1.heap.gl h1.vars h5 v;rw[← hx9] at this;simp only[WY] at this;rw[VA (by omega),if_pos (hdep 9 (d12 9 (by omega))),if_neg (by omega),if_neg (by omega)] at this;intro m1 X1 w2;exact r9 _ _ _ _ _ _ _ this
  obtain ⟨j,hstore,hfin⟩:=h9 h10 h12;have hrun:=hstore t1 w1 (ac1.eval v) h4;have hbm:bm<w1.heap.size:=(Q3.1 h4).1;have hx':X' bm:=.inr rfl;have hmo:Mono m X' w1 m X' (w1.putObj bm (.map (ces'.modify j fun e=>{ e with val:=ac1.eval v }) clk')):=Mono.putX hx' h4 (by intro c e;simp);refine ⟨o,Go.undef,w1.putObj bm (.map (ces'.modify j fun e=>{ e with val:=ac1.eval v }) clk'),by simpa using ho,hgd,YY hco,.inr ⟨?_,rfl⟩,SRel.put_dst (fx:=fx') hd1 (SRel.putX hx' h4 (by intro c e;simp) h1),?_,hcl,_,clk',b,World.putObj_heap_same hbm,?_,?_,?_,?_,?_⟩
  ·simp only[execOp,hop,hx,hst];simp[hrun]
  ·have ht:YZ w1 (w1.putObj bm (.map (ces'.modify j fun e=>{ e with val:=ac1.eval v }) clk')) bm:=YZ.obj w1 _ h4 (by simp);exact h2.trans (ht.step (X:=X) s.heap.length hml hnx)
  ·refine T1 (N:=fx.N) hok ho hi13 hsz1 (h5.mono' hmo) ?_;rw[VA hi13,if_pos (by simp),if_neg (by omega),if_neg (by omega),r12];simp[VRel]
  ·intro _;exact hfin (r 9) _ hnv
  ·intro h;simp at h
  ·intro h;exact absurd (WU _ h10) h
  ·intro _ h;simp at h
end Go.Proofs.YtgkidpolomhghaaGreatDoor.AM
namespace Go.Proofs.YtgkidpolomhghaaGreatDoor.AM
variable [Dr]
open Go Pl
theorem PX {l m:List Rt} (hl:l.Nodup) (hm:m.Nodup) (h:∀ x,x∈l↔x∈m):l.Perm m:=(List.perm_ext_iff_of_nodup hl hm).2 h
theorem TJ {s:Sys} {l:List Rt} {ks:List Rt} (hn:ks.Nodup) (h:∀ x,x∈ks↔x∈l):XV s l=(V2 ks).filter fun x=>!l.any fun r=>wkB s x r:=by
 have hp:(ddR l).Perm ks:=PX (K0 _ _) hn fun x=>by rw[UP,h]
 unfold XV;rw[NR hp];apply JD;intro x _;congr 1;rw[Q8,ZZ,ZZ];constructor <;> rintro ⟨r,h1,h2⟩ <;> refine ⟨r,?_,h2⟩
 ·exact UP.1 h1
 ·exact UP.2 h1
theorem Qag {s:Sys} {l m:List Rt} (h:∀ x,x∈l↔x∈m):XV s l=XV s m:=by
 rw[TJ (ks:=ddR m) (K0 _ _) (fun x=>by rw[UP,h]),TJ (ks:=ddR m) (K0 _ _) (fun x=>UP)];apply JD;intro x _;congr 1;rw[Q8,ZZ,ZZ];constructor <;> rintro ⟨r,h1,h2⟩ <;> refine ⟨r,?_,h2⟩
 ·exact (h r).1 h1
 ·exact (h r).2 h1
def comI (s:Sys) (x y:Rt) (i:Nat):List Rt:=if covB s x.1.toNat i&&covB s y.1.toNat i then [((i:Int),orI x.2 y.2)] else []
def ER (s:Sys) (x y:Rt) (k:Nat):List Rt:=(List.range k).flatMap (comI s x y)
def comX (s:Sys) (b:List Rt) (x:Rt) (k:Nat):List Rt:=(b.take k).flatMap fun y=>ER s x y s.cl.length
def comT (s:Sys) (a b:List Rt) (k:Nat):List Rt:=(a.take k).flatMap fun x=>comX s b x b.length
def comL (s:Sys) (a b:List Rt):List Rt:=comT s a b a.length
theorem Qdx (s:Sys) (x y:Rt) (k:Nat):ER s x y (k+1)=ER s x y k++comI s x y k:=by simp[ER,WM]
theorem comX_s (s:Sys) (b:List Rt) (x:Rt) {k:Nat} (h:k<b.length):comX s b x (k+1)=comX s b x k++ER s x b[k]! s.cl.length:=by
 unfold comX;rw[JC,QI h,getElem!_pos b k h,List.flatMap_append];simp
theorem comT_s (s:Sys) (a b:List Rt) {k:Nat} (h:k<a.length):comT s a b (k+1)=comT s a b k++comX s b a[k]! b.length:=by
 unfold comT;rw[JC,QI h,getElem!_pos a k h,List.flatMap_append];simp
theorem T3.put {s:Sys} {es:List (Rt × Int)} {L:List Rt} (h:T3 s es L) {r:Rt} (hr:RgOk s r) (v:Int):T3 s (putE es r v) (L++[r]) :=
 ⟨S6 h.nd,fun x=>by rw[put_mem,h.mem,YV,WZ],fun x hx=>by
  rcases YV.1 hx with hx | hx
  ·exact h.ok x hx
  ·rw[WZ.1 hx];exact hr⟩
theorem put_find {es:List (Rt × Int)} {r:Rt} (hn:(Z4 es).Nodup) (hw:∀ e∈es,RgW e.1) (hr:RgW r) :
  ∃ res,findKey KR (rgV r) (mapE es) 0=some res∧(∀ v,XU (mapE es) (rgV r) (.i v) res=mapE (putE es r v))∧∃ w,(res.map (·.2)).getD (.i 0)=AV.i w:=by
 rcases MY hr es 0 hw with ⟨g1,g2⟩ | ⟨j,n,g1,g2⟩
 ·exact ⟨none,g1,fun v=>by rw[putE,if_neg g2];simp[mapE,XU],0,rfl⟩
 ·refine ⟨_,g2,fun v=>?_,n,rfl⟩;rw[← QdX hn g1];simp[mapE,List.map_set,XU]
def bthV (s:Sys) (a b:List Rt):AV :=
 if rdE s (sysE s).2.2 [a,b]≠0 then .tup [rgL [],.i (rdE s (sysE s).2.2 [a,b])]
 else if ((XV s (comL s a b)).length:Int)>40 then .tup [rgL [],.i 3]
 else .tup [rgL (XV s (comL s a b)),.i 0]
theorem comL_len (s:Sys) (a b:List Rt):(comL s a b).length≤a.length*(b.length*s.cl.length):=by
 have h0:∀ x y k,(comI s x y k).length≤1:=fun x y k=>by unfold comI;split <;> simp
 have h1:∀ (x y:Rt) (k:Nat),(ER s x y k).length≤k:=fun x y k=>by
  induction k with
  | zero=>simp[ER]
  | succ k ih =>
   rw[Qdx,QM];have:=h0 x y k;omega
 have h2:∀ x k,k≤b.length→(comX s b x k).length≤k*s.cl.length:=fun x k=>by
  induction k with
  | zero=>intro _;simp[comX]
  | succ k ih=>intro hk;rw[comX_s s b x (by omega),QM,XJ];have:=ih (by omega);have:=h1 x b[k]! s.cl.length;omega
 have h3:∀ k,k≤a.length→(comT s a b k).length≤k*(b.length*s.cl.length):=fun k=>by
  induction k with
  | zero=>intro _;simp[comT]
  | succ k ih=>intro hk;rw[comT_s s a b (by omega),QM,XJ];have:=ih (by omega);have:=h2 a[k]! b.length (QG _);omega
 exact h3 a.length (QG _)
theorem p36 (s:Sys) (hs:SSz s) (a b:List Rt) (ha:a.length<2 ^ 63) (hb:b.length<2 ^ 63):PC Tryz.prog 55 [sysV s,rgL a,rgL b] (bthV s a b):=by
 refine ⟨ZF (fok55 true) (QC rfl) ?_,by unfold bthV;repeat (split <;> try rfl)⟩;have h63:=fun σ l0 h0=>c63 s hs [a,b] (by simpa using ⟨ha,hb⟩) (by simp) σ l0 h0
 have hdec:=rdE_ok2 (s:=s) (a:=a) (b:=b);have hn0:=QaV (s:=s);have hQ:(sysQ s).isUndef=false:=by unfold sysQ;split <;> rfl
 have hQP:(sysE s).2.2=0→sysQ s=sysP s:=fun h=>if_pos h
 unfold bthV;generalize rdE s (sysE s).2.2 [a,b]=e at *;by_cases he:e=0
 rotate_left
 ·have hb:(e != 0)=true:=by simpa using he
  rw[if_pos he];simp only[ic55,WI,cellsOf,evA,simprocAttr];refine (h63 _ 1 rfl).run ?_;generalize sysQ s=Q at *;simp only[hQ,hb,evA,simprocAttr];exact .tup (.cons (.c .nl) (.cons (.c (.c _ trivial)) .nil))
 have hb2:(e != 0)=false:=by simpa using he
 obtain ⟨k1,k2,k3⟩:=hdec he;obtain ⟨⟨hn1,hn12⟩,hm,hok⟩:=hn0 k1;obtain ⟨hla,hra⟩:=ML k2;obtain ⟨hlb,hrb⟩:=ML k3;have hbp:=HF hm;rw[if_neg (show ¬ (e≠0) from fun h=>h he)];rw[hQP k1] at h63;simp only[ic55,WI,cellsOf,KY,evA,simprocAttr];refine (h63 _ 1 rfl).run ?_;simp only[hb2,evA,simprocAttr];have clo3:∀ es,∀ o∈[AObj.cells [.cv (clsR s.cl),.cv (strR s.co)],.cells [rgL a,rgL b],.map (mapE es)],Z3 3 o=true:=fun es o ho=>by
  simp only[ZD,WK,or_false] at ho;rcases ho with rfl | rfl | rfl
  ·rfl
  ·rfl
  ·exact FX _ _
 have clo4:∀ es (x:Rt),∀ o∈[AObj.cells [.cv (clsR s.cl),.cv (strR s.co)],.cells [rgL a,rgL b],.map (mapE es),.cells [.i x.1,.i x.2]],Z3 4 o=true:=fun es x o ho=>by
  simp only[ZD,WK,or_false] at ho;rcases ho with rfl | rfl | rfl | rfl
  ·rfl
  ·rfl
  ·exact FX _ _
  ·rfl
 refine ZW a.length (fun ix s'=>∃ es v9 v10 v11 v17 v18 v19 v20 v21 v22 v23 v24 v25,T3 s es (comT s a b ix)∧s'=⟨[sysV s,rgL a,rgL b,.ptr 0 0,.cv .nils,.i 0,sysP s,.i e,.map 2,v9,v10,v11,.undef,.b false,rgL a,.i a.length,.i ix,v17,v18,v19,v20,v21,v22,v23,v24,v25,.undef],[.cells [.cv (clsR s.cl),.cv (strR s.co)],.cells [rgL a,rgL b],.map (mapE es)]⟩) ?_ 0 (QF _) ⟨[],_,_,_,_,_,_,_,_,_,_,_,_,⟨YU,by simp[Z4,comT],by simp[comT]⟩,rfl⟩;rintro ix s' hix ⟨es,v9,v10,v11,v17,v18,v19,v20,v21,v22,v23,v24,v25,hM,rfl⟩;by_cases hixa:ix<a.length
 ·have hx:=hra a[ix]! (by rw[getElem!_pos a ix hixa];exact Q2 hixa);have hTs:=comT_s s a b hixa;simp only[ic55l2,QJ,hixa,L6 hixa,S3 hixa,evA,simprocAttr];generalize a[ix]! = x at *;obtain ⟨⟨x1,x2⟩,x3,x4⟩:=hx;have x4':x.2<256:=by unfold setN at x4;omega
  obtain ⟨cx,hcx⟩:∃ c:Nat,x.1=(c:Int):=⟨x.1.toNat,by omega⟩;have hcxl:cx<s.cl.length:=by omega
  rw[hcx];refine ZW b.length (fun iy s'=>∃ es v10 v11 v21 v22 v23 v24 v25,T3 s es (comT s a b ix++comX s b x iy)∧s'=⟨[sysV s,rgL a,rgL b,.ptr 0 0,.cv .nils,.i 0,sysP s,.i e,.map 2,.ptr 3 0,v10,v11,.undef,.b false,rgL a,.i a.length,.i ix,.b true,rgL b,.i b.length,.i iy,v21,v22,v23,v24,v25,.undef],[.cells [.cv (clsR s.cl),.cv (strR s.co)],.cells [rgL a,rgL b],.map (mapE es),.cells [.i cx,.i x.2]]⟩) ?_ 0 (QF _) ⟨es,_,_,_,_,_,_,_,by simpa[comX] using hM,rfl⟩;rintro iy s' hiy ⟨es,v10,v11,v21,v22,v23,v24,v25,hM,rfl⟩;by_cases hiyb:iy<b.length
  ·have hy:=hrb b[iy]! (by rw[getElem!_pos b iy hiyb];exact Q2 hiyb);have hXs:=comX_s s b x hiyb;simp only[ic55l1,QJ,hiyb,L6 hiyb,S3 hiyb,evA,simprocAttr];generalize b[iy]! = y at *;obtain ⟨⟨y1,y2⟩,y3,y4⟩:=hy;have y4':y.2<256:=by unfold setN at y4;omega
   obtain ⟨cy,hcy⟩:∃ c:Nat,y.1=(c:Int):=⟨y.1.toNat,by omega⟩;have hcyl:cy<s.cl.length:=by omega
   rw[hcy];refine ZW s.cl.length (fun i s'=>∃ es v11 v24 v25,T3 s es (comT s a b ix++comX s b x iy++ER s x y i)∧s'=⟨[sysV s,rgL a,rgL b,.ptr 0 0,.cv .nils,.i 0,sysP s,.i e,.map 2,.ptr 3 0,.ptr 4 0,v11,.undef,.b false,rgL a,.i a.length,.i ix,.b true,rgL b,.i b.length,.i iy,.b true,.i s.cl.length,.i i,v24,v25,.undef],[.cells [.cv (clsR s.cl),.cv (strR s.co)],.cells [rgL a,rgL b],.map (mapE es),.cells [.i cx,.i x.2],.cells [.i cy,.i y.2]]⟩) ?_ 0 (QF _) ⟨es,_,_,_,by simpa[ER] using hM,rfl⟩;rintro i s' hi ⟨es,v11,v24,v25,hM,rfl⟩;by_cases hin:i<s.cl.length
   ·have hcs:=Qdx s x y i;have hcI:comI s x y i=if covB s cx i&&covB s cy i then [((i:Int),orI x.2 y.2)] else []:=by unfold comI;rw[hcx,hcy,Int.toNat_natCast,Int.toNat_natCast]
    simp only[ic55l0,QJ,hin,evA,simprocAttr];refine DW_s [] [] hmix (by kernel_rfl) rfl ?_;simp only[XP hcxl,XP hcyl,W3,FD hcxl,FD hcyl,P1 hin,DN hin,evA,simprocAttr];have fin0:(covB s cx i&&covB s cy i)=false→T3 s es (comT s a b ix++comX s b x iy++ER s x y (i+1)):=fun h=>by rw[hcs,hcI,h];simpa using hM
    cases h1:covB s cx i with
    | false =>
     rw[h1] at fin0;simp only[Q6 (show i+1<2 ^ 63 by omega),evA,simprocAttr];exact ZL (by first | trivial | omega) ⟨es,_,_,_,fin0 rfl,rfl⟩
    | true =>
    simp only[XP hcyl,W3,FD hcyl,P1 hin,DN hin,evA,simprocAttr];cases h2:covB s cy i with
    | false =>
     rw[h1,h2] at fin0;simp only[Q6 (show i+1<2 ^ 63 by omega),evA,simprocAttr];exact ZL (by first | trivial | omega) ⟨es,_,_,_,fin0 rfl,rfl⟩
    | true =>
    have hor:=or_wrap (a:=x.2) (b:=y.2) ⟨x3,x4'⟩ ⟨y3,y4'⟩;have horl:orI x.2 y.2<setN s:=Qcf x4 y4;have hrk:RgOk s ((i:Int),orI x.2 y.2):=⟨⟨by omega,by omega⟩,Qa9 _ _,horl⟩;have hkw:∀ e∈es,RgW e.1:=key_w fun r h=>(hM.ok r ((hM.mem r).1 h)).w hn12 hm
    obtain ⟨res,hres,hput,w,hw⟩:=put_find hM.nd hkw (hrk.w hn12 hm);have hfin1:T3 s (putE es ((i:Int),orI x.2 y.2) (IntKind.i64.wrap (w+1))) (comT s a b ix++comX s b x iy++ER s x y (i+1)):=by have hh:=hM.put hrk (IntKind.i64.wrap (w+1));rw[hcs,hcI,h1,h2];simpa using hh
    simp only[evA,simprocAttr];refine DW_incr (lm:=2) (es:=mapE es) (k:=rgV ((i:Int),orI x.2 y.2)) (res:=res) (fun j=>([.map 2,.i i,.ptr 3 1,.i x.2,.ptr 4 1,.i y.2,.i (orI x.2 y.2),rgV ((i:Int),orI x.2 y.2),.i w,.i (IntKind.i64.wrap (w+1)),.undef,.undef,.undef]:List AV).getD j .undef) hmix rfl (by decide) rfl rfl rfl rfl (by decide) (by decide) (by decide) (by decide) ?_ rfl rfl rfl hw.symm QbP rfl (Qda es) QbP ?_ (Qb6 (hrk.w hn12 hm)) (by rw[rg_eq (hrk.w hn12 hm) (hrk.w hn12 hm)];simp) hres ?_
    ·rintro j (hj | rfl)
     ·match j,hj with
      | 0,_=>exact ⟨_,_,rfl,by simp,rfl⟩
      | 1,_=>exact ⟨_,_,rfl,by simp,rfl⟩
      | 2,_=>exact ⟨_,_,rfl,by simp,rfl⟩
      | 3,_=>exact ⟨_,_,rfl,by simp,rfl⟩
      | 4,_=>exact ⟨_,_,rfl,by simp,rfl⟩
      | 5,_=>exact ⟨_,_,rfl,by simp,rfl⟩
      | 6,_=>exact ⟨_,_,rfl,by intro e he;simp at he;rcases he with rfl | rfl <;> simp,by
        show ZQ (.bin .or .int) [.i x.2,.i y.2] _=some (.i (orI x.2 y.2),_);simp only[hor,evA,simprocAttr]⟩
      | 7,_=>exact ⟨_,_,rfl,by intro e he;simp at he;rcases he with rfl | rfl <;> simp,rfl⟩
     ·exact ⟨_,_,rfl,by simp,rfl⟩
    ·exact QeL (zs:=[(i:Int),orI x.2 y.2])
    ·simp only[WA,List.getElem?_cons_succ,List.getElem?_cons_zero,Option.getD_some,hput];simp only[Q6 (show i+1<2 ^ 63 by omega),evA,simprocAttr];exact ZL (by first | trivial | omega) ⟨_,_,_,_,hfin1,rfl⟩
   ·have hin':i=s.cl.length:=by omega
    subst hin';simp only[ic55l0,QJ,hin,Q6 (show iy+1<2 ^ 63 by omega),evA,simprocAttr];refine W1 [.cells [.cv (clsR s.cl),.cv (strR s.co)],.cells [rgL a,rgL b],.map (mapE es),.cells [.i cx,.i x.2]] _ rfl (by first | trivial | omega) (QF _) (by have:=clo4 es x;rw[hcx] at this;exact this) ⟨es,_,_,_,_,_,_,_,by rw[hXs,← QW];exact hM,rfl⟩
  ·have hiy':iy=b.length:=by omega
   subst hiy';simp only[ic55l1,QJ,hiyb,Q6 (show ix+1<2 ^ 63 by omega),evA,simprocAttr];exact W1 [.cells [.cv (clsR s.cl),.cv (strR s.co)],.cells [rgL a,rgL b],.map (mapE es)] _ rfl (by first | trivial | omega) (QF _) (clo3 es) ⟨es,_,_,_,_,_,_,_,_,_,_,_,_,by rw[hTs];exact hM,rfl⟩
 ·have hix':ix=a.length:=by omega
  subst hix';have hML:T3 s es (comL s a b):=hM;have hcl:=comL_len s a b;have hel:=hML.len;have hbig:a.length*(b.length*s.cl.length)≤40*(40*12):=Nat.mul_le_mul hla (Nat.mul_le_mul hlb hn12);have hlf:XV s (V2 (Z4 es))=XV s (comL s a b):=Qag fun x=>by rw[VM,hML.mem]
  have hks:(V2 (Z4 es)).length<2 ^ 38:=by rw[EE];show (es.map (·.1)).length<_;rw[ZK];omega
  simp only[ic55l2,QJ,hixa,evA,simprocAttr];refine (c72 (es:=es) (by omega) rfl).run ?_;simp only[evA,simprocAttr];refine (c71 (V2 (Z4 es)) hks).call ?_;simp only[evA,simprocAttr];refine ((ac67 s hn12 hm (V2 (Z4 es)) hks (fun r hr=>hML.ok r ((hML.mem r).1 (VM.1 hr)))).accs rfl (fun g=>rfl) _).mono ?_;intro r τ hA;rw[hlf] at hA;have hnu:=hA.nu;have hvl:∀ σ,RZ false [r] σ=some (.i (XV s (comL s a b)).length,σ):=fun σ=>by
   rcases hA with ⟨rfl,h,_⟩ | ⟨p,rfl,_⟩
   ·rw[h];rfl
   ·rfl
  by_cases h40:((XV s (comL s a b)).length:Int)>40
  ·rw[if_pos h40];simp only[hnu,hvl,h40,evA,simprocAttr];exact .tup (.cons (.c .nl) (.cons (.c (.c _ trivial)) .nil))
  ·rw[if_neg h40];simp only[hnu,hvl,h40,evA,simprocAttr];exact .tup (.cons (GI hA (MN _)) (.cons (.c (.c _ trivial)) .nil))
theorem OK {s:Sys} (hok:OkI s) {c k:Nat} (hc:c<s.cl.length):covB s c k=true↔Rch (nx s) c k:=CS hok.inN hc
theorem QaD {s:Sys} (hok:OkI s) {c:Nat} (hc:c<s.cl.length):covB s c c=true:=(OK hok hc).2 .refl
theorem QdB {s:Sys} (hok:OkI s) {a b c:Nat} (ha:a<s.cl.length) (hb:b<s.cl.length) (h1:covB s a b=true) (h2:covB s b c=true):covB s a c=true :=
 (OK hok ha).2 (((OK hok ha).1 h1).trans ((OK hok hb).1 h2))
theorem RgOk.nat {s:Sys} {r:Rt} (h:RgOk s r):r.1.toNat<s.cl.length:=by have:=h.1;omega
theorem T0 {s:Sys} {l:List Rt} {c f:Int}:alwB s l c f=true↔∃ r∈l,covB s r.1.toNat c.toNat=true∧∀ k,¬ (bit r.2 k=true∧bit f k=true):=by
 unfold alwB;rw[ZZ];constructor
 ·rintro ⟨r,hr,h⟩;unfold alw1 at h;rw[QD,beq_iff_eq,NO] at h;exact ⟨r,hr,h⟩
 ·rintro ⟨r,hr,h1,h2⟩;refine ⟨r,hr,?_⟩;unfold alw1;rw[QD,beq_iff_eq,NO];exact ⟨h1,h2⟩
theorem CB {s:Sys} {l:List Rt} {x:Rt}:x∈XV s l↔x∈l∧∀ r∈l,wkB s x r=false:=by
 unfold XV;rw[YB,VM,UP,Z0,W6];constructor
 ·rintro ⟨h1,h2⟩;exact ⟨h1,fun r hr=>by have:=h2 r (UP.2 hr);simpa using this⟩
 ·rintro ⟨h1,h2⟩;exact ⟨h1,fun r hr=>by rw[h2 r (UP.1 hr)];decide⟩
theorem QcC {s:Sys} {a b:List Rt} {x:Rt}:x∈comL s a b↔∃ p∈a,∃ q∈b,∃ i:Nat,i<s.cl.length∧covB s p.1.toNat i=true∧covB s q.1.toNat i=true∧x=((i:Int),orI p.2 q.2):=by
 unfold comL comT;rw[X7,YM];constructor
 ·rintro ⟨p,hp,h⟩;unfold comX at h;rw[X7,YM] at h;obtain ⟨q,hq,h⟩:=h;unfold ER at h;rw[YM] at h;obtain ⟨i,hi,h⟩:=h;unfold comI at h;split at h
  ·rename_i hc;rw[QD] at hc;exact ⟨p,hp,q,hq,i,ZI.1 hi,hc.1,hc.2,WZ.1 h⟩
  ·simp at h
 ·rintro ⟨p,hp,q,hq,i,hi,h1,h2,rfl⟩;refine ⟨p,hp,?_⟩;unfold comX;rw[X7,YM];refine ⟨q,hq,?_⟩;unfold ER;rw[YM];refine ⟨i,ZI.2 hi,?_⟩;unfold comI;rw[h1,h2];simp
theorem QaT {s:Sys} {x r:Rt} (hr:r.2<2 ^ 63):wkB s x r=true↔x≠r∧covB s r.1.toNat x.1.toNat=true∧∀ k,bit r.2 k=true→bit x.2 k=true:=by
 unfold wkB;rw[QD,QD,beq_iff_eq,SY hr];simp
theorem le64 (n lo hi:Int):PC Tryz.prog 64 [.i n,.i lo,.i hi] (.b (inB n lo hi)):=by
 refine ⟨ZF (fok64 true) (QC rfl) ?_,rfl⟩;unfold inB;by_cases h:n≥lo <;> simp only[ic64,h,evA,simprocAttr] <;> exact frz
theorem SlV.cl {v:AV} {zs:List Int} (h:SlV v zs):∃ c,v=.cv c:=by
 rcases h with ⟨rfl,_⟩ | ⟨rfl,rfl⟩ <;> exact ⟨_,rfl⟩
end Go.Proofs.YtgkidpolomhghaaGreatDoor.AM
namespace Go.Proofs.YtgkidpolomhghaaGreatDoor.AM
variable [Dr]
open Go Go.ChangeShapes Go.WideShapes Go.ChangeAt Go.RowKit
abbrev noO:Nat→Prop:=Own (fun _=>none) (fun _=>False)
theorem not_noO (b:Nat):¬ noO b:=by rintro (h | ⟨l,hl⟩);exact h;cases hl
theorem DG {α:Type} {Q:Nat→α→Prop}:∀ (n:Nat),(∀ i,i<n→∃ l,Q i l)→∃ L:List α,L.length=n∧∀ (i:Nat) (l:α),L[i]? = some l→Q i l
 | 0,_=>⟨[],rfl,by simp⟩
 | n+1,h=>by
  obtain ⟨L,h1,h2⟩:=DG n (fun i hi=>h i (by omega));obtain ⟨l,hl⟩:=h n (by omega);refine ⟨L++[l],by simp[h1],fun i l' hi=>?_⟩;rcases ZB i n with hlt | hge
  ·rw[QE (by omega)] at hi;exact h2 i l' hi
  ·rw[QS (by omega),h1] at hi;have:i=n:=by
    rcases ZB n i with h' | h'
    ·rw[QN (by simp;omega)] at hi;cases hi
    ·omega
   subst this;simp at hi;subst hi;exact hl
theorem CJ {R:Nat→CV→Prop} {esz:Nat}:∀ (L:List (List CV)) (n:Nat),(∀ (i:Nat) (l:List CV),L[i]? = some l→l.length=esz∧∀ (j:Nat) (c:CV),l[j]? = some c→R (n+i*esz+j) c) →
  L.flatten.length=L.length*esz∧∀ (k:Nat) (c:CV),L.flatten[k]? = some c→R (n+k) c
 | [],n,_=>by simp
 | l::L,n,h=>by
  obtain ⟨h1,h2⟩:=h 0 l (by simp);have ih:=CJ L (n+esz) (fun i l' hi=>by
   obtain ⟨g1,g2⟩:=h (i+1) l' (by simpa using hi);refine ⟨g1,fun j c hj=>?_⟩;have:=g2 j c hj
   rwa [WP,Nat.one_mul,← Nat.add_assoc,Nat.add_right_comm n] at this)
  refine ⟨by simp[h1,ih.1,WP,Nat.add_comm],fun k c hk=>?_⟩;rw[List.flatten_cons] at hk;rcases ZB k l.length with hlt | hge
  ·rw[QE hlt] at hk;have:=h2 k c hk;simpa using this
  ·rw[QS hge] at hk;have:=ih.2 (k-l.length) c hk
   rwa [show n+esz+(k-l.length)=n+k by omega] at this
theorem A4 {P:Program} {R:Nat→CV→Prop} {N:Nat}:∀ (fs:List Field) (L:List (List CV)) (n:Nat),J8 P fs n=some N→L.length=fs.length →
  (∀ (i:Nat) (f:Field) (l:List CV),fs[i]? = some f→L[i]? = some l→l.length=P.cellsOf f.type∧∀ (j:Nat) (c:CV),l[j]? = some c→R (f.offset+j) c) →
  n+L.flatten.length=N∧∀ (k:Nat) (c:CV),L.flatten[k]? = some c→R (n+k) c
 | [],L,n,he,hl,_=>by have:L=[]:=ZT (by simpa using hl);subst this;simp only[J8,Option.some.injEq] at he;simp[he]
 | f::fs,[],n,_,hl,_=>by simp at hl
 | f::fs,l::L,n,he,hl,h=>by
  simp only[J8] at he;split at he
  ·rename_i hoff;obtain ⟨h1,h2⟩:=h 0 f l (by simp) (by simp);have ih:=A4 fs L (n+P.cellsOf f.type) he (by simpa using hl) (fun i f' l' hf hl'=>h (i+1) f' l' (by simpa using hf) (by simpa using hl'));refine ⟨by rw[← ih.1];simp[h1];omega,fun k c hk=>?_⟩;rw[List.flatten_cons] at hk;rcases ZB k l.length with hlt | hge
   ·rw[QE hlt] at hk;have:=h2 k c hk
    rwa [hoff] at this
   ·rw[QS hge] at hk;have:=ih.2 (k-l.length) c hk
    rwa [show n+P.cellsOf f.type+(k-l.length)=n+k by omega] at this
  ·cases he
theorem NT {W:World} {a:Addr}:∀ (cs:List CV) (i:Nat),(∀ (j:Nat) (c:CV),cs[j]? = some c→∃ v,W.cell? (a.add (i+j))=some v∧c.rep W noO v)→CV.reps W noO cs a i
 | [],_,_=>by simp[CV.reps]
 | c::cs,i,h=>by
  simp only[CV.reps];refine ⟨not_noO _,by simpa using h 0 c (by simp),NT cs (i+1) fun j c' hj=>?_⟩;have:=h (j+1) c' (by simpa using hj)
  rwa [show i+(j+1)=i+1+j by omega] at this
section
variable {H:Type} {enc:TypeId × Value→H} {P:Program} {W:World}
theorem EW:∀ (n:Nat) (t:TypeId) (cs:List Value) (x:DataW H × List MemPlace) (fuel:Nat),TG P n t=true→DataW.trod enc P W 0 (fun _=>true) true fuel t cs=some x →
  ∃ cvs:List CV,Typed P t cvs∧cvs.length=cs.length∧∀ (i:Nat) (c:CV) (v:Value),cvs[i]? = some c→cs[i]? = some v→c.rep W noO v
 | 0,t,cs,x,fuel,ho,_=>by simp[TG] at ho
 | n + 1,t,cs,x,fuel,ho,h=>by
  simp only[TG] at ho;split at ho
  ·rename_i ht;obtain ⟨b,rfl,_⟩:=DataW.trod_bool ht h;refine ⟨[.bool b],.bool ht b,rfl,fun i c v h1 h2=>?_⟩;cases i with
   | zero=>simp at h1 h2;subst h1 h2;simp[CV.rep]
   | succ i=>simp at h1
  ·rename_i k ht;obtain ⟨b,rfl,_,hw⟩:=DataW.trod_int ht h;refine ⟨[.int k b],.int ht b hw,rfl,fun i c v h1 h2=>?_⟩;cases i with
   | zero=>simp at h1 h2;subst h1 h2;simp[CV.rep]
   | succ i=>simp at h1
  ·rename_i ht;obtain ⟨s,rfl,_,hw⟩:=DataW.trod_string ht h;refine ⟨[.str s],.str ht s hw,rfl,fun i c v h1 h2=>?_⟩;cases i with
   | zero=>simp at h1 h2;subst h1 h2;simp[CV.rep]
   | succ i=>simp at h1
  ·rename_i e ht;rcases DataW.trod_slice ht h with ⟨rfl,_⟩ | ⟨a,len,cap,elems,rest,m,_,rfl,_,_,hlc,hcm,hel,hget,_⟩
   ·refine ⟨[.rsl [] 0],by simpa using Typed.slc ht [] (by simp) (by simp) (by simp),rfl,fun i c v h1 h2=>?_⟩;cases i with
    | zero=>simp at h1 h2;subst h1 h2;simp[CV.rep]
    | succ i=>simp at h1
   ·obtain ⟨L,hL,hQ⟩:=DG (Q:=fun i l=>Typed P e l∧l.length=P.cellsOf e∧∀ (j:Nat) (c:CV),l[j]? = some c→∃ v,W.cell? (a.add (i*P.cellsOf e+j))=some v∧c.rep W noO v) len (fun i hi=>by
     have hg:=hget i hi;rw[QI (by omega)] at hg;obtain ⟨ci,h1,h2⟩:=QB.1 hg;obtain ⟨_,hlen,hcell⟩:=World.cells?_some h1;obtain ⟨cvs,g1,g2,g3⟩:=EW n e ci _ _ ho h2;refine ⟨cvs,g1,by omega,fun j c hj=>?_⟩;have hjl:j<cvs.length:=(QH.1 hj).1;have hc:=hcell j (by omega);rw[QI (by omega)] at hc;exact ⟨_,by rw[← Addr.add_add];exact hc,g3 j c _ hj (QI _)⟩)
    have hmem:∀ l∈L,∃ i:Nat,L[i]? = some l:=fun l hl=>List.mem_iff_getElem?.1 hl
    have hfl:=CJ (R:=fun k c=>∃ v,W.cell? (a.add k)=some v∧c.rep W noO v) (esz:=P.cellsOf e) L 0 (fun i l hi=>⟨(hQ i l hi).2.1,fun j c hj=>by simpa using (hQ i l hi).2.2 j c hj⟩);refine ⟨[.rsl L.flatten L.length],Typed.slc ht L (by omega) (fun l hl=>let ⟨i,hi⟩:=hmem l hl;(hQ i l hi).2.1) (fun l hl=>let ⟨i,hi⟩:=hmem l hl;(hQ i l hi).1),rfl,fun i c v h1 h2=>?_⟩;cases i with
    | zero =>
     simp at h1 h2;subst h1 h2;simp only[CV.rep];exact .inr ⟨a,cap,by rw[hL],by omega,NT _ 0 (fun j c hj=>hfl.2 j c hj)⟩
    | succ i=>simp at h1
  ·rename_i k e ht;simp only[QD,decide_eq_true_eq] at ho;obtain ⟨xs,m,_,_,hlen,hxs,hget⟩:=DataW.trod_array ht h;obtain ⟨L,hL,hQ⟩:=DG (Q:=fun i l=>Typed P e l∧l.length=P.cellsOf e∧∀ (j:Nat) (c:CV),l[j]? = some c→∀ v,cs[i*P.cellsOf e+j]? = some v→c.rep W noO v) k (fun i hi=>by
     have hg:=hget i hi;rw[QI (by omega)] at hg;obtain ⟨cvs,g1,g2,g3⟩:=EW n e _ _ _ ho.1 hg;have hik:i*P.cellsOf e+P.cellsOf e≤k*P.cellsOf e:=by
      have:=YQ (P.cellsOf e) (show i+1≤k by omega)
      rwa [WP,Nat.one_mul] at this
     have hl2:cvs.length=P.cellsOf e:=by rw[g2];simp;omega
     refine ⟨cvs,g1,hl2,fun j c hj v hv=>?_⟩;have hjl:j<cvs.length:=(QH.1 hj).1;exact g3 j c v hj (by rw[Z7,if_pos (by omega),X4];exact hv))
   have hmem:∀ l∈L,∃ i:Nat,L[i]? = some l:=fun l hl=>List.mem_iff_getElem?.1 hl
   have hfl:=CJ (R:=fun k c=>∀ v,cs[k]? = some v→c.rep W noO v) (esz:=P.cellsOf e) L 0 (fun i l hi=>⟨(hQ i l hi).2.1,fun j c hj=>by simpa using (hQ i l hi).2.2 j c hj⟩);exact ⟨L.flatten,Typed.arr ht L hL (fun l hl=>let ⟨i,hi⟩:=hmem l hl;(hQ i l hi).2.1) (fun l hl=>let ⟨i,hi⟩:=hmem l hl;(hQ i l hi).1),by rw[hfl.1,hlen,ho.2,hL],fun i c v h1 h2=>hfl.2 i c h1 v (by simpa using h2)⟩
  ·rename_i fs ht;simp only[QD,decide_eq_true_eq,Q1] at ho;obtain ⟨xs,m,_,_,hlen,hxs,hget⟩:=DataW.trod_struct ht h;obtain ⟨L,hL,hQ⟩:=DG (Q:=fun i l=>∀ f,fs[i]? = some f→Typed P f.type l∧l.length=min (P.cellsOf f.type) (cs.length-f.offset)∧∀ (j:Nat) (c:CV),l[j]? = some c→∀ v,cs[f.offset+j]? = some v→c.rep W noO v) fs.size (fun i hi=>by
     have hfi:fs[i]? = some fs[i]:=Q7 hi;have hg:=hget i fs[i] hfi;rw[QI (by omega)] at hg;obtain ⟨cvs,g1,g2,g3⟩:=EW n _ _ _ _ (ho.1 fs[i] (by simp)) hg;have hl2:cvs.length=min (P.cellsOf fs[i].type) (cs.length-fs[i].offset):=by rw[g2];simp
     refine ⟨cvs,fun f hf=>?_⟩;rw[hfi] at hf;cases hf;refine ⟨g1,hl2,fun j c hj v hv=>?_⟩;have hjl:j<cvs.length:=(QH.1 hj).1;exact g3 j c v hj (by rw[Z7,if_pos (by omega),X4];exact hv))
   have hoff:∀ (fs:List Field) (n N:Nat),J8 P fs n=some N→n≤N∧∀ (i:Nat) (f:Field),fs[i]? = some f→f.offset+P.cellsOf f.type≤N:=by
    intro fs
    induction fs with
    | nil=>intro n N h;simp only[J8,Option.some.injEq] at h;simp[h]
    | cons f fs ih =>
     intro n N h;simp only[J8] at h;split at h
     ·rename_i ho;obtain ⟨h1,h2⟩:=ih _ _ h;refine ⟨by omega,fun i f' hi=>?_⟩;cases i with
      | zero=>simp at hi;subst hi;omega
      | succ i=>exact h2 i f' (by simpa using hi)
     ·cases h
   have hin:=(hoff _ _ _ ho.2).2;have hl:∀ (i:Nat) (f:Field) (l:List CV),fs[i]? = some f→L[i]? = some l→l.length=P.cellsOf f.type:=by intro i f l hf hl;obtain ⟨_,h2,_⟩:=hQ i l hl f hf;have:=hin i f (by simpa using hf);omega
   have hfl:=A4 (P:=P) (R:=fun k c=>∀ v,cs[k]? = some v→c.rep W noO v) fs.toList L 0 ho.2 (by simpa using hL) (fun i f l hf hl' =>
    ⟨hl i f l (by simpa using hf) hl',fun j c hj=>(hQ i l hl' f (by simpa using hf)).2.2 j c hj⟩)
   exact ⟨L.flatten,Typed.struct ht L hL hl (fun i f l hf hl'=>(hQ i l hl' f hf).1),by have:=hfl.1;omega,fun i c v h1 h2=>hfl.2 i c h1 v (by simpa using h2)⟩
  ·cases ho
theorem DV:∀ (cvs:List CV) (vs:List Value),cvs.length=vs.length→(∀ (i:Nat) (c:CV) (v:Value),cvs[i]? = some c→vs[i]? = some v→c.rep W noO v)→QK nom noX W (cvs.map .cv) vs
 | [],[],_,_=>by simp[QK]
 | c::cvs,v::vs,hl,h=>by simp only[Q0,QK,VRel];exact ⟨h 0 c v rfl rfl,DV cvs vs (by simpa using hl) fun i c v h1 h2=>h (i+1) c v (by simpa using h1) (by simpa using h2)⟩
 | [],_::_,hl,_=>by simp at hl
 | _::_,[],hl,_=>by simp at hl
theorem QfB {n:Nat} {t:TypeId} {v:Value} {d:DataW H} {ps:List MemPlace} {r:Reach} {base:Nat} (ho:TG P n t=true) (hval:Value.okWide P W r base t v) (h:DataW.Trod enc P W 0 (fun _=>true) true t v d ps) :
  ∃ cs,Typed P t cs∧VRel nom noX W (avOf P t cs) v:=by
 obtain ⟨fuel,h⟩:=h;obtain ⟨cvs,h1,h2,h3⟩:=EW n t _ _ _ ho h;refine ⟨cvs,h1,?_⟩;unfold avOf;have one:(v.cells.toList=[v])→VRel nom noX W (.cv (cvs.headD .nilp)) v:=by
  intro hv;rw[hv] at h2 h3
  match cvs,h2 with
  | [c],_=>simp only[List.headD_cons,VRel];exact h3 0 c v rfl rfl
 cases n with
 | zero=>simp[TG] at ho
 | succ n =>
  simp only[TG] at ho;split at ho
  ·rename_i ht;rw[ht];obtain ⟨b,rfl⟩:=okWide_bool ht hval;exact one rfl
  ·rename_i ht;rw[ht];obtain ⟨b,rfl⟩:=okWide_int ht hval;exact one rfl
  ·rename_i ht;rw[ht];obtain ⟨b,rfl⟩:=okWide_string ht hval;exact one rfl
  ·rename_i ht;rw[ht];obtain ⟨_,_,_,rfl⟩:=okWide_slice ht hval;exact one rfl
  ·rename_i ht;rw[ht];simp only[Value.okWide,ht] at hval;obtain ⟨arr,rfl,_⟩:=hval;simp only[VRel];exact ⟨arr.toList,by simp,DV _ _ h2 h3⟩
  ·rename_i ht;rw[ht];simp only[Value.okWide,ht] at hval;obtain ⟨arr,rfl,_⟩:=hval;simp only[VRel];exact ⟨arr.toList,by simp,DV _ _ h2 h3⟩
  ·cases ho
theorem C1 {n:Nat} {r:Reach} {base:Nat}:∀ {ts:List TypeId} {vs:List Value} {ds:List (DataW H)} {ps:List MemPlace},(ts.all (TG P n))=true →
  (∀ (j:Nat) (t:TypeId) (v:Value),ts[j]? = some t→vs[j]? = some v→Value.okWide P W r base t v)→DataW.TrodAll enc P W 0 (fun _=>true) true ts vs ds ps →
  ds.length=ts.length∧∃ avs,Args P ts avs∧QK nom noX W avs vs
 | [],_,_,_,_,_,h=>by obtain ⟨rfl,rfl,rfl⟩:=trodAll_nil h;exact ⟨rfl,[],.nil,by simp[QK]⟩
 | t::ts,_,_,_,ho,hval,h=>by obtain ⟨v,vs1,d,ds1,a,b,rfl,rfl,rfl,h1,h2⟩:=trodAll_cons h;simp only[List.all_cons,QD] at ho;obtain ⟨cs,g1,g2⟩:=QfB ho.1 (hval 0 t v rfl rfl) h1;obtain ⟨hl,avs,g3,g4⟩:=C1 ho.2 (fun j t v h1 h2=>hval (j+1) t v (by simpa using h1) (by simpa using h2)) h2;exact ⟨by simp[hl],_,.cons g1 g3,by simp only[QK];exact ⟨g2,g4⟩⟩
theorem LU (hl:laidOutB P=true) {W':World} (hb:Below W.heap.size W W'):∀ {ts:List TypeId} {vs:List Value} {ds:List (DataW H)} {ps:List MemPlace},(ts.all fun t=>P.readableRec t&&decide (t<P.types.size))=true →
  DataW.TrodAll enc P W 0 (fun _=>true) true ts vs ds ps→(∀ x∈ps,x.block<W.heap.size)→DataW.TrodAll enc P W' 0 (fun b=>decide (b<W.heap.size)) true ts vs ds ps
 | [],_,_,_,_,h,_=>by obtain ⟨rfl,rfl,rfl⟩:=trodAll_nil h;exact trodAll_mk0
 | t::ts,_,_,_,ho,h,hlt=>by obtain ⟨v,vs1,d,ds1,a,b,rfl,rfl,rfl,h1,h2⟩:=trodAll_cons h;simp only[List.all_cons,QD,decide_eq_true_eq] at ho;refine trodAll_cons_mk (Below.trod hl ho.1.1 ho.1.2 h1 hb fun x hx=>hlt x (by simp[hx])) (LU hl hb ?_ h2 fun x hx=>hlt x (by simp[hx]));simpa using ho.2
theorem law_of_AC {f:FuncId} {fn:Func} {s:ChangeSpec} {n:Nat} {t:TypeId} {base:Nat} {args:Array Value} {ds gs:List (DataW H)} {before:List MemPlace}
  (hl:laidOutB P=true) (hpar:(fn.params.toList.all fun t=>P.readableRec t&&decide (t<P.types.size))=true) (ho:fn.params.toList.all (TG P n)=true)
  (hres:fn.resultTypes = #[t]) (htb:P.underlying t=some .bool) (hsv:s.vars=[]) (hs:∀ ds:List (DataW H),ds.length=fn.params.toList.length→s.fn H ds = { results:=[.lit (.bool true)],args:=ds })
  (hAC:∀ avs,Args P fn.params.toList avs→AC P f avs [] fun r _=>r=.b true)
  (hval:∀ (j:Nat) t v,fn.params[j]? = some t→args[j]? = some v→Value.okWide P W .any base t v) (hgl:GlOk nom noX W)
  (hW:DataW.Whole enc P fn.params.toList s.vars false W args.toList ds gs before) :
  Calls P f args W fun e W'=>∃ v,e=.returned v∧s.post enc P fn false true false false W args v W':=by
 have hW':=hW;obtain ⟨p,q,hA,hV,rfl,hfz,hnd⟩:=hW;rw[hsv] at hV;obtain ⟨rfl,rfl⟩:=trodVars_none hV;have hlt:∀ x∈p,x.block<W.heap.size:=fun x hx=>hW'.lt x (by simp[hx])
 obtain ⟨hlen,avs,hav,hrel⟩:=C1 ho (fun j t v h1 h2=>hval j t v (by simpa using h1) (by simpa using h2)) hA;have hcall:=(hAC avs hav).2 nom noX W args.toList hrel ⟨by simp,by simp,by simp,by simp,by simp,hgl⟩;have hcall:=callsIn_wide.1 hcall;simp only[Array.toArray_toList] at hcall;refine hcall.mono fun e W' ⟨c,r,σ',m',he,hq,hr,_,hst,_⟩=>?_
 subst he hq;simp only[VRel,CV.rep] at hr;subst hr;have hb:Below W.heap.size W W':=⟨hst.os,hst.tape,hst.output,hst.size,fun k hk=>hst.fr k hk (.inr (by simp))⟩;have hsf:s.fn H (ds++[]) = { results:=[.lit (.bool true)],args:=ds }:=by rw[ZU];exact hs ds hlen
 refine ⟨_,rfl,ds,[],p++[],[],p,[],hW',?_,?_,?_,hb.frame _,fun h=>by simp at h⟩
 ·rw[hsf,hres];exact trodAll_mk1 (shut_bool htb true)
 ·rw[hsf];exact LU hl hb hpar hA hlt
 ·rw[hsf,hsv];rfl
end
end Go.Proofs.YtgkidpolomhghaaGreatDoor.AM
namespace Go.Proofs.YtgkidpolomhghaaGreatDoor.AM
variable [Dr]
open Go
theorem QeV {P:Program} {t:TypeId} {k:IntKind} {cs:List CV} (ht:P.underlying t=some (.int k)) (h:Typed P t cs):∃ n,cs=[.int k n]∧(Lit.int k n).wf=true:=by
 cases h with
 | int ht' n hw=>rw[ht] at ht';cases ht';exact ⟨n,rfl,hw⟩
 | bool ht'=>rw[ht] at ht';cases ht'
 | str ht'=>rw[ht] at ht';cases ht'
 | slc ht'=>rw[ht] at ht';cases ht'
 | arr ht'=>rw[ht] at ht';cases ht'
 | struct ht'=>rw[ht] at ht';cases ht'
theorem typed_str {P:Program} {t:TypeId} {cs:List CV} (ht:P.underlying t=some .string) (h:Typed P t cs):∃ s:ByteArray,cs=[.str s]∧s.size≤maxLen:=by
 cases h with
 | str ht' s hs=>exact ⟨s,rfl,hs⟩
 | bool ht'=>rw[ht] at ht';cases ht'
 | int ht'=>rw[ht] at ht';cases ht'
 | slc ht'=>rw[ht] at ht';cases ht'
 | arr ht'=>rw[ht] at ht';cases ht'
 | struct ht'=>rw[ht] at ht';cases ht'
theorem QeU {P:Program} {t e:TypeId} {cs:List CV} (ht:P.underlying t=some (.slice e)) (h:Typed P t cs):∃ L:List (List CV),cs=[.rsl L.flatten L.length]∧L.length≤maxLen∧(∀ l∈L,l.length=P.cellsOf e)∧∀ l∈L,Typed P e l:=by
 cases h with
 | slc ht' L hn hl h=>rw[ht] at ht';cases ht';exact ⟨L,rfl,hn,hl,h⟩
 | bool ht'=>rw[ht] at ht';cases ht'
 | int ht'=>rw[ht] at ht';cases ht'
 | str ht'=>rw[ht] at ht';cases ht'
 | arr ht'=>rw[ht] at ht';cases ht'
 | struct ht'=>rw[ht] at ht';cases ht'
theorem typed_struct {P:Program} {t:TypeId} {fs:Array Field} {cs:List CV} (ht:P.underlying t=some (.struct fs)) (h:Typed P t cs):∃ L:List (List CV),cs=L.flatten∧L.length=fs.size∧∀ (i:Nat) (f:Field) (l:List CV),fs[i]? = some f→L[i]? = some l→Typed P f.type l:=by
 cases h with
 | struct ht' L hn hl h=>rw[ht] at ht';cases ht';exact ⟨L,rfl,hn,h⟩
 | bool ht'=>rw[ht] at ht';cases ht'
 | int ht'=>rw[ht] at ht';cases ht'
 | str ht'=>rw[ht] at ht';cases ht'
 | slc ht'=>rw[ht] at ht';cases ht'
 | arr ht'=>rw[ht] at ht';cases ht'
theorem Qdi {P:Program} {e:TypeId} {k:IntKind} (he:P.underlying e=some (.int k)):∀ L:List (List CV),(∀ l∈L,Typed P e l)→∃ zs:List Int,L.flatten=zs.map (.int k)∧L.length=zs.length∧∀ z∈zs,(Lit.int k z).wf=true
 | [],_=>⟨[],rfl,rfl,by simp⟩
 | l::L,h=>by
  obtain ⟨n,rfl,hn⟩:=QeV he (h l (by simp));obtain ⟨zs,h1,h2,h3⟩:=Qdi he L fun l hl=>h l (by simp[hl])
  exact ⟨n::zs,by simp[h1],by simp[h2],by simpa using ⟨hn,h3⟩⟩
theorem typed_ints {P:Program} {t e:TypeId} {k:IntKind} {cs:List CV} (ht:P.underlying t=some (.slice e)) (he:P.underlying e=some (.int k)) (h:Typed P t cs):∃ zs:List Int,cs=[.rsl (zs.map (.int k)) zs.length]∧zs.length<2 ^ 63∧∀ z∈zs,(Lit.int k z).wf=true:=by
 obtain ⟨L,rfl,hn,_,hl⟩:=QeU ht h;obtain ⟨zs,h1,h2,h3⟩:=Qdi he L hl;refine ⟨zs,by rw[h1,h2],?_,h3⟩;rw[← h2];unfold maxLen at hn;omega
theorem wf_u8 {n:Int} (h:(Lit.int .u8 n).wf=true):0≤n∧n≤255:=by
 simp only[Lit.wf,QD,decide_eq_true_eq,IntKind.min,IntKind.max,IntKind.bits,IntKind.signed] at h;simp at h;omega
theorem args_cons {P:Program} {t:TypeId} {ts:List TypeId} {avs:List AV} (h:Args P (t::ts) avs):∃ cs avs',avs=avOf P t cs::avs'∧Typed P t cs∧Args P ts avs':=by
 generalize hts:t::ts=u at h;cases h with
 | nil=>cases hts
 | cons h1 h2=>cases hts;exact ⟨_,_,rfl,h1,h2⟩
theorem args_nil {P:Program} {avs:List AV} (h:Args P [] avs):avs=[]:=by
 generalize hts:([]:List TypeId)=u at h;cases h with
 | nil=>rfl
 | cons h1 h2=>cases hts
abbrev vs16:List Nat:=[0,1,2,4,5,6,7,8,9,10,11,12,13,14,15,16,17,18,30,44,93,101,136]
def ic16l0:IC:=(.seq (.seq (.region [jv 8,jF 3 2,jl 1,je 2,jw 19 (.bin .lss .int) [.t 0,.t 3]])
 (.cond 19 .skip
 (.exit 0)))
 (.seq (.block 1 (.seq (.dr [[],[0],[],[1,2],[3],[],[5],[],[6,7],[8],[],[],[10,4,0,1,2,3,4,10,11],[11,9,12,0,1,2,3,4,5,6,7,8,9,10,11,12]] [jF 3 2,jl 0,jv 8,ja 3 1 2,jq (.loadN 3) [.t 3],jF 3 2,jl 5,jv 8,ja 3 6 7,jq (.loadN 3) [.t 8],jw 9 (.alloc [(.cv .nils),(.cv (.int .i64 0)),(.cv (.int .i64 0))]) [],jw 10 (.alloc [(.cv .nils),(.cv (.int .i64 0)),(.cv (.int .i64 0))]) [],jq (.store 3) [.v 9,.t 4],jq (.store 3) [.v 10,.t 9]])
 (.seq (.region [jF 0 2,jq (.loadN 2) [.t 0],jF 0 9,jl 2,jk 54 [.t 1,.t 3],jt 4,jx 0 5,jx 1 5,jm 11 6,jm 12 7])
 (.seq (.dr [[],[0],[],[2],[],[4],[],[6],[],[8],[9],[7,10],[5,11],[12],[13],[1,3,14],[15],[16],[16],[17,15,0,1,2,3,4,5,6,7,8,9,10,11,12,13,14,15,16,17],[18,19,0,1,2,3,4,5,6,7,8,9,10,11,12,13,14,15,16,17,18,19]] [jF 0 2,jq (.loadN 2) [.t 0],jF 0 9,jl 2,jF 3 2,jl 4,jv 1,jq (.conv .i64) [.t 6],jF 3 2,jl 8,je 9,jq (.bin .rem .int) [.t 7,.t 10],ja 3 5 11,jG 0 12,jl 13,jk 55 [.t 1,.t 3,.t 14],jt 15,jx 0 16,jx 1 16,jm 13 17,jm 14 18])
 (.seq (.seq (.region [jv 12,jq (.bin .neq .int) [.t 0,jn 0],jt 1,jh 2 false 14,jg 2 false (.bin .neq .int) [.t 3,jn 0],jg 2 false .mv [.t 4],jh 5 true 14,jg 5 true (.bin .neq .int) [.t 6,jn 3],jg 2 false .pick [.t 5,.t 7,jB false],jw 20 .pick [.t 2,jB true,.t 8]])
 (.cond 20 (.seq (.region [jw 3 .mv [jB false]])
 .ret)
 .skip))
 (.seq (.region [jv 11,jF 0 9,jq (.store 1) [.t 1,.t 0]])
 (.seq (.seq (.region [jv 8,jq (.bin .eql .int) [.t 0,jn 0],jt 1,jh 2 true 14,jg 2 true (.bin .eql .int) [.t 3,jn 0],jw 21 .pick [.t 2,.t 4,jB false]])
 (.cond 21 (.region [jv 13,jF 0 10,jq (.store 1) [.t 1,.t 0]])
 .skip))
 (.dr [[],[0],[],[2],[1,3],[],[5],[],[7],[6,8,4],[0,1,2,3,4],[10,4,9,0,1,2,3,4],[0,1,2,3,4,5,6,7,8,9,10,11],[12,9,11,0,1,2,3,4,5,6,7,8,9,10,11]] [jF 3 6,jl 0,jN 3 9,jq (.bslice 3 1 [(.cv .nils),(.cv (.int .i64 0)),(.cv (.int .i64 0))] [(0,3)]) [.t 2],jq (.append 3 40) [.t 1,.t 3],jF 3 7,jl 5,jN 3 10,jq (.bslice 3 1 [(.cv .nils),(.cv (.int .i64 0)),(.cv (.int .i64 0))] [(0,3)]) [.t 7],jq (.append 3 40) [.t 6,.t 8],jF 3 6,jq (.store 1) [.t 10,.t 4],jF 3 7,jq (.store 1) [.t 12,.t 9]]))))))))
 (.region [jv 8,jq (.bin .add .int) [.t 0,jn 1],jm 8 1])))
def ic16:IC:=(.seq (.region [jb 2 0,jw 3 .mv [jB false]])
 (.seq (.region [jN 7 2,jk 35 [.t 0],jt 1,jx 0 2,jx 1 2,jw 4 (.alloc [(.cv (.int .i64 0)),(.cv (.int .i64 0)),(.cv (.int .i64 0))]) [],jq (.store 3) [.v 4,.t 3],jm 5 4])
 (.seq (.seq (.region [jv 5,jq (.bin .neq .int) [.t 0,jn 0],jt 1,jg 2 false (.loadN 7) [.v 2],jf 2 false 52 [.t 3],jg 2 false (.bin .neq .int) [.t 4,jn 0],jw 18 .pick [.t 2,jB true,.t 5]])
 (.cond 18 (.seq (.region [jv 5,jq (.bin .neq .int) [.t 0,jn 0],jt 1,jf 2 true 22 [],jq .pick [.t 2,.t 3,jB false],jm 3 4])
 .ret)
 .skip))
 (.seq (.dr [[],[],[],[],[2,0,0,2,3],[3,1,4,0,1,2,3,4]] [jN 7 2,jN 7 2,jw 6 (.alloc [(.cv .nils),(.cv .nils),(.cv .nils),(.cv .nils),(.cv .nils),(.cv .nils),(.cv .nils)]) [],jw 7 (.alloc [(.cv .nils),(.cv .nils),(.cv .nils),(.cv .nils),(.cv .nils),(.cv .nils),(.cv .nils)]) [],jq (.store 7) [.v 6,.t 0],jq (.store 7) [.v 7,.t 1]])
 (.seq (.region [jF 3 6,jq (.store 1) [.t 0,jS],jF 3 7,jq (.store 1) [.t 2,jS]])
 (.seq (.seq (.region [jz 8 0])
 (.block 0 (.loop ic16l0)))
 (.seq (.region [jN 7 6,jk 35 [.t 0],jt 1,jx 0 2,jx 1 2,jw 15 (.alloc [(.cv (.int .i64 0)),(.cv (.int .i64 0)),(.cv (.int .i64 0))]) [],jq (.store 3) [.v 15,.t 3],jm 5 4])
 (.seq (.region [jN 7 7,jk 35 [.t 0],jt 1,jx 0 2,jx 1 2,jw 16 (.alloc [(.cv (.int .i64 0)),(.cv (.int .i64 0)),(.cv (.int .i64 0))]) [],jq (.store 3) [.v 16,.t 3],jm 17 4])
 (.seq (.seq (.region [jv 5,jq (.bin .neq .int) [.t 0,jn 0],jt 1,jh 2 false 17,jg 2 false (.bin .neq .int) [.t 3,jn 0],jq .pick [.t 2,jB true,.t 4],jt 5,jg 6 false (.loadN 3) [.v 15],jg 6 false (.loadN 3) [.v 4],jg 6 false (.eqS true (true,[(.int .i64),(.int .i64),(.int .i64)])) [.t 7,.t 8],jw 22 .pick [.t 6,jB true,.t 9]])
 (.cond 22 (.seq (.region [jw 3 .mv [jB false]])
 .ret)
 .skip))
 (.seq (.region [jN 3 16,jN 3 4,jq (.eqS false (true,[(.int .i64),(.int .i64),(.int .i64)])) [.t 0,.t 1],jt 2,jg 3 false (.fadd 0) [.v 16],ji 3 false 4,jg 3 false (.bin .eql .int) [.t 5,jn 2],jg 3 false .mv [.t 6],jg 7 true (.fadd 0) [.v 4],ji 7 true 8,jg 7 true (.bin .eql .int) [.t 9,jn 0],jg 7 true .mv [.t 10],jg 11 false (.fadd 0) [.v 4],ji 11 false 12,jg 11 false (.bin .geq .int) [.t 13,jn 2],jg 7 true .pick [.t 11,jB true,.t 14],jg 3 false .pick [.t 7,.t 15,jB false],jq .pick [.t 3,jB true,.t 16],jt 17,jf 18 true 22 [],jq .pick [.t 18,.t 19,jB false],jm 3 20])
 .ret))))))))))
abbrev rs16:List RC:=[(.v 3)]
theorem fok16 (p:Bool):FnOk Tryz.prog 16 ⟨ic16,vs16,158,rs16,p⟩:=.mk2 Tryz.func16 (by kernel_rfl) (by kernel_rfl) (by kernel_rfl) (by kernel_rfl) (by kernel_rfl)
end Go.Proofs.YtgkidpolomhghaaGreatDoor.AM
namespace Go.Proofs.YtgkidpolomhghaaGreatDoor.AM
open Go Pl
theorem typed_list {α:Type} {f:α→List CV} {p:α→Prop} {t:TypeId} (h:∀ cs,Typed Tryz.prog t cs→∃ x,cs=f x∧p x):∀ L:List (List CV),(∀ l∈L,Typed Tryz.prog t l)→∃ xs:List α,L.flatten=xs.flatMap f∧L.length=xs.length∧∀ x∈xs,p x
 | [],_=>⟨[],rfl,rfl,by simp⟩
 | l::L,hl=>by
  obtain ⟨x,h1,h2⟩:=h l (hl l (by simp));obtain ⟨xs,g1,g2,g3⟩:=typed_list h L fun l hh=>hl l (by simp[hh])
  exact ⟨x::xs,by simp[h1,g1],by simp[g2],by simpa using ⟨h2,g3⟩⟩
theorem get_of {α:Type} [Inhabited α] {p:α→Prop} {l:List α} (h:∀ x∈l,p x) (i:Nat) (hi:i<l.length):p l[i]! := by
 rw[getElem!_pos l i hi];exact h _ (Q2 hi)
theorem typed_i {cs:List CV} (h:Typed Tryz.prog 3 cs):∃ x:Int,cs=[.int .i64 x]:=by
 obtain ⟨n,rfl,_⟩:=QeV Tryz.underlying3 h;exact ⟨n,rfl⟩
theorem typed_row {cs:List CV} (h:Typed Tryz.prog 23 cs):∃ zs:List Int,cs=[rowC zs]∧zs.length<2 ^ 63:=by
 obtain ⟨zs,h1,h2,_⟩:=typed_ints Tryz.underlying23 Tryz.underlying3 h;exact ⟨zs,h1,h2⟩
theorem typed_les {cs:List CV} (h:Typed Tryz.prog 94 cs):∃ l:Les,cs=lesC l∧True:=by
 obtain ⟨L,rfl,hn,hf⟩:=typed_struct Tryz.underlying94 h
 match L,hn with
 | [a,b,c,d,e,f,g],_ =>
  obtain ⟨n1,rfl⟩:=typed_i (hf 0 _ a rfl rfl);obtain ⟨n2,rfl⟩:=typed_i (hf 1 _ b rfl rfl);obtain ⟨n3,rfl⟩:=typed_i (hf 2 _ c rfl rfl);obtain ⟨n4,rfl⟩:=typed_i (hf 3 _ d rfl rfl);obtain ⟨n5,rfl⟩:=typed_i (hf 4 _ e rfl rfl);obtain ⟨n6,rfl⟩:=typed_i (hf 5 _ f rfl rfl);obtain ⟨n7,rfl⟩:=typed_i (hf 6 _ g rfl rfl);exact ⟨⟨n1,n2,n3,n4,n5,n6,n7⟩,rfl,trivial⟩
theorem typed_dyc {cs:List CV} (h:Typed Tryz.prog 37 cs):∃ d:Dy,cs=[minR d.mi,lesR d.ls]∧DSz d:=by
 obtain ⟨L,rfl,hn,hf⟩:=typed_struct Tryz.underlying37 h
 match L,hn with
 | [a,b],_ =>
  obtain ⟨L1,rfl,n1,_,h1⟩:=QeU Tryz.underlying34 (hf 0 _ a rfl rfl);obtain ⟨L2,rfl,n2,_,h2⟩:=QeU Tryz.underlying35 (hf 1 _ b rfl rfl);obtain ⟨m,a1,a2,a3⟩:=typed_list (f:=fun zs:List Int=>[rowC zs]) (p:=fun zs=>zs.length<2 ^ 63) (fun cs h=>typed_row h) L1 h1;obtain ⟨ls,b1,b2,_⟩:=typed_list (fun cs h=>typed_les h) L2 h2;have hm:maxLen<2 ^ 63:=by decide
  refine ⟨⟨m,ls⟩,?_,⟨by show m.length<_;omega,by show ls.length<_;omega,get_of a3⟩⟩;simp only[minR,lesR,F0,a1,b1,a2,b2,List.map_eq_flatMap,List.flatten_cons,List.flatten_nil,ZU,List.cons_append,List.nil_append]
theorem typed_cls {cs:List CV} (h:Typed Tryz.prog 217 cs):∃ c:Cls,cs=clsC c∧c.nm.size<2 ^ 63∧c.inc.length<2 ^ 63:=by
 obtain ⟨L,rfl,hn,hf⟩:=typed_struct Tryz.underlying217 h
 match L,hn with
 | [a,b,c,d,e],_ =>
  obtain ⟨s,rfl,h1⟩:=typed_str Tryz.underlying9 (hf 0 _ a rfl rfl);obtain ⟨zs,rfl,hz⟩:=typed_row (hf 1 _ b rfl rfl);obtain ⟨n1,rfl⟩:=typed_i (hf 2 _ c rfl rfl);obtain ⟨n2,rfl⟩:=typed_i (hf 3 _ d rfl rfl);obtain ⟨n3,rfl⟩:=typed_i (hf 4 _ e rfl rfl);have hm:maxLen<2 ^ 63:=by decide
  exact ⟨⟨s,zs,n1,n2,n3⟩,rfl,by show s.size<_;omega,hz⟩
theorem typed_sysc {cs:List CV} (h:Typed Tryz.prog 52 cs):∃ s:Sys,cs=[clsR s.cl,strR s.co]∧SSz s:=by
 obtain ⟨L,rfl,hn,hf⟩:=typed_struct Tryz.underlying52 h
 match L,hn with
 | [a,b],_ =>
  obtain ⟨L1,rfl,n1,_,h1⟩:=QeU Tryz.underlying49 (hf 0 _ a rfl rfl);obtain ⟨L2,rfl,n2,_,h2⟩:=QeU Tryz.underlying50 (hf 1 _ b rfl rfl);obtain ⟨cs,a1,a2,a3⟩:=typed_list (fun cs h=>typed_cls h) L1 h1;obtain ⟨co,b1,b2,b3⟩:=typed_list (f:=fun x:ByteArray=>[CV.str x]) (p:=fun x=>x.size<2 ^ 63) (fun cs h=>by
   obtain ⟨x,rfl,hx⟩:=typed_str Tryz.underlying9 h;have hm:maxLen<2 ^ 63:=by decide
   exact ⟨x,rfl,by omega⟩) L2 h2
  have hm:maxLen<2 ^ 63:=by decide
  refine ⟨⟨cs,co⟩,?_,⟨by show cs.length<_;omega,by show co.length<_;omega,fun i hi=>(get_of a3 i hi).1,fun i hi=>(get_of a3 i hi).2,fun i hi=>?_⟩⟩
  ·simp only[clsR,strR,DZ,a1,b1,a2,b2,List.map_eq_flatMap,List.flatten_cons,List.flatten_nil,ZU,List.cons_append,List.nil_append]
  ·have hi:i<co.length:=hi;show (co[i]!).size<_;rw[getElem!_pos co i hi];exact b3 _ (Q2 hi)
theorem typed_rg {cs:List CV} (h:Typed Tryz.prog 176 cs):∃ r:Rt,cs=rgC r∧True:=by
 obtain ⟨L,rfl,hn,hf⟩:=typed_struct Tryz.underlying176 h
 match L,hn with
 | [a,b],_ =>
  obtain ⟨n1,rfl⟩:=typed_i (hf 0 _ a rfl rfl);obtain ⟨n2,rfl⟩:=typed_i (hf 1 _ b rfl rfl);exact ⟨(n1,n2),rfl,trivial⟩
theorem typed_tch {cs:List CV} (h:Typed Tryz.prog 102 cs):∃ t:Tch,cs=tchC t∧t.rg.length<2 ^ 63:=by
 obtain ⟨L,rfl,hn,hf⟩:=typed_struct Tryz.underlying102 h
 match L,hn with
 | [a,b,c],_ =>
  obtain ⟨L1,rfl,n1,_,h1⟩:=QeU Tryz.underlying100 (hf 0 _ a rfl rfl);obtain ⟨l,a1,a2,_⟩:=typed_list (fun cs h=>typed_rg h) L1 h1;obtain ⟨n1,rfl⟩:=typed_i (hf 1 _ b rfl rfl);obtain ⟨n2,rfl⟩:=typed_i (hf 2 _ c rfl rfl);have hm:maxLen<2 ^ 63:=by decide
  refine ⟨⟨l,n1,n2⟩,?_,by show l.length<_;omega⟩;rw[a1,a2];rfl
theorem typed_car {cs:List CV} (h:Typed Tryz.prog 98 cs):∃ c:Car,cs=carC c∧True:=by
 obtain ⟨L,rfl,hn,hf⟩:=typed_struct Tryz.underlying98 h
 match L,hn with
 | [a,b],_ =>
  obtain ⟨n1,rfl⟩:=typed_i (hf 0 _ a rfl rfl);obtain ⟨n2,rfl⟩:=typed_i (hf 1 _ b rfl rfl);exact ⟨⟨n1,n2⟩,rfl,trivial⟩
theorem typed_pln {cs:List CV} (h:Typed Tryz.prog 56 cs):∃ p:Pln,avOf Tryz.prog 56 cs=plnV p∧PSz p:=by
 obtain ⟨L,rfl,hn,hf⟩:=typed_struct Tryz.underlying56 h
 match L,hn with
 | [a,b,c,d,e],_ =>
  obtain ⟨s,rfl,hs⟩:=typed_sysc (hf 0 _ a rfl rfl);obtain ⟨le,rfl,hle⟩:=typed_row (hf 1 _ b rfl rfl);obtain ⟨L1,rfl,n1,_,h1⟩:=QeU Tryz.underlying53 (hf 2 _ c rfl rfl);obtain ⟨L2,rfl,n2,_,h2⟩:=QeU Tryz.underlying54 (hf 3 _ d rfl rfl);obtain ⟨y,rfl,hy⟩:=typed_dyc (hf 4 _ e rfl rfl);obtain ⟨te,a1,a2,a3⟩:=typed_list (fun cs h=>typed_tch h) L1 h1;obtain ⟨ca,b1,b2,_⟩:=typed_list (fun cs h=>typed_car h) L2 h2;have hm:maxLen<2 ^ 63:=by decide
  refine ⟨⟨s,le,te,ca,y⟩,?_,⟨hs,hle,by show te.length<_;omega,by show ca.length<_;omega,get_of a3,hy⟩⟩;simp only[avOf,Tryz.underlying56,a1,b1,a2,b2];rfl
end Go.Proofs.YtgkidpolomhghaaGreatDoor.AM
namespace Go.Proofs.YtgkidpolomhghaaGreatDoor.AM
variable [Dr]
open Go Pl
theorem outF_alR {lo hi:Int} {zs:List Int} (h:∀ j,j<zs.length→inB (gI zs j) lo hi=true):outF lo hi zs=false:=by
 rw[VL];intro z hz;obtain ⟨j,hj,rfl⟩:=WN.1 hz;have:=VB.1 (h j hj);unfold gI at this
 rwa [QI hj] at this
theorem outF_exR {lo hi:Int} {zs:List Int} {j:Nat} (hj:j<zs.length) (h:inB (gI zs j) lo hi=false):outF lo hi zs=true:=by
 cases hh:outF lo hi zs with
 | true=>rfl
 | false =>
  rw[VB.2 (VL.1 hh _ (Qcs hj))] at h;cases h
theorem outF_sgR {lo hi z:Int}:outF lo hi [z] = !inB z lo hi:=by
 cases h:inB z lo hi with
 | true =>
  refine outF_alR (zs:=[z]) fun j hj=>?_
  have:j=0:=by simpa using hj
  subst this;exact h
 | false=>exact outF_exR (zs:=[z]) (j:=0) (by simp) h
theorem outF_coR {lo hi z:Int} {zs:List Int}:outF lo hi (z::zs)=(!inB z lo hi||outF lo hi zs):=by
 rw[← outF_sgR];unfold outF;simp
theorem le70 (d:Dy) (hd:DSz d) (i:Nat) (hi:i<d.mi.length):PC Tryz.prog 70 [dyV d,.i i] (.i (rowE d i)):=by
 refine ⟨ZF (fok70 true) (QC rfl) ?_,rfl⟩;have hrow:=hd.row i hi;unfold rowE;simp only[ic70,WI,cellsOf,XP hi,W3,B7 hi,evA,simprocAttr];generalize d.mi[i]! = l at *;by_cases h1:l.length=d.mi.length
 ·have hb:((l.length:Int) != d.mi.length)=false:=by rw[h1];simp
  rw[if_neg (fun h=>h h1)];simp only[hb,evA,simprocAttr];refine ZW l.length (fun k s=>(∀ j,j<k→inB (gI l j) 0 120=true)∧∃ v7 v8,s=⟨[dyV d,.i i,.ptr 0 0,.i 0,ints l,.i k,.b false,v7,v8,.undef],[.cells [.cv (minR d.mi),.cv (lesR d.ls)]]⟩) ?_ 0 (QF _) ⟨by omega,_,_,rfl⟩;rintro k s hk ⟨hall,v7,v8,rfl⟩;by_cases h:k<l.length
  ·simp only[ic70l0,QJ,h,J5 h,J4 h,evA,simprocAttr];refine (le64 _ 0 120).call frz ?_;cases hin:inB (gI l k) 0 120 with
   | true =>
    have hin2:inB (l[k]?.getD 0) 0 120=true:=hin;simp only[hin2,Q6 (show k+1<2 ^ 63 by omega),evA,simprocAttr];refine ZL (by first | trivial | omega) ⟨fun j hj=>?_,_,_,rfl⟩;rcases QQ.1 hj with hj | rfl
    ·exact hall j hj
    ·exact hin
   | false =>
    have hin2:inB (l[k]?.getD 0) 0 120=false:=hin;rw[outF_exR h hin];simp only[hin2,evA,simprocAttr];exact frz
  ·have hke:k=l.length:=by omega
   subst hke;rw[outF_alR hall];have hil:i<l.length:=by omega
   simp only[ic70l0,QJ,h,J5 hil,J4 hil,evA,simprocAttr];by_cases h2:gI l i=0
   ·have hb2:(l[i]?.getD 0 != 0)=false:=by simpa using h2
    simp only[hb2,h2,ne_eq,not_true,evA,simprocAttr];exact frz
   ·have hb2:(l[i]?.getD 0 != 0)=true:=by simpa using h2
    simp only[hb2,h2,ne_eq,not_false_eq_true,evA,simprocAttr];exact frz
 ·have hb:((l.length:Int) != d.mi.length)=true:=by simp;omega
  rw[if_pos h1];simp only[hb,evA,simprocAttr];exact frz
theorem le71 (d:Dy) (hd:DSz d) (l:Les):PC Tryz.prog 71 [dyV d,lesA l] (.i (lesE d l)):=by
 refine ⟨ZF (fok71 true) (QC rfl) ?_,rfl⟩;have h63:=hd.mi;unfold lesE;have hw:IntKind.i64.wrap ((d.mi.length:Int)-1)=(d.mi.length:Int)-1:=ZC (by omega);obtain ⟨le,te,ca,b,e,f,o⟩:=l;have e1:outF 0 1440 [b,e]=(!inB b 0 1440 || !inB e 0 1440):=by rw[outF_coR,outF_sgR]
 have e2:outF 0 ((d.mi.length:Int)-1) [f,o]=(!inB f 0 ((d.mi.length:Int)-1) || !inB o 0 ((d.mi.length:Int)-1)):=by rw[outF_coR,outF_sgR]
 simp only;rw[e1,e2];clear e1 e2;simp only[ic71,WI,cellsOf,evA,simprocAttr];refine (le64 b 0 1440).call frz ?_;cases h1:inB b 0 1440 with
 | false =>
  simp only[h1,US,evA,simprocAttr];exact frz
 | true =>
 simp only[h1,Y3,evA,simprocAttr];refine (le64 e 0 1440).call frz ?_;cases h2:inB e 0 1440 with
 | false =>
  simp only[h2,US,evA,simprocAttr];exact frz
 | true =>
 simp only[h2,Y3,evA,simprocAttr];rw[show [AV.i le,.i te,.i ca]=[le,te,ca].map AV.i from rfl];generalize hzs:[le,te,ca]=zs;have hz3:zs.length=3:=by rw[← hzs];rfl
 refine ZW 3 (fun k s=>(∀ j,j<k→inB (gI zs j) 0 7=true)∧∃ v8 v9,s=⟨[dyV d,lesA ⟨le,te,ca,b,e,f,o⟩,.ptr 0 0,.ptr 1 0,.i 0,.sl 2 0 3 1,.i k,.b false,v8,v9,.undef,.undef],[.cells [.cv (minR d.mi),.cv (lesR d.ls)],.cells [.i le,.i te,.i ca,.i b,.i e,.i f,.i o],.cells (zs.map AV.i)]⟩) ?_ 0 (QF _) ⟨by omega,_,_,rfl⟩;rintro k s hk ⟨hall,v8,v9,rfl⟩;by_cases h:k<3
 ·have hkz:k<zs.length:=by omega
  have hd3:decide ((k:Int)<3)=true:=decide_eq_true (by omega);simp only[ic71l0,hd3,W9 h,ZV,V1 hkz,evA,simprocAttr];refine (le64 _ 0 7).call frz ?_;cases hin:inB (gI zs k) 0 7 with
  | true =>
   have hin2:inB (zs[k]?.getD 0) 0 7=true:=hin;simp only[hin2,Q6 (show k+1<2 ^ 63 by omega),evA,simprocAttr];refine ZL (by first | trivial | omega) ⟨fun j hj=>?_,_,_,rfl⟩;rcases QQ.1 hj with hj | rfl
   ·exact hall j hj
   ·exact hin
  | false =>
   have hin2:inB (zs[k]?.getD 0) 0 7=false:=hin;rw[outF_exR hkz hin];simp only[hin2,evA,simprocAttr];exact frz
 ·have hke:k=3:=by omega
  subst hke;rw[outF_alR (by rw[hz3];exact hall)];simp only[ic71l0,evA,simprocAttr];by_cases h3:b≥e
  ·simp only[h3,evA,simprocAttr];exact frz
  ·simp only[h3,hw,evA,simprocAttr];refine (le64 f 0 _).call frz ?_;cases h4:inB f 0 ((d.mi.length:Int)-1) with
   | false =>
    simp only[h4,US,evA,simprocAttr];exact frz
   | true =>
    simp only[h4,hw,Y3,evA,simprocAttr];refine (le64 o 0 _).call frz ?_;cases h5:inB o 0 ((d.mi.length:Int)-1) with
    | false =>
     simp only[h5,evA,simprocAttr];exact frz
    | true =>
     simp only[h5,evA,simprocAttr];exact frz
theorem le24 (d:Dy) (hd:DSz d):PC Tryz.prog 24 [dyV d] (chkA d):=by
 refine ⟨ZF (fok24 true) (QC rfl) ?_,rfl⟩;simp only[ic24,WI,cellsOf,evA,simprocAttr];refine (le64 (d.mi.length:Int) 1 16).call frz ?_;unfold chkA dyE;rw[outF_sgR];cases h1:inB (d.mi.length:Int) 1 16 with
 | false =>
  simp only[h1,US,evA,simprocAttr];exact frz
 | true =>
 cases h2:decide ((d.ls.length:Int)>12) with
 | true =>
  simp only[h1,Y3,h2,evA,simprocAttr];exact frz
 | false =>
 simp only[h1,Y3,h2,evA,simprocAttr];have hm63:=hd.mi;have hl63:=hd.ls;refine ZW d.mi.length (fun k s=>(∀ j,j<k→rowE d j=0)∧∃ v6 v10 v11,s=⟨[dyV d,.ptr 0 0,.i 0,.i 0,.i 0,.i k,v6,.undef,.undef,.b false,v10,v11,.undef,.undef],[.cells [.cv (minR d.mi),.cv (lesR d.ls)]]⟩) ?_ 0 (QF _) ⟨by omega,_,_,_,rfl⟩;rintro k s hk ⟨hall,v6,v10,v11,rfl⟩;by_cases h:k<d.mi.length
 ·simp only[ic24l1,QJ,h,evA,simprocAttr];refine (le70 d hd k h).call frz ?_;by_cases h0:rowE d k=0
  ·have hb:(rowE d k != 0)=false:=by simpa using h0
   simp only[hb,Q6 (show k+1<2 ^ 63 by omega),evA,simprocAttr];refine ZL (by first | trivial | omega) ⟨fun j hj=>?_,_,_,_,rfl⟩;rcases QQ.1 hj with hj | rfl
   ·exact hall j hj
   ·exact h0
  ·have hb:(rowE d k != 0)=true:=by simpa using h0
   rw[VO d.mi.length 0 k (QF _) (by omega) (fun j _ hj=>hall j hj) h0];simp only[hb,h0,ne_eq,not_false_eq_true,evA,simprocAttr];exact frz
 ·have hke:k=d.mi.length:=by omega
  subst hke;rw[J7 d.mi.length 0 fun j _ hj=>hall j (by omega)];simp only[ic24l1,QJ,h,ne_eq,not_true,evA,simprocAttr];refine ZW d.ls.length (fun k s=>(∀ j,j<k→lesE d d.ls[j]! = 0)∧∃ v8 v12 v13,s=⟨[dyV d,.ptr 0 0,.i 0,.i 0,.i 0,.i d.mi.length,v6,.i k,v8,.b false,.b false,v11,v12,v13],[.cells [.cv (minR d.mi),.cv (lesR d.ls)]]⟩) ?_ 0 (QF _) ⟨by omega,_,_,_,rfl⟩;clear h hk hall;rintro k s hk ⟨hall,v8,v12,v13,rfl⟩;by_cases h:k<d.ls.length
  ·simp only[ic24l0,QJ,h,evA,simprocAttr];refine DW_s [6] [] hmix (by kernel_rfl) rfl ?_;simp only[F5 h,Qcl h,evA,simprocAttr];refine YE ((le71 d hd d.ls[k]!).call frz ⟨rfl,rfl⟩) rfl ?_;simp only[evA,simprocAttr];by_cases h0:lesE d d.ls[k]! = 0
   ·have hb:(lesE d d.ls[k]! != 0)=false:=by simpa using h0
    simp only[hb,Q6 (show k+1<2 ^ 63 by omega),evA,simprocAttr];refine ZL (by first | trivial | omega) ⟨fun j hj=>?_,_,_,_,rfl⟩;rcases QQ.1 hj with hj | rfl
    ·exact hall j hj
    ·exact h0
   ·have hb:(lesE d d.ls[k]! != 0)=true:=by simpa using h0
    rw[VO d.ls.length 0 k (QF _) (by omega) (fun j _ hj=>hall j hj) h0];simp only[hb,h0,ne_eq,not_false_eq_true,evA,simprocAttr];exact frz
  ·have hke:k=d.ls.length:=by omega
   subst hke;rw[J7 d.ls.length 0 fun j _ hj=>hall j (by omega)];simp only[ic24l0,QJ,h,ne_eq,not_true,evA,simprocAttr];exact frz
def pplE (p:Pln):Int :=
 if (decide ((p.le.length:Int)>8)||decide ((p.te.length:Int)>8)||decide ((p.ca.length:Int)>8))=true then 3
 else if outF 0 ((p.sys.cl.length:Int)-1) p.le=true then 4
 else if (fndE (fun i=>tchE p.sys p.te[i]!) 0 p.te.length).2≠0 then (fndE (fun i=>tchE p.sys p.te[i]!) 0 p.te.length).2
 else (fndE (fun i=>carE p.sys p.ca[i]!) 0 p.ca.length).2
theorem plnE_eq (p:Pln):plnE p=if (sysE p.sys).2.2≠0 then (sysE p.sys).2.2 else if (dyE p.day).2.2≠0 then (dyE p.day).2.2 else if pplE p≠0 then pplE p else if (p.day.ls.any (whoB p))=true then 4 else 0:=by
 unfold plnE pplE;split
 ·rfl
 split
 ·rfl
 split
 ·rw[if_pos (by decide)]
 split
 ·rw[if_pos (by decide)]
 split
 ·rename_i h;first | rfl | rw[if_pos h]
 split
 ·rfl
 ·rfl
theorem tchE_ok {s:Sys} (h0:(sysE s).2.2=0) (t:Tch):tchE s t=if rgsE s t.rg≠0 then rgsE s t.rg else if inB t.b 0 1440=false∨inB t.e 0 1440=false then 7 else if t.b>t.e then 2 else 0:=by
 have h1:lstE s t.rg=rgsE s t.rg:=by unfold lstE;rw[h0];rfl
 unfold tchE;rw[h1,outF_coR,outF_sgR];cases inB t.b 0 1440 <;> cases inB t.e 0 1440 <;> simp
theorem carE_ok {s:Sys} (h0:(sysE s).2.2=0) (c:Car):carE s c=if inB c.cl 0 ((s.cl.length:Int)-1)=false then 4 else if inB c.ft 0 (setN s-1)=false then 7 else 0:=by
 have h1:lstE s []=0:=by unfold lstE;rw[h0];rfl
 unfold carE mayE;rw[h1,if_neg (fun h=>h rfl)]
theorem le108 (p:Pln) (hp:PSz p) (h0:(sysE p.sys).2.2=0):PC Tryz.prog 108 [plnV p] (.i (pplE p)):=by
 obtain ⟨⟨hn1,hn12⟩,hm8,hok⟩:=QaV h0;refine ⟨ZF (fok108 true) (QC rfl) ?_,rfl⟩;have hw:IntKind.i64.wrap ((p.sys.cl.length:Int)-1)=(p.sys.cl.length:Int)-1:=ZC (by omega);have hpw:=HF hm8;have hw2:IntKind.i64.wrap ((2:Int) ^ p.sys.co.length-1)=(2:Int) ^ p.sys.co.length-1:=ZC (by omega);simp only[ic108,WI,cellsOf,evA,simprocAttr];unfold pplE;cases h1:decide ((p.le.length:Int)>8) with
 | true =>
  simp only[h1,US,evA,simprocAttr];exact frz
 | false =>
 cases h2:decide ((p.te.length:Int)>8) with
 | true =>
  simp only[h1,h2,US,Y3,evA,simprocAttr];exact frz
 | false =>
 cases h3:decide ((p.ca.length:Int)>8) with
 | true =>
  simp only[h1,h2,h3,US,Y3,evA,simprocAttr];exact frz
 | false =>
 have l1:=of_decide_eq_false h1;have l2:=of_decide_eq_false h2;have l3:=of_decide_eq_false h3;simp only[h1,h2,h3,Y3,hw,evA,simprocAttr];refine ZW p.le.length (fun k s=>(∀ j,j<k→inB (gI p.le j) 0 ((p.sys.cl.length:Int)-1)=true)∧∃ v10 v11,s=⟨[plnV p,.ptr 0 0,.i 0,.i ((p.sys.cl.length:Int)-1),.i k,.undef,.undef,.undef,.undef,.b false,v10,v11,.undef,.undef,.undef,.undef,.undef,.undef,.undef],[.cells (plnC p)]⟩) ?_ 0 (QF _) ⟨by omega,_,_,rfl⟩;rintro k s hk ⟨hall,v10,v11,rfl⟩;by_cases h:k<p.le.length
 ·simp only[ic108l2,QJ,h,J5 h,J4 h,evA,simprocAttr];refine (le64 _ 0 _).call frz ?_;cases hin:inB (gI p.le k) 0 ((p.sys.cl.length:Int)-1) with
  | true =>
   have hin2:inB (p.le[k]?.getD 0) 0 ((p.sys.cl.length:Int)-1)=true:=hin;simp only[hin2,Q6 (show k+1<2 ^ 63 by omega),evA,simprocAttr];refine ZL (by first | trivial | omega) ⟨fun j hj=>?_,_,_,rfl⟩;rcases QQ.1 hj with hj | rfl
   ·exact hall j hj
   ·exact hin
  | false =>
   have hin2:inB (p.le[k]?.getD 0) 0 ((p.sys.cl.length:Int)-1)=false:=hin;rw[outF_exR h hin];simp only[hin2,evA,simprocAttr];exact frz
 have hke:k=p.le.length:=by omega
 subst hke;rw[outF_alR hall];simp only[ic108l2,QJ,h,evA,simprocAttr];clear h hk hall;have hob:∀ o∈[AObj.cells (plnC p)],Z3 1 o=true:=by intro o ho;simp only[ZD,WK,or_false] at ho;subst ho;rfl
 refine ZW p.te.length (fun k s=>(∀ j,j<k→tchE p.sys p.te[j]! = 0)∧∃ v6 v7 v11 v12 v13 v14 v15,s=⟨[plnV p,.ptr 0 0,.i 0,.i ((p.sys.cl.length:Int)-1),.i p.le.length,.i k,v6,v7,.undef,.b false,.b false,v11,v12,v13,v14,v15,.undef,.undef,.undef],[.cells (plnC p)]⟩) ?_ 0 (QF _) ⟨by omega,_,_,_,_,_,_,_,rfl⟩;clear v11;rintro k s hk ⟨hall,v6,v7,v11,v12,v13,v14,v15,rfl⟩;by_cases h:k<p.te.length
 ·have hld:=tch_ld h;have hrg:=hp.rg k h;have hE:=tchE_ok h0 p.te[k]!;have hfs:=fun h3=>VO (g:=fun i=>tchE p.sys p.te[i]!) p.te.length 0 k (QF _) (by omega) (fun j _ hj=>hall j hj) h3
  have hnext:tchE p.sys p.te[k]! = 0→∀ j,j<k+1→tchE p.sys p.te[j]! = 0:=fun h3 j hj=>by
   rcases QQ.1 hj with hj | rfl
   ·exact hall j hj
   ·exact h3
  generalize p.te[k]! = t at *;obtain ⟨rg,b,e⟩:=t;simp only at hld hrg hE;have ia:∀ σ,VP 3 [.cv (tchR p.te),.cv (.int .i64 k)] σ=some (.cv (.rp (SV p.te) (k*3)),σ):=fun σ=>XP h σ
  simp only[ic108l1,QJ,h,ia,hld,evA,simprocAttr];refine (c48 p.sys hp.sys hm8 rg hrg).call frz ?_;by_cases he:rgsE p.sys rg=0
  ·have hb:(rgsE p.sys rg != 0)=false:=by simpa using he
   rw[if_neg (fun h=>h he)] at hE;simp only[hb,evA,simprocAttr];refine (le64 b 0 1440).call frz ?_;cases h4:inB b 0 1440 with
   | false =>
    rw[if_pos (.inl h4)] at hE;rw[hfs (by rw[hE];decide),hE];simp only[h4,ne_eq,evA,simprocAttr];exact frz
   | true =>
   simp only[h4,evA,simprocAttr];refine (le64 e 0 1440).call frz ?_;cases h5:inB e 0 1440 with
   | false =>
    rw[if_pos (.inr h5)] at hE;rw[hfs (by rw[hE];decide),hE];simp only[h5,ne_eq,evA,simprocAttr];exact frz
   | true =>
   rw[if_neg (by rw[h4,h5];simp)] at hE;by_cases h6:b>e
   ·rw[if_pos h6] at hE;rw[hfs (by rw[hE];decide),hE];simp only[h5,h6,ne_eq,evA,simprocAttr];exact frz
   ·rw[if_neg h6] at hE;simp only[h5,h6,Q6 (show k+1<2 ^ 63 by omega),evA,simprocAttr];exact W1 [.cells (plnC p)] _ rfl (by first | trivial | omega) (QF _) hob ⟨hnext hE,_,_,_,_,_,_,_,rfl⟩
  ·have hb:(rgsE p.sys rg != 0)=true:=by simpa using he
   rw[if_pos he] at hE;rw[hfs (by rw[hE];exact he),hE];simp only[hb,he,ne_eq,not_false_eq_true,evA,simprocAttr];exact frz
 have hke:k=p.te.length:=by omega
 subst hke;rw[J7 p.te.length 0 fun j _ hj=>hall j (by omega)];simp only[ic108l1,QJ,h,ne_eq,not_true,evA,simprocAttr];clear h hk hall;refine ZW p.ca.length (fun k s=>(∀ j,j<k→carE p.sys p.ca[j]! = 0)∧∃ v16 v17 v18,s=⟨[plnV p,.ptr 0 0,.i 0,.i ((p.sys.cl.length:Int)-1),.i p.le.length,.i p.te.length,v6,v7,.i k,.b false,.b false,v11,.b false,v13,v14,v15,v16,v17,v18],[.cells (plnC p)]⟩) ?_ 0 (QF _) ⟨by omega,_,_,_,rfl⟩;rintro k s hk ⟨hall,v16,v17,v18,rfl⟩;by_cases h:k<p.ca.length
 ·have hE:=carE_ok h0 p.ca[k]!;have hfs:=fun h3=>VO (g:=fun i=>carE p.sys p.ca[i]!) p.ca.length 0 k (QF _) (by omega) (fun j _ hj=>hall j hj) h3
  have hnext:carE p.sys p.ca[k]! = 0→∀ j,j<k+1→carE p.sys p.ca[j]! = 0:=fun h3 j hj=>by
   rcases QQ.1 hj with hj | rfl
   ·exact hall j hj
   ·exact h3
  have ia:∀ σ,VP 2 [.cv (carR p.ca),.cv (.int .i64 k)] σ=some (.cv (.rp (QaH p.ca) (k*2)),σ):=fun σ=>XP h σ
  have ld0:(QaH p.ca)[k*2]? = some (.int .i64 (p.ca[k]!).cl):=flat_get CX h (j:=0) (by omega);have ld1:(QaH p.ca)[k*2+1]? = some (.int .i64 (p.ca[k]!).ft):=flat_get CX h (j:=1) (by omega);generalize p.ca[k]! = c at *;obtain ⟨cl,ft⟩:=c;simp only at ld0 ld1 hE;simp only[ic108l0,QJ,h,ia,ld0,evA,simprocAttr];refine (le64 cl 0 _).call frz ?_;cases h4:inB cl 0 ((p.sys.cl.length:Int)-1) with
  | false =>
   rw[if_pos h4] at hE;rw[hfs (by rw[hE];decide),hE];simp only[h4,evA,simprocAttr];exact frz
  | true =>
  rw[if_neg (by rw[h4];decide)] at hE;simp only[h4,evA,simprocAttr];refine DW_s [10,12] [] hmix (by kernel_rfl) rfl ?_;simp only[ia,ld1,evA,simprocAttr];refine YE ((c49 p.sys.co.length hm8).call frz ⟨rfl,rfl⟩) rfl ?_;simp only[hw2,evA,simprocAttr];refine YE ((le64 ft 0 _).call frz ⟨rfl,rfl⟩) rfl ?_;unfold setN at hE;cases h5:inB ft 0 ((2:Int) ^ p.sys.co.length-1) with
  | false =>
   rw[if_pos h5] at hE;rw[hfs (by rw[hE];decide),hE];simp only[h5,evA,simprocAttr];exact frz
  | true =>
   rw[if_neg (by rw[h5];decide)] at hE;simp only[h5,Q6 (show k+1<2 ^ 63 by omega),evA,simprocAttr];exact ZL (by first | trivial | omega) ⟨hnext hE,_,_,_,rfl⟩
 ·have hke:k=p.ca.length:=by omega
  subst hke;rw[J7 p.ca.length 0 fun j _ hj=>hall j (by omega)];simp only[ic108l0,QJ,h,ne_eq,not_true,evA,simprocAttr];exact frz
theorem le52 (p:Pln) (hp:PSz p):PC Tryz.prog 52 [plnV p] (.i (plnE p)):=by
 have h107:=c54 p.sys hp.sys;have h24:=le24 p.day hp.day;have h108:=le108 p hp;rw[plnE_eq];refine ⟨ZF (fok52 true) (QC rfl) ?_,rfl⟩;simp only[ic52,WI,cellsOf,evA,simprocAttr];refine h107.call frz ?_;unfold chkV;have hl63:=hp.day.ls;have hob:∀ o∈[AObj.cells (plnC p)],Z3 1 o=true:=by intro o ho;simp only[ZD,WK,or_false] at ho;subst ho;rfl
 by_cases hs0:(sysE p.sys).2.2=0
 rotate_left
 ·have hb:((sysE p.sys).2.2 == 0)=false:=by simpa using hs0
  simp only[hb,hs0,ne_eq,not_false_eq_true,evA,simprocAttr];refine J1 ?_;by_cases hl:(0:Int)<p.day.ls.length <;> simp only[ic52l0,hl,hb,evA,simprocAttr] <;> exact frz
 have hb:((sysE p.sys).2.2 == 0)=true:=by simpa using hs0
 simp only[hb,hs0,ne_eq,not_true,evA,simprocAttr];refine h24.call frz ?_;unfold chkA;by_cases hd0:(dyE p.day).2.2=0
 rotate_left
 ·have hb:((dyE p.day).2.2 == 0)=false:=by simpa using hd0
  simp only[hb,hd0,ne_eq,not_false_eq_true,evA,simprocAttr];refine J1 ?_;by_cases hl:(0:Int)<p.day.ls.length <;> simp only[ic52l0,hl,hb,evA,simprocAttr] <;> exact frz
 have hb:((dyE p.day).2.2 == 0)=true:=by simpa using hd0
 simp only[hb,hd0,ne_eq,not_true,evA,simprocAttr];by_cases hp0:pplE p=0
 rotate_left
 ·have hb:(pplE p == 0)=false:=by simpa using hp0
  rw[if_pos hp0];refine (h108 hs0).call frz ?_;simp only[evA,simprocAttr];refine J1 ?_;by_cases hl:(0:Int)<p.day.ls.length <;> simp only[ic52l0,hl,hb,evA,simprocAttr] <;> exact frz
 rw[if_neg (fun h=>h hp0)];refine (h108 hs0).call frz ?_;simp only[hp0,evA,simprocAttr];refine ZW p.day.ls.length (fun k s=>∃ e:Int,(e=0∧(∀ j,j<k→whoB p p.day.ls[j]! = false)∨e=4∧p.day.ls.any (whoB p)=true)∧∃ v5 v8 v9,s=⟨[plnV p,.ptr 0 0,.i 0,.i e,.i k,v5,.b true,.b true,v8,v9],[.cells (plnC p)]⟩) ?_ 0 (QF _) ⟨0,.inl ⟨rfl,by omega⟩,_,_,_,rfl⟩;rintro k s hk ⟨e,he,v5,v8,v9,rfl⟩;have hany:k<p.day.ls.length→whoB p p.day.ls[k]! = true→p.day.ls.any (whoB p)=true:=fun h hw=>by rw[ZZ];exact ⟨p.day.ls[k]!,by rw[getElem!_pos p.day.ls k h];exact Q2 h,hw⟩
 rcases he with ⟨rfl,hall⟩ | ⟨rfl,hA⟩
 rotate_left
 ·rw[hA];by_cases hl:(k:Int)<p.day.ls.length <;> simp only[ic52l0,hl,evA,simprocAttr] <;> exact frz
 by_cases h:k<p.day.ls.length
 ·have hld:=Qcl h;have hany:=hany h;have hnext:whoB p p.day.ls[k]! = false→∀ j,j<k+1→whoB p p.day.ls[j]! = false:=fun h3 j hj=>by
   rcases QQ.1 hj with hj | rfl
   ·exact hall j hj
   ·exact h3
  have hwho:whoB p p.day.ls[k]! = (decide ((p.day.ls[k]!).le≥p.le.length)||decide ((p.day.ls[k]!).te≥p.te.length)||decide ((p.day.ls[k]!).ca≥p.ca.length)):=rfl;generalize p.day.ls[k]! = l at *;obtain ⟨l1,l2,l3,l4,l5,l6,l7⟩:=l;simp only at hld hwho;simp only[ic52l0,QJ,h,F5 h,hld,evA,simprocAttr];cases h1:decide (l1≥p.le.length) with
  | true =>
   rw[h1,US,US] at hwho;simp only[h1,Q6 (show k+1<2 ^ 63 by omega),evA,simprocAttr];exact W1 [.cells (plnC p)] _ rfl (by first | trivial | omega) (QF _) hob ⟨4,.inr ⟨rfl,hany hwho⟩,_,_,_,rfl⟩
  | false =>
  cases h2:decide (l2≥p.te.length) with
  | true =>
   rw[h1,h2,Y3,US] at hwho;simp only[h1,h2,Q6 (show k+1<2 ^ 63 by omega),evA,simprocAttr];exact W1 [.cells (plnC p)] _ rfl (by first | trivial | omega) (QF _) hob ⟨4,.inr ⟨rfl,hany hwho⟩,_,_,_,rfl⟩
  | false =>
  rw[h1,h2,Y3,Y3] at hwho;cases h3:decide (l3≥p.ca.length) with
  | true =>
   rw[h3] at hwho;simp only[h1,h2,h3,Q6 (show k+1<2 ^ 63 by omega),evA,simprocAttr];exact W1 [.cells (plnC p)] _ rfl (by first | trivial | omega) (QF _) hob ⟨4,.inr ⟨rfl,hany hwho⟩,_,_,_,rfl⟩
  | false =>
   rw[h3] at hwho;simp only[h1,h2,h3,Q6 (show k+1<2 ^ 63 by omega),evA,simprocAttr];exact W1 [.cells (plnC p)] _ rfl (by first | trivial | omega) (QF _) hob ⟨0,.inl ⟨rfl,hnext hwho⟩,_,_,_,rfl⟩
 ·have hke:k=p.day.ls.length:=by omega
  subst hke;have:p.day.ls.any (whoB p)=false:=by rw[W6];intro l hl;obtain ⟨j,hj,rfl⟩:=WN.1 hl;have:=hall j hj;rw[getElem!_pos p.day.ls j hj] at this;rw[this];decide
  rw[this];simp only[ic52l0,QJ,h,evA,simprocAttr];exact frz
theorem right_ok {p:Pln} (h:LkOk p) {l:Les} (hl:LiOk p l):Qca p l=alwB p.sys (p.te[l.te.toNat]!).rg (p.ca[l.ca.toNat]!).cl (p.ca[l.ca.toNat]!).ft∧rgsE p.sys (p.te[l.te.toNat]!).rg=0∧inB (p.ca[l.ca.toNat]!).cl 0 ((p.sys.cl.length:Int)-1)=true∧inB (p.ca[l.ca.toNat]!).ft 0 (setN p.sys-1)=true:=by
 have h1:=h.tch l.te.toNat (by have:=hl.te;omega);have h2:=h.car l.ca.toNat (by have:=hl.ca;omega);unfold Qca;generalize p.te[l.te.toNat]! = t at *;generalize p.ca[l.ca.toNat]! = c at *;have hrg:lstE p.sys t.rg=rgsE p.sys t.rg:=by unfold lstE;rw[h.sys];rfl
 have hnil:lstE p.sys []=0:=by unfold lstE;rw[h.sys];rfl
 unfold tchE at h1;split at h1
 ·rename_i hh;exact absurd h1 hh
 rename_i hh;have h0:lstE p.sys t.rg=0:=JE.1 hh;unfold carE mayE at h2;rw[hnil,if_neg (fun h=>h rfl)] at h2;split at h2
 ·cases h2
 rename_i g1;split at h2
 ·cases h2
 rename_i g2;have g1:inB c.cl 0 ((p.sys.cl.length:Int)-1)=true:=by simpa using g1
 have g2:inB c.ft 0 (setN p.sys-1)=true:=by simpa using g2
 refine ⟨?_,by rw[← hrg];exact h0,g1,g2⟩;unfold mayE;rw[h0,if_neg (fun h=>h rfl),g1,g2,if_neg (by decide),if_neg (by decide)];rfl
theorem filt_lt {α:Type} {p q:α→Bool} {r:α}:∀ {l:List α},r∈l→q r=true→p r=false→(∀ x∈l,p x=true→q x=true)→(l.filter p).length<(l.filter q).length
 | [],hr,_,_,_=>by cases hr
 | y :: l,hr,hq,hp,h=>by
  have hle:(l.filter p).length≤(l.filter q).length:=by
   have:∀ l:List α,(∀ x∈l,p x=true→q x=true)→(l.filter p).length≤(l.filter q).length:=by
    intro l
    induction l with
    | nil=>intro _;exact QG _
    | cons z l ih =>
     intro h;have ih:=ih fun x hx=>h x (by simp[hx])
     rw[XK,XK];cases h1:p z with
     | true=>rw[h z (by simp) h1];simpa using ih
     | false =>
      cases h2:q z with
      | true=>simp;omega
      | false=>simpa using ih
   exact this l fun x hx=>h x (by simp[hx])
  rcases ZD.1 hr with rfl | hr
  ·rw[XK,XK,hp,hq];simp;omega
  ·have ih:=filt_lt hr hq hp fun x hx=>h x (by simp[hx])
   rw[XK,XK];cases h1:p y with
   | true=>rw[h y (by simp) h1];simpa using ih
   | false =>
    cases h2:q y with
    | true=>simp;omega
    | false=>simpa using ih
def GE₀ (s:Sys) (r x:Rt):Prop:=covB s r.1.toNat x.1.toNat=true∧∀ k,bit r.2 k=true→bit x.2 k=true
structure Gd (s:Sys):Prop where
 n1:1≤s.cl.length
 n12:s.cl.length≤12
 m8:s.co.length≤8
 ok:OkI s
 dn:∀ i,i<s.cl.length→dnB s i=false
theorem gd_of {s:Sys} (h:(sysE s).2.2=0):Gd s:=by
 obtain ⟨⟨h1,h2⟩,h3,h4⟩:=QaV (s:=s) h;refine ⟨h1,h2,h3,h4,fun i hi=>?_⟩;unfold sysE at h;split at h
 ·simp at h
 ·split at h
  ·rename_i hne;exact absurd h hne
  ·split at h
   ·rename_i hne;exact absurd h hne
   ·split at h
    ·rename_i hne;exact absurd h hne
    ·rename_i hz;have:=NF s.cl.length 0 (JE.1 hz) i (QF _) (by omega);unfold dnE at this;cases hd:dnB s i with
     | false=>rfl
     | true=>rw[hd] at this;simp at this
theorem Gd.rch {s:Sys} (h:Gd s) {a b:Nat} (ha:a<s.cl.length) (hr:Rch (nx s) a b):b<s.cl.length:=by
 induction hr with
 | refl=>exact ha
 | step _ hz ih=>exact h.ok.inN _ ih _ hz
theorem Gd.anti {s:Sys} (h:Gd s) {a b:Nat} (ha:a<s.cl.length) (hb:b<s.cl.length) (h1:covB s a b=true) (h2:covB s b a=true):a=b:=by
 have r1:=(OK h.ok ha).1 h1;have r2:=(OK h.ok hb).1 h2;cases r1 with
 | refl=>rfl
 | @step y _ hy hz =>
  exfalso;have hyl:=h.rch ha hy;have hc:covB s b y=true:=(OK h.ok hb).2 (r2.trans hy);have hd:=h.dn y hyl;have:dnB s y=true:=by unfold dnB;obtain ⟨z,hz1,hz2⟩:=ZP.1 hz;obtain ⟨k,hk,hk2⟩:=WN.1 hz1;refine U8.2 ⟨k,hk,?_⟩;rw[QI hk,hk2,Option.getD_some,hz2];exact hc
  rw[this] at hd;cases hd
theorem GE₀.refl {s:Sys} (h:Gd s) {x:Rt} (hx:RgOk s x):GE₀ s x x:=⟨QaD h.ok hx.nat,fun _ h=>h⟩
theorem GE₀.trans {s:Sys} (h:Gd s) {a b c:Rt} (ha:RgOk s a) (hb:RgOk s b) (h1:GE₀ s a b) (h2:GE₀ s b c):GE₀ s a c:=⟨QdB h.ok ha.nat hb.nat h1.1 h2.1,fun k hk=>h2.2 k (h1.2 k hk)⟩
theorem GE₀.anti {s:Sys} (h:Gd s) {a b:Rt} (ha:RgOk s a) (hb:RgOk s b) (h1:GE₀ s a b) (h2:GE₀ s b a):a=b:=by
 have e1:=h.anti ha.nat hb.nat h1.1 h2.1;have e2:=QbE ha.2.1 hb.2.1 fun k=>by rw[Q8];exact ⟨h1.2 k,h2.2 k⟩
 have:=ha.1;have:=hb.1;exact Prod.ext (by omega) e2
theorem RgOk.lt63 {s:Sys} (h:Gd s) {r:Rt} (hr:RgOk s r):r.2<2 ^ 63:=by
 have:=HF h.m8;have:=hr.2.2;unfold setN at this;omega
theorem wkB_ge {s:Sys} (h:Gd s) {x r:Rt} (hr:RgOk s r):wkB s x r=true↔x≠r∧GE₀ s r x:=QaT (hr.lt63 h)
theorem dom_least {s:Sys} (h:Gd s) {l:List Rt} (hl:∀ r∈l,RgOk s r):∀ n,∀ x∈l,(l.filter (wkB s x)).length≤n→∃ r∈XV s l,GE₀ s r x:=by
 have one:∀ x∈l,(∀ r∈l,wkB s x r=false)∨∃ r∈l,wkB s x r=true:=fun x hx=>by
  by_cases hh:∃ r∈l,wkB s x r=true
  ·exact .inr hh
  ·exact .inl fun r hr=>by
    cases hw:wkB s x r with
    | false=>rfl
    | true=>exact absurd ⟨r,hr,hw⟩ hh
 intro n
 induction n with
 | zero =>
  intro x hx hn;rcases one x hx with h0 | ⟨r,hr,hw⟩
  ·exact ⟨x,CB.2 ⟨hx,h0⟩,.refl h (hl x hx)⟩
  ·have:r∈l.filter (wkB s x):=YB.2 ⟨hr,hw⟩;have hn:(l.filter (wkB s x)).length=0:=by omega
   rw[ZT hn] at this;cases this
 | succ n ih =>
  intro x hx hn;rcases one x hx with h0 | ⟨r,hr,hw⟩
  ·exact ⟨x,CB.2 ⟨hx,h0⟩,.refl h (hl x hx)⟩
  ·have w1:=(wkB_ge h (hl r hr)).1 hw;have hlt:(l.filter (wkB s r)).length<(l.filter (wkB s x)).length:=by
    refine filt_lt hr hw ?_ ?_
    ·cases hrr:wkB s r r with
     | false=>rfl
     | true=>exact absurd rfl ((wkB_ge h (hl r hr)).1 hrr).1
    ·intro t ht hrt;have w2:=(wkB_ge h (hl t ht)).1 hrt;refine (wkB_ge h (hl t ht)).2 ⟨fun he=>?_,w2.2.trans h (hl t ht) (hl r hr) w1.2⟩;subst he;exact w1.1 (GE₀.anti h (hl x hx) (hl r hr) w2.2 w1.2)
   obtain ⟨t,ht,hg⟩:=ih r hr (by omega);exact ⟨t,ht,hg.trans h (hl t (CB.1 ht).1) (hl r hr) w1.2⟩
def Dom (s:Sys) (a b:List Rt):Prop:=∀ r∈b,∃ x∈a,GE₀ s x r
theorem Dom.least {s:Sys} (h:Gd s) {l:List Rt} (hl:∀ r∈l,RgOk s r):Dom s (XV s l) l:=fun r hr=>dom_least h hl _ r hr (QG _)
theorem Dom.sub {s:Sys} (h:Gd s) {a b:List Rt} (hb:∀ r∈b,RgOk s r) (hs:∀ r∈b,r∈a):Dom s a b:=fun r hr=>⟨r,hs r hr,.refl h (hb r hr)⟩
theorem Dom.of_least {s:Sys} (h:Gd s) {l:List Rt} (hl:∀ r∈l,RgOk s r):Dom s l (XV s l):=.sub h (fun r hr=>hl r (CB.1 hr).1) fun r hr=>(CB.1 hr).1
theorem Dom.trans {s:Sys} (h:Gd s) {a b c:List Rt} (ha:∀ r∈a,RgOk s r) (hb:∀ r∈b,RgOk s r) (h1:Dom s a b) (h2:Dom s b c):Dom s a c:=fun r hr=>by
 obtain ⟨y,hy,g1⟩:=h2 r hr;obtain ⟨x,hx,g2⟩:=h1 y hy;exact ⟨x,hx,g2.trans h (ha x hx) (hb y hy) g1⟩
theorem Dom.alw {s:Sys} (h:Gd s) {a b:List Rt} (ha:∀ r∈a,RgOk s r) (hb:∀ r∈b,RgOk s r) (hd:Dom s a b) {c f:Int} (hal:alwB s b c f=true):alwB s a c f=true:=by
 obtain ⟨r,hr,h1,h2⟩:=T0.1 hal;obtain ⟨x,hx,g1,g2⟩:=hd r hr;exact T0.2 ⟨x,hx,QdB h.ok (ha x hx).nat (hb r hr).nat g1 h1,fun k ⟨k1,k2⟩=>h2 k ⟨g2 k k1,k2⟩⟩
theorem alw_least {s:Sys} (h:Gd s) {l:List Rt} (hl:∀ r∈l,RgOk s r) (c f:Int):alwB s (XV s l) c f=alwB s l c f:=by
 have hl':∀ r∈XV s l,RgOk s r:=fun r hr=>hl r (CB.1 hr).1
 rw[Q8];exact ⟨fun hh=>Dom.alw h hl hl' (.of_least h hl) hh,fun hh=>Dom.alw h hl' hl (.least h hl) hh⟩
theorem alw_com {s:Sys} (h:Gd s) {a b:List Rt} (ha:∀ r∈a,RgOk s r) (hb:∀ r∈b,RgOk s r) (c:Nat) (hc:c<s.cl.length) (f:Int):alwB s (comL s a b) c f=(alwB s a c f&&alwB s b c f):=by
 rw[Q8,QD,T0,T0,T0];constructor
 ·rintro ⟨r,hr,h1,h2⟩;obtain ⟨p,hp,q,hq,i,hi,g1,g2,rfl⟩:=QcC.1 hr;have hin:((i:Int)).toNat=i:=Int.toNat_natCast i;simp only[hin] at h1;exact ⟨⟨p,hp,QdB h.ok (ha p hp).nat hi g1 h1,fun k ⟨k1,k2⟩=>h2 k ⟨by rw[QbB,k1];rfl,k2⟩⟩,q,hq,QdB h.ok (hb q hq).nat hi g2 h1,fun k ⟨k1,k2⟩=>h2 k ⟨by rw[QbB,k1];simp,k2⟩⟩
 ·rintro ⟨⟨p,hp,g1,k1⟩,q,hq,g2,k2⟩;refine ⟨((c:Int),orI p.2 q.2),QcC.2 ⟨p,hp,q,hq,c,hc,by simpa using g1,by simpa using g2,rfl⟩,QaD h.ok (by simpa using hc),fun k ⟨j1,j2⟩=>?_⟩;rw[QbB,WR] at j1;rcases j1 with j1 | j1
  ·exact k1 k ⟨j1,j2⟩
  ·exact k2 k ⟨j1,j2⟩
theorem fndE_congr {g g':Nat→Int}:∀ (k i:Nat),(∀ j,i≤j→j<i+k→g j=g' j)→fndE g i k=fndE g' i k
 | 0,_,_=>rfl
 | k+1,i,h=>by unfold fndE;rw[h i (QG _) (by omega),fndE_congr k (i+1) fun j h1 h2=>h j (by omega) (by omega)]
theorem fndE_ix (g:Nat→Int):∀ (k i:Nat),0≤(fndE g i k).1∧((fndE g i k).1=0∨(i:Int)≤(fndE g i k).1∧(fndE g i k).1<i+k)
 | 0,i=>by simp[fndE]
 | k+1,i=>by
  have:=fndE_ix g k (i+1);unfold fndE;split
  ·omega
  ·simp only;omega
def wTe (p:Pln) (te:List Tch):Pln:=⟨p.sys,p.le,te,p.ca,p.day⟩
theorem plnE_te {p:Pln} (h:plnE p=0) (te:List Tch) (hl:te.length=p.te.length) (ht:∀ i,i<p.te.length→rgsE p.sys (te[i]!).rg=0∧(te[i]!).b=(p.te[i]!).b∧(te[i]!).e=(p.te[i]!).e):plnE (wTe p te)=0:=by
 have hok:=Qdc h;rw[plnE_eq] at h;rw[plnE_eq];show (if (sysE p.sys).2.2≠0 then (sysE p.sys).2.2 else if (dyE p.day).2.2≠0 then (dyE p.day).2.2 else if pplE (wTe p te)≠0 then pplE (wTe p te) else if (p.day.ls.any (whoB (wTe p te)))=true then 4 else 0)=0;have hw:whoB (wTe p te)=whoB p:=by
  funext l
  show (decide (l.le≥p.le.length)||decide (l.te≥te.length)||decide (l.ca≥p.ca.length))=_;rw[hl];rfl
 have h0:=hok.sys;have hd:=hok.dy0;have hp:pplE p=0:=by
  rw[if_neg (fun g=>g h0),if_neg (fun g=>g hd)] at h;split at h
  ·rename_i g;exact absurd h g
  ·rename_i g;exact JE.1 g
 have hp2:pplE (wTe p te)=0:=by
  have e2:(fndE (fun i=>tchE p.sys te[i]!) 0 te.length)=(0,0):=J7 _ _ fun j _ hj=>by
   obtain ⟨g1,g2,g3⟩:=ht j (by omega);have g4:=hok.tch j (by omega);rw[tchE_ok h0] at g4 ⊢;rw[g1,g2,g3,if_neg (fun h=>h rfl)];split at g4
   ·rename_i g;exact absurd g4 g
   ·exact g4
  unfold pplE at hp ⊢;show (if (decide ((p.le.length:Int)>8)||decide ((te.length:Int)>8)||decide ((p.ca.length:Int)>8))=true then 3 else if outF 0 ((p.sys.cl.length:Int)-1) p.le=true then 4 else if (fndE (fun i=>tchE p.sys te[i]!) 0 te.length).2≠0 then (fndE (fun i=>tchE p.sys te[i]!) 0 te.length).2 else (fndE (fun i=>carE p.sys p.ca[i]!) 0 p.ca.length).2)=(0:Int);rw[e2,hl];split at hp
  ·cases hp
  rename_i a1;rw[if_neg a1];split at hp
  ·cases hp
  rename_i a2;rw[if_neg a2];split at hp
  ·rename_i a3;exact absurd hp a3
  ·rw[if_neg (fun h=>h rfl)];exact hp
 rw[if_neg (fun g=>g h0),if_neg (fun g=>g hd),hp] at h;rw[if_neg (fun g=>g h0),if_neg (fun g=>g hd),hp2,hw];exact h
theorem brL_congr {p q:Pln} (hd:q.day=p.day) (h:∀ r,r<3→ruE q r=ruE p r):brL q=brL p:=by
 have h1:ru1 q=ru1 p:=fndE_congr 3 0 fun j _ hj=>by rw[h j (by omega)]
 have h2:(ru1 p).1.toNat<3:=by have:=fndE_ix (fun r=>(ruE p r).2) 3 0;unfold ru1;omega
 unfold brL;rw[h1,h _ h2,hd]
theorem ruE_of {p q:Pln} (hd:q.day=p.day) {r:Nat} (h:∀ k,k<p.day.ls.length→Qdf q r p.day.ls[k]! = Qdf p r p.day.ls[k]!):ruE q r=ruE p r:=by
 unfold ruE;rw[hd];refine fndE_congr _ 0 fun j _ hj=>?_
 unfold rE;rw[hd,h j (by omega)]
theorem ruE_zero {p:Pln} {r:Nat}:(ruE p r).2=0↔∀ k,k<p.day.ls.length→Qdf p r p.day.ls[k]! = true:=by
 constructor
 ·intro h k hk;have:=LJ _ 0 h k (QF _) (by omega);unfold rE at this;cases hb:Qdf p r p.day.ls[k]! with
  | true=>rfl
  | false=>rw[hb] at this;exact absurd this (by decide)
 ·intro h;have:ruE p r=(0,0):=J7 _ 0 fun j _ hj=>by unfold rE;rw[h j (by omega),if_pos rfl]
  rw[this]
theorem brL_te {p:Pln} (h:plnE p=0) (te:List Tch) (hl:te.length=p.te.length) (ht:∀ i,i<p.te.length→rgsE p.sys (te[i]!).rg=0∧(te[i]!).b=(p.te[i]!).b∧(te[i]!).e=(p.te[i]!).e)
  (ha:∀ i,i<p.te.length→∀ c f:Nat,c<p.sys.cl.length→alwB p.sys (te[i]!).rg c f=true→alwB p.sys (p.te[i]!).rg c f=true) :
  brL (wTe p te)=brL p∨(brL (wTe p te)).1=2∧((brL p).1=0∨(brL p).1≥2):=by
 have hok:=Qdc h;have hok2:=Qdc (plnE_te h te hl ht);have hday:(wTe p te).day=p.day:=rfl;have r0:ruE (wTe p te) 0=ruE p 0:=ruE_of hday fun k hk=>rfl
 have r2:ruE (wTe p te) 2=ruE p 2:=ruE_of hday fun k hk=>by have hli:=hok.li hk;obtain ⟨_,g2,g3⟩:=ht (p.day.ls[k]!).te.toNat (by have:=hli.te;omega);show (decide ((p.day.ls[k]!).b≥(te[(p.day.ls[k]!).te.toNat]!).b)&&decide ((p.day.ls[k]!).e≤(te[(p.day.ls[k]!).te.toNat]!).e))=_;rw[g2,g3];rfl
 by_cases h0:(ruE p 0).2=0
 rotate_left
 ·left;have e1:ru1 p=(((0:Nat):Int),(ruE p 0).2):=VO (g:=fun r=>(ruE p r).2) 3 0 0 (QG _) (by omega) (fun j _ hj=>by omega) h0;have e2:ru1 (wTe p te)=(((0:Nat):Int),(ruE p 0).2):=by
   have:ru1 (wTe p te)=(((0:Nat):Int),(ruE (wTe p te) 0).2):=VO (g:=fun r=>(ruE (wTe p te) r).2) 3 0 0 (QG _) (by omega) (fun j _ hj=>by omega) (by show (ruE (wTe p te) 0).2≠0;rw[r0];exact h0);rw[this,r0]
  unfold brL;rw[e1,e2,if_pos h0,if_pos h0,Int.toNat_natCast,r0]
 by_cases h1:(ruE (wTe p te) 1).2=0
 ·left;have h1p:(ruE p 1).2=0:=ruE_zero.2 fun k hk=>by
   have g:=ruE_zero.1 h1 k hk;have hli:=hok.li hk;have hli2:LiOk (wTe p te) p.day.ls[k]! := hok2.li (i:=k) hk;have g1:Qca (wTe p te) p.day.ls[k]! = true:=g;rw[(right_ok hok2 hli2).1] at g1;show Qca p p.day.ls[k]! = true;obtain ⟨q1,_,q3,q4⟩:=right_ok hok hli;rw[q1];have c1:=VB.1 q3;have c2:=VB.1 q4;obtain ⟨c,hc⟩:∃ c:Nat,(p.ca[(p.day.ls[k]!).ca.toNat]!).cl=(c:Int):=⟨_,(VI c1.1).symm⟩;obtain ⟨f,hf⟩:∃ f:Nat,(p.ca[(p.day.ls[k]!).ca.toNat]!).ft=(f:Int):=⟨_,(VI c2.1).symm⟩;have g2:alwB p.sys (te[(p.day.ls[k]!).te.toNat]!).rg (p.ca[(p.day.ls[k]!).ca.toNat]!).cl (p.ca[(p.day.ls[k]!).ca.toNat]!).ft=true:=g1;rw[hc,hf] at g2 ⊢;exact ha _ (by have:=hli.te;omega) c f (by omega) g2
  have z1:ruE p 1=(0,0):=J7 _ 0 fun j _ hj=>by unfold rE;rw[ruE_zero.1 h1p j (by omega),if_pos rfl]
  have z2:ruE (wTe p te) 1=(0,0):=J7 _ 0 fun j _ hj=>by unfold rE;rw[ruE_zero.1 h1 j (by show j<p.day.ls.length;have:(wTe p te).day.ls.length=p.day.ls.length:=rfl;omega),if_pos rfl]
  refine brL_congr hday fun r hr=>?_
  match r,hr with
  | 0,_=>exact r0
  | 1,_=>rw[z1,z2]
  | 2,_=>exact r2
 ·right;have e2:ru1 (wTe p te)=(((1:Nat):Int),(ruE (wTe p te) 1).2):=VO (g:=fun r=>(ruE (wTe p te) r).2) 3 0 1 (QF _) (by omega) (fun j _ hj=>by
   have:j=0:=by omega
   subst this;show (ruE (wTe p te) 0).2=0;rw[r0];exact h0) h1
  constructor
  ·unfold brL;rw[e2,if_pos h1];rfl
  ·unfold brL;split
   ·rename_i g;right;have hx:=fndE_ix (fun r=>(ruE p r).2) 3 0;have hne:(ru1 p).1≠0:=fun h3=>by
     have:fndE (fun r=>(ruE p r).2) 0 3=fndE (fun r=>(ruE p r).2) 1 2:=by show (if (ruE p 0).2=0 then _ else _)=_;rw[if_pos h0]
     have h4:=fndE_ix (fun r=>(ruE p r).2) 2 1;unfold ru1 at h3 g;rw[this] at h3 g;have h5:(fndE (fun r=>(ruE p r).2) 1 2).2=0:=by
      by_cases k1:(ruE p 1).2=0
      ·by_cases k2:(ruE p 2).2=0
       ·rw[J7 2 1 fun j h1 h2=>by
         rcases (show j=1∨j=2 by omega) with rfl | rfl
         ·exact k1
         ·exact k2]
       ·have:=VO (g:=fun r=>(ruE p r).2) 2 1 2 (by omega) (by omega) (fun j h1 h2=>by
         have:j=1:=by omega
         subst this;exact k1) k2
        rw[this] at h3;simp at h3
      ·have:=VO (g:=fun r=>(ruE p r).2) 2 1 1 (by omega) (by omega) (fun j h1 h2=>by omega) k1;rw[this] at h3;simp at h3
     exact g h5
    have:0≤(ru1 p).1:=hx.1;simp only;omega
   ·split
    ·right;have hx:=(fndE_ix (fun w=>(whN p.day w).2) 3 0).1;have:0≤(wh3 p.day).1:=hx;simp only;omega
    ·left;rfl
end Go.Proofs.YtgkidpolomhghaaGreatDoor.AM
namespace Go.Proofs.YtgkidpolomhghaaGreatDoor.AM
open Go Pl
theorem fndE_bd (g:Nat→Int):∀ (k i:Nat),0≤(fndE g i k).1∧(fndE g i k).1≤i+k
 | 0,i=>by simp[fndE]
 | k+1,i=>by
  have:=fndE_bd g k (i+1);unfold fndE;split
  ·omega
  ·simp only;omega
theorem th_bd {d:Dy} (h:d.ls.length≤12) (w n j:Nat):0≤gI (thL d w n) j∧gI (thL d w n) j≤12:=by
 by_cases hj:j<(thL d w n).length
 ·obtain ⟨x,hx,e⟩:=Qao (bgF d) (pk_li) _ (QG _) j hj;have e:gI (thL d w n) j=(x:Int):=e;rw[e];omega
 ·unfold gI;rw[QN (by omega)];simp
theorem br_form (p:Pln):∃ b1 b2 b3 e,brA p=.tup [.agg [.i b1,.i b2,.i b3],.i e]∧(0≤b1∧b1≤12)∧(0≤b2∧b2≤12)∧0≤b3∧b3≤12:=by
 unfold brA;split
 ·exact ⟨0,0,0,_,rfl,by decide,by decide,by decide,by decide⟩
 ·rename_i he;have hl:=(Qdc (JE.1 he)).day.l12;refine ⟨_,_,_,_,rfl,?_⟩;unfold brL;split
  ·have h1:0≤(ru1 p).1∧(ru1 p).1≤(0:Nat)+(3:Nat):=fndE_bd _ 3 0;have h2:0≤(ruE p (ru1 p).1.toNat).1∧(ruE p (ru1 p).1.toNat).1≤(0:Nat)+(p.day.ls.length:Nat):=fndE_bd _ _ 0;simp only;omega
  ·split
   ·have h1:0≤(wh3 p.day).1∧(wh3 p.day).1≤(0:Nat)+(3:Nat):=fndE_bd _ 3 0;exact ⟨by simp only;omega,th_bd hl _ _ _,th_bd hl _ _ _⟩
   ·decide
theorem n3_ok {a b c:Int} (ha:0≤a∧a≤12) (hb:0≤b∧b≤12) (hc:0≤c∧c≤12):∀ i,i<3→-9223372036854775808≤gI [a,b,c] i∧gI [a,b,c] i≤9223372036854775807
 | 0,_=>by show _≤a∧a≤_;omega
 | 1,_=>by show _≤b∧b≤_;omega
 | 2,_=>by show _≤c∧c≤_;omega
 | i+3,hi=>absurd hi (by omega)
end Go.Proofs.YtgkidpolomhghaaGreatDoor.AM
namespace Go.Proofs.YtgkidpolomhghaaGreatDoor.AM
variable [Dr]
open Go Pl
structure PtOk (ps:List Pat):Prop where
 p12:ps.length≤12
 sh:∀ k,k<ps.length→0≤(ps[k]!).1∧(ps[k]!).1<9223372036854775808
end Go.Proofs.YtgkidpolomhghaaGreatDoor.AM
namespace Go.Proofs.YtgkidpolomhghaaGreatDoor.AM
open Go Pl
structure BcOk (ps:List Pat) (l:List Int):Prop where
 few:fewL ps l=(HG (UJ ps l),XX ps (UJ ps l),0)
 len:(UJ ps l).length≤200
 rng:∀ x∈UJ ps l,x<ps.length
 srt:(UJ ps l).Pairwise (·≤·)
 eno:OS ps l (UJ ps l)
 least:∀ cs:List Nat,(∀ x∈cs,x<ps.length)→OS ps l cs→(UJ ps l).length<cs.length∨(UJ ps l).length=cs.length∧XX ps (UJ ps l)≤XX ps cs
theorem app_srcK {e by_ l n m:Nat} {σ:List AObj} {xs cs:List CV} {w:AV} (hr:rowOf σ l=some (xs.map .cv)) (hs:Z9 σ e w=some (cs.map .cv)) (hw:lenF w=some m) (hx:xs.length=n*e) (hc:cs.length=m*e) (hb:(n+m)*by_≤2 ^ 44) (hn:n+m≤2 ^ 44) :
  ZX e by_ [.sl l 0 n e,w] σ=some (.sl σ.length 0 (n+m) e,σ.set l .dead++[.cells ((xs++cs).map .cv)]):=by
 have hsc:(cs.map AV.cv).all AV.isSc=true:=by rw[Q1];intro x hx;obtain ⟨z,_,rfl⟩:=ZP.1 hx;rfl
 simp only[ZX,hr,hs,hw,Option.bind_some];have h1:True∧n*e≤(xs.map AV.cv).length∧m*e=(cs.map AV.cv).length∧(n+m)*by_≤2 ^ 44∧n+m≤2 ^ 44∧(cs.map AV.cv).all AV.isSc=true:=⟨trivial,by simp[hx],by simp[hc],hb,hn,hsc⟩;rw[if_pos h1,Q5 (by simp[hx]),ZS]
theorem rens_cv (g:Nat→Nat):∀ cs:List CV,rens g (cs.map AV.cv)=cs.map AV.cv
 | []=>rfl
 | c::cs=>by rw[Q0,rens,rens_cv g cs];rfl
theorem locs_cv (k:Nat) (cs:List CV):QO k (cs.map AV.cv)=true:=by
 rw[Z8];intro v hv;obtain ⟨c,_,rfl⟩:=ZP.1 hv;rfl
abbrev g16 (q q':Nat):Nat→Nat:=fun x=>if x=4 then q else if x=5 then q' else x
abbrev pl7 (p:Pln) (v:AV):List AV:=[.cv (clsR p.sys.cl),.cv (strR p.sys.co),ints p.le,v,.cv (carR p.ca),.cv (minR p.day.mi),.cv (lesR p.day.ls)]
theorem turn16 {fx:Fx} {c:Prop} {S:St→Prop} {Q:Exit→St→Prop} (h0:fx.n0=0) (hc:c) (p:Pln) (w:CV) (b1 b2 b3:Int) {q q' n:Nat} {i:Int} {v9 v10 v11 v12 v13 v14 v15 v16 v17 v19 v20 v21 v22:AV} {cs ds:List CV} {J:List AObj}
  (hq:4≤q) (hq2:q<q') (hJ:J[q-4]? = some (.cells (cs.map .cv))) (hJ2:J[q'-4]? = some (.cells (ds.map .cv)))
  (h:S ⟨[plnV p,.cv w,.ptr 0 0,.b false,.ptr 1 0,.i 0,.ptr 2 0,.ptr 3 0,.i i,.undef,.undef,.undef,.undef,.undef,.undef,.undef,.undef,.undef,.b false,.undef,.undef,.undef,.undef],[.cells (plnC p),.cells [.i b1,.i b2,.i b3],.cells (pl7 p (.sl 4 0 n 3)),.cells (pl7 p (.sl 5 0 n 3)),.cells (cs.map .cv),.cells (ds.map .cv)]⟩) :
  kFor fx c S Q .normal ⟨[plnV p,.cv w,.ptr 0 0,.b false,.ptr 1 0,.i 0,.ptr 2 0,.ptr 3 0,.i i,v9,v10,v11,v12,v13,v14,v15,v16,v17,.b false,v19,v20,v21,v22],.cells (plnC p) :: .cells [.i b1,.i b2,.i b3] :: .cells (pl7 p (.sl q 0 n 3)) :: .cells (pl7 p (.sl q' 0 n 3))::J⟩:=by
 refine AS hc (Weak.move (g:=g16 q q') (σf:=List.replicate (J.length+4) .dead) h0 ?_ (by simp) ?_ ?_ ?_) h
 ·intro a b hab hb;have hb:b<6:=hb;show (if a=4 then q else if a=5 then q' else a)<(if b=4 then q else if b=5 then q' else b)
  repeat' split
  all_goals omega
 ·intro l o ho;rw[YN] at ho;split at ho
  ·exact .inl (Option.some.inj ho).symm
  ·cases ho
 ·have u:∀ v,Move1 (g16 q q') 6 (List.replicate (J.length+4) .dead) v .undef:=fun v=>.inr (.un _)
  have cl:∀ v,ren (g16 q q') v=v∧QR 6 v=true→Move1 (g16 q q') 6 (List.replicate (J.length+4) .dead) v v:=fun v hv=>.inl ⟨hv.1.symm,hv.2⟩
  exact .cons (cl _ ⟨rfl,rfl⟩) (.cons (cl _ ⟨rfl,rfl⟩) (.cons (cl _ ⟨rfl,rfl⟩) (.cons (cl _ ⟨rfl,rfl⟩) (.cons (cl _ ⟨rfl,rfl⟩) (.cons (cl _ ⟨rfl,rfl⟩) (.cons (cl _ ⟨rfl,rfl⟩) (.cons (cl _ ⟨rfl,rfl⟩) (.cons (cl _ ⟨rfl,rfl⟩) (.cons (u _) (.cons (u _) (.cons (u _) (.cons (u _) (.cons (u _) (.cons (u _) (.cons (u _) (.cons (u _) (.cons (u _) (.cons (cl _ ⟨rfl,rfl⟩) (.cons (u _) (.cons (u _) (.cons (u _) (.cons (u _) .nil))))))))))))))))))))))
 ·have hrow:∀ (r:Nat) (es:List CV),4≤r→J[r-4]? = some (.cells (es.map .cv))→∃ o,(AObj.cells (plnC p) :: .cells [.i b1,.i b2,.i b3] :: .cells (pl7 p (.sl q 0 n 3)) :: .cells (pl7 p (.sl q' 0 n 3))::J)[r]? = some o∧o.live∧((o=renO (g16 q q') (.cells (es.map .cv))∧Z3 6 (.cells (es.map .cv))=true)∨∃ as_ bs,o=.cells as_∧(AObj.cells (es.map .cv))=.cells bs∧PH (g16 q q') 6 (List.replicate (J.length+4) .dead) as_ bs):=fun r es h4 hr=>by
   refine ⟨.cells (es.map .cv),?_,trivial,.inl ⟨?_,locs_cv 6 es⟩⟩
   ·obtain ⟨k,rfl⟩:∃ k,r=k+4:=⟨r-4,by omega⟩;simpa using hr
   ·show _=AObj.cells (rens _ _);rw[rens_cv]
  intro l o2 ho
  match l,ho with
  | 0,ho=>cases ho;exact ⟨_,rfl,trivial,.inl ⟨rfl,rfl⟩⟩
  | 1,ho=>cases ho;exact ⟨_,rfl,trivial,.inl ⟨rfl,rfl⟩⟩
  | 2,ho=>cases ho;exact ⟨_,rfl,trivial,.inl ⟨rfl,rfl⟩⟩
  | 3,ho=>cases ho;exact ⟨_,rfl,trivial,.inl ⟨rfl,rfl⟩⟩
  | 4,ho=>cases ho;exact hrow q cs hq hJ
  | 5,ho=>cases ho;exact hrow q' ds (by omega) hJ2
theorem leastF_len (s:Sys) (l:List Rt):(XV s l).length≤l.length:=by
 unfold XV;have h1:=HC (fun x=>!(ddR l).any fun r=>wkB s x r) (V2 (ddR l));rw[(H0 _).length_eq] at h1;have h2:=Qdt l l.length;unfold ddR Z4 at h1;rw[ZK] at h1;unfold ddR Z4;omega
def teL (p:Pln):List Tch:=p.te.map fun t=>⟨XV p.sys t.rg,t.b,t.e⟩
def teB (p:Pln) (w:Nat):List Tch :=
 if (XV p.sys (comL p.sys (p.te[0]!).rg (p.te[w]!).rg)).length≤40 then p.te.set 0 ⟨XV p.sys (comL p.sys (p.te[0]!).rg (p.te[w]!).rg),(p.te[0]!).b,(p.te[0]!).e⟩ else p.te
theorem teL_len (p:Pln):(teL p).length=p.te.length:=by simp[teL]
theorem teB_len (p:Pln) (w:Nat):(teB p w).length=p.te.length:=by unfold teB;split <;> simp
theorem teL_get {p:Pln} {i:Nat} (h:i<p.te.length):(teL p)[i]! = ⟨XV p.sys (p.te[i]!).rg,(p.te[i]!).b,(p.te[i]!).e⟩:=by
 rw[getElem!_pos (teL p) i (by rw[teL_len];exact h),getElem!_pos p.te i h];simp[teL]
theorem teB_pos {p:Pln} {w i:Nat} (h:0<i):(teB p w)[i]! = p.te[i]! := by
 unfold teB;split
 ·rw[List.getElem!_eq_getElem?_getD,QU (by omega),← List.getElem!_eq_getElem?_getD]
 ·rfl
theorem teB_no {p:Pln} {w:Nat} (h:¬ (XV p.sys (comL p.sys (p.te[0]!).rg (p.te[w]!).rg)).length≤40) (i:Nat):(teB p w)[i]! = p.te[i]! := by
 unfold teB;rw[if_neg h]
theorem teB_zero {p:Pln} {w:Nat} (hp:0<p.te.length) (h:(XV p.sys (comL p.sys (p.te[0]!).rg (p.te[w]!).rg)).length≤40):(teB p w)[0]! = ⟨XV p.sys (comL p.sys (p.te[0]!).rg (p.te[w]!).rg),(p.te[0]!).b,(p.te[0]!).e⟩:=by
 unfold teB;rw[if_pos h,getElem!_pos _ 0 (by simpa using hp)];simp
theorem take_tch {T:List Tch} {i:Nat} (h:i<T.length):SV (T.take (i+1))=SV (T.take i)++tchC T[i]! := by
 unfold SV;rw[JC,QI h,List.flatMap_append,getElem!_pos T i h];simp only[Option.toList,YH,List.flatMap_nil,ZU]
theorem app_nilK {e by_ m:Nat} {σ:List AObj} {cs:List CV} {w:AV} (hs:Z9 σ e w=some (cs.map .cv)) (hw:lenF w=some m) (hm:m≠0) (hc:cs.length=m*e) (hb:m*by_≤2 ^ 44) (hn:m≤2 ^ 44) :
  ZX e by_ [.cv .nils,w] σ=some (.sl σ.length 0 m e,σ++[.cells (cs.map .cv)]):=by
 have hsc:(cs.map AV.cv).all AV.isSc=true:=by rw[Q1];intro x hx;obtain ⟨z,_,rfl⟩:=ZP.1 hx;rfl
 simp only[ZX,hs,hw,Option.bind_some];rw[if_neg hm,if_pos ⟨by simp[hc],hb,hn,hsc⟩]
abbrev o4 (p:Pln) (b1 b2 b3:Int) (v w:AV):List AObj:=[.cells (plnC p),.cells [.i b1,.i b2,.i b3],.cells (pl7 p v),.cells (pl7 p w)]
theorem loop16 {Q:Exit→St→Prop} (p:Pln) (hp:PSz p) (h0:plnE p=0) (z:Int) (hz:0≤z∧z≤255) (b1 b2 b3:Int)
  (hend:∀ v6 v7 J v9 v10 v11 v12 v13 v14 v15 v16 v17 v19 v20 v21 v22,(p.te.length=0∧v6=.cv .nils∧v7=.cv .nils∧J=[]∨0<p.te.length∧v6=.sl 4 0 p.te.length 3∧v7=.sl 5 0 p.te.length 3∧J=[.cells ((SV (teL p)).map .cv),.cells ((SV (teB p (z.toNat % p.te.length))).map .cv)]) →
   Q (.exit 0) ⟨[plnV p,.cv (.int .u8 z),.ptr 0 0,.b false,.ptr 1 0,.i 0,.ptr 2 0,.ptr 3 0,.i p.te.length,v9,v10,v11,v12,v13,v14,v15,v16,v17,.b false,v19,v20,v21,v22],o4 p b1 b2 b3 v6 v7++J⟩) :
  IL Tryz.prog ⟨vs16,158,none,0⟩ ic16l0 ⟨[plnV p,.cv (.int .u8 z),.ptr 0 0,.b false,.ptr 1 0,.i 0,.ptr 2 0,.ptr 3 0,.i 0,.undef,.undef,.undef,.undef,.undef,.undef,.undef,.undef,.undef,.b false,.undef,.undef,.undef,.undef],o4 p b1 b2 b3 (.cv .nils) (.cv .nils)⟩ Q:=by
 have hok:=Qdc h0;obtain ⟨⟨hn1,hn12⟩,hm8,hokI⟩:=QaV hok.sys;have hte:=hok.te;have hTL:=teL_len p;refine ZW p.te.length (fun i s=>∃ v9 v10 v11 v12 v13 v14 v15 v16 v17 v19 v20 v21 v22 v6 v7 J,(i=0∧v6=.cv .nils∧v7=.cv .nils∧J=[]∨0<i∧v6=.sl 4 0 i 3∧v7=.sl 5 0 i 3∧J=[.cells ((SV ((teL p).take i)).map .cv),.cells ((SV ((teB p (z.toNat % p.te.length)).take i)).map .cv)])∧s=⟨[plnV p,.cv (.int .u8 z),.ptr 0 0,.b false,.ptr 1 0,.i 0,.ptr 2 0,.ptr 3 0,.i i,v9,v10,v11,v12,v13,v14,v15,v16,v17,.b false,v19,v20,v21,v22],o4 p b1 b2 b3 v6 v7++J⟩) ?_ 0 (QF _) ⟨_,_,_,_,_,_,_,_,_,_,_,_,_,_,_,[],.inl ⟨rfl,rfl,rfl,rfl⟩,rfl⟩;rintro i s hi ⟨v9,v10,v11,v12,v13,v14,v15,v16,v17,v19,v20,v21,v22,v6,v7,J,hJ,rfl⟩;by_cases h:i<p.te.length
 ·obtain ⟨w,hw⟩:∃ w,w=z.toNat % p.te.length:=⟨_,rfl⟩;have hwl:w<p.te.length:=by rw[hw];exact Nat.mod_lt _ (by omega)
  rw[← hw] at hJ ⊢;have hTB:=teB_len p w;have hld:=tch_ld h;have hldw:(SV p.te)[w*3]? = some (rgR (p.te[w]!).rg):=tch_0 hwl;have hrg:=hp.rg i h;have hrgw:=hp.rg w hwl;have hrg0:rgsE p.sys (p.te[i]!).rg=0:=by
   have:=hok.tch i h;rw[tchE_ok hok.sys] at this;split at this
   ·rename_i g;exact absurd this g
   ·rename_i g;exact JE.1 g
  have hrgw0:rgsE p.sys (p.te[w]!).rg=0:=by
   have:=hok.tch w hwl;rw[tchE_ok hok.sys] at this;split at this
   ·rename_i g;exact absurd this g
   ·rename_i g;exact JE.1 g
  have h54:=p31 p.sys hp.sys (p.te[i]!).rg hrg;have h55:=p36 p.sys hp.sys (p.te[i]!).rg (p.te[w]!).rg hrg hrgw;have e54:rdE p.sys (sysE p.sys).2.2 [(p.te[i]!).rg]=0:=by rw[hok.sys];exact hrg0
  have e55:rdE p.sys (sysE p.sys).2.2 [(p.te[i]!).rg,(p.te[w]!).rg]=0:=by rw[hok.sys];show (if rgsE p.sys (p.te[i]!).rg=0 then rgsE p.sys (p.te[w]!).rg else _)=0;rw[if_pos hrg0];exact hrgw0
  unfold lstV at h54;rw[if_neg (fun h=>h e54)] at h54;unfold bthV at h55;rw[if_neg (fun h=>h e55)] at h55;have ia:∀ σ,VP 3 [.cv (tchR p.te),.cv (.int .i64 i)] σ=some (.cv (.rp (SV p.te) (i*3)),σ):=fun σ=>XP h σ
  have iaw:∀ σ,VP 3 [.cv (tchR p.te),.cv (.int .i64 w)] σ=some (.cv (.rp (SV p.te) (w*3)),σ):=fun σ=>XP hwl σ
  have hcv:IntKind.i64.wrap z=z:=ZC (by omega);have hnl:¬ ((p.te.length:Int)=0):=by omega
  have hrem:z.tmod (p.te.length:Int)=(w:Int):=by obtain ⟨z',rfl⟩:∃ z':Nat,z=(z':Int):=⟨z.toNat,by omega⟩;rw[hw,Int.toNat_natCast];rfl
  have tL:=take_tch (T:=teL p) (i:=i) (by omega);have tB:=take_tch (T:=teB p w) (i:=i) (by omega);have gL:=teL_get h;rw[gL] at tL;have lL:(SV ((teL p).take i)).length=i*3:=by rw[QeW];simp;omega
  have lB:(SV ((teB p w).take i)).length=i*3:=by rw[QeW];simp;omega
  have hwk:=Q6 (show i+1<2 ^ 63 by omega);obtain ⟨rb,gv,r,hbt,hr,hst⟩:∃ (rb:List Rt) (gv:Int) (r:List Rt),PC Tryz.prog 55 [sysV p.sys,rgL (p.te[i]!).rg,rgL (p.te[w]!).rg] (.tup [rgL rb,.i gv])∧(gv=0∧i=0∧r=rb∨gv=0∧0<i∧r=(p.te[i]!).rg∨gv=3∧r=(p.te[i]!).rg)∧(teB p w)[i]! = ⟨r,(p.te[i]!).b,(p.te[i]!).e⟩:=by
   by_cases h40:((XV p.sys (comL p.sys (p.te[i]!).rg (p.te[w]!).rg)).length:Int)>40
   ·rw[if_pos h40] at h55;refine ⟨[],3,_,h55,.inr (.inr ⟨rfl,rfl⟩),?_⟩;by_cases hi0:i=0
    ·subst hi0;exact teB_no (by omega) 0
    ·exact teB_pos (by omega)
   ·rw[if_neg h40] at h55;by_cases hi0:i=0
    ·subst hi0;exact ⟨_,0,_,h55,.inl ⟨rfl,rfl,rfl⟩,teB_zero (by omega) (by omega)⟩
    ·exact ⟨_,0,_,h55,.inr (.inl ⟨rfl,by omega,rfl⟩),teB_pos (by omega)⟩
  rw[hst] at tB;have hti:(p.te[i]!)=⟨(p.te[i]!).rg,(p.te[i]!).b,(p.te[i]!).e⟩:=rfl;generalize hX:XV p.sys (p.te[i]!).rg=X at *;clear hrg0 hrgw0 e54 e55 h55 hst gL;generalize p.te[i]! = t at *;obtain ⟨rg,tb,tE⟩:=t;clear hti;rcases hJ with ⟨hi0,rfl,rfl,rfl⟩ | ⟨hi0,rfl,rfl,rfl⟩
  have d0:((i:Int) == 0)=true:=by simp;omega
  have a6:=app_nilK (e:=3) (by_:=40) (m:=1) (σ:=[AObj.cells (plnC p),.cells [.i b1,.i b2,.i b3],.cells (pl7 p (.cv .nils)),.cells (pl7 p (.cv .nils)),.cells [.cv (rgR X),.i tb,.i tE],.cells [.cv (rgR r),.i tb,.i tE],.cells [.cv (rgR X),.i tb,.i tE]]) (cs:=tchC ⟨X,tb,tE⟩) (w:=.sl 6 0 1 3) rfl rfl (by decide) rfl (by decide) (by decide);have a7:=app_nilK (e:=3) (by_:=40) (m:=1) (σ:=[AObj.cells (plnC p),.cells [.i b1,.i b2,.i b3],.cells (pl7 p (.cv .nils)),.cells (pl7 p (.cv .nils)),.cells [.cv (rgR X),.i tb,.i tE],.cells [.cv (rgR r),.i tb,.i tE],.cells [.cv (rgR X),.i tb,.i tE],.cells [.cv (rgR X),.i tb,.i tE],.cells [.cv (rgR r),.i tb,.i tE]]) (cs:=tchC ⟨r,tb,tE⟩) (w:=.sl 8 0 1 3) rfl rfl (by decide) rfl (by decide) (by decide)
  rotate_left
  have d0:((i:Int) == 0)=false:=by simp;omega
  have a6:=app_srcK (e:=3) (by_:=40) (l:=4) (n:=i) (m:=1) (σ:=[AObj.cells (plnC p),.cells [.i b1,.i b2,.i b3],.cells (pl7 p (.sl 4 0 i 3)),.cells (pl7 p (.sl 5 0 i 3)),.cells ((SV ((teL p).take i)).map .cv),.cells ((SV ((teB p w).take i)).map .cv),.cells [.cv (rgR X),.i tb,.i tE],.cells [.cv (rgR r),.i tb,.i tE],.cells [.cv (rgR X),.i tb,.i tE]]) (xs:=SV ((teL p).take i)) (cs:=tchC ⟨X,tb,tE⟩) (w:=.sl 8 0 1 3) rfl rfl rfl lL rfl (by omega) (by omega);have a7:=app_srcK (e:=3) (by_:=40) (l:=5) (n:=i) (m:=1) (σ:=[AObj.cells (plnC p),.cells [.i b1,.i b2,.i b3],.cells (pl7 p (.sl 4 0 i 3)),.cells (pl7 p (.sl 5 0 i 3)),.dead,.cells ((SV ((teB p w).take i)).map .cv),.cells [.cv (rgR X),.i tb,.i tE],.cells [.cv (rgR r),.i tb,.i tE],.cells [.cv (rgR X),.i tb,.i tE],.cells ((SV ((teL p).take i)++tchC ⟨X,tb,tE⟩).map .cv),.cells [.cv (rgR r),.i tb,.i tE]]) (xs:=SV ((teB p w).take i)) (cs:=tchC ⟨r,tb,tE⟩) (w:=.sl 10 0 1 3) rfl rfl rfl lB rfl (by omega) (by omega)
  all_goals rcases hr with ⟨rfl,h1,rfl⟩ | ⟨rfl,h1,rfl⟩ | ⟨rfl,rfl⟩
  omega
  rotate_left 3
  omega
  all_goals
   simp only[o4,ic16l0,QJ,h,ZU,List.cons_append,List.nil_append,evA,simprocAttr];refine DW_s [] [(1,10),(1,11),(4,10),(4,11),(6,10),(6,11),(6,12),(9,10),(9,11),(9,12),(10,11),(11,10)] hmix (by kernel_rfl) rfl ?_;simp only[ia,hld,evA,simprocAttr];refine h54.call frz ?_;simp only[evA,simprocAttr];refine DW_s [15] [] hmix (by kernel_rfl) rfl ?_;simp only[hcv,hnl,hrem,iaw,hldw,evA,simprocAttr];refine YE (hbt.call frz ⟨rfl,rfl⟩) rfl ?_;simp only[d0,evA,simprocAttr];refine DW_s [] [(1,3),(1,8),(2,8),(3,8),(4,8),(6,3),(6,4),(6,8),(7,3),(7,4),(8,3),(8,4)] hmix (by kernel_rfl) rfl ?_;simp only[a6,a7,hwk,evA,simprocAttr]
   first
   | (refine turn16 rfl trivial p _ b1 b2 b3 (q:=7) (q':=9) (n:=1) (cs:=tchC ⟨X,tb,tE⟩) (ds:=tchC ⟨r,tb,tE⟩) (by decide) (by decide) rfl rfl ?_;exact ⟨_,_,_,_,_,_,_,_,_,_,_,_,_,_,_,_,.inr ⟨by omega,by rw[hi0],by rw[hi0],by rw[tL,tB,hi0];rfl⟩,rfl⟩)
   | (refine turn16 rfl trivial p _ b1 b2 b3 (q:=9) (q':=11) (n:=(i+1)) (cs:=SV ((teL p).take i)++tchC ⟨X,tb,tE⟩) (ds:=SV ((teB p w).take i)++tchC ⟨r,tb,tE⟩) (by decide) (by decide) rfl rfl ?_;exact ⟨_,_,_,_,_,_,_,_,_,_,_,_,_,_,_,_,.inr ⟨by omega,rfl,rfl,by rw[tL,tB]⟩,rfl⟩)
 ·have hie:i=p.te.length:=by omega
  subst hie;rw[Q5 (by rw[hTL];exact QG _),Q5 (by rw[teB_len];exact QG _)] at hJ;rcases hJ with ⟨e,rfl,rfl,rfl⟩ | ⟨e,rfl,rfl,rfl⟩
  ·simp only[o4,ic16l0,QJ,h,ZU,evA,simprocAttr];exact hend _ _ [] _ _ _ _ _ _ _ _ _ _ _ _ _ (.inl ⟨e,rfl,rfl,rfl⟩)
  ·simp only[o4,ic16l0,QJ,h,List.cons_append,List.nil_append,evA,simprocAttr];exact hend _ _ _ _ _ _ _ _ _ _ _ _ _ _ _ _ (.inr ⟨e,rfl,rfl,rfl⟩)
theorem brL_same {p:Pln} (h:plnE p=0) (te:List Tch) (hl:te.length=p.te.length) (ht:∀ i,i<p.te.length→rgsE p.sys (te[i]!).rg=0∧(te[i]!).b=(p.te[i]!).b∧(te[i]!).e=(p.te[i]!).e)
  (ha:∀ i,i<p.te.length→∀ c f,alwB p.sys (te[i]!).rg c f=alwB p.sys (p.te[i]!).rg c f):brL (wTe p te)=brL p:=by
 have hok:=Qdc h;have hok2:=Qdc (plnE_te h te hl ht);have hday:(wTe p te).day=p.day:=rfl;refine brL_congr hday fun r hr=>ruE_of hday fun k hk=>?_
 have hli:=hok.li hk;have hli2:LiOk (wTe p te) p.day.ls[k]! := hok2.li (i:=k) hk;have hlt:(p.day.ls[k]!).te.toNat<p.te.length:=by have:=hli.te;omega
 match r,hr with
 | 0,_=>rfl
 | 1,_ =>
  show Qca (wTe p te) p.day.ls[k]! = Qca p p.day.ls[k]!;rw[(right_ok hok2 hli2).1,(right_ok hok hli).1];exact ha _ hlt _ _
 | 2,_ =>
  obtain ⟨_,g2,g3⟩:=ht _ hlt;show (decide ((p.day.ls[k]!).b≥(te[(p.day.ls[k]!).te.toNat]!).b)&&decide ((p.day.ls[k]!).e≤(te[(p.day.ls[k]!).te.toNat]!).e))=_;rw[g2,g3];rfl
theorem brL_bd {p:Pln} (h:plnE p=0):(0≤(brL p).1∧(brL p).1≤12)∧(0≤(brL p).2.1∧(brL p).2.1≤12)∧0≤(brL p).2.2∧(brL p).2.2≤12:=by
 obtain ⟨b1,b2,b3,e,hb,g1,g2,g3⟩:=br_form p;unfold brA at hb;rw[if_neg (fun g=>g h)] at hb;injection hb with hb
 injection hb with hb _
 injection hb with hb
 injection hb with h1 hb
 injection hb with h2 hb
 injection hb with h3 _
 injection h1 with h1
 injection h1 with _ h1
 injection h2 with h2
 injection h2 with _ h2
 injection h3 with h3
 injection h3 with _ h3
 rw[h1,h2,h3];exact ⟨g1,g2,g3⟩
theorem eqk3 {a b c x y z:Int} (ha:0≤a∧a≤12) (hb:0≤b∧b≤12) (hc:0≤c∧c≤12) (hx:0≤x∧x≤12) (hy:0≤y∧y≤12) (hz:0≤z∧z≤12):JW (true,[.int .i64,.int .i64,.int .i64]) (.agg [.i a,.i b,.i c]) (.agg [.i x,.i y,.i z])=some (decide ([a,b,c]=[x,y,z])) :=
 eqk_n (n:=3) (a:=[a,b,c]) (b:=[x,y,z]) rfl rfl (n3_ok ha hb hc) (n3_ok hx hy hz)
theorem frz_pl {σ:List AObj} {p:Pln} {te:List Tch} {v:AV} (hv:FrzV anyC σ v (.cv (tchR te))):KS anyC σ [.agg (pl7 p v)] [plnV (wTe p te)] :=
 .cons (.agg (.cons (.c (.c _ trivial)) (.cons (.c (.c _ trivial)) (.cons (.c (.c _ trivial)) (.cons hv (.cons (.c (.c _ trivial)) (.cons (.c (.c _ trivial)) (.cons (.c (.c _ trivial)) .nil)))))))) .nil
theorem frz_te {σ:List AObj} {te:List Tch} {l n:Nat} (hn:n=te.length) (hr:rowOf σ l=some ((SV te).map .cv)):FrzV anyC σ (.sl l 0 n 3) (.cv (tchR te)):=by
 subst hn;exact GI (.inr ⟨l,rfl,QeW te,hr⟩) fun _ _=>trivial
theorem br_ok {p:Pln} (hp:PSz p) (h:plnE p=0):PC Tryz.prog 35 [plnV p] (.tup [.agg [.i (brL p).1,.i (brL p).2.1,.i (brL p).2.2],.i 0]):=by
 have h35:=le35 p hp;unfold brA at h35;rw[if_neg (fun g=>g h)] at h35;exact h35
theorem psz_te {p:Pln} (hp:PSz p) {te:List Tch} (hl:te.length=p.te.length) (h:∀ i,i<p.te.length→(te[i]!).rg.length<2 ^ 63):PSz (wTe p te) :=
 ⟨hp.sys,hp.le,by show te.length<_;have:=hp.te;omega,hp.ca,fun i hi=>h i (by have:i<te.length:=hi;omega),hp.day⟩
set_option maxHeartbeats 2000000 in
theorem law16 (p:Pln) (hp:PSz p) (z:Int) (hz:0≤z∧z≤255):PC Tryz.prog 16 [plnV p,.cv (.int .u8 z)] (.b true):=by
 have h52:=le52 p hp;refine ⟨ZF (fok16 true) (QC rfl) ?_,rfl⟩;simp only[ic16,WI,cellsOf,evA,simprocAttr];by_cases he:plnE p=0
 rotate_left
 ·have h35:=le35 p hp;unfold brA at h35;rw[if_pos he] at h35;have hb:(plnE p != 0)=true:=by simpa using he
  refine h35.call frz ?_;simp only[hb,evA,simprocAttr];refine awake.call .nil ?_;simp only[evA,simprocAttr]
  (repeat' (first | exact HL.nil | exact KS.nil | exact FrzC.nl | exact FrzC.c _ trivial | apply HL.cons | apply KS.cons | apply FrzV.agg | apply FrzV.tup | apply FrzV.c | refine FrzC.sl _ _ _ _ _ _ rfl (QC rfl) ?_))
 have hok:=Qdc he;rw[he] at h52;have h35:=br_ok hp he;obtain ⟨g1,g2,g3⟩:=brL_bd he;have hgd:=gd_of hok.sys;have hrg:∀ i,i<p.te.length→rgsE p.sys (p.te[i]!).rg=0:=fun i hi=>by
  have:=hok.tch i hi;rw[tchE_ok hok.sys] at this;split at this
  ·rename_i g;exact absurd this g
  ·rename_i g;exact JE.1 g
 obtain ⟨w,hw⟩:∃ w,w=z.toNat % p.te.length:=⟨_,rfl⟩;have lL:=teL_len p;have lB:=teB_len p w;have okl:∀ i,i<p.te.length→rgsE p.sys ((teL p)[i]!).rg=0∧((teL p)[i]!).b=(p.te[i]!).b∧((teL p)[i]!).e=(p.te[i]!).e:=fun i hi=>by rw[teL_get hi];obtain ⟨h40,hr⟩:=ML (hrg i hi);exact ⟨rgsE_of (YR (leastF_len _ _) h40) fun r h=>hr r (CB.1 h).1,rfl,rfl⟩
 have hcom:∀ i j,i<p.te.length→j<p.te.length→∀ r∈comL p.sys (p.te[i]!).rg (p.te[j]!).rg,RgOk p.sys r:=fun i j hi hj r hr=>by obtain ⟨x,hx,y,hy,k,hk,_,_,rfl⟩:=QcC.1 hr;have h1:=(ML (hrg i hi)).2 x hx;have h2:=(ML (hrg j hj)).2 y hy;exact ⟨⟨by simp only;omega,by simp only;omega⟩,Qa9 _ _,Qcf h1.2.2 h2.2.2⟩
 have hwl:0<p.te.length→w<p.te.length:=fun h=>by rw[hw];exact Nat.mod_lt _ h
 have okb:∀ i,i<p.te.length→rgsE p.sys ((teB p w)[i]!).rg=0∧((teB p w)[i]!).b=(p.te[i]!).b∧((teB p w)[i]!).e=(p.te[i]!).e:=fun i hi=>by
  by_cases h40:(XV p.sys (comL p.sys (p.te[0]!).rg (p.te[w]!).rg)).length≤40
  ·by_cases hi0:i=0
   ·subst hi0;rw[teB_zero hi h40];exact ⟨rgsE_of h40 fun r h=>hcom 0 w hi (hwl hi) r (CB.1 h).1,rfl,rfl⟩
   ·rw[teB_pos (by omega)];exact ⟨hrg i hi,rfl,rfl⟩
  ·rw[teB_no h40];exact ⟨hrg i hi,rfl,rfl⟩
 have aL:∀ i,i<p.te.length→∀ c f,alwB p.sys ((teL p)[i]!).rg c f=alwB p.sys (p.te[i]!).rg c f:=fun i hi c f=>by rw[teL_get hi];exact alw_least hgd (ML (hrg i hi)).2 c f
 have aB:∀ i,i<p.te.length→∀ c f:Nat,c<p.sys.cl.length→alwB p.sys ((teB p w)[i]!).rg c f=true→alwB p.sys (p.te[i]!).rg c f=true:=fun i hi c f hc h=>by
  by_cases h40:(XV p.sys (comL p.sys (p.te[0]!).rg (p.te[w]!).rg)).length≤40
  ·by_cases hi0:i=0
   ·subst hi0;rw[teB_zero hi h40] at h;have h:alwB p.sys (XV p.sys (comL p.sys (p.te[0]!).rg (p.te[w]!).rg)) c f=true:=h;rw[alw_least hgd (hcom 0 w hi (hwl hi)),alw_com hgd (ML (hrg 0 hi)).2 (ML (hrg w (hwl hi))).2 c hc] at h;exact (QD _ _ ▸ h).1
   ·rwa [teB_pos (by omega)] at h
  ·rwa [teB_no h40] at h
 have pL0:=plnE_te he (teL p) lL okl;have pB0:=plnE_te he (teB p w) lB okb;have zL:=psz_te hp lL fun i hi=>by have:=(ML (okl i hi).1).1;omega
 have zB:=psz_te hp lB fun i hi=>by have:=(ML (okb i hi).1).1;omega
 have hL:=br_ok zL pL0;have hB:=br_ok zB pB0;have eL:=brL_same he (teL p) lL okl aL;have eB:=brL_te he (teB p w) lB okb aB;obtain ⟨k1,k2,k3⟩:=brL_bd pB0;rw[eL] at hL;have q1:=eqk3 g1 g2 g3 g1 g2 g3;rw[decide_eq_true rfl] at q1;have q2:=eqk3 k1 k2 k3 g1 g2 g3;clear pL0 pB0 eL;generalize hd:brL (wTe p (teB p w))=D at *;generalize hbb:brL p=B at *;obtain ⟨b1,b2,b3⟩:=B;obtain ⟨d1,d2,d3⟩:=D;simp only at g1 g2 g3 k1 k2 k3 q1 q2 h35 hL hB eB;refine h35.call frz ?_;simp only[evA,simprocAttr];refine h52.call frz ?_;simp only[evA,simprocAttr];refine DW_s [] [(0,2),(0,3),(1,2),(1,3),(1,4),(2,3),(3,2)] hmix (by kernel_rfl) rfl ?_;simp only[evA,simprocAttr];refine loop16 p hp he z hz b1 b2 b3 ?_;intro v6 v7 J v9 v10 v11 v12 v13 v14 v15 v16 v17 v19 v20 v21 v22 hJ;rw[← hw] at hJ;have hf:∀ K,KS anyC (o4 p b1 b2 b3 v6 v7++J++K) [.agg (pl7 p v6)] [plnV (wTe p (teL p))]∧KS anyC (o4 p b1 b2 b3 v6 v7++J++K) [.agg (pl7 p v7)] [plnV (wTe p (teB p w))]:=by
  intro K;rcases hJ with ⟨hn,rfl,rfl,rfl⟩ | ⟨hn,rfl,rfl,rfl⟩
  ·have tl0:teL p=[]:=ZT (by omega);have tb0:teB p w=[]:=ZT (by omega);rw[tl0,tb0];exact ⟨frz_pl (.c .nl),frz_pl (.c .nl)⟩
  ·exact ⟨frz_pl (frz_te lL.symm rfl),frz_pl (frz_te lB.symm rfl)⟩
 rcases hJ with ⟨hn,rfl,rfl,rfl⟩ | ⟨hn,rfl,rfl,rfl⟩
 all_goals
  simp only[o4,ZU,List.cons_append,List.nil_append,evA,simprocAttr];refine hL.call (hf []).1 ?_;simp only[evA,simprocAttr];refine hB.call (hf [_]).2 ?_;by_cases hdb:[d1,d2,d3]=[b1,b2,b3]
  ·rw[decide_eq_true hdb] at q2;simp only[q1,q2,bne_self_eq_false,evA,simprocAttr];refine awake.call .nil ?_;simp only[evA,simprocAttr]
   (repeat' (first | exact HL.nil | exact KS.nil | exact FrzC.nl | exact FrzC.c _ trivial | apply HL.cons | apply KS.cons | apply FrzV.agg | apply FrzV.tup | apply FrzV.c | refine FrzC.sl _ _ _ _ _ _ rfl (QC rfl) ?_))
  ·rw[decide_eq_false hdb] at q2;rcases eB with heq | ⟨hd2,hb2⟩
   ·injection heq with h1 heq
    injection heq with h2 h3
    exact absurd (by rw[h1,h2,h3]) hdb
   ·have hd2:d1=2:=hd2;have c1:(d1 == 2)=true:=by rw[hd2];rfl
    by_cases hb0:b1=0
    ·have c2:(b1 == 0)=true:=by rw[hb0];rfl
     simp only[q1,q2,c1,c2,bne_self_eq_false,evA,simprocAttr];refine awake.call .nil ?_;simp only[evA,simprocAttr]
     (repeat' (first | exact HL.nil | exact KS.nil | exact FrzC.nl | exact FrzC.c _ trivial | apply HL.cons | apply KS.cons | apply FrzV.agg | apply FrzV.tup | apply FrzV.c | refine FrzC.sl _ _ _ _ _ _ rfl (QC rfl) ?_))
    ·have hb2:b1=0∨b1≥2:=hb2;have c2:(b1 == 0)=false:=by simpa using hb0
     have c3:decide (b1≥2)=true:=decide_eq_true (by omega);simp only[q1,q2,c1,c2,c3,bne_self_eq_false,evA,simprocAttr];refine awake.call .nil ?_;simp only[evA,simprocAttr]
     (repeat' (first | exact HL.nil | exact KS.nil | exact FrzC.nl | exact FrzC.c _ trivial | apply HL.cons | apply KS.cons | apply FrzV.agg | apply FrzV.tup | apply FrzV.c | refine FrzC.sl _ _ _ _ _ _ rfl (QC rfl) ?_))
theorem law_TopForms (avs:List AV) (h:Args Tryz.prog Tryz.f16.params.toList avs):AC Tryz.prog 16 avs [] fun r _=>r=.b true:=by
 have h:Args Tryz.prog [56,5] avs:=h;obtain ⟨cs1,avs,rfl,h1,h⟩:=args_cons h;obtain ⟨cs2,avs,rfl,h2,h⟩:=args_cons h;cases args_nil h;obtain ⟨p,e1,hp⟩:=typed_pln h1;obtain ⟨z,rfl,hz⟩:=QeV Tryz.underlying5 h2;rw[e1,show avOf Tryz.prog 5 [.int .u8 z]=.cv (.int .u8 z) by simp only[avOf,Tryz.underlying5];rfl];exact (law16 p hp z (wf_u8 hz)).call (by (repeat' (first | exact HL.nil | exact KS.nil | exact FrzC.nl | exact FrzC.c _ trivial | apply HL.cons | apply KS.cons | apply FrzV.agg | apply FrzV.tup | apply FrzV.c | refine FrzC.sl _ _ _ _ _ _ rfl (QC rfl) ?_))) rfl
end Go.Proofs.YtgkidpolomhghaaGreatDoor.AM

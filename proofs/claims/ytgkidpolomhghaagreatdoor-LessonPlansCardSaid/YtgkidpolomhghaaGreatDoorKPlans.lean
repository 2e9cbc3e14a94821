/- Parts of the proof of Plans. -/
import Derived.Test.YtgkidpolomhghaaGreatDoorProg
import Derived.Test.YtgkidpolomhghaaGreatDoorRows
import Derived.WalkKit
import Derived.ProofKit
import Derived.OpenShut
import Derived.Carry
import Derived.Test.YtgkidpolomhghaaGreatDoorZ27
set_option linter.unusedVariables false
set_option linter.unusedSimpArgs false
set_option linter.unusedSectionVars false
namespace Go.Proofs.YtgkidpolomhghaaGreatDoor.AM
variable [Dr]
open Go
abbrev vs24:List Nat:=[0,1,2,3,4,5,6,7,8,19,24,31,38,49]
def ic24l0:IC:=(.seq (.seq (.region [jv 7,jF 1 1,jl 1,je 2,jw 12 (.bin .lss .int) [.t 0,.t 3]])
 (.cond 12 .skip
 (.exit 2)))
 (.seq (.block 3 (.seq (.dr [[],[],[1],[],[2,3],[4],[0,5],[6,6,0,1,2,3,4,5,6]] [jN 2 1,jF 1 1,jl 1,jv 7,ja 7 2 3,jq (.loadN 7) [.t 4],jk 71 [.t 0,.t 5],jm 8 6])
 (.seq (.region [jv 8,jw 13 (.bin .neq .int) [.t 0,jn 0]])
 (.cond 13 (.seq (.region [jv 7,jv 8,jz 2 3,jm 3 0,jm 4 1])
 .ret)
 .skip))))
 (.region [jv 7,jq (.bin .add .int) [.t 0,jn 1],jm 7 1])))
def ic24l1:IC:=(.seq (.seq (.region [jv 5,jF 0 1,jl 1,je 2,jw 10 (.bin .lss .int) [.t 0,.t 3]])
 (.cond 10 .skip
 (.exit 0)))
 (.seq (.block 1 (.seq (.region [jN 2 1,jv 5,jk 70 [.t 0,.t 1],jm 6 2])
 (.seq (.region [jv 6,jw 11 (.bin .neq .int) [.t 0,jn 0]])
 (.cond 11 (.seq (.region [jv 5,jv 6,jz 2 2,jm 3 0,jm 4 1])
 .ret)
 .skip))))
 (.region [jv 5,jq (.bin .add .int) [.t 0,jn 1],jm 5 1])))
def ic24:IC:=(.seq (.region [jb 1 0,jz 2 0,jz 3 0,jz 4 0])
 (.seq (.seq (.region [jF 0 1,jl 0,je 1,jk 64 [.t 2,jn 1,jn 16],jq .not [.t 3],jt 4,jg 5 false (.fadd 1) [.v 1],ji 5 false 6,jg 5 false (.len false) [.t 7],jg 5 false (.bin .gtr .int) [.t 8,jn 12],jw 9 .pick [.t 5,jB true,.t 9]])
 (.cond 9 (.seq (.region [jz 2 1,jz 3 0,jz 4 3])
 .ret)
 .skip))
 (.seq (.seq (.region [jz 5 0])
 (.block 0 (.loop ic24l1)))
 (.seq (.seq (.region [jz 7 0])
 (.block 2 (.loop ic24l0)))
 (.seq (.region [jz 2 0,jz 3 0,jz 4 0])
 .ret)))))
abbrev rs24:List RC:=[(.v 2),(.v 3),(.v 4)]
theorem fok24 (p:Bool):FnOk Tryz.prog 24 ⟨ic24,vs24,52,rs24,p⟩:=.mk2 Tryz.func24 (by kernel_rfl) (by kernel_rfl) (by kernel_rfl) (by kernel_rfl) (by kernel_rfl)
abbrev vs36:List Nat:=[0,1,2,3,4,5,6,7,8,9,10,11,12,13,17,21,29,96,101,105,116,131]
def ic36l0:IC:=(.seq (.seq (.region [jv 13,jv 12,je 1,jw 20 (.bin .lss .int) [.t 0,.t 2]])
 (.cond 20 .skip
 (.exit 8)))
 (.seq (.block 9 (.seq (.dr [[],[0],[],[],[3],[2,4],[5],[],[],[7,8],[9],[1,6,10],[11]] [jF 5 1,jq (.loadN 2) [.t 0],jv 12,jv 13,jq (.bin .sub .int) [.t 3,jn 1],ja 1 2 4,jl 5,jv 12,jv 13,ja 1 7 8,jl 9,jk 51 [.t 1,.t 6,.t 10],jw 21 .not [.t 11]])
 (.cond 21 (.seq (.dr [[],[0],[],[],[3],[2,4],[5],[],[],[7,8],[9],[1,6,10],[11,0,1,2,3,4,5,6,7,8,9,10,11],[12,0,1,2,3,4,5,6,7,8,9,10,11,12]] [jv 10,jq (.bin .add .int) [jn 4,.t 0],jv 12,jv 13,jq (.bin .sub .int) [.t 3,jn 1],ja 1 2 4,jl 5,jv 12,jv 13,ja 1 7 8,jl 9,jq (.build [(.cv (.int .i64 0)),(.cv (.int .i64 0)),(.cv (.int .i64 0))] [(0,1),(1,1),(2,1)]) [.t 1,.t 6,.t 10],jq (.store 3) [.v 2,.t 11],jz 3 0])
 .ret)
 .skip)))
 (.region [jv 13,jq (.bin .add .int) [.t 0,jn 1],jm 13 1])))
def ic36l1:IC:=(.seq (.seq (.region [jv 11,jw 19 (.bin .lss .int) [.t 0,jn 8]])
 (.cond 19 .skip
 (.exit 6)))
 (.seq (.block 7 (.seq (.region [jF 5 1,jq (.loadN 2) [.t 0],jv 10,jv 11,jk 105 [.t 1,.t 2,.t 3],jm 12 4])
 (.seq (.region [jz 13 1])
 (.block 8 (.loop ic36l0)))))
 (.region [jv 11,jq (.bin .add .int) [.t 0,jn 1],jm 11 1])))
def ic36l2:IC:=(.seq (.seq (.region [jv 10,jw 18 (.bin .lss .int) [.t 0,jn 3]])
 (.cond 18 .skip
 (.exit 4)))
 (.seq (.block 5 (.seq (.region [jz 11 0])
 (.block 6 (.loop ic36l1))))
 (.region [jv 10,jq (.bin .add .int) [.t 0,jn 1],jm 10 1])))
def ic36l3:IC:=(.seq (.seq (.region [jv 6,jF 5 1,jG 1 1,jl 2,je 3,jw 16 (.bin .lss .int) [.t 0,.t 4]])
 (.cond 16 .skip
 (.exit 2)))
 (.seq (.block 3 (.seq (.region [jF 5 1,jG 1 0,jl 1,jv 6,ja 7 2 3,jq (.loadN 7) [.t 4],jw 7 (.alloc [(.cv (.int .i64 0)),(.cv (.int .i64 0)),(.cv (.int .i64 0)),(.cv (.int .i64 0)),(.cv (.int .i64 0)),(.cv (.int .i64 0)),(.cv (.int .i64 0))]) [],jq (.store 7) [.v 7,.t 5]])
 (.seq (.dr [[],[0],[],[2],[1,3],[4],[],[6],[],[8],[7,9],[10],[],[],[12,5,0,1,2,3,4,5,12,13],[13,11,14,0,1,2,3,4,5,6,7,8,9,10,11,12,13,14]] [jF 4 1,jl 0,jF 2 7,jl 2,ja 2 1 3,jq (.loadN 2) [.t 4],jF 3 1,jl 6,jF 1 7,jl 8,ja 3 7 9,jq (.loadN 3) [.t 10],jw 8 (.alloc [(.cv (.int .i64 0)),(.cv (.int .i64 0))]) [],jw 9 (.alloc [(.cv .nils),(.cv (.int .i64 0)),(.cv (.int .i64 0))]) [],jq (.store 2) [.v 8,.t 5],jq (.store 3) [.v 9,.t 11]])
 (.seq (.dr [[],[0],[1],[2],[3,2],[2],[5,2],[2],[7,2],[6,8,2],[9,2],[4,10,2],[2,11],[12,2],[13],[14,13],[15,13,13],[16],[17,16],[16],[19,16],[16],[21,16],[16],[23,16],[18,20,22,24,16,16],[25,16],[16,26,13],[13,27],[28,25],[29],[30,29],[31,29,29],[32],[33,32],[32],[35,32],[34,36,32],[37,32,32],[38],[39,38],[38],[41,38],[40,42,38],[38,43,32],[32,44,29],[29,45]] [jv 5,jq (.bin .eql .int) [.t 0,jn 1],jt 1,jg 2 true (.fadd 0) [.v 8],ji 2 true 3,jg 2 true (.fadd 2) [.v 1],ji 2 true 5,jg 2 true (.fadd 0) [.v 7],ji 2 true 7,jg 2 true (.iaS 1) [.t 6,.t 8],ji 2 true 9,jg 2 true (.bin .neq .int) [.t 4,.t 10],jq .pick [.t 2,.t 11,jB false],jt 12,jh 13 false 5,jg 13 false (.bin .eql .int) [.t 14,jn 2],jg 13 false .mv [.t 15],jg 16 true (.fadd 0) [.v 1],jg 16 true (.loadN 2) [.t 17],jg 16 true (.fadd 0) [.v 9],ji 16 true 19,jg 16 true (.fadd 0) [.v 8],ji 16 true 21,jg 16 true (.fadd 1) [.v 8],ji 16 true 23,jf 16 true 53 [.t 18,.t 20,.t 22,.t 24],jg 16 true .not [.t 25],jg 13 false .pick [.t 16,.t 26,jB false],jq .pick [.t 13,jB true,.t 27],jt 28,jh 29 false 5,jg 29 false (.bin .eql .int) [.t 30,jn 3],jg 29 false .mv [.t 31],jg 32 true (.fadd 3) [.v 7],ji 32 true 33,jg 32 true (.fadd 1) [.v 9],ji 32 true 35,jg 32 true (.bin .lss .int) [.t 34,.t 36],jg 32 true .mv [.t 37],jg 38 false (.fadd 4) [.v 7],ji 38 false 39,jg 38 false (.fadd 2) [.v 9],ji 38 false 41,jg 38 false (.bin .gtr .int) [.t 40,.t 42],jg 32 true .pick [.t 38,jB true,.t 43],jg 29 false .pick [.t 32,.t 44,jB false],jw 17 .pick [.t 29,jB true,.t 45]])
 (.cond 17 (.seq (.region [jv 5,jv 6,jq (.build [(.cv (.int .i64 0)),(.cv (.int .i64 0)),(.cv (.int .i64 0))] [(0,1),(1,1)]) [.t 0,.t 1],jq (.store 3) [.v 2,.t 2],jz 3 0])
 .ret)
 .skip)))))
 (.region [jv 6,jq (.bin .add .int) [.t 0,jn 1],jm 6 1])))
def ic36l4:IC:=(.seq (.seq (.region [jv 5,jw 15 (.bin .leq .int) [.t 0,jn 3]])
 (.cond 15 .skip
 (.exit 0)))
 (.seq (.block 1 (.seq (.region [jz 6 0])
 (.block 2 (.loop ic36l3))))
 (.region [jv 5,jq (.bin .add .int) [.t 0,jn 1],jm 5 1])))
def ic36:IC:=(.seq (.region [jb 1 0,jw 2 (.alloc [(.cv (.int .i64 0)),(.cv (.int .i64 0)),(.cv (.int .i64 0))]) [],jz 3 0])
 (.seq (.region [jN 7 1,jk 52 [.t 0],jm 4 1])
 (.seq (.seq (.region [jv 4,jw 14 (.bin .neq .int) [.t 0,jn 0]])
 (.cond 14 (.seq (.region [jq (.build [(.cv (.int .i64 0)),(.cv (.int .i64 0)),(.cv (.int .i64 0))] []) [],jv 4,jq (.store 3) [.v 2,.t 0],jm 3 1])
 .ret)
 .skip))
 (.seq (.seq (.region [jz 5 1])
 (.block 0 (.loop ic36l4)))
 (.seq (.seq (.region [jz 10 0])
 (.block 4 (.loop ic36l2)))
 (.seq (.region [jq (.build [(.cv (.int .i64 0)),(.cv (.int .i64 0)),(.cv (.int .i64 0))] []) [],jq (.store 3) [.v 2,.t 0],jz 3 0])
 .ret))))))
abbrev rs36:List RC:=[(.lN 2 3),(.v 3)]
theorem fok36 (p:Bool):FnOk Tryz.prog 36 ⟨ic36,vs36,145,rs36,p⟩:=.mk2 Tryz.func36 (by kernel_rfl) (by kernel_rfl) (by kernel_rfl) (by kernel_rfl) (by kernel_rfl)
abbrev vs38:List Nat:=[0,1,2,3,4,5,6,7,8,12,33]
def ic38l0:IC:=(.seq (.seq (.region [jv 6,jF 5 1,jG 1 1,jl 2,je 3,jw 10 (.bin .lss .int) [.t 0,.t 4]])
 (.cond 10 .skip
 (.exit 0)))
 (.seq (.block 1 (.seq (.region [jF 5 1,jG 1 0,jl 1,jv 6,ja 7 2 3,jq (.loadN 7) [.t 4],jw 7 (.alloc [(.cv (.int .i64 0)),(.cv (.int .i64 0)),(.cv (.int .i64 0)),(.cv (.int .i64 0)),(.cv (.int .i64 0)),(.cv (.int .i64 0)),(.cv (.int .i64 0))]) [],jq (.store 7) [.v 7,.t 5]])
 (.seq (.region [jF 4 7,jl 0,jF 3 7,jl 2,jq (.bin .sub .int) [.t 1,.t 3],jm 8 4])
 (.seq (.dr [[],[0],[],[2],[],[4],[],[6],[5,7],[8],[],[9,10],[1,3,0,1,2,3,4,5,6,7,8,9,10,11],[12,11,0,1,2,3,4,5,6,7,8,9,10,11]] [jF 0 5,jl 0,jF 0 7,jl 2,jF 0 5,jl 4,jF 0 7,jl 6,ja 1 5 7,jl 8,jv 8,jq (.bin .add .int) [.t 9,.t 10],ja 1 1 3,jq (.store 1) [.t 12,.t 11]])
 (.seq (.dr [[],[0],[],[2],[],[4],[],[6],[5,7],[8],[],[9,10],[1,3,0,1,2,3,4,5,6,7,8,9,10,11],[12,11,0,1,2,3,4,5,6,7,8,9,10,11]] [jF 1 5,jl 0,jF 1 7,jl 2,jF 1 5,jl 4,jF 1 7,jl 6,ja 1 5 7,jl 8,jv 8,jq (.bin .add .int) [.t 9,.t 10],ja 1 1 3,jq (.store 1) [.t 12,.t 11]])
 (.dr [[],[0],[],[2],[],[4],[],[6],[5,7],[8],[],[9,10],[1,3,0,1,2,3,4,5,6,7,8,9,10,11],[12,11,0,1,2,3,4,5,6,7,8,9,10,11]] [jF 2 5,jl 0,jF 2 7,jl 2,jF 2 5,jl 4,jF 2 7,jl 6,ja 1 5 7,jl 8,jv 8,jq (.bin .add .int) [.t 9,.t 10],ja 1 1 3,jq (.store 1) [.t 12,.t 11]]))))))
 (.region [jv 6,jq (.bin .add .int) [.t 0,jn 1],jm 6 1])))
def ic38:IC:=(.seq (.region [jb 1 0,jw 2 (.alloc [(.cv .nils),(.cv .nils),(.cv .nils)]) [],jz 3 0])
 (.seq (.region [jN 7 1,jk 52 [.t 0],jm 4 1])
 (.seq (.seq (.region [jv 4,jw 9 (.bin .neq .int) [.t 0,jn 0]])
 (.cond 9 (.seq (.region [jq (.build [(.cv .nils),(.cv .nils),(.cv .nils)] []) [],jv 4,jq (.store 3) [.v 2,.t 0],jm 3 1])
 .ret)
 .skip))
 (.seq (.dr [[],[0],[1],[2,2],[],[4],[5],[6,6],[],[8],[9],[10,10],[3,7,11],[],[13,12,0,1,2,3,4,5,6,7,8,9,10,11,12,13]] [jF 2 1,jl 0,je 1,jq (.mkslice 1 8 [(.cv (.int .i64 0))]) [.t 2,.t 2],jF 3 1,jl 4,je 5,jq (.mkslice 1 8 [(.cv (.int .i64 0))]) [.t 6,.t 6],jF 4 1,jl 8,je 9,jq (.mkslice 1 8 [(.cv (.int .i64 0))]) [.t 10,.t 10],jq (.build [(.cv .nils),(.cv .nils),(.cv .nils)] [(0,1),(1,1),(2,1)]) [.t 3,.t 7,.t 11],jw 5 (.alloc [(.cv .nils),(.cv .nils),(.cv .nils)]) [],jq (.store 3) [.v 5,.t 12]])
 (.seq (.seq (.region [jz 6 0])
 (.block 0 (.loop ic38l0)))
 (.seq (.region [jN 3 5,jq (.store 3) [.v 2,.t 0],jz 3 0])
 .ret))))))
abbrev rs38:List RC:=[(.lN 2 3),(.v 3)]
theorem fok38 (p:Bool):FnOk Tryz.prog 38 ⟨ic38,vs38,87,rs38,p⟩:=.mk2 Tryz.func38 (by kernel_rfl) (by kernel_rfl) (by kernel_rfl) (by kernel_rfl) (by kernel_rfl)
abbrev vs51:List Nat:=[0,1,2,3,6,7,8]
def ic51:IC:=(.seq (.region [jb 3 0,jw 4 .mv [jB false]])
 (.seq (.dr [[],[0],[],[1,2],[3],[],[5],[],[6,7],[8],[],[],[10,4,0,1,2,3,4,10,11],[11,9,12,0,1,2,3,4,5,6,7,8,9,10,11,12]] [jF 1 3,jl 0,jv 1,ja 7 1 2,jq (.loadN 7) [.t 3],jF 1 3,jl 5,jv 2,ja 7 6 7,jq (.loadN 7) [.t 8],jw 5 (.alloc [(.cv (.int .i64 0)),(.cv (.int .i64 0)),(.cv (.int .i64 0)),(.cv (.int .i64 0)),(.cv (.int .i64 0)),(.cv (.int .i64 0)),(.cv (.int .i64 0))]) [],jw 6 (.alloc [(.cv (.int .i64 0)),(.cv (.int .i64 0)),(.cv (.int .i64 0)),(.cv (.int .i64 0)),(.cv (.int .i64 0)),(.cv (.int .i64 0)),(.cv (.int .i64 0))]) [],jq (.store 7) [.v 5,.t 4],jq (.store 7) [.v 6,.t 9]])
 (.seq (.dr [[],[0],[],[2],[],[4],[3,5],[6],[],[8],[7,9],[10],[1,11],[],[13],[12,14],[15,0,1,2,3,4,5,6,7,8,9,10,11,12,13,14,15]] [jF 4 5,jl 0,jF 0 3,jl 2,jF 6 5,jl 4,ja 1 3 5,jl 6,jF 5 6,jl 8,ja 1 7 9,jl 10,jq (.bin .add .int) [.t 1,.t 11],jF 3 6,jl 13,jq (.bin .leq .int) [.t 12,.t 14],jm 4 15])
 .ret)))
abbrev rs51:List RC:=[(.v 4)]
theorem fok51 (p:Bool):FnOk Tryz.prog 51 ⟨ic51,vs51,35,rs51,p⟩:=.mk2 Tryz.func51 (by kernel_rfl) (by kernel_rfl) (by kernel_rfl) (by kernel_rfl) (by kernel_rfl)
abbrev vs52:List Nat:=[0,1,2,5,6,7,16,25,37,67]
def ic52l0:IC:=(.seq (.seq (.region [jv 4,jF 5 1,jG 1 1,jl 2,je 3,jq (.bin .lss .int) [.t 0,.t 4],jt 5,jh 6 true 3,jg 6 true (.bin .eql .int) [.t 7,jn 0],jw 8 .pick [.t 6,.t 8,jB false]])
 (.cond 8 .skip
 (.exit 0)))
 (.seq (.block 1 (.seq (.region [jF 5 1,jG 1 0,jl 1,jv 4,ja 7 2 3,jq (.loadN 7) [.t 4],jw 5 (.alloc [(.cv (.int .i64 0)),(.cv (.int .i64 0)),(.cv (.int .i64 0)),(.cv (.int .i64 0)),(.cv (.int .i64 0)),(.cv (.int .i64 0)),(.cv (.int .i64 0))]) [],jq (.store 7) [.v 5,.t 5]])
 (.seq (.region [jF 0 5,jl 0,jF 2 1,jl 2,je 3,jq (.bin .geq .int) [.t 1,.t 4],jt 5,jg 6 false (.fadd 1) [.v 5],ji 6 false 7,jg 6 false (.fadd 3) [.v 1],ji 6 false 9,jg 6 false (.len false) [.t 10],jg 6 false (.bin .geq .int) [.t 8,.t 11],jq .pick [.t 6,jB true,.t 12],jt 13,jg 14 false (.fadd 2) [.v 5],ji 14 false 15,jg 14 false (.fadd 4) [.v 1],ji 14 false 17,jg 14 false (.len false) [.t 18],jg 14 false (.bin .geq .int) [.t 16,.t 19],jw 9 .pick [.t 14,jB true,.t 20]])
 (.cond 9 (.region [jz 3 4])
 .skip))))
 (.region [jv 4,jq (.bin .add .int) [.t 0,jn 1],jm 4 1])))
def ic52:IC:=(.seq (.region [jb 1 0,jz 2 0])
 (.seq (.region [jF 0 1,jq (.loadN 2) [.t 0],jk 107 [.t 1],jt 2,jx 0 3,jx 1 3,jx 2 3,jt 4,jt 5,jm 3 6])
 (.seq (.seq (.region [jv 3,jw 6 (.bin .eql .int) [.t 0,jn 0]])
 (.cond 6 (.region [jF 5 1,jq (.loadN 2) [.t 0],jk 24 [.t 1],jt 2,jx 0 3,jx 1 3,jx 2 3,jm 3 6])
 .skip))
 (.seq (.seq (.region [jv 3,jw 7 (.bin .eql .int) [.t 0,jn 0]])
 (.cond 7 (.region [jN 7 1,jk 108 [.t 0],jm 3 1])
 .skip))
 (.seq (.seq (.region [jz 4 0])
 (.block 0 (.loop ic52l0)))
 (.seq (.region [jv 3,jm 2 0])
 .ret))))))
abbrev rs52:List RC:=[(.v 2)]
theorem fok52 (p:Bool):FnOk Tryz.prog 52 ⟨ic52,vs52,69,rs52,p⟩:=.mk2 Tryz.func52 (by kernel_rfl) (by kernel_rfl) (by kernel_rfl) (by kernel_rfl) (by kernel_rfl)
abbrev vs139:List Nat:=[0,1,2,4]
def ic139:IC:=(.seq (.region [jb 2 0,jz 3 0])
 (.seq (.region [jF 0 2,jl 0,jF 1 2,jl 2,jF 2 2,jl 4,jq (.bslice 1 3 [(.cv (.int .i64 0)),(.cv (.int .i64 0)),(.cv (.int .i64 0))] [(0,1),(1,1),(2,1)]) [.t 1,.t 3,.t 5],jv 1,ja 1 6 7,jl 8,jm 3 9])
 .ret))
abbrev rs139:List RC:=[(.v 3)]
theorem fok139 (p:Bool):FnOk Tryz.prog 139 ⟨ic139,vs139,15,rs139,p⟩:=.mk2 Tryz.func139 (by kernel_rfl) (by kernel_rfl) (by kernel_rfl) (by kernel_rfl) (by kernel_rfl)
abbrev vs141:List Nat:=[0,1,2,4,5,6,7,8,17,20,31,42,47,57,62,66,76]
def ic141l0:IC:=(.seq (.seq (.region [jv 7,jF 1 4,jl 1,je 2,jw 12 (.bin .lss .int) [.t 0,.t 3]])
 (.cond 12 .skip
 (.exit 2)))
 (.seq (.block 3 (.seq (.region [jF 1 4,jl 0,jv 7,ja 1 1 2,jl 3,jv 6,jk 140 [.t 4,jn 0,.t 5],jw 13 .not [.t 6]])
 (.cond 13 (.seq (.region [jz 3 4])
 .ret)
 .skip)))
 (.region [jv 7,jq (.bin .add .int) [.t 0,jn 1],jm 7 1])))
def ic141l1:IC:=(.seq (.seq (.region [jv 5,jv 1,jw 9 (.bin .lss .int) [.t 0,.t 1]])
 (.cond 9 .skip
 (.exit 0)))
 (.seq (.block 1 (.seq (.dr [[],[0],[],[1,2],[3],[4],[],[6],[5,7]] [jF 0 2,jl 0,jv 5,ja 5 1 2,jG 0 3,jl 4,jF 0 4,jl 6,jw 10 (.bin .eql .str) [.t 5,.t 7]])
 (.cond 10 (.seq (.region [jz 3 5])
 .ret)
 .skip)))
 (.region [jv 5,jq (.bin .add .int) [.t 0,jn 1],jm 5 1])))
def ic141:IC:=(.seq (.region [jb 2 0,jz 3 0])
 (.seq (.region [jF 0 2,jl 0,jv 1,ja 5 1 2,jq (.loadN 5) [.t 3],jw 4 (.alloc [(.cv (.str (bts []))),(.cv .nils),(.cv (.int .i64 0)),(.cv (.int .i64 0)),(.cv (.int .i64 0))]) [],jq (.store 5) [.v 4,.t 4]])
 (.seq (.seq (.region [jF 0 4,jl 0,jk 142 [.t 1],jw 8 .not [.t 2]])
 (.cond 8 (.seq (.region [jz 3 6])
 .ret)
 .skip))
 (.seq (.seq (.region [jz 5 0])
 (.block 0 (.loop ic141l1)))
 (.seq (.region [jF 0 2,jl 0,je 1,jq (.bin .sub .int) [.t 2,jn 1],jm 6 3])
 (.seq (.seq (.region [jF 1 4,jl 0,je 1,jF 0 2,jl 3,je 4,jw 11 (.bin .gtr .int) [.t 2,.t 5]])
 (.cond 11 (.seq (.region [jz 3 3])
 .ret)
 .skip))
 (.seq (.seq (.region [jz 7 0])
 (.block 2 (.loop ic141l0)))
 (.seq (.seq (.region [jF 2 4,jl 0,jv 6,jk 140 [.t 1,jn (-1),.t 2],jw 14 .not [.t 3]])
 (.cond 14 (.seq (.region [jz 3 4])
 .ret)
 .skip))
 (.seq (.seq (.region [jF 2 4,jl 0,jv 1,jw 15 (.bin .eql .int) [.t 1,.t 2]])
 (.cond 15 (.seq (.region [jz 3 2])
 .ret)
 .skip))
 (.seq (.seq (.region [jF 3 4,jl 0,jk 140 [.t 1,jn 0,jn 100],jq .not [.t 2],jt 3,jg 4 false (.fadd 4) [.v 4],ji 4 false 5,jf 4 false 140 [.t 6,jn 0,jn 100],jg 4 false .not [.t 7],jw 16 .pick [.t 4,jB true,.t 8]])
 (.cond 16 (.seq (.region [jz 3 7])
 .ret)
 .skip))
 (.seq (.region [jz 3 0])
 .ret)))))))))))
abbrev rs141:List RC:=[(.v 3)]
theorem fok141 (p:Bool):FnOk Tryz.prog 141 ⟨ic141,vs141,77,rs141,p⟩:=.mk2 Tryz.func141 (by kernel_rfl) (by kernel_rfl) (by kernel_rfl) (by kernel_rfl) (by kernel_rfl)
abbrev vs143:List Nat:=[0,1,4,5,9,17]
def ic143l0:IC:=(.seq (.seq (.region [jv 3,jv 0,je 1,jw 4 (.bin .lss .int) [.t 0,.t 2]])
 (.cond 4 .skip
 (.exit 0)))
 (.seq (.block 1 (.seq (.region [jv 0,jv 3,ja 1 0 1,jl 2,jv 1,jw 5 (.bin .eql .str) [.t 3,.t 4]])
 (.cond 5 (.seq (.region [jv 3,jm 2 0])
 .ret)
 .skip)))
 (.region [jv 3,jq (.bin .add .int) [.t 0,jn 1],jm 3 1])))
def ic143:IC:=(.seq (.region [jz 2 0])
 (.seq (.seq (.region [jz 3 0])
 (.block 0 (.loop ic143l0)))
 (.seq (.region [jz 2 (-1)])
 .ret)))
abbrev rs143:List RC:=[(.v 2)]
theorem fok143 (p:Bool):FnOk Tryz.prog 143 ⟨ic143,vs143,19,rs143,p⟩:=.mk2 Tryz.func143 (by kernel_rfl) (by kernel_rfl) (by kernel_rfl) (by kernel_rfl) (by kernel_rfl)
abbrev vs144:List Nat:=[0,1,2,4,5,8,12,25,37]
def ic144l0:IC:=(.seq (.seq (.region [jv 4,jv 1,je 1,jw 6 (.bin .lss .int) [.t 0,.t 2]])
 (.cond 6 .skip
 (.exit 0)))
 (.seq (.block 1 (.seq (.seq (.dr [[],[],[0,1],[2],[3],[],[5],[6],[7],[4,8],[9]] [jv 1,jv 4,ja 2 0 1,jG 0 2,jl 3,jF 0 2,jl 5,je 6,jq (.bin .sub .int) [.t 7,jn 1],jk 140 [.t 4,jn 0,.t 8],jw 7 .not [.t 9]])
 (.cond 7 (.seq (.region [jz 3 4])
 .ret)
 .skip))
 (.seq (.dr [[],[],[0,1],[2],[3],[],[5],[6],[7],[8],[4,9,8],[10]] [jv 1,jv 4,ja 2 0 1,jG 1 2,jl 3,jF 1 2,jl 5,je 6,jk 83 [.t 7],jq (.bin .sub .int) [.t 8,jn 1],jk 140 [.t 4,jn 0,.t 9],jw 8 .not [.t 10]])
 (.cond 8 (.seq (.region [jz 3 7])
 .ret)
 .skip))))
 (.region [jv 4,jq (.bin .add .int) [.t 0,jn 1],jm 4 1])))
def ic144:IC:=(.seq (.region [jb 2 0,jz 3 0])
 (.seq (.seq (.region [jv 1,je 0,jw 5 (.bin .gtr .int) [.t 1,jn 40]])
 (.cond 5 (.seq (.region [jz 3 3])
 .ret)
 .skip))
 (.seq (.seq (.region [jz 4 0])
 (.block 0 (.loop ic144l0)))
 (.seq (.region [jz 3 0])
 .ret))))
abbrev rs144:List RC:=[(.v 3)]
theorem fok144 (p:Bool):FnOk Tryz.prog 144 ⟨ic144,vs144,38,rs144,p⟩:=.mk2 Tryz.func144 (by kernel_rfl) (by kernel_rfl) (by kernel_rfl) (by kernel_rfl) (by kernel_rfl)
abbrev vs64:List Nat:=[0,1,2,6]
def ic64:IC:=(.seq (.region [jw 3 .mv [jB false]])
 (.seq (.region [jv 0,jv 1,jq (.bin .geq .int) [.t 0,.t 1],jt 2,jh 3 true 0,jh 3 true 2,jg 3 true (.bin .leq .int) [.t 4,.t 5],jq .pick [.t 3,.t 6,jB false],jm 3 7])
 .ret))
abbrev rs64:List RC:=[(.v 3)]
theorem fok64 (p:Bool):FnOk Tryz.prog 64 ⟨ic64,vs64,15,rs64,p⟩:=.mk2 Tryz.func64 (by kernel_rfl) (by kernel_rfl) (by kernel_rfl) (by kernel_rfl) (by kernel_rfl)
abbrev vs70:List Nat:=[0,1,2,4,5,6,17,21,29,34]
def ic70l0:IC:=(.seq (.seq (.region [jv 5,jv 4,je 1,jw 7 (.bin .lss .int) [.t 0,.t 2]])
 (.cond 7 .skip
 (.exit 0)))
 (.seq (.block 1 (.seq (.region [jv 4,jv 5,ja 1 0 1,jl 2,jk 64 [.t 3,jn 0,jn 120],jw 8 .not [.t 4]])
 (.cond 8 (.seq (.region [jz 3 7])
 .ret)
 .skip)))
 (.region [jv 5,jq (.bin .add .int) [.t 0,jn 1],jm 5 1])))
def ic70:IC:=(.seq (.region [jb 2 0,jz 3 0])
 (.seq (.region [jF 0 2,jl 0,jv 1,ja 1 1 2,jl 3,jm 4 4])
 (.seq (.seq (.region [jv 4,je 0,jF 0 2,jl 2,je 3,jw 6 (.bin .neq .int) [.t 1,.t 4]])
 (.cond 6 (.seq (.region [jz 3 3])
 .ret)
 .skip))
 (.seq (.seq (.region [jz 5 0])
 (.block 0 (.loop ic70l0)))
 (.seq (.seq (.region [jv 4,jv 1,ja 1 0 1,jl 2,jw 9 (.bin .neq .int) [.t 3,jn 0]])
 (.cond 9 (.seq (.region [jz 3 2])
 .ret)
 .skip))
 (.seq (.region [jz 3 0])
 .ret))))))
abbrev rs70:List RC:=[(.v 3)]
theorem fok70 (p:Bool):FnOk Tryz.prog 70 ⟨ic70,vs70,35,rs70,p⟩:=.mk2 Tryz.func70 (by kernel_rfl) (by kernel_rfl) (by kernel_rfl) (by kernel_rfl) (by kernel_rfl)
abbrev vs71:List Nat:=[0,1,2,3,4,5,6,23,25,33,38,56]
def ic71l0:IC:=(.seq (.seq (.region [jv 6,jw 8 (.bin .lss .int) [.t 0,jn 3]])
 (.cond 8 .skip
 (.exit 0)))
 (.seq (.block 1 (.seq (.region [jv 5,jv 6,ja 1 0 1,jl 2,jk 64 [.t 3,jn 0,jn 7],jw 9 .not [.t 4]])
 (.cond 9 (.seq (.region [jz 4 7])
 .ret)
 .skip)))
 (.region [jv 6,jq (.bin .add .int) [.t 0,jn 1],jm 6 1])))
def ic71:IC:=(.seq (.region [jb 2 0,jb 3 1,jz 4 0])
 (.seq (.region [jF 0 3,jl 0,jF 1 3,jl 2,jF 2 3,jl 4,jq (.bslice 1 3 [(.cv (.int .i64 0)),(.cv (.int .i64 0)),(.cv (.int .i64 0))] [(0,1),(1,1),(2,1)]) [.t 1,.t 3,.t 5],jm 5 6])
 (.seq (.seq (.region [jF 3 3,jl 0,jk 64 [.t 1,jn 0,jn 1440],jq .not [.t 2],jt 3,jg 4 false (.fadd 4) [.v 3],ji 4 false 5,jf 4 false 64 [.t 6,jn 0,jn 1440],jg 4 false .not [.t 7],jw 7 .pick [.t 4,jB true,.t 8]])
 (.cond 7 (.seq (.region [jz 4 7])
 .ret)
 .skip))
 (.seq (.seq (.region [jz 6 0])
 (.block 0 (.loop ic71l0)))
 (.seq (.seq (.region [jF 3 3,jl 0,jF 4 3,jl 2,jw 10 (.bin .geq .int) [.t 1,.t 3]])
 (.cond 10 (.seq (.region [jz 4 2])
 .ret)
 .skip))
 (.seq (.seq (.region [jF 5 3,jl 0,jF 0 2,jl 2,je 3,jq (.bin .sub .int) [.t 4,jn 1],jk 64 [.t 1,jn 0,.t 5],jq .not [.t 6],jt 7,jg 8 false (.fadd 6) [.v 3],ji 8 false 9,jg 8 false (.fadd 0) [.v 2],ji 8 false 11,jg 8 false (.len false) [.t 12],jg 8 false (.bin .sub .int) [.t 13,jn 1],jf 8 false 64 [.t 10,jn 0,.t 14],jg 8 false .not [.t 15],jw 11 .pick [.t 8,jB true,.t 16]])
 (.cond 11 (.seq (.region [jz 4 4])
 .ret)
 .skip))
 (.seq (.region [jz 4 0])
 .ret)))))))
abbrev rs71:List RC:=[(.v 4)]
theorem fok71 (p:Bool):FnOk Tryz.prog 71 ⟨ic71,vs71,57,rs71,p⟩:=.mk2 Tryz.func71 (by kernel_rfl) (by kernel_rfl) (by kernel_rfl) (by kernel_rfl) (by kernel_rfl)
abbrev vs105:List Nat:=[0,1,2,3,6,7,8,9,14,25,48]
def ic105l0:IC:=(.seq (.seq (.dr [[],[0],[1],[2],[3,2],[2],[2],[6,2],[5,7,2],[8,2],[4,9,2],[10,2],[11,2],[2],[13,2],[2],[14,15,2],[16,2],[17,2],[12,18,2],[2,19]] [jv 7,jq (.bin .gtr .int) [.t 0,jn 0],jt 1,jg 2 true (.fadd 1) [.v 3],ji 2 true 3,jh 2 true 5,jh 2 true 7,jg 2 true (.bin .sub .int) [.t 6,jn 1],jg 2 true (.iaS 1) [.t 5,.t 7],ji 2 true 8,jg 2 true (.iaS 7) [.t 4,.t 9],jg 2 true (.fadd 3) [.t 10],ji 2 true 11,jg 2 true (.fadd 1) [.v 3],ji 2 true 13,jh 2 true 6,jg 2 true (.iaS 7) [.t 14,.t 15],jg 2 true (.fadd 3) [.t 16],ji 2 true 17,jg 2 true (.bin .gtr .int) [.t 12,.t 18],jw 10 .pick [.t 2,.t 19,jB false]])
 (.cond 10 .skip
 (.exit 2)))
 (.block 3 (.region [jv 7,jq (.bin .sub .int) [.t 0,jn 1],jm 7 1])))
def ic105l1:IC:=(.seq (.seq (.region [jv 6,jF 1 3,jl 1,je 2,jw 8 (.bin .lss .int) [.t 0,.t 3]])
 (.cond 8 .skip
 (.exit 0)))
 (.seq (.block 1 (.seq (.seq (.region [jF 1 3,jl 0,jv 6,ja 7 1 2,jq (.loadN 7) [.t 3],jv 1,jk 139 [.t 4,.t 5],jv 2,jw 9 (.bin .neq .int) [.t 6,.t 7]])
 (.cond 9 (.exit 1)
 .skip))
 (.seq (.region [jv 5,je 0,jm 7 1])
 (.seq (.block 2 (.loop ic105l0))
 (.dr [[],[],[],[1,2],[0,3],[],[5],[4,6,4],[],[],[8,9],[7,10,7],[11,11,0,1,2,3,4,5,6,7,8,9,10,11]] [jq (.bslice 1 0 [] []) [],jv 5,jv 7,jq (.slS 1 false true) [.t 1,.t 2],jq (.append 1 8) [.t 0,.t 3],jv 6,jq (.bslice 1 1 [(.cv (.int .i64 0))] [(0,1)]) [.t 5],jq (.append 1 8) [.t 4,.t 6],jv 5,jv 7,jq (.slS 1 true false) [.t 8,.t 9],jq (.append 1 8) [.t 7,.t 10],jm 5 11])))))
 (.region [jv 6,jq (.bin .add .int) [.t 0,jn 1],jm 6 1])))
def ic105:IC:=(.seq (.region [jb 3 0,jw 4 .mv [jS]])
 (.seq (.region [jw 5 .mv [jS]])
 (.seq (.seq (.region [jz 6 0])
 (.block 0 (.loop ic105l1)))
 (.seq (.region [jv 5,jm 4 0])
 .ret))))
abbrev rs105:List RC:=[(.v 4)]
theorem fok105 (p:Bool):FnOk Tryz.prog 105 ⟨ic105,vs105,64,rs105,p⟩:=.mk2 Tryz.func105 (by kernel_rfl) (by kernel_rfl) (by kernel_rfl) (by kernel_rfl) (by kernel_rfl)
abbrev vs107:List Nat:=[0,1,2,3,4,5,6,7,8,9,20,25,32,39,48,60,66,77,93]
def ic107l0:IC:=(.seq (.seq (.region [jv 9,jF 0 1,jl 1,jv 8,ja 5 2 3,jG 1 4,jl 5,je 6,jw 17 (.bin .lss .int) [.t 0,.t 7]])
 (.cond 17 .skip
 (.exit 6)))
 (.seq (.block 7 (.seq (.dr [[],[],[1],[],[2,3],[4],[5],[],[6,7],[8],[0,9],[],[10,11],[12]] [jN 2 1,jF 0 1,jl 1,jv 8,ja 5 2 3,jG 1 4,jl 5,jv 9,ja 1 6 7,jl 8,jk 109 [.t 0,.t 9],jv 8,ja 1 10 11,jw 18 .load1 [.t 12]])
 (.cond 18 (.seq (.region [jv 8,jz 2 4,jm 3 0,jz 4 9])
 .ret)
 .skip)))
 (.region [jv 9,jq (.bin .add .int) [.t 0,jn 1],jm 9 1])))
def ic107l1:IC:=(.seq (.seq (.region [jv 8,jF 0 1,jl 1,je 2,jw 16 (.bin .lss .int) [.t 0,.t 3]])
 (.cond 16 .skip
 (.exit 4)))
 (.seq (.block 5 (.seq (.region [jz 9 0])
 (.block 6 (.loop ic107l0))))
 (.region [jv 8,jq (.bin .add .int) [.t 0,jn 1],jm 8 1])))
def ic107l2:IC:=(.seq (.seq (.region [jv 7,jF 1 1,jl 1,je 2,jw 13 (.bin .lss .int) [.t 0,.t 3]])
 (.cond 13 .skip
 (.exit 2)))
 (.seq (.block 3 (.seq (.seq (.region [jF 1 1,jl 0,jv 7,ja 1 1 2,jl 3,jk 142 [.t 4],jw 14 .not [.t 5]])
 (.cond 14 (.seq (.region [jv 7,jz 2 3,jm 3 0,jz 4 6])
 .ret)
 .skip))
 (.seq (.dr [[],[0],[],[1,2],[],[4],[],[5,6],[7],[3,8],[9]] [jF 1 1,jl 0,jv 7,jq (.slS 1 false true) [.t 1,.t 2],jF 1 1,jl 4,jv 7,ja 1 5 6,jl 7,jk 143 [.t 3,.t 8],jw 15 (.bin .geq .int) [.t 9,jn 0]])
 (.cond 15 (.seq (.region [jv 7,jz 2 3,jm 3 0,jz 4 5])
 .ret)
 .skip))))
 (.region [jv 7,jq (.bin .add .int) [.t 0,jn 1],jm 7 1])))
def ic107l3:IC:=(.seq (.seq (.region [jv 5,jF 0 1,jl 1,je 2,jw 11 (.bin .lss .int) [.t 0,.t 3]])
 (.cond 11 .skip
 (.exit 0)))
 (.seq (.block 1 (.seq (.region [jN 2 1,jv 5,jk 141 [.t 0,.t 1],jm 6 2])
 (.seq (.region [jv 6,jw 12 (.bin .neq .int) [.t 0,jn 0]])
 (.cond 12 (.seq (.region [jv 5,jv 6,jz 2 2,jm 3 0,jm 4 1])
 .ret)
 .skip))))
 (.region [jv 5,jq (.bin .add .int) [.t 0,jn 1],jm 5 1])))
def ic107:IC:=(.seq (.region [jb 1 0,jz 2 0,jz 3 0,jz 4 0])
 (.seq (.seq (.region [jF 0 1,jl 0,je 1,jk 140 [.t 2,jn 1,jn 12],jq .not [.t 3],jt 4,jg 5 false (.fadd 1) [.v 1],ji 5 false 6,jg 5 false (.len false) [.t 7],jg 5 false (.bin .gtr .int) [.t 8,jn 8],jw 10 .pick [.t 5,jB true,.t 9]])
 (.cond 10 (.seq (.region [jz 2 1,jz 3 0,jz 4 3])
 .ret)
 .skip))
 (.seq (.seq (.region [jz 5 0])
 (.block 0 (.loop ic107l3)))
 (.seq (.seq (.region [jz 7 0])
 (.block 2 (.loop ic107l2)))
 (.seq (.seq (.region [jz 8 0])
 (.block 4 (.loop ic107l1)))
 (.seq (.region [jz 2 0,jz 3 0,jz 4 0])
 .ret))))))
abbrev rs107:List RC:=[(.v 2),(.v 3),(.v 4)]
theorem fok107 (p:Bool):FnOk Tryz.prog 107 ⟨ic107,vs107,95,rs107,p⟩:=.mk2 Tryz.func107 (by kernel_rfl) (by kernel_rfl) (by kernel_rfl) (by kernel_rfl) (by kernel_rfl)
abbrev vs108:List Nat:=[0,1,2,3,4,5,6,7,8,24,34,44,49,63,74,79,84,95,109]
def ic108l0:IC:=(.seq (.seq (.region [jv 8,jF 4 1,jl 1,je 2,jw 16 (.bin .lss .int) [.t 0,.t 3]])
 (.cond 16 .skip
 (.exit 4)))
 (.seq (.block 5 (.seq (.seq (.region [jF 4 1,jl 0,jv 8,ja 2 1 2,jG 0 3,jl 4,jv 3,jk 64 [.t 5,jn 0,.t 6],jw 17 .not [.t 7]])
 (.cond 17 (.seq (.region [jz 2 4])
 .ret)
 .skip))
 (.seq (.dr [[],[0],[],[1,2],[3],[4],[],[6],[7],[8],[9],[10],[5,11,10],[12]] [jF 4 1,jl 0,jv 8,ja 2 1 2,jG 1 3,jl 4,jF 0 1,jG 1 6,jl 7,je 8,jk 83 [.t 9],jq (.bin .sub .int) [.t 10,jn 1],jk 64 [.t 5,jn 0,.t 11],jw 18 .not [.t 12]])
 (.cond 18 (.seq (.region [jz 2 7])
 .ret)
 .skip))))
 (.region [jv 8,jq (.bin .add .int) [.t 0,jn 1],jm 8 1])))
def ic108l1:IC:=(.seq (.seq (.region [jv 5,jF 3 1,jl 1,je 2,jw 12 (.bin .lss .int) [.t 0,.t 3]])
 (.cond 12 .skip
 (.exit 2)))
 (.seq (.block 3 (.seq (.region [jF 3 1,jl 0,jv 5,ja 3 1 2,jq (.loadN 3) [.t 3],jw 6 (.alloc [(.cv .nils),(.cv (.int .i64 0)),(.cv (.int .i64 0))]) [],jq (.store 3) [.v 6,.t 4]])
 (.seq (.region [jF 0 1,jq (.loadN 2) [.t 0],jF 0 6,jl 2,jk 144 [.t 1,.t 3],jm 7 4])
 (.seq (.seq (.region [jv 7,jw 13 (.bin .neq .int) [.t 0,jn 0]])
 (.cond 13 (.seq (.region [jv 7,jm 2 0])
 .ret)
 .skip))
 (.seq (.seq (.region [jF 1 6,jl 0,jk 64 [.t 1,jn 0,jn 1440],jq .not [.t 2],jt 3,jg 4 false (.fadd 2) [.v 6],ji 4 false 5,jf 4 false 64 [.t 6,jn 0,jn 1440],jg 4 false .not [.t 7],jw 14 .pick [.t 4,jB true,.t 8]])
 (.cond 14 (.seq (.region [jz 2 7])
 .ret)
 .skip))
 (.seq (.region [jF 1 6,jl 0,jF 2 6,jl 2,jw 15 (.bin .gtr .int) [.t 1,.t 3]])
 (.cond 15 (.seq (.region [jz 2 2])
 .ret)
 .skip)))))))
 (.region [jv 5,jq (.bin .add .int) [.t 0,jn 1],jm 5 1])))
def ic108l2:IC:=(.seq (.seq (.region [jv 4,jF 2 1,jl 1,je 2,jw 10 (.bin .lss .int) [.t 0,.t 3]])
 (.cond 10 .skip
 (.exit 0)))
 (.seq (.block 1 (.seq (.region [jF 2 1,jl 0,jv 4,ja 1 1 2,jl 3,jv 3,jk 64 [.t 4,jn 0,.t 5],jw 11 .not [.t 6]])
 (.cond 11 (.seq (.region [jz 2 4])
 .ret)
 .skip)))
 (.region [jv 4,jq (.bin .add .int) [.t 0,jn 1],jm 4 1])))
def ic108:IC:=(.seq (.region [jb 1 0,jz 2 0])
 (.seq (.seq (.region [jF 2 1,jl 0,je 1,jq (.bin .gtr .int) [.t 2,jn 8],jt 3,jg 4 false (.fadd 3) [.v 1],ji 4 false 5,jg 4 false (.len false) [.t 6],jg 4 false (.bin .gtr .int) [.t 7,jn 8],jq .pick [.t 4,jB true,.t 8],jt 9,jg 10 false (.fadd 4) [.v 1],ji 10 false 11,jg 10 false (.len false) [.t 12],jg 10 false (.bin .gtr .int) [.t 13,jn 8],jw 9 .pick [.t 10,jB true,.t 14]])
 (.cond 9 (.seq (.region [jz 2 3])
 .ret)
 .skip))
 (.seq (.region [jF 0 1,jG 0 0,jl 1,je 2,jq (.bin .sub .int) [.t 3,jn 1],jm 3 4])
 (.seq (.seq (.region [jz 4 0])
 (.block 0 (.loop ic108l2)))
 (.seq (.seq (.region [jz 5 0])
 (.block 2 (.loop ic108l1)))
 (.seq (.seq (.region [jz 8 0])
 (.block 4 (.loop ic108l0)))
 (.seq (.region [jz 2 0])
 .ret)))))))
abbrev rs108:List RC:=[(.v 2)]
theorem fok108 (p:Bool):FnOk Tryz.prog 108 ⟨ic108,vs108,110,rs108,p⟩:=.mk2 Tryz.func108 (by kernel_rfl) (by kernel_rfl) (by kernel_rfl) (by kernel_rfl) (by kernel_rfl)
theorem Qeg {lo hi:Int} {zs:List Int} {j:Nat} (hj:j<zs.length) (h:inB (zs[j]?.getD 0) lo hi=false):outF lo hi zs=true:=by
 cases ho:outF lo hi zs with
 | true=>rfl
 | false=>rw[PW.1 ho j hj] at h;cases h
end Go.Proofs.YtgkidpolomhghaaGreatDoor.AM
namespace Go.Proofs.YtgkidpolomhghaaGreatDoor.AM
variable [Dr]
open Go
variable {P:Program} {fx:Fx} {s:St} {Q:Exit→St→Prop} {f:FuncId}
theorem WB.later {m:LM} {X:Nat→Prop} {en:En} {w:World} {c:Code} {s':St} {m':LM} {w':World} {ac':Act} (h:WB f P fx c s' Q) (hr:rok fx m) (hs':SRel fx m' X en s' ac' w') (hst:Step fx.n0 m X w m' w') :
  InF f (fen m fx.r) 0 P c (Lift fx m X en w Q) ac' w':=by
 rw[← EQ hr hst]
 exact InF.mono (h m' X en ac' w' hs' (EH hr hst)) fun e ac2 w2 ⟨s2,m2,h1,h2,h3⟩=>⟨s2,m2,h1,h2,hst.trans h3⟩
end Go.Proofs.YtgkidpolomhghaaGreatDoor.AM
namespace Go.Proofs.YtgkidpolomhghaaGreatDoor.AM
variable [Dr]
open Go Pl
section
variable {cs:List Cls} {k:Nat}
theorem cls_0 (h:k<cs.length):(DZ cs)[k*5]? = some (.str (cs[k]!).nm):=flat_get TW h (j:=0) (by omega)
end
theorem c86 (co:List ByteArray) (x:ByteArray) (hz:co.length<2 ^ 63):PC Tryz.prog 143 [.cv (strR co),.cv (.str x)] (.i (FP co x)):=by
 refine ⟨ZF (fok143 true) (QC rfl) ?_,rfl⟩
 simp only[ic143,evA,simprocAttr]
 refine ZW co.length (fun i s=>(∀ j,j<i→decide (co[j]! = x)=false)∧∃ v4 v5,s=⟨[.cv (strR co),.cv (.str x),.i 0,.i i,v4,v5],[]⟩) ?_ 0 (QF _) ⟨by omega,_,_,rfl⟩
 rintro i s hi ⟨hall,v4,v5,rfl⟩
 by_cases h:i<co.length
 ·simp only[ic143l0,QJ,h,XP h,BK h,binS,str_eq,evA,simprocAttr]
  cases hp:decide (co[i]! = x)
  ·simp only[Q6 (show i+1<2 ^ 63 by omega),evA,simprocAttr]
   refine ZL (by first | trivial | omega) ⟨fun j hj=>?_,_,_,rfl⟩
   rcases QQ.1 hj with hj | rfl
   ·exact hall j hj
   ·exact hp
  ·simp only[evA,simprocAttr]
   rw[show FP co x=(i:Int) from EK (p:=fun i=>decide (co[i]! = x)) h hall hp]
   exact frz
 ·simp only[ic143l0,QJ,h,evA,simprocAttr]
  have:i=co.length:=by omega
  subst this
  rw[show FP co x = -1 from EL (p:=fun i=>decide (co[i]! = x)) hall]
  exact frz
theorem c85 (s:Sys) (hs:SSz s) (i:Nat) (hi:i<s.cl.length):PC Tryz.prog 141 [sysV s,.i i] (.i (VR s i)):=by
 refine ⟨ZF (fok141 true) (QC rfl) ?_,rfl⟩
 have hcl:=hs.cl
 have hnm:=hs.nm i hi
 have hin:=hs.inc i hi
 have hw:IntKind.i64.wrap ((s.cl.length:Int)-1)=(s.cl.length:Int)-1:=ZC (by omega)
 have hld:∀ σ,YF 5 [.cv (.rp (DZ s.cl) (i*5))] σ=some (clsA s.cl[i]!,σ):=Qaz hi
 have hia:∀ σ,VP 5 [.cv (clsR s.cl),.cv (.int .i64 i)] σ=some (.cv (.rp (DZ s.cl) (i*5)),σ):=GR hi
 have h21:=c21 (s.cl[i]!).nm hnm
 unfold VR
 generalize s.cl[i]! = c at *
 simp only[ic141,WI,cellsOf,hld,hia,hw,evA,simprocAttr]
 refine h21.call frz ?_
 cases h1:JH c.nm with
 | false =>
  rw[if_pos rfl]
  simp only[evA,simprocAttr]
  exact frz
 | true =>
 rw[if_neg (by decide)]
 simp only[evA,simprocAttr]
 refine ZW i (fun k s'=>(∀ j,j<k→decide ((s.cl[j]!).nm=c.nm)=false)∧∃ v6 v7 v9 v10 v11 v12 v13 v14 v15 v16,s'=⟨[sysV s,.i i,.ptr 0 0,.i 0,.ptr 1 0,.i k,v6,v7,.b false,v9,v10,v11,v12,v13,v14,v15,v16],[.cells [.cv (clsR s.cl),.cv (strR s.co)],.cells [.cv (.str c.nm),ints c.inc,.i c.need,.i c.age,.i c.term]]⟩) ?_ 0 (QF _) ⟨by omega,_,_,_,_,_,_,_,_,_,_,rfl⟩
 rintro k s' hk ⟨hall,v6,v7,v9,v10,v11,v12,v13,v14,v15,v16,rfl⟩
 by_cases hki:k<i
 ·have hk2:k<s.cl.length:=by omega
  simp only[ic141l1,QJ,hki,evA,simprocAttr]
  refine DW_s [] [] hmix (by kernel_rfl) rfl ?_
  simp only[GR hk2,cls_0 hk2,binS,str_eq,evA,simprocAttr]
  cases h2:decide ((s.cl[k]!).nm=c.nm) with
  | true =>
   rw[if_pos (U8.2 ⟨k,hki,h2⟩)]
   simp only[evA,simprocAttr]
   exact frz
  | false =>
   simp only[Q6 (show k+1<2 ^ 63 by omega),evA,simprocAttr]
   refine ZL (by first | trivial | omega) ⟨fun j hj=>?_,_,_,_,_,_,_,_,_,_,_,rfl⟩
   rcases QQ.1 hj with hj | rfl
   ·exact hall j hj
   ·exact h2
 have hki':k=i:=by omega
 subst hki'
 have h2:anyN (fun j=>decide ((s.cl[j]!).nm=c.nm)) k=false:=F8.2 hall
 rw[if_neg (by rw[h2];decide)]
 by_cases h3:s.cl.length<c.inc.length
 ·rw[if_pos (show (c.inc.length:Int)>s.cl.length by omega)]
  simp only[ic141l1,QJ,hki,hw,gt_iff_lt,h3,evA,simprocAttr]
  exact frz
 rw[if_neg (show ¬ (c.inc.length:Int)>s.cl.length by omega)]
 simp only[ic141l1,QJ,hki,hw,gt_iff_lt,h3,evA,simprocAttr]
 refine ZW c.inc.length (fun m s'=>(∀ j,j<m→inB (c.inc[j]?.getD 0) 0 ((s.cl.length:Int)-1)=true)∧∃ v9 v10 v12 v13 v14 v15 v16,s'=⟨[sysV s,.i k,.ptr 0 0,.i 0,.ptr 1 0,.i k,.i ((s.cl.length:Int)-1),.i m,.b false,v9,v10,.b false,v12,v13,v14,v15,v16],[.cells [.cv (clsR s.cl),.cv (strR s.co)],.cells [.cv (.str c.nm),ints c.inc,.i c.need,.i c.age,.i c.term]]⟩) ?_ 0 (QF _) ⟨by omega,_,_,_,_,_,_,_,rfl⟩
 rintro m s' hm ⟨hal2,v9,v10,v12,v13,v14,v15,v16,rfl⟩
 by_cases hmi:m<c.inc.length
 ·simp only[ic141l0,QJ,hmi,evA,simprocAttr]
  refine (c59i (c.inc[m]?.getD 0) 0 ((s.cl.length:Int)-1)).call frz ?_
  cases h4:inB (c.inc[m]?.getD 0) 0 ((s.cl.length:Int)-1) with
  | false =>
   rw[if_pos (by rw[Qeg hmi h4];rfl)]
   simp only[evA,simprocAttr]
   exact frz
  | true =>
   simp only[Q6 (show m+1<2 ^ 63 by omega),evA,simprocAttr]
   refine ZL (by first | trivial | omega) ⟨fun j hj=>?_,_,_,_,_,_,_,_,rfl⟩
   rcases QQ.1 hj with hj | rfl
   ·exact hal2 j hj
   ·exact h4
 have hmi':m=c.inc.length:=by omega
 subst hmi'
 rw[PW.2 hal2,Y3]
 simp only[ic141l0,QJ,hmi,evA,simprocAttr]
 refine (c59i c.need (-1) ((s.cl.length:Int)-1)).call frz ?_
 cases h5:inB c.need (-1) ((s.cl.length:Int)-1) with
 | false =>
  rw[if_pos (show (!false)=true from rfl)]
  simp only[evA,simprocAttr]
  exact frz
 | true =>
 rw[if_neg (show ¬ ((!true)=true) by decide)]
 simp only[evA,simprocAttr]
 cases h6:(c.need == (k:Int)) with
 | true =>
  rw[if_pos rfl]
  simp only[evA,simprocAttr]
  exact frz
 | false =>
 rw[if_neg (by decide)]
 have ho:outF 0 100 [c.age,c.term]=(!inB c.age 0 100 || !inB c.term 0 100):=by
  have e1:=FW 0 100 c.age
  have e2:=FW 0 100 c.term
  simp only[outF,List.any_cons,List.any_nil,Bool.or_false] at e1 e2 ⊢
  rw[e1,e2]
 rw[ho]
 simp only[evA,simprocAttr]
 refine (c59i c.age 0 100).call frz ?_
 cases h7:inB c.age 0 100 with
 | false =>
  rw[if_pos (show (!false || !inB c.term 0 100)=true from rfl)]
  simp only[evA,simprocAttr]
  exact frz
 | true =>
 simp only[evA,simprocAttr]
 refine (c59i c.term 0 100).call frz ?_
 cases h8:inB c.term 0 100 with
 | false =>
  rw[if_pos (show (!true || !false)=true from rfl)]
  simp only[evA,simprocAttr]
  exact frz
 | true =>
  rw[if_neg (show ¬ ((!true || !true)=true) by decide)]
  simp only[evA,simprocAttr]
  exact frz
theorem codIx {s:Sys} {i:Nat} (hi:i<s.co.length):decide (FP (s.co.take i) s.co[i]!≥0)=anyN (fun k=>decide (s.co[k]! = s.co[i]!)) i:=by
 have htl:(s.co.take i).length=i:=by simp;omega
 rw[FP,OA,htl,Q8,U8,U8]
 constructor <;> rintro ⟨k,hk,h⟩ <;> refine ⟨k,hk,?_⟩
 ·rwa [getElem!_pos _ k (by omega),List.getElem_take,← getElem!_pos s.co k (by omega)] at h
 ·rw[getElem!_pos _ k (by omega),List.getElem_take,← getElem!_pos s.co k (by omega)];exact h
theorem c54 (s:Sys) (hs:SSz s):PC Tryz.prog 107 [sysV s] (chkV s):=by
 refine ⟨ZF (fok107 true) (QC rfl) ?_,rfl⟩
 have hcl:=hs.cl
 have hco:=hs.co
 have he2:∀ i,dnB s i=true→dnE s i=9:=fun i h=>by unfold dnE;rw[if_pos h]
 have he3:∀ i,dnB s i=false→dnE s i=0:=fun i h=>by unfold dnE;rw[if_neg (by rw[h];decide)]
 unfold chkV
 simp only[ic107,WI,cellsOf,evA,simprocAttr]
 refine (c59i s.cl.length 1 12).call frz ?_
 cases h1:inB s.cl.length 1 12 with
 | false =>
  have he:sysE s=(1,0,3):=by unfold sysE;rw[h1];rfl
  rw[he]
  simp only[ZY,evA,simprocAttr]
  exact frz
 | true =>
 cases h2:decide ((s.co.length:Int)>8) with
 | true =>
  have he:sysE s=(1,0,3):=by unfold sysE;rw[h1,h2];rfl
  rw[he]
  simp only[Y2,h2,evA,simprocAttr]
  exact frz
 | false =>
 have hn12:s.cl.length≤12:=by rw[VB] at h1;omega
 have e1:sysE s=if (XZ (VR s) 0 s.cl.length).2≠0 then (2,XZ (VR s) 0 s.cl.length) else if (XZ (KM s) 0 s.co.length).2≠0 then (3,XZ (KM s) 0 s.co.length) else if (XZ (dnE s) 0 s.cl.length).2≠0 then (4,XZ (dnE s) 0 s.cl.length) else (0,0,0):=by
  unfold sysE;rw[h1,h2];rfl
 rw[e1]
 simp only[Y2,h2,evA,simprocAttr]
 refine ZW s.cl.length (fun i s'=>(∀ j,j<i→VR s j=0)∧∃ v2 v3 v4 v6 v7 v8 v9 v11 v12 v13 v14 v15 v16 v17 v18,s'=⟨[sysV s,.ptr 0 0,v2,v3,v4,.i i,v6,v7,v8,v9,.b false,v11,v12,v13,v14,v15,v16,v17,v18],[.cells [.cv (clsR s.cl),.cv (strR s.co)]]⟩) ?_ 0 (QF _) ⟨by omega,_,_,_,_,_,_,_,_,_,_,_,_,_,_,_,rfl⟩
 rintro i s' hi ⟨hall,v2,v3,v4,v6,v7,v8,v9,v11,v12,v13,v14,v15,v16,v17,v18,rfl⟩
 by_cases hin:i<s.cl.length
 ·simp only[ic107l3,QJ,hin,evA,simprocAttr]
  refine (c85 s hs i hin).call frz ?_
  by_cases hg:VR s i=0
  ·have hb:(VR s i != 0)=false:=by simpa using hg
   simp only[hb,Q6 (show i+1<2 ^ 63 by omega),evA,simprocAttr]
   refine ZL (by first | trivial | omega) ⟨fun j hj=>?_,_,_,_,_,_,_,_,_,_,_,_,_,_,_,_,rfl⟩
   rcases QQ.1 hj with hj | rfl
   ·exact hall j hj
   ·exact hg
  ·have hb:(VR s i != 0)=true:=by simpa using hg
   rw[VF s.cl.length 0 i (QF _) (by omega) (fun j _ hj=>hall j hj) hg,if_pos hg]
   simp only[hb,evA,simprocAttr]
   exact frz
 have hin':i=s.cl.length:=by omega
 subst hin'
 have hok:OkI s:=Qch (by rw[JY s.cl.length 0 fun j _ hj=>hall j (by omega)])
 rw[JY s.cl.length 0 fun j _ hj=>hall j (by omega),if_neg (show ¬ ((0:Int)≠0) by decide)]
 simp only[ic107l3,QJ,hin,evA,simprocAttr]
 refine ZW s.co.length (fun i s'=>(∀ j,j<i→KM s j=0)∧∃ v2 v3 v4 v5 v6 v8 v9 v11 v12 v13 v14 v15 v16 v17 v18,s'=⟨[sysV s,.ptr 0 0,v2,v3,v4,v5,v6,.i i,v8,v9,.b false,v11,v12,v13,v14,v15,v16,v17,v18],[.cells [.cv (clsR s.cl),.cv (strR s.co)]]⟩) ?_ 0 (QF _) ⟨by omega,_,_,_,_,_,_,_,_,_,_,_,_,_,_,_,rfl⟩
 rintro i s' hi ⟨hal2,v2,v3,v4,v5,v6,v8,v9,v11,v12,v13,v14,v15,v16,v17,v18,rfl⟩
 by_cases hio:i<s.co.length
 ·have hnm:=hs.cm i hio
  have hix:=codIx hio
  have hge:KM s i=if JH s.co[i]! = false then 6 else if decide (FP (s.co.take i) s.co[i]!≥0)=true then 5 else 0:=by rw[hix];rfl
  have hsl:∀ σ,VG 1 false true [.cv (strR s.co),.cv (.int .i64 i)] σ=some (.cv (strR (s.co.take i)),σ):=str_sl (by omega)
  simp only[ic107l2,QJ,hio,XP hio,BK hio,evA,simprocAttr]
  refine (c21 s.co[i]! hnm).call frz ?_
  cases hn:JH s.co[i]! with
  | false =>
   have hg:KM s i=6:=by rw[hge,hn];rfl
   have hfe:=VF s.co.length 0 i (QF _) (by omega) (fun j _ hj=>hal2 j hj) (g:=KM s) (by rw[hg];decide)
   rw[hg] at hfe
   rw[hfe,if_pos (fun h=>by cases h)]
   simp only[evA,simprocAttr]
   exact frz
  | true =>
  simp only[evA,simprocAttr]
  refine DW_s [9] [] hmix (by kernel_rfl) rfl ?_
  simp only[hsl,XP hio,BK hio,evA,simprocAttr]
  refine YE ((c86 (s.co.take i) s.co[i]! (by simp;omega)).call frz ⟨rfl,rfl⟩) rfl ?_
  cases hx:decide (FP (s.co.take i) s.co[i]!≥0) with
  | true =>
   have hg:KM s i=5:=by rw[hge,hn,hx];rfl
   have hfe:=VF s.co.length 0 i (QF _) (by omega) (fun j _ hj=>hal2 j hj) (g:=KM s) (by rw[hg];decide)
   rw[hg] at hfe
   rw[hfe,if_pos (fun h=>by cases h)]
   simp only[hx,evA,simprocAttr]
   exact frz
  | false =>
   have hg:KM s i=0:=by rw[hge,hn,hx];rfl
   simp only[hx,Q6 (show i+1<2 ^ 63 by omega),evA,simprocAttr]
   refine ZL (by first | trivial | omega) ⟨fun j hj=>?_,_,_,_,_,_,_,_,_,_,_,_,_,_,_,_,rfl⟩
   rcases QQ.1 hj with hj | rfl
   ·exact hal2 j hj
   ·exact hg
 have hio':i=s.co.length:=by omega
 subst hio'
 rw[JY s.co.length 0 fun j _ hj=>hal2 j (by omega),if_neg (show ¬ ((0:Int)≠0) by decide)]
 simp only[ic107l2,QJ,hio,evA,simprocAttr]
 refine ZW s.cl.length (fun i s'=>(∀ j,j<i→dnB s j=false)∧∃ v2 v3 v4 v5 v6 v7 v9 v11 v12 v13 v14 v15 v16 v17 v18,s'=⟨[sysV s,.ptr 0 0,v2,v3,v4,v5,v6,v7,.i i,v9,.b false,v11,v12,v13,v14,v15,v16,v17,v18],[.cells [.cv (clsR s.cl),.cv (strR s.co)]]⟩) ?_ 0 (QF _) ⟨by omega,_,_,_,_,_,_,_,_,_,_,_,_,_,_,_,rfl⟩
 rintro i s' hi ⟨hal3,v2,v3,v4,v5,v6,v7,v9,v11,v12,v13,v14,v15,v16,v17,v18,rfl⟩
 by_cases hin:i<s.cl.length
 ·have hinc:=hs.inc i hin
  simp only[ic107l1,QJ,hin,evA,simprocAttr]
  refine ZW (s.cl[i]!).inc.length (fun k s'=>(∀ j,j<k→covB s ((s.cl[i]!).inc[j]?.getD 0).toNat i=false)∧∃ v17 v18,s'=⟨[sysV s,.ptr 0 0,v2,v3,v4,v5,v6,v7,.i i,.i k,.b false,v11,v12,v13,v14,v15,.b true,v17,v18],[.cells [.cv (clsR s.cl),.cv (strR s.co)]]⟩) ?_ 0 (QF _) ⟨by omega,_,_,rfl⟩
  rintro k s' hk ⟨hal4,v17,v18,rfl⟩
  by_cases hki:k<(s.cl[i]!).inc.length
  ·have hzr:=hok i hin ((s.cl[i]!).inc[k]?.getD 0) (by rw[QI hki];exact Q2 hki)
   obtain ⟨z,hze⟩:∃ z:Nat,(s.cl[i]!).inc[k]?.getD 0=(z:Int):=⟨((s.cl[i]!).inc[k]?.getD 0).toNat,by omega⟩
   have e40:(2:Nat) ^ 40=1099511627776:=by decide
   simp only[ic107l0,QJ,hki,GR hin,CW hin,evA,simprocAttr]
   refine DW_s [10] [] hmix (by kernel_rfl) rfl ?_
   simp only[QJ,hki,GR hin,CW hin,hze,evA,simprocAttr]
   refine YE ((c51 s hs (by omega) hok z (by omega)).call frz ⟨rfl,rfl⟩) rfl ?_
   simp only[P1 hin,W3,DN hin,evA,simprocAttr]
   cases hb:covB s z i with
   | true =>
    have hd:dnB s i=true:=U8.2 ⟨k,hki,by rw[hze];exact hb⟩
    have hg:=he2 i hd
    have hfe:=VF s.cl.length 0 i (QF _) (by omega) (fun j _ hj=>he3 j (hal3 j hj)) (g:=dnE s) (by rw[hg];decide)
    rw[hg] at hfe
    rw[hfe,if_pos (fun h=>by cases h)]
    simp only[evA,simprocAttr]
    exact frz
   | false =>
    simp only[Q6 (show k+1<2 ^ 63 by omega),evA,simprocAttr]
    refine ZL (by first | trivial | omega) ⟨fun j hj=>?_,_,_,rfl⟩
    rcases QQ.1 hj with hj | rfl
    ·exact hal4 j hj
    ·rw[hze];exact hb
  have hkl:k=(s.cl[i]!).inc.length:=by omega
  have hd:dnB s i=false:=F8.2 fun j hj=>hal4 j (by omega)
  simp only[ic107l0,QJ,hki,GR hin,CW hin,Q6 (show i+1<2 ^ 63 by omega),evA,simprocAttr]
  refine ZL (by first | trivial | omega) ⟨fun j hj=>?_,_,_,_,_,_,_,_,_,_,_,_,_,_,_,_,rfl⟩
  rcases QQ.1 hj with hj | rfl
  ·exact hal3 j hj
  ·exact hd
 have hin':i=s.cl.length:=by omega
 subst hin'
 rw[JY s.cl.length 0 fun j _ hj=>he3 j (hal3 j (by omega)),if_neg (show ¬ ((0:Int)≠0) by decide)]
 simp only[ic107l1,QJ,hin,evA,simprocAttr]
 exact frz
theorem c48 (s:Sys) (hs:SSz s) (hm:s.co.length≤8) (l:List Rt) (hl:l.length<2 ^ 63):PC Tryz.prog 144 [sysV s,rgL l] (.i (rgsE s l)):=by
 refine ⟨ZF (fok144 true) (QC rfl) ?_,rfl⟩
 have hcl:=hs.cl
 have hb:=HF hm
 have hw:IntKind.i64.wrap ((s.cl.length:Int)-1)=(s.cl.length:Int)-1:=ZC (by omega)
 have hw2:IntKind.i64.wrap (2 ^ s.co.length-1)=setN s-1:=ZC (by omega)
 unfold rgsE
 by_cases h:(l.length:Int)>40
 ·rw[if_pos h]
  simp only[ic144,WI,cellsOf,h,evA,simprocAttr]
  exact frz
 rw[if_neg h]
 simp only[ic144,WI,cellsOf,h,evA,simprocAttr]
 refine ZW l.length (fun i s'=>(∀ j,j<i→HU s l[j]! = 0)∧∃ v6 v7 v8,s'=⟨[sysV s,rgL l,.ptr 0 0,.i 0,.i i,.b false,v6,v7,v8],[.cells [.cv (clsR s.cl),.cv (strR s.co)]]⟩) ?_ 0 (QF _) ⟨by omega,_,_,_,rfl⟩
 rintro i s' hi ⟨hall,v6,v7,v8,rfl⟩
 by_cases hin:i<l.length
 ·have hfe:=fun hne=>VF (g:=fun i=>HU s l[i]!) l.length 0 i (QF _) (by omega) (fun j _ hj=>hall j hj) hne
  have h1:=c59i (l[i]!).1 0 ((s.cl.length:Int)-1)
  have h2:=c59i (l[i]!).2 0 (setN s-1)
  simp only[ic144l0,QJ,hin,evA,simprocAttr]
  refine DW_s [9] [] hmix (by kernel_rfl) rfl ?_
  simp only[L6 hin,rg_0 hin,hw,evA,simprocAttr]
  refine YE (h1.call frz ⟨rfl,rfl⟩) rfl ?_
  cases g1:inB (l[i]!).1 0 ((s.cl.length:Int)-1) with
  | false =>
   have hg:HU s l[i]! = 4:=by unfold HU;rw[g1];rfl
   have hfe':=hfe (by show HU s l[i]!≠0;rw[hg];decide)
   rw[hfe']
   show _
   rw[hg]
   simp only[evA,simprocAttr]
   exact frz
  | true =>
  simp only[evA,simprocAttr]
  refine DW_s [8,10] [] hmix (by kernel_rfl) rfl ?_
  simp only[L6 hin,rg_1 hin,evA,simprocAttr]
  refine YE ((c49 s.co.length hm).call frz ⟨rfl,rfl⟩) rfl ?_
  simp only[hw2,evA,simprocAttr]
  refine YE (h2.call frz ⟨rfl,rfl⟩) rfl ?_
  cases g2:inB (l[i]!).2 0 (setN s-1) with
  | false =>
   have hg:HU s l[i]! = 7:=by unfold HU;rw[g1,g2];rfl
   have hfe':=hfe (by show HU s l[i]!≠0;rw[hg];decide)
   rw[hfe']
   show _
   rw[hg]
   simp only[evA,simprocAttr]
   exact frz
  | true =>
   have hg:HU s l[i]! = 0:=by unfold HU;rw[g1,g2];rfl
   simp only[Q6 (show i+1<2 ^ 63 by omega),evA,simprocAttr]
   refine ZL (by first | trivial | omega) ⟨fun j hj=>?_,_,_,_,rfl⟩
   rcases QQ.1 hj with hj | rfl
   ·exact hall j hj
   ·exact hg
 ·have hin':i=l.length:=by omega
  subst hin'
  rw[JY (g:=fun i=>HU s l[i]!) l.length 0 fun j _ hj=>hall j (by omega)]
  simp only[ic144l0,QJ,hin,evA,simprocAttr]
  exact frz
theorem le64 (n lo hi:Int):PC Tryz.prog 64 [.i n,.i lo,.i hi] (.b (inB n lo hi)):=by
 refine ⟨ZF (fok64 true) (QC rfl) ?_,rfl⟩
 unfold inB
 by_cases h:n≥lo <;> simp only[ic64,h,evA,simprocAttr] <;> exact frz
theorem le51 (d:Dy) (hd:DyOk d) {i k:Nat} (hi:i<d.ls.length) (hk:k<d.ls.length):PC Tryz.prog 51 [dyV d,.i i,.i k] (.b (canB d i k)):=by
 obtain ⟨o,f,ho,hf,ho2,hf2,hw,hc⟩:=can_ar hd hi hk
 refine ⟨ZF (fok51 true) (QC rfl) ?_,rfl⟩
 rw[hc]
 have hl:=MR hi
 have hl2:=MR hk
 have ia:=F5 hi
 have ia2:=F5 hk
 generalize d.ls[i]! = a at *
 generalize d.ls[k]! = b at *
 obtain ⟨a1,a2,a3,a4,a5,a6,a7⟩:=a
 obtain ⟨b1,b2,b3,b4,b5,b6,b7⟩:=b
 simp only at ho hf hw hl hl2
 subst ho hf
 simp only[ic51,WI,cellsOf,evA,simprocAttr]
 refine DW_s [] [(1,10),(1,11),(4,10),(4,11),(6,10),(6,11),(6,12),(9,10),(9,11),(9,12),(10,11),(11,10)] hmix (by kernel_rfl) rfl ?_
 simp only[ia,ia2,hl,hl2,evA,simprocAttr]
 refine DW_s [] [] hmix (by kernel_rfl) rfl ?_
 simp only[XP ho2,W3,B7 ho2,J5 hf2,J4 hf2,WA,hw,evA,simprocAttr]
 exact frz
end Go.Proofs.YtgkidpolomhghaaGreatDoor.AM
namespace Go.Proofs.YtgkidpolomhghaaGreatDoor.AM
variable [Dr]
open Go Go.ChangeShapes Go.WideShapes Go.ChangeAt Go.RowKit
abbrev noO:Nat→Prop:=Own (fun _=>none) (fun _=>False)
theorem not_noO (b:Nat):¬ noO b:=by rintro (h | ⟨l,hl⟩);exact h;cases hl
theorem DG {α:Type} {Q:Nat→α→Prop}:∀ (n:Nat),(∀ i,i<n→∃ l,Q i l)→∃ L:List α,L.length=n∧∀ (i:Nat) (l:α),L[i]? = some l→Q i l
 | 0,_=>⟨[],rfl,by simp⟩
 | n+1,h=>by
  obtain ⟨L,h1,h2⟩:=DG n (fun i hi=>h i (by omega))
  obtain ⟨l,hl⟩:=h n (by omega)
  refine ⟨L++[l],by simp[h1],fun i l' hi=>?_⟩
  rcases ZB i n with hlt | hge
  ·rw[QE (by omega)] at hi;exact h2 i l' hi
  ·rw[QS (by omega),h1] at hi
   have:i=n:=by
    rcases ZB n i with h' | h'
    ·rw[QN (by simp;omega)] at hi;cases hi
    ·omega
   subst this
   simp at hi;subst hi;exact hl
theorem CJ {R:Nat→CV→Prop} {esz:Nat}:∀ (L:List (List CV)) (n:Nat),(∀ (i:Nat) (l:List CV),L[i]? = some l→l.length=esz∧∀ (j:Nat) (c:CV),l[j]? = some c→R (n+i*esz+j) c) →
  L.flatten.length=L.length*esz∧∀ (k:Nat) (c:CV),L.flatten[k]? = some c→R (n+k) c
 | [],n,_=>by simp
 | l::L,n,h=>by
  obtain ⟨h1,h2⟩:=h 0 l (by simp)
  have ih:=CJ L (n+esz) (fun i l' hi=>by
   obtain ⟨g1,g2⟩:=h (i+1) l' (by simpa using hi)
   refine ⟨g1,fun j c hj=>?_⟩
   have:=g2 j c hj
   rwa [WP,Nat.one_mul,← Nat.add_assoc,Nat.add_right_comm n] at this)
  refine ⟨by simp[h1,ih.1,WP,Nat.add_comm],fun k c hk=>?_⟩
  rw[List.flatten_cons] at hk
  rcases ZB k l.length with hlt | hge
  ·rw[QE hlt] at hk
   have:=h2 k c hk
   simpa using this
  ·rw[QS hge] at hk
   have:=ih.2 (k-l.length) c hk
   rwa [show n+esz+(k-l.length)=n+k by omega] at this
theorem A4 {P:Program} {R:Nat→CV→Prop} {N:Nat}:∀ (fs:List Field) (L:List (List CV)) (n:Nat),J8 P fs n=some N→L.length=fs.length →
  (∀ (i:Nat) (f:Field) (l:List CV),fs[i]? = some f→L[i]? = some l→l.length=P.cellsOf f.type∧∀ (j:Nat) (c:CV),l[j]? = some c→R (f.offset+j) c) →
  n+L.flatten.length=N∧∀ (k:Nat) (c:CV),L.flatten[k]? = some c→R (n+k) c
 | [],L,n,he,hl,_=>by
  have:L=[]:=ZT (by simpa using hl)
  subst this
  simp only[J8,Option.some.injEq] at he
  simp[he]
 | f::fs,[],n,_,hl,_=>by simp at hl
 | f::fs,l::L,n,he,hl,h=>by
  simp only[J8] at he
  split at he
  ·rename_i hoff
   obtain ⟨h1,h2⟩:=h 0 f l (by simp) (by simp)
   have ih:=A4 fs L (n+P.cellsOf f.type) he (by simpa using hl) (fun i f' l' hf hl'=>h (i+1) f' l' (by simpa using hf) (by simpa using hl'))
   refine ⟨by rw[← ih.1];simp[h1];omega,fun k c hk=>?_⟩
   rw[List.flatten_cons] at hk
   rcases ZB k l.length with hlt | hge
   ·rw[QE hlt] at hk
    have:=h2 k c hk
    rwa [hoff] at this
   ·rw[QS hge] at hk
    have:=ih.2 (k-l.length) c hk
    rwa [show n+P.cellsOf f.type+(k-l.length)=n+k by omega] at this
  ·cases he
theorem NT {W:World} {a:Addr}:∀ (cs:List CV) (i:Nat),(∀ (j:Nat) (c:CV),cs[j]? = some c→∃ v,W.cell? (a.add (i+j))=some v∧c.rep W noO v)→CV.reps W noO cs a i
 | [],_,_=>by simp[CV.reps]
 | c::cs,i,h=>by
  simp only[CV.reps]
  refine ⟨not_noO _,by simpa using h 0 c (by simp),NT cs (i+1) fun j c' hj=>?_⟩
  have:=h (j+1) c' (by simpa using hj)
  rwa [show i+(j+1)=i+1+j by omega] at this
section
variable {H:Type} {enc:TypeId × Value→H} {P:Program} {W:World}
theorem EW:∀ (n:Nat) (t:TypeId) (cs:List Value) (x:DataW H × List MemPlace) (fuel:Nat),TG P n t=true→DataW.trod enc P W 0 (fun _=>true) true fuel t cs=some x →
  ∃ cvs:List CV,Typed P t cvs∧cvs.length=cs.length∧∀ (i:Nat) (c:CV) (v:Value),cvs[i]? = some c→cs[i]? = some v→c.rep W noO v
 | 0,t,cs,x,fuel,ho,_=>by simp[TG] at ho
 | n + 1,t,cs,x,fuel,ho,h=>by
  simp only[TG] at ho
  split at ho
  ·rename_i ht
   obtain ⟨b,rfl,_⟩:=DataW.trod_bool ht h
   refine ⟨[.bool b],.bool ht b,rfl,fun i c v h1 h2=>?_⟩
   cases i with
   | zero=>simp at h1 h2;subst h1 h2;simp[CV.rep]
   | succ i=>simp at h1
  ·rename_i k ht
   obtain ⟨b,rfl,_,hw⟩:=DataW.trod_int ht h
   refine ⟨[.int k b],.int ht b hw,rfl,fun i c v h1 h2=>?_⟩
   cases i with
   | zero=>simp at h1 h2;subst h1 h2;simp[CV.rep]
   | succ i=>simp at h1
  ·rename_i ht
   obtain ⟨s,rfl,_,hw⟩:=DataW.trod_string ht h
   refine ⟨[.str s],.str ht s hw,rfl,fun i c v h1 h2=>?_⟩
   cases i with
   | zero=>simp at h1 h2;subst h1 h2;simp[CV.rep]
   | succ i=>simp at h1
  ·rename_i e ht
   rcases DataW.trod_slice ht h with ⟨rfl,_⟩ | ⟨a,len,cap,elems,rest,m,_,rfl,_,_,hlc,hcm,hel,hget,_⟩
   ·refine ⟨[.rsl [] 0],by simpa using Typed.slc ht [] (by simp) (by simp) (by simp),rfl,fun i c v h1 h2=>?_⟩
    cases i with
    | zero=>simp at h1 h2;subst h1 h2;simp[CV.rep]
    | succ i=>simp at h1
   ·obtain ⟨L,hL,hQ⟩:=DG (Q:=fun i l=>Typed P e l∧l.length=P.cellsOf e∧∀ (j:Nat) (c:CV),l[j]? = some c→∃ v,W.cell? (a.add (i*P.cellsOf e+j))=some v∧c.rep W noO v) len (fun i hi=>by
     have hg:=hget i hi
     rw[QI (by omega)] at hg
     obtain ⟨ci,h1,h2⟩:=QB.1 hg
     obtain ⟨_,hlen,hcell⟩:=World.cells?_some h1
     obtain ⟨cvs,g1,g2,g3⟩:=EW n e ci _ _ ho h2
     refine ⟨cvs,g1,by omega,fun j c hj=>?_⟩
     have hjl:j<cvs.length:=(QH.1 hj).1
     have hc:=hcell j (by omega)
     rw[QI (by omega)] at hc
     exact ⟨_,by rw[← Addr.add_add];exact hc,g3 j c _ hj (QI _)⟩)
    have hmem:∀ l∈L,∃ i:Nat,L[i]? = some l:=fun l hl=>List.mem_iff_getElem?.1 hl
    have hfl:=CJ (R:=fun k c=>∃ v,W.cell? (a.add k)=some v∧c.rep W noO v) (esz:=P.cellsOf e) L 0 (fun i l hi=>⟨(hQ i l hi).2.1,fun j c hj=>by simpa using (hQ i l hi).2.2 j c hj⟩)
    refine ⟨[.rsl L.flatten L.length],Typed.slc ht L (by omega) (fun l hl=>let ⟨i,hi⟩:=hmem l hl;(hQ i l hi).2.1) (fun l hl=>let ⟨i,hi⟩:=hmem l hl;(hQ i l hi).1),rfl,fun i c v h1 h2=>?_⟩
    cases i with
    | zero =>
     simp at h1 h2;subst h1 h2
     simp only[CV.rep]
     exact .inr ⟨a,cap,by rw[hL],by omega,NT _ 0 (fun j c hj=>hfl.2 j c hj)⟩
    | succ i=>simp at h1
  ·rename_i k e ht
   simp only[QD,decide_eq_true_eq] at ho
   obtain ⟨xs,m,_,_,hlen,hxs,hget⟩:=DataW.trod_array ht h
   obtain ⟨L,hL,hQ⟩:=DG (Q:=fun i l=>Typed P e l∧l.length=P.cellsOf e∧∀ (j:Nat) (c:CV),l[j]? = some c→∀ v,cs[i*P.cellsOf e+j]? = some v→c.rep W noO v) k (fun i hi=>by
     have hg:=hget i hi
     rw[QI (by omega)] at hg
     obtain ⟨cvs,g1,g2,g3⟩:=EW n e _ _ _ ho.1 hg
     have hik:i*P.cellsOf e+P.cellsOf e≤k*P.cellsOf e:=by
      have:=YQ (P.cellsOf e) (show i+1≤k by omega)
      rwa [WP,Nat.one_mul] at this
     have hl2:cvs.length=P.cellsOf e:=by rw[g2];simp;omega
     refine ⟨cvs,g1,hl2,fun j c hj v hv=>?_⟩
     have hjl:j<cvs.length:=(QH.1 hj).1
     exact g3 j c v hj (by rw[Z7,if_pos (by omega),X4];exact hv))
   have hmem:∀ l∈L,∃ i:Nat,L[i]? = some l:=fun l hl=>List.mem_iff_getElem?.1 hl
   have hfl:=CJ (R:=fun k c=>∀ v,cs[k]? = some v→c.rep W noO v) (esz:=P.cellsOf e) L 0 (fun i l hi=>⟨(hQ i l hi).2.1,fun j c hj=>by simpa using (hQ i l hi).2.2 j c hj⟩)
   exact ⟨L.flatten,Typed.arr ht L hL (fun l hl=>let ⟨i,hi⟩:=hmem l hl;(hQ i l hi).2.1) (fun l hl=>let ⟨i,hi⟩:=hmem l hl;(hQ i l hi).1),by rw[hfl.1,hlen,ho.2,hL],fun i c v h1 h2=>hfl.2 i c h1 v (by simpa using h2)⟩
  ·rename_i fs ht
   simp only[QD,decide_eq_true_eq,Q1] at ho
   obtain ⟨xs,m,_,_,hlen,hxs,hget⟩:=DataW.trod_struct ht h
   obtain ⟨L,hL,hQ⟩:=DG (Q:=fun i l=>∀ f,fs[i]? = some f→Typed P f.type l∧l.length=min (P.cellsOf f.type) (cs.length-f.offset)∧∀ (j:Nat) (c:CV),l[j]? = some c→∀ v,cs[f.offset+j]? = some v→c.rep W noO v) fs.size (fun i hi=>by
     have hfi:fs[i]? = some fs[i]:=Q7 hi
     have hg:=hget i fs[i] hfi
     rw[QI (by omega)] at hg
     obtain ⟨cvs,g1,g2,g3⟩:=EW n _ _ _ _ (ho.1 fs[i] (by simp)) hg
     have hl2:cvs.length=min (P.cellsOf fs[i].type) (cs.length-fs[i].offset):=by rw[g2];simp
     refine ⟨cvs,fun f hf=>?_⟩
     rw[hfi] at hf;cases hf
     refine ⟨g1,hl2,fun j c hj v hv=>?_⟩
     have hjl:j<cvs.length:=(QH.1 hj).1
     exact g3 j c v hj (by rw[Z7,if_pos (by omega),X4];exact hv))
   have hoff:∀ (fs:List Field) (n N:Nat),J8 P fs n=some N→n≤N∧∀ (i:Nat) (f:Field),fs[i]? = some f→f.offset+P.cellsOf f.type≤N:=by
    intro fs
    induction fs with
    | nil=>intro n N h;simp only[J8,Option.some.injEq] at h;simp[h]
    | cons f fs ih =>
     intro n N h
     simp only[J8] at h
     split at h
     ·rename_i ho
      obtain ⟨h1,h2⟩:=ih _ _ h
      refine ⟨by omega,fun i f' hi=>?_⟩
      cases i with
      | zero=>simp at hi;subst hi;omega
      | succ i=>exact h2 i f' (by simpa using hi)
     ·cases h
   have hin:=(hoff _ _ _ ho.2).2
   have hl:∀ (i:Nat) (f:Field) (l:List CV),fs[i]? = some f→L[i]? = some l→l.length=P.cellsOf f.type:=by
    intro i f l hf hl
    obtain ⟨_,h2,_⟩:=hQ i l hl f hf
    have:=hin i f (by simpa using hf)
    omega
   have hfl:=A4 (P:=P) (R:=fun k c=>∀ v,cs[k]? = some v→c.rep W noO v) fs.toList L 0 ho.2 (by simpa using hL) (fun i f l hf hl' =>
    ⟨hl i f l (by simpa using hf) hl',fun j c hj=>(hQ i l hl' f (by simpa using hf)).2.2 j c hj⟩)
   exact ⟨L.flatten,Typed.struct ht L hL hl (fun i f l hf hl'=>(hQ i l hl' f hf).1),by have:=hfl.1;omega,fun i c v h1 h2=>hfl.2 i c h1 v (by simpa using h2)⟩
  ·cases ho
theorem DV:∀ (cvs:List CV) (vs:List Value),cvs.length=vs.length→(∀ (i:Nat) (c:CV) (v:Value),cvs[i]? = some c→vs[i]? = some v→c.rep W noO v)→QK nom noX W (cvs.map .cv) vs
 | [],[],_,_=>by simp[QK]
 | c::cvs,v::vs,hl,h=>by
  simp only[Q0,QK,VRel]
  exact ⟨h 0 c v rfl rfl,DV cvs vs (by simpa using hl) fun i c v h1 h2=>h (i+1) c v (by simpa using h1) (by simpa using h2)⟩
 | [],_::_,hl,_=>by simp at hl
 | _::_,[],hl,_=>by simp at hl
theorem QfB {n:Nat} {t:TypeId} {v:Value} {d:DataW H} {ps:List MemPlace} {r:Reach} {base:Nat} (ho:TG P n t=true) (hval:Value.okWide P W r base t v) (h:DataW.Trod enc P W 0 (fun _=>true) true t v d ps) :
  ∃ cs,Typed P t cs∧VRel nom noX W (avOf P t cs) v:=by
 obtain ⟨fuel,h⟩:=h
 obtain ⟨cvs,h1,h2,h3⟩:=EW n t _ _ _ ho h
 refine ⟨cvs,h1,?_⟩
 unfold avOf
 have one:(v.cells.toList=[v])→VRel nom noX W (.cv (cvs.headD .nilp)) v:=by
  intro hv
  rw[hv] at h2 h3
  match cvs,h2 with
  | [c],_=>simp only[List.headD_cons,VRel];exact h3 0 c v rfl rfl
 cases n with
 | zero=>simp[TG] at ho
 | succ n =>
  simp only[TG] at ho
  split at ho
  ·rename_i ht;rw[ht];obtain ⟨b,rfl⟩:=okWide_bool ht hval;exact one rfl
  ·rename_i ht;rw[ht];obtain ⟨b,rfl⟩:=okWide_int ht hval;exact one rfl
  ·rename_i ht;rw[ht];obtain ⟨b,rfl⟩:=okWide_string ht hval;exact one rfl
  ·rename_i ht;rw[ht];obtain ⟨_,_,_,rfl⟩:=okWide_slice ht hval;exact one rfl
  ·rename_i ht;rw[ht]
   simp only[Value.okWide,ht] at hval
   obtain ⟨arr,rfl,_⟩:=hval
   simp only[VRel]
   exact ⟨arr.toList,by simp,DV _ _ h2 h3⟩
  ·rename_i ht;rw[ht]
   simp only[Value.okWide,ht] at hval
   obtain ⟨arr,rfl,_⟩:=hval
   simp only[VRel]
   exact ⟨arr.toList,by simp,DV _ _ h2 h3⟩
  ·cases ho
theorem C1 {n:Nat} {r:Reach} {base:Nat}:∀ {ts:List TypeId} {vs:List Value} {ds:List (DataW H)} {ps:List MemPlace},(ts.all (TG P n))=true →
  (∀ (j:Nat) (t:TypeId) (v:Value),ts[j]? = some t→vs[j]? = some v→Value.okWide P W r base t v)→DataW.TrodAll enc P W 0 (fun _=>true) true ts vs ds ps →
  ds.length=ts.length∧∃ avs,Args P ts avs∧QK nom noX W avs vs
 | [],_,_,_,_,_,h=>by
  obtain ⟨rfl,rfl,rfl⟩:=trodAll_nil h
  exact ⟨rfl,[],.nil,by simp[QK]⟩
 | t::ts,_,_,_,ho,hval,h=>by
  obtain ⟨v,vs1,d,ds1,a,b,rfl,rfl,rfl,h1,h2⟩:=trodAll_cons h
  simp only[List.all_cons,QD] at ho
  obtain ⟨cs,g1,g2⟩:=QfB ho.1 (hval 0 t v rfl rfl) h1
  obtain ⟨hl,avs,g3,g4⟩:=C1 ho.2 (fun j t v h1 h2=>hval (j+1) t v (by simpa using h1) (by simpa using h2)) h2
  exact ⟨by simp[hl],_,.cons g1 g3,by simp only[QK];exact ⟨g2,g4⟩⟩
theorem LU (hl:laidOutB P=true) {W':World} (hb:Below W.heap.size W W'):∀ {ts:List TypeId} {vs:List Value} {ds:List (DataW H)} {ps:List MemPlace},(ts.all fun t=>P.readableRec t&&decide (t<P.types.size))=true →
  DataW.TrodAll enc P W 0 (fun _=>true) true ts vs ds ps→(∀ x∈ps,x.block<W.heap.size)→DataW.TrodAll enc P W' 0 (fun b=>decide (b<W.heap.size)) true ts vs ds ps
 | [],_,_,_,_,h,_=>by
  obtain ⟨rfl,rfl,rfl⟩:=trodAll_nil h
  exact trodAll_mk0
 | t::ts,_,_,_,ho,h,hlt=>by
  obtain ⟨v,vs1,d,ds1,a,b,rfl,rfl,rfl,h1,h2⟩:=trodAll_cons h
  simp only[List.all_cons,QD,decide_eq_true_eq] at ho
  refine trodAll_cons_mk (Below.trod hl ho.1.1 ho.1.2 h1 hb fun x hx=>hlt x (by simp[hx])) (LU hl hb ?_ h2 fun x hx=>hlt x (by simp[hx]))
  simpa using ho.2
theorem law_of_AC {f:FuncId} {fn:Func} {s:ChangeSpec} {n:Nat} {t:TypeId} {base:Nat} {args:Array Value} {ds gs:List (DataW H)} {before:List MemPlace}
  (hl:laidOutB P=true) (hpar:(fn.params.toList.all fun t=>P.readableRec t&&decide (t<P.types.size))=true) (ho:fn.params.toList.all (TG P n)=true)
  (hres:fn.resultTypes = #[t]) (htb:P.underlying t=some .bool) (hsv:s.vars=[]) (hs:∀ ds:List (DataW H),ds.length=fn.params.toList.length→s.fn H ds = { results:=[.lit (.bool true)],args:=ds })
  (hAC:∀ avs,Args P fn.params.toList avs→AC P f avs [] fun r _=>r=.b true)
  (hval:∀ (j:Nat) t v,fn.params[j]? = some t→args[j]? = some v→Value.okWide P W .any base t v) (hgl:GlOk nom noX W)
  (hW:DataW.Whole enc P fn.params.toList s.vars false W args.toList ds gs before) :
  Calls P f args W fun e W'=>∃ v,e=.returned v∧s.post enc P fn false true false false W args v W':=by
 have hW':=hW
 obtain ⟨p,q,hA,hV,rfl,hfz,hnd⟩:=hW
 rw[hsv] at hV
 obtain ⟨rfl,rfl⟩:=trodVars_none hV
 have hlt:∀ x∈p,x.block<W.heap.size:=fun x hx=>hW'.lt x (by simp[hx])
 obtain ⟨hlen,avs,hav,hrel⟩:=C1 ho (fun j t v h1 h2=>hval j t v (by simpa using h1) (by simpa using h2)) hA
 have hcall:=(hAC avs hav).2 nom noX W args.toList hrel ⟨by simp,by simp,by simp,by simp,by simp,hgl⟩
 have hcall:=callsIn_wide.1 hcall
 simp only[Array.toArray_toList] at hcall
 refine hcall.mono fun e W' ⟨c,r,σ',m',he,hq,hr,_,hst,_⟩=>?_
 subst he hq
 simp only[VRel,CV.rep] at hr
 subst hr
 have hb:Below W.heap.size W W':=⟨hst.os,hst.tape,hst.output,hst.size,fun k hk=>hst.fr k hk (.inr (by simp))⟩
 have hsf:s.fn H (ds++[]) = { results:=[.lit (.bool true)],args:=ds }:=by rw[ZU];exact hs ds hlen
 refine ⟨_,rfl,ds,[],p++[],[],p,[],hW',?_,?_,?_,hb.frame _,fun h=>by simp at h⟩
 ·rw[hsf,hres]
  exact trodAll_mk1 (shut_bool htb true)
 ·rw[hsf]
  exact LU hl hb hpar hA hlt
 ·rw[hsf,hsv]
  rfl
end
end Go.Proofs.YtgkidpolomhghaaGreatDoor.AM
namespace Go.Proofs.YtgkidpolomhghaaGreatDoor.AM
variable [Dr]
open Go
theorem QeV {P:Program} {t:TypeId} {k:IntKind} {cs:List CV} (ht:P.underlying t=some (.int k)) (h:Typed P t cs):∃ n,cs=[.int k n]∧(Lit.int k n).wf=true:=by
 cases h with
 | int ht' n hw=>rw[ht] at ht';cases ht';exact ⟨n,rfl,hw⟩
 | bool ht'=>rw[ht] at ht';cases ht'
 | str ht'=>rw[ht] at ht';cases ht'
 | slc ht'=>rw[ht] at ht';cases ht'
 | arr ht'=>rw[ht] at ht';cases ht'
 | struct ht'=>rw[ht] at ht';cases ht'
theorem typed_str {P:Program} {t:TypeId} {cs:List CV} (ht:P.underlying t=some .string) (h:Typed P t cs):∃ s:ByteArray,cs=[.str s]∧s.size≤maxLen:=by
 cases h with
 | str ht' s hs=>exact ⟨s,rfl,hs⟩
 | bool ht'=>rw[ht] at ht';cases ht'
 | int ht'=>rw[ht] at ht';cases ht'
 | slc ht'=>rw[ht] at ht';cases ht'
 | arr ht'=>rw[ht] at ht';cases ht'
 | struct ht'=>rw[ht] at ht';cases ht'
theorem QeU {P:Program} {t e:TypeId} {cs:List CV} (ht:P.underlying t=some (.slice e)) (h:Typed P t cs):∃ L:List (List CV),cs=[.rsl L.flatten L.length]∧L.length≤maxLen∧(∀ l∈L,l.length=P.cellsOf e)∧∀ l∈L,Typed P e l:=by
 cases h with
 | slc ht' L hn hl h=>rw[ht] at ht';cases ht';exact ⟨L,rfl,hn,hl,h⟩
 | bool ht'=>rw[ht] at ht';cases ht'
 | int ht'=>rw[ht] at ht';cases ht'
 | str ht'=>rw[ht] at ht';cases ht'
 | arr ht'=>rw[ht] at ht';cases ht'
 | struct ht'=>rw[ht] at ht';cases ht'
theorem typed_struct {P:Program} {t:TypeId} {fs:Array Field} {cs:List CV} (ht:P.underlying t=some (.struct fs)) (h:Typed P t cs):∃ L:List (List CV),cs=L.flatten∧L.length=fs.size∧∀ (i:Nat) (f:Field) (l:List CV),fs[i]? = some f→L[i]? = some l→Typed P f.type l:=by
 cases h with
 | struct ht' L hn hl h=>rw[ht] at ht';cases ht';exact ⟨L,rfl,hn,h⟩
 | bool ht'=>rw[ht] at ht';cases ht'
 | int ht'=>rw[ht] at ht';cases ht'
 | str ht'=>rw[ht] at ht';cases ht'
 | slc ht'=>rw[ht] at ht';cases ht'
 | arr ht'=>rw[ht] at ht';cases ht'
theorem Qdi {P:Program} {e:TypeId} {k:IntKind} (he:P.underlying e=some (.int k)):∀ L:List (List CV),(∀ l∈L,Typed P e l)→∃ zs:List Int,L.flatten=zs.map (.int k)∧L.length=zs.length∧∀ z∈zs,(Lit.int k z).wf=true
 | [],_=>⟨[],rfl,rfl,by simp⟩
 | l::L,h=>by
  obtain ⟨n,rfl,hn⟩:=QeV he (h l (by simp))
  obtain ⟨zs,h1,h2,h3⟩:=Qdi he L fun l hl=>h l (by simp[hl])
  exact ⟨n::zs,by simp[h1],by simp[h2],by simpa using ⟨hn,h3⟩⟩
theorem typed_ints {P:Program} {t e:TypeId} {k:IntKind} {cs:List CV} (ht:P.underlying t=some (.slice e)) (he:P.underlying e=some (.int k)) (h:Typed P t cs):∃ zs:List Int,cs=[.rsl (zs.map (.int k)) zs.length]∧zs.length<2 ^ 63∧∀ z∈zs,(Lit.int k z).wf=true:=by
 obtain ⟨L,rfl,hn,_,hl⟩:=QeU ht h
 obtain ⟨zs,h1,h2,h3⟩:=Qdi he L hl
 refine ⟨zs,by rw[h1,h2],?_,h3⟩
 rw[← h2];unfold maxLen at hn;omega
theorem args_cons {P:Program} {t:TypeId} {ts:List TypeId} {avs:List AV} (h:Args P (t::ts) avs):∃ cs avs',avs=avOf P t cs::avs'∧Typed P t cs∧Args P ts avs':=by
 generalize hts:t::ts=u at h
 cases h with
 | nil=>cases hts
 | cons h1 h2=>cases hts;exact ⟨_,_,rfl,h1,h2⟩
theorem args_nil {P:Program} {avs:List AV} (h:Args P [] avs):avs=[]:=by
 generalize hts:([]:List TypeId)=u at h
 cases h with
 | nil=>rfl
 | cons h1 h2=>cases hts
abbrev vs6:List Nat:=[0,1,2,3,4,5,6,7,8,26]
def ic6:IC:=(.seq (.region [jb 1 0,jw 2 .mv [jB false]])
 (.seq (.region [jN 7 1,jk 35 [.t 0],jt 1,jx 0 2,jx 1 2,jw 3 (.alloc [(.cv (.int .i64 0)),(.cv (.int .i64 0)),(.cv (.int .i64 0))]) [],jq (.store 3) [.v 3,.t 3],jm 4 4])
 (.seq (.region [jN 7 1,jk 36 [.t 0],jt 1,jx 0 2,jx 1 2,jw 5 (.alloc [(.cv (.int .i64 0)),(.cv (.int .i64 0)),(.cv (.int .i64 0))]) [],jq (.store 3) [.v 5,.t 3],jm 6 4])
 (.seq (.seq (.region [jN 3 3,jN 3 5,jq (.eqS true (true,[(.int .i64),(.int .i64),(.int .i64)])) [.t 0,.t 1],jt 2,jh 3 false 4,jh 3 false 6,jg 3 false (.bin .neq .int) [.t 4,.t 5],jw 9 .pick [.t 3,jB true,.t 6]])
 (.cond 9 (.seq (.region [jw 2 .mv [jB false]])
 .ret)
 .skip))
 (.seq (.region [jN 7 1,jk 37 [.t 0],jt 1,jx 0 2,jx 1 2,jw 7 (.alloc [(.cv .nils),(.cv .nils),(.cv .nils)]) [],jq (.store 3) [.v 7,.t 3],jm 4 4])
 (.seq (.region [jN 7 1,jk 38 [.t 0],jt 1,jx 0 2,jx 1 2,jw 8 (.alloc [(.cv .nils),(.cv .nils),(.cv .nils)]) [],jq (.store 3) [.v 8,.t 3],jm 6 4])
 (.seq (.region [jF 0 7,jl 0,jF 0 8,jl 2,jk 32 [.t 1,.t 3],jt 4,jg 5 true (.fadd 1) [.v 7],ji 5 true 6,jg 5 true (.fadd 1) [.v 8],ji 5 true 8,jf 5 true 32 [.t 7,.t 9],jq .pick [.t 5,.t 10,jB false],jt 11,jg 12 true (.fadd 2) [.v 7],ji 12 true 13,jg 12 true (.fadd 2) [.v 8],ji 12 true 15,jf 12 true 32 [.t 14,.t 16],jq .pick [.t 12,.t 17,jB false],jt 18,jh 19 true 4,jh 19 true 6,jg 19 true (.bin .eql .int) [.t 20,.t 21],jq .pick [.t 19,.t 22,jB false],jt 23,jf 24 true 22 [],jq .pick [.t 24,.t 25,jB false],jm 2 26])
 .ret)))))))
abbrev rs6:List RC:=[(.v 2)]
theorem fok6 (p:Bool):FnOk Tryz.prog 6 ⟨ic6,vs6,64,rs6,p⟩:=.mk2 Tryz.func6 (by kernel_rfl) (by kernel_rfl) (by kernel_rfl) (by kernel_rfl) (by kernel_rfl)
end Go.Proofs.YtgkidpolomhghaaGreatDoor.AM
namespace Go.Proofs.YtgkidpolomhghaaGreatDoor.AM
open Go Pl
theorem typed_list {α:Type} {f:α→List CV} {p:α→Prop} {t:TypeId} (h:∀ cs,Typed Tryz.prog t cs→∃ x,cs=f x∧p x):∀ L:List (List CV),(∀ l∈L,Typed Tryz.prog t l)→∃ xs:List α,L.flatten=xs.flatMap f∧L.length=xs.length∧∀ x∈xs,p x
 | [],_=>⟨[],rfl,rfl,by simp⟩
 | l::L,hl=>by
  obtain ⟨x,h1,h2⟩:=h l (hl l (by simp))
  obtain ⟨xs,g1,g2,g3⟩:=typed_list h L fun l hh=>hl l (by simp[hh])
  exact ⟨x::xs,by simp[h1,g1],by simp[g2],by simpa using ⟨h2,g3⟩⟩
theorem get_of {α:Type} [Inhabited α] {p:α→Prop} {l:List α} (h:∀ x∈l,p x) (i:Nat) (hi:i<l.length):p l[i]! := by
 rw[getElem!_pos l i hi]
 exact h _ (Q2 hi)
theorem typed_i {cs:List CV} (h:Typed Tryz.prog 3 cs):∃ x:Int,cs=[.int .i64 x]:=by
 obtain ⟨n,rfl,_⟩:=QeV Tryz.underlying3 h
 exact ⟨n,rfl⟩
theorem typed_row {cs:List CV} (h:Typed Tryz.prog 23 cs):∃ zs:List Int,cs=[rowC zs]∧zs.length<2 ^ 63:=by
 obtain ⟨zs,h1,h2,_⟩:=typed_ints Tryz.underlying23 Tryz.underlying3 h
 exact ⟨zs,h1,h2⟩
theorem typed_les {cs:List CV} (h:Typed Tryz.prog 94 cs):∃ l:Les,cs=lesC l∧True:=by
 obtain ⟨L,rfl,hn,hf⟩:=typed_struct Tryz.underlying94 h
 match L,hn with
 | [a,b,c,d,e,f,g],_ =>
  obtain ⟨n1,rfl⟩:=typed_i (hf 0 _ a rfl rfl)
  obtain ⟨n2,rfl⟩:=typed_i (hf 1 _ b rfl rfl)
  obtain ⟨n3,rfl⟩:=typed_i (hf 2 _ c rfl rfl)
  obtain ⟨n4,rfl⟩:=typed_i (hf 3 _ d rfl rfl)
  obtain ⟨n5,rfl⟩:=typed_i (hf 4 _ e rfl rfl)
  obtain ⟨n6,rfl⟩:=typed_i (hf 5 _ f rfl rfl)
  obtain ⟨n7,rfl⟩:=typed_i (hf 6 _ g rfl rfl)
  exact ⟨⟨n1,n2,n3,n4,n5,n6,n7⟩,rfl,trivial⟩
theorem typed_dyc {cs:List CV} (h:Typed Tryz.prog 37 cs):∃ d:Dy,cs=[minR d.mi,lesR d.ls]∧DSz d:=by
 obtain ⟨L,rfl,hn,hf⟩:=typed_struct Tryz.underlying37 h
 match L,hn with
 | [a,b],_ =>
  obtain ⟨L1,rfl,n1,_,h1⟩:=QeU Tryz.underlying34 (hf 0 _ a rfl rfl)
  obtain ⟨L2,rfl,n2,_,h2⟩:=QeU Tryz.underlying35 (hf 1 _ b rfl rfl)
  obtain ⟨m,a1,a2,a3⟩:=typed_list (f:=fun zs:List Int=>[rowC zs]) (p:=fun zs=>zs.length<2 ^ 63) (fun cs h=>typed_row h) L1 h1
  obtain ⟨ls,b1,b2,_⟩:=typed_list (fun cs h=>typed_les h) L2 h2
  have hm:maxLen<2 ^ 63:=by decide
  refine ⟨⟨m,ls⟩,?_,⟨by show m.length<_;omega,by show ls.length<_;omega,get_of a3⟩⟩
  simp only[minR,lesR,F0,a1,b1,a2,b2,List.map_eq_flatMap,List.flatten_cons,List.flatten_nil,ZU,List.cons_append,List.nil_append]
theorem typed_cls {cs:List CV} (h:Typed Tryz.prog 217 cs):∃ c:Cls,cs=clsC c∧c.nm.size<2 ^ 63∧c.inc.length<2 ^ 63:=by
 obtain ⟨L,rfl,hn,hf⟩:=typed_struct Tryz.underlying217 h
 match L,hn with
 | [a,b,c,d,e],_ =>
  obtain ⟨s,rfl,h1⟩:=typed_str Tryz.underlying9 (hf 0 _ a rfl rfl)
  obtain ⟨zs,rfl,hz⟩:=typed_row (hf 1 _ b rfl rfl)
  obtain ⟨n1,rfl⟩:=typed_i (hf 2 _ c rfl rfl)
  obtain ⟨n2,rfl⟩:=typed_i (hf 3 _ d rfl rfl)
  obtain ⟨n3,rfl⟩:=typed_i (hf 4 _ e rfl rfl)
  have hm:maxLen<2 ^ 63:=by decide
  exact ⟨⟨s,zs,n1,n2,n3⟩,rfl,by show s.size<_;omega,hz⟩
theorem typed_sysc {cs:List CV} (h:Typed Tryz.prog 52 cs):∃ s:Sys,cs=[clsR s.cl,strR s.co]∧SSz s:=by
 obtain ⟨L,rfl,hn,hf⟩:=typed_struct Tryz.underlying52 h
 match L,hn with
 | [a,b],_ =>
  obtain ⟨L1,rfl,n1,_,h1⟩:=QeU Tryz.underlying49 (hf 0 _ a rfl rfl)
  obtain ⟨L2,rfl,n2,_,h2⟩:=QeU Tryz.underlying50 (hf 1 _ b rfl rfl)
  obtain ⟨cs,a1,a2,a3⟩:=typed_list (fun cs h=>typed_cls h) L1 h1
  obtain ⟨co,b1,b2,b3⟩:=typed_list (f:=fun x:ByteArray=>[CV.str x]) (p:=fun x=>x.size<2 ^ 63) (fun cs h=>by
   obtain ⟨x,rfl,hx⟩:=typed_str Tryz.underlying9 h
   have hm:maxLen<2 ^ 63:=by decide
   exact ⟨x,rfl,by omega⟩) L2 h2
  have hm:maxLen<2 ^ 63:=by decide
  refine ⟨⟨cs,co⟩,?_,⟨by show cs.length<_;omega,by show co.length<_;omega,fun i hi=>(get_of a3 i hi).1,fun i hi=>(get_of a3 i hi).2,fun i hi=>?_⟩⟩
  ·simp only[clsR,strR,DZ,a1,b1,a2,b2,List.map_eq_flatMap,List.flatten_cons,List.flatten_nil,ZU,List.cons_append,List.nil_append]
  ·have hi:i<co.length:=hi
   show (co[i]!).size<_
   rw[getElem!_pos co i hi]
   exact b3 _ (Q2 hi)
theorem typed_rg {cs:List CV} (h:Typed Tryz.prog 176 cs):∃ r:Rt,cs=rgC r∧True:=by
 obtain ⟨L,rfl,hn,hf⟩:=typed_struct Tryz.underlying176 h
 match L,hn with
 | [a,b],_ =>
  obtain ⟨n1,rfl⟩:=typed_i (hf 0 _ a rfl rfl)
  obtain ⟨n2,rfl⟩:=typed_i (hf 1 _ b rfl rfl)
  exact ⟨(n1,n2),rfl,trivial⟩
theorem typed_tch {cs:List CV} (h:Typed Tryz.prog 102 cs):∃ t:Tch,cs=tchC t∧t.rg.length<2 ^ 63:=by
 obtain ⟨L,rfl,hn,hf⟩:=typed_struct Tryz.underlying102 h
 match L,hn with
 | [a,b,c],_ =>
  obtain ⟨L1,rfl,n1,_,h1⟩:=QeU Tryz.underlying100 (hf 0 _ a rfl rfl)
  obtain ⟨l,a1,a2,_⟩:=typed_list (fun cs h=>typed_rg h) L1 h1
  obtain ⟨n1,rfl⟩:=typed_i (hf 1 _ b rfl rfl)
  obtain ⟨n2,rfl⟩:=typed_i (hf 2 _ c rfl rfl)
  have hm:maxLen<2 ^ 63:=by decide
  refine ⟨⟨l,n1,n2⟩,?_,by show l.length<_;omega⟩
  rw[a1,a2];rfl
theorem typed_car {cs:List CV} (h:Typed Tryz.prog 98 cs):∃ c:Car,cs=carC c∧True:=by
 obtain ⟨L,rfl,hn,hf⟩:=typed_struct Tryz.underlying98 h
 match L,hn with
 | [a,b],_ =>
  obtain ⟨n1,rfl⟩:=typed_i (hf 0 _ a rfl rfl)
  obtain ⟨n2,rfl⟩:=typed_i (hf 1 _ b rfl rfl)
  exact ⟨⟨n1,n2⟩,rfl,trivial⟩
theorem typed_pln {cs:List CV} (h:Typed Tryz.prog 56 cs):∃ p:Pln,avOf Tryz.prog 56 cs=plnV p∧PSz p:=by
 obtain ⟨L,rfl,hn,hf⟩:=typed_struct Tryz.underlying56 h
 match L,hn with
 | [a,b,c,d,e],_ =>
  obtain ⟨s,rfl,hs⟩:=typed_sysc (hf 0 _ a rfl rfl)
  obtain ⟨le,rfl,hle⟩:=typed_row (hf 1 _ b rfl rfl)
  obtain ⟨L1,rfl,n1,_,h1⟩:=QeU Tryz.underlying53 (hf 2 _ c rfl rfl)
  obtain ⟨L2,rfl,n2,_,h2⟩:=QeU Tryz.underlying54 (hf 3 _ d rfl rfl)
  obtain ⟨y,rfl,hy⟩:=typed_dyc (hf 4 _ e rfl rfl)
  obtain ⟨te,a1,a2,a3⟩:=typed_list (fun cs h=>typed_tch h) L1 h1
  obtain ⟨ca,b1,b2,_⟩:=typed_list (fun cs h=>typed_car h) L2 h2
  have hm:maxLen<2 ^ 63:=by decide
  refine ⟨⟨s,le,te,ca,y⟩,?_,⟨hs,hle,by show te.length<_;omega,by show ca.length<_;omega,get_of a3,hy⟩⟩
  simp only[avOf,Tryz.underlying56,a1,b1,a2,b2]
  rfl
end Go.Proofs.YtgkidpolomhghaaGreatDoor.AM
namespace Go.Proofs.YtgkidpolomhghaaGreatDoor.AM
variable [Dr]
open Go Pl
theorem outF_alR {lo hi:Int} {zs:List Int} (h:∀ j,j<zs.length→inB (gI zs j) lo hi=true):outF lo hi zs=false:=by
 rw[VL]
 intro z hz
 obtain ⟨j,hj,rfl⟩:=WN.1 hz
 have:=VB.1 (h j hj)
 unfold gI at this
 rwa [QI hj] at this
theorem outF_exR {lo hi:Int} {zs:List Int} {j:Nat} (hj:j<zs.length) (h:inB (gI zs j) lo hi=false):outF lo hi zs=true:=by
 cases hh:outF lo hi zs with
 | true=>rfl
 | false =>
  rw[VB.2 (VL.1 hh _ (Qcs hj))] at h
  cases h
theorem outF_sgR {lo hi z:Int}:outF lo hi [z] = !inB z lo hi:=by
 cases h:inB z lo hi with
 | true =>
  refine outF_alR (zs:=[z]) fun j hj=>?_
  have:j=0:=by simpa using hj
  subst this;exact h
 | false=>exact outF_exR (zs:=[z]) (j:=0) (by simp) h
theorem outF_coR {lo hi z:Int} {zs:List Int}:outF lo hi (z::zs)=(!inB z lo hi||outF lo hi zs):=by
 rw[← outF_sgR]
 unfold outF
 simp
theorem le70 (d:Dy) (hd:DSz d) (i:Nat) (hi:i<d.mi.length):PC Tryz.prog 70 [dyV d,.i i] (.i (rowE d i)):=by
 refine ⟨ZF (fok70 true) (QC rfl) ?_,rfl⟩
 have hrow:=hd.row i hi
 unfold rowE
 simp only[ic70,WI,cellsOf,XP hi,W3,B7 hi,evA,simprocAttr]
 generalize d.mi[i]! = l at *
 by_cases h1:l.length=d.mi.length
 ·have hb:((l.length:Int) != d.mi.length)=false:=by rw[h1];simp
  rw[if_neg (fun h=>h h1)]
  simp only[hb,evA,simprocAttr]
  refine ZW l.length (fun k s=>(∀ j,j<k→inB (gI l j) 0 120=true)∧∃ v7 v8,s=⟨[dyV d,.i i,.ptr 0 0,.i 0,ints l,.i k,.b false,v7,v8,.undef],[.cells [.cv (minR d.mi),.cv (lesR d.ls)]]⟩) ?_ 0 (QF _) ⟨by omega,_,_,rfl⟩
  rintro k s hk ⟨hall,v7,v8,rfl⟩
  by_cases h:k<l.length
  ·simp only[ic70l0,QJ,h,J5 h,J4 h,evA,simprocAttr]
   refine (le64 _ 0 120).call frz ?_
   cases hin:inB (gI l k) 0 120 with
   | true =>
    have hin2:inB (l[k]?.getD 0) 0 120=true:=hin
    simp only[hin2,Q6 (show k+1<2 ^ 63 by omega),evA,simprocAttr]
    refine ZL (by first | trivial | omega) ⟨fun j hj=>?_,_,_,rfl⟩
    rcases QQ.1 hj with hj | rfl
    ·exact hall j hj
    ·exact hin
   | false =>
    have hin2:inB (l[k]?.getD 0) 0 120=false:=hin
    rw[outF_exR h hin]
    simp only[hin2,evA,simprocAttr]
    exact frz
  ·have hke:k=l.length:=by omega
   subst hke
   rw[outF_alR hall]
   have hil:i<l.length:=by omega
   simp only[ic70l0,QJ,h,J5 hil,J4 hil,evA,simprocAttr]
   by_cases h2:gI l i=0
   ·have hb2:(l[i]?.getD 0 != 0)=false:=by simpa using h2
    simp only[hb2,h2,ne_eq,not_true,evA,simprocAttr]
    exact frz
   ·have hb2:(l[i]?.getD 0 != 0)=true:=by simpa using h2
    simp only[hb2,h2,ne_eq,not_false_eq_true,evA,simprocAttr]
    exact frz
 ·have hb:((l.length:Int) != d.mi.length)=true:=by simp;omega
  rw[if_pos h1]
  simp only[hb,evA,simprocAttr]
  exact frz
theorem le71 (d:Dy) (hd:DSz d) (l:Les):PC Tryz.prog 71 [dyV d,lesA l] (.i (lesE d l)):=by
 refine ⟨ZF (fok71 true) (QC rfl) ?_,rfl⟩
 have h63:=hd.mi
 unfold lesE
 have hw:IntKind.i64.wrap ((d.mi.length:Int)-1)=(d.mi.length:Int)-1:=ZC (by omega)
 obtain ⟨le,te,ca,b,e,f,o⟩:=l
 have e1:outF 0 1440 [b,e]=(!inB b 0 1440 || !inB e 0 1440):=by rw[outF_coR,outF_sgR]
 have e2:outF 0 ((d.mi.length:Int)-1) [f,o]=(!inB f 0 ((d.mi.length:Int)-1) || !inB o 0 ((d.mi.length:Int)-1)):=by rw[outF_coR,outF_sgR]
 simp only
 rw[e1,e2]
 clear e1 e2
 simp only[ic71,WI,cellsOf,evA,simprocAttr]
 refine (le64 b 0 1440).call frz ?_
 cases h1:inB b 0 1440 with
 | false =>
  simp only[h1,US,evA,simprocAttr]
  exact frz
 | true =>
 simp only[h1,Y3,evA,simprocAttr]
 refine (le64 e 0 1440).call frz ?_
 cases h2:inB e 0 1440 with
 | false =>
  simp only[h2,US,evA,simprocAttr]
  exact frz
 | true =>
 simp only[h2,Y3,evA,simprocAttr]
 rw[show [AV.i le,.i te,.i ca]=[le,te,ca].map AV.i from rfl]
 generalize hzs:[le,te,ca]=zs
 have hz3:zs.length=3:=by rw[← hzs];rfl
 refine ZW 3 (fun k s=>(∀ j,j<k→inB (gI zs j) 0 7=true)∧∃ v8 v9,s=⟨[dyV d,lesA ⟨le,te,ca,b,e,f,o⟩,.ptr 0 0,.ptr 1 0,.i 0,.sl 2 0 3 1,.i k,.b false,v8,v9,.undef,.undef],[.cells [.cv (minR d.mi),.cv (lesR d.ls)],.cells [.i le,.i te,.i ca,.i b,.i e,.i f,.i o],.cells (zs.map AV.i)]⟩) ?_ 0 (QF _) ⟨by omega,_,_,rfl⟩
 rintro k s hk ⟨hall,v8,v9,rfl⟩
 by_cases h:k<3
 ·have hkz:k<zs.length:=by omega
  have hd3:decide ((k:Int)<3)=true:=decide_eq_true (by omega)
  simp only[ic71l0,hd3,W9 h,ZV,V1 hkz,evA,simprocAttr]
  refine (le64 _ 0 7).call frz ?_
  cases hin:inB (gI zs k) 0 7 with
  | true =>
   have hin2:inB (zs[k]?.getD 0) 0 7=true:=hin
   simp only[hin2,Q6 (show k+1<2 ^ 63 by omega),evA,simprocAttr]
   refine ZL (by first | trivial | omega) ⟨fun j hj=>?_,_,_,rfl⟩
   rcases QQ.1 hj with hj | rfl
   ·exact hall j hj
   ·exact hin
  | false =>
   have hin2:inB (zs[k]?.getD 0) 0 7=false:=hin
   rw[outF_exR hkz hin]
   simp only[hin2,evA,simprocAttr]
   exact frz
 ·have hke:k=3:=by omega
  subst hke
  rw[outF_alR (by rw[hz3];exact hall)]
  simp only[ic71l0,evA,simprocAttr]
  by_cases h3:b≥e
  ·simp only[h3,evA,simprocAttr]
   exact frz
  ·simp only[h3,hw,evA,simprocAttr]
   refine (le64 f 0 _).call frz ?_
   cases h4:inB f 0 ((d.mi.length:Int)-1) with
   | false =>
    simp only[h4,US,evA,simprocAttr]
    exact frz
   | true =>
    simp only[h4,hw,Y3,evA,simprocAttr]
    refine (le64 o 0 _).call frz ?_
    cases h5:inB o 0 ((d.mi.length:Int)-1) with
    | false =>
     simp only[h5,evA,simprocAttr]
     exact frz
    | true =>
     simp only[h5,evA,simprocAttr]
     exact frz
theorem le24 (d:Dy) (hd:DSz d):PC Tryz.prog 24 [dyV d] (chkA d):=by
 refine ⟨ZF (fok24 true) (QC rfl) ?_,rfl⟩
 simp only[ic24,WI,cellsOf,evA,simprocAttr]
 refine (le64 (d.mi.length:Int) 1 16).call frz ?_
 unfold chkA dyE
 rw[outF_sgR]
 cases h1:inB (d.mi.length:Int) 1 16 with
 | false =>
  simp only[h1,US,evA,simprocAttr]
  exact frz
 | true =>
 cases h2:decide ((d.ls.length:Int)>12) with
 | true =>
  simp only[h1,Y3,h2,evA,simprocAttr]
  exact frz
 | false =>
 simp only[h1,Y3,h2,evA,simprocAttr]
 have hm63:=hd.mi
 have hl63:=hd.ls
 refine ZW d.mi.length (fun k s=>(∀ j,j<k→rowE d j=0)∧∃ v6 v10 v11,s=⟨[dyV d,.ptr 0 0,.i 0,.i 0,.i 0,.i k,v6,.undef,.undef,.b false,v10,v11,.undef,.undef],[.cells [.cv (minR d.mi),.cv (lesR d.ls)]]⟩) ?_ 0 (QF _) ⟨by omega,_,_,_,rfl⟩
 rintro k s hk ⟨hall,v6,v10,v11,rfl⟩
 by_cases h:k<d.mi.length
 ·simp only[ic24l1,QJ,h,evA,simprocAttr]
  refine (le70 d hd k h).call frz ?_
  by_cases h0:rowE d k=0
  ·have hb:(rowE d k != 0)=false:=by simpa using h0
   simp only[hb,Q6 (show k+1<2 ^ 63 by omega),evA,simprocAttr]
   refine ZL (by first | trivial | omega) ⟨fun j hj=>?_,_,_,_,rfl⟩
   rcases QQ.1 hj with hj | rfl
   ·exact hall j hj
   ·exact h0
  ·have hb:(rowE d k != 0)=true:=by simpa using h0
   rw[VO d.mi.length 0 k (QF _) (by omega) (fun j _ hj=>hall j hj) h0]
   simp only[hb,h0,ne_eq,not_false_eq_true,evA,simprocAttr]
   exact frz
 ·have hke:k=d.mi.length:=by omega
  subst hke
  rw[J7 d.mi.length 0 fun j _ hj=>hall j (by omega)]
  simp only[ic24l1,QJ,h,ne_eq,not_true,evA,simprocAttr]
  refine ZW d.ls.length (fun k s=>(∀ j,j<k→lesE d d.ls[j]! = 0)∧∃ v8 v12 v13,s=⟨[dyV d,.ptr 0 0,.i 0,.i 0,.i 0,.i d.mi.length,v6,.i k,v8,.b false,.b false,v11,v12,v13],[.cells [.cv (minR d.mi),.cv (lesR d.ls)]]⟩) ?_ 0 (QF _) ⟨by omega,_,_,_,rfl⟩
  clear h hk hall
  rintro k s hk ⟨hall,v8,v12,v13,rfl⟩
  by_cases h:k<d.ls.length
  ·simp only[ic24l0,QJ,h,evA,simprocAttr]
   refine DW_s [6] [] hmix (by kernel_rfl) rfl ?_
   simp only[F5 h,Qcl h,evA,simprocAttr]
   refine YE ((le71 d hd d.ls[k]!).call frz ⟨rfl,rfl⟩) rfl ?_
   simp only[evA,simprocAttr]
   by_cases h0:lesE d d.ls[k]! = 0
   ·have hb:(lesE d d.ls[k]! != 0)=false:=by simpa using h0
    simp only[hb,Q6 (show k+1<2 ^ 63 by omega),evA,simprocAttr]
    refine ZL (by first | trivial | omega) ⟨fun j hj=>?_,_,_,_,rfl⟩
    rcases QQ.1 hj with hj | rfl
    ·exact hall j hj
    ·exact h0
   ·have hb:(lesE d d.ls[k]! != 0)=true:=by simpa using h0
    rw[VO d.ls.length 0 k (QF _) (by omega) (fun j _ hj=>hall j hj) h0]
    simp only[hb,h0,ne_eq,not_false_eq_true,evA,simprocAttr]
    exact frz
  ·have hke:k=d.ls.length:=by omega
   subst hke
   rw[J7 d.ls.length 0 fun j _ hj=>hall j (by omega)]
   simp only[ic24l0,QJ,h,ne_eq,not_true,evA,simprocAttr]
   exact frz
def pplE (p:Pln):Int :=
 if (decide ((p.le.length:Int)>8)||decide ((p.te.length:Int)>8)||decide ((p.ca.length:Int)>8))=true then 3
 else if outF 0 ((p.sys.cl.length:Int)-1) p.le=true then 4
 else if (fndE (fun i=>tchE p.sys p.te[i]!) 0 p.te.length).2≠0 then (fndE (fun i=>tchE p.sys p.te[i]!) 0 p.te.length).2
 else (fndE (fun i=>carE p.sys p.ca[i]!) 0 p.ca.length).2
theorem plnE_eq (p:Pln):plnE p=if (sysE p.sys).2.2≠0 then (sysE p.sys).2.2 else if (dyE p.day).2.2≠0 then (dyE p.day).2.2 else if pplE p≠0 then pplE p else if (p.day.ls.any (whoB p))=true then 4 else 0:=by
 unfold plnE pplE
 split
 ·rfl
 split
 ·rfl
 split
 ·rw[if_pos (by decide)]
 split
 ·rw[if_pos (by decide)]
 split
 ·rename_i h;first | rfl | rw[if_pos h]
 split
 ·rfl
 ·rfl
theorem tchE_ok {s:Sys} (h0:(sysE s).2.2=0) (t:Tch):tchE s t=if rgsE s t.rg≠0 then rgsE s t.rg else if inB t.b 0 1440=false∨inB t.e 0 1440=false then 7 else if t.b>t.e then 2 else 0:=by
 have h1:lstE s t.rg=rgsE s t.rg:=by unfold lstE;rw[h0];rfl
 unfold tchE
 rw[h1,outF_coR,outF_sgR]
 cases inB t.b 0 1440 <;> cases inB t.e 0 1440 <;> simp
theorem carE_ok {s:Sys} (h0:(sysE s).2.2=0) (c:Car):carE s c=if inB c.cl 0 ((s.cl.length:Int)-1)=false then 4 else if inB c.ft 0 (setN s-1)=false then 7 else 0:=by
 have h1:lstE s []=0:=by unfold lstE;rw[h0];rfl
 unfold carE mayE
 rw[h1,if_neg (fun h=>h rfl)]
theorem le108 (p:Pln) (hp:PSz p) (h0:(sysE p.sys).2.2=0):PC Tryz.prog 108 [plnV p] (.i (pplE p)):=by
 obtain ⟨⟨hn1,hn12⟩,hm8,hok⟩:=QaV h0
 refine ⟨ZF (fok108 true) (QC rfl) ?_,rfl⟩
 have hw:IntKind.i64.wrap ((p.sys.cl.length:Int)-1)=(p.sys.cl.length:Int)-1:=ZC (by omega)
 have hpw:=HF hm8
 have hw2:IntKind.i64.wrap ((2:Int) ^ p.sys.co.length-1)=(2:Int) ^ p.sys.co.length-1:=ZC (by omega)
 simp only[ic108,WI,cellsOf,evA,simprocAttr]
 unfold pplE
 cases h1:decide ((p.le.length:Int)>8) with
 | true =>
  simp only[h1,US,evA,simprocAttr]
  exact frz
 | false =>
 cases h2:decide ((p.te.length:Int)>8) with
 | true =>
  simp only[h1,h2,US,Y3,evA,simprocAttr]
  exact frz
 | false =>
 cases h3:decide ((p.ca.length:Int)>8) with
 | true =>
  simp only[h1,h2,h3,US,Y3,evA,simprocAttr]
  exact frz
 | false =>
 have l1:=of_decide_eq_false h1
 have l2:=of_decide_eq_false h2
 have l3:=of_decide_eq_false h3
 simp only[h1,h2,h3,Y3,hw,evA,simprocAttr]
 refine ZW p.le.length (fun k s=>(∀ j,j<k→inB (gI p.le j) 0 ((p.sys.cl.length:Int)-1)=true)∧∃ v10 v11,s=⟨[plnV p,.ptr 0 0,.i 0,.i ((p.sys.cl.length:Int)-1),.i k,.undef,.undef,.undef,.undef,.b false,v10,v11,.undef,.undef,.undef,.undef,.undef,.undef,.undef],[.cells (plnC p)]⟩) ?_ 0 (QF _) ⟨by omega,_,_,rfl⟩
 rintro k s hk ⟨hall,v10,v11,rfl⟩
 by_cases h:k<p.le.length
 ·simp only[ic108l2,QJ,h,J5 h,J4 h,evA,simprocAttr]
  refine (le64 _ 0 _).call frz ?_
  cases hin:inB (gI p.le k) 0 ((p.sys.cl.length:Int)-1) with
  | true =>
   have hin2:inB (p.le[k]?.getD 0) 0 ((p.sys.cl.length:Int)-1)=true:=hin
   simp only[hin2,Q6 (show k+1<2 ^ 63 by omega),evA,simprocAttr]
   refine ZL (by first | trivial | omega) ⟨fun j hj=>?_,_,_,rfl⟩
   rcases QQ.1 hj with hj | rfl
   ·exact hall j hj
   ·exact hin
  | false =>
   have hin2:inB (p.le[k]?.getD 0) 0 ((p.sys.cl.length:Int)-1)=false:=hin
   rw[outF_exR h hin]
   simp only[hin2,evA,simprocAttr]
   exact frz
 have hke:k=p.le.length:=by omega
 subst hke
 rw[outF_alR hall]
 simp only[ic108l2,QJ,h,evA,simprocAttr]
 clear h hk hall
 have hob:∀ o∈[AObj.cells (plnC p)],Z3 1 o=true:=by
  intro o ho
  simp only[ZD,WK,or_false] at ho
  subst ho;rfl
 refine ZW p.te.length (fun k s=>(∀ j,j<k→tchE p.sys p.te[j]! = 0)∧∃ v6 v7 v11 v12 v13 v14 v15,s=⟨[plnV p,.ptr 0 0,.i 0,.i ((p.sys.cl.length:Int)-1),.i p.le.length,.i k,v6,v7,.undef,.b false,.b false,v11,v12,v13,v14,v15,.undef,.undef,.undef],[.cells (plnC p)]⟩) ?_ 0 (QF _) ⟨by omega,_,_,_,_,_,_,_,rfl⟩
 clear v11
 rintro k s hk ⟨hall,v6,v7,v11,v12,v13,v14,v15,rfl⟩
 by_cases h:k<p.te.length
 ·have hld:=tch_ld h
  have hrg:=hp.rg k h
  have hE:=tchE_ok h0 p.te[k]!
  have hfs:=fun h3=>VO (g:=fun i=>tchE p.sys p.te[i]!) p.te.length 0 k (QF _) (by omega) (fun j _ hj=>hall j hj) h3
  have hnext:tchE p.sys p.te[k]! = 0→∀ j,j<k+1→tchE p.sys p.te[j]! = 0:=fun h3 j hj=>by
   rcases QQ.1 hj with hj | rfl
   ·exact hall j hj
   ·exact h3
  generalize p.te[k]! = t at *
  obtain ⟨rg,b,e⟩:=t
  simp only at hld hrg hE
  have ia:∀ σ,VP 3 [.cv (tchR p.te),.cv (.int .i64 k)] σ=some (.cv (.rp (SV p.te) (k*3)),σ):=fun σ=>XP h σ
  simp only[ic108l1,QJ,h,ia,hld,evA,simprocAttr]
  refine (c48 p.sys hp.sys hm8 rg hrg).call frz ?_
  by_cases he:rgsE p.sys rg=0
  ·have hb:(rgsE p.sys rg != 0)=false:=by simpa using he
   rw[if_neg (fun h=>h he)] at hE
   simp only[hb,evA,simprocAttr]
   refine (le64 b 0 1440).call frz ?_
   cases h4:inB b 0 1440 with
   | false =>
    rw[if_pos (.inl h4)] at hE
    rw[hfs (by rw[hE];decide),hE]
    simp only[h4,ne_eq,evA,simprocAttr]
    exact frz
   | true =>
   simp only[h4,evA,simprocAttr]
   refine (le64 e 0 1440).call frz ?_
   cases h5:inB e 0 1440 with
   | false =>
    rw[if_pos (.inr h5)] at hE
    rw[hfs (by rw[hE];decide),hE]
    simp only[h5,ne_eq,evA,simprocAttr]
    exact frz
   | true =>
   rw[if_neg (by rw[h4,h5];simp)] at hE
   by_cases h6:b>e
   ·rw[if_pos h6] at hE
    rw[hfs (by rw[hE];decide),hE]
    simp only[h5,h6,ne_eq,evA,simprocAttr]
    exact frz
   ·rw[if_neg h6] at hE
    simp only[h5,h6,Q6 (show k+1<2 ^ 63 by omega),evA,simprocAttr]
    exact W1 [.cells (plnC p)] _ rfl (by first | trivial | omega) (QF _) hob ⟨hnext hE,_,_,_,_,_,_,_,rfl⟩
  ·have hb:(rgsE p.sys rg != 0)=true:=by simpa using he
   rw[if_pos he] at hE
   rw[hfs (by rw[hE];exact he),hE]
   simp only[hb,he,ne_eq,not_false_eq_true,evA,simprocAttr]
   exact frz
 have hke:k=p.te.length:=by omega
 subst hke
 rw[J7 p.te.length 0 fun j _ hj=>hall j (by omega)]
 simp only[ic108l1,QJ,h,ne_eq,not_true,evA,simprocAttr]
 clear h hk hall
 refine ZW p.ca.length (fun k s=>(∀ j,j<k→carE p.sys p.ca[j]! = 0)∧∃ v16 v17 v18,s=⟨[plnV p,.ptr 0 0,.i 0,.i ((p.sys.cl.length:Int)-1),.i p.le.length,.i p.te.length,v6,v7,.i k,.b false,.b false,v11,.b false,v13,v14,v15,v16,v17,v18],[.cells (plnC p)]⟩) ?_ 0 (QF _) ⟨by omega,_,_,_,rfl⟩
 rintro k s hk ⟨hall,v16,v17,v18,rfl⟩
 by_cases h:k<p.ca.length
 ·have hE:=carE_ok h0 p.ca[k]!
  have hfs:=fun h3=>VO (g:=fun i=>carE p.sys p.ca[i]!) p.ca.length 0 k (QF _) (by omega) (fun j _ hj=>hall j hj) h3
  have hnext:carE p.sys p.ca[k]! = 0→∀ j,j<k+1→carE p.sys p.ca[j]! = 0:=fun h3 j hj=>by
   rcases QQ.1 hj with hj | rfl
   ·exact hall j hj
   ·exact h3
  have ia:∀ σ,VP 2 [.cv (carR p.ca),.cv (.int .i64 k)] σ=some (.cv (.rp (QaH p.ca) (k*2)),σ):=fun σ=>XP h σ
  have ld0:(QaH p.ca)[k*2]? = some (.int .i64 (p.ca[k]!).cl):=flat_get CX h (j:=0) (by omega)
  have ld1:(QaH p.ca)[k*2+1]? = some (.int .i64 (p.ca[k]!).ft):=flat_get CX h (j:=1) (by omega)
  generalize p.ca[k]! = c at *
  obtain ⟨cl,ft⟩:=c
  simp only at ld0 ld1 hE
  simp only[ic108l0,QJ,h,ia,ld0,evA,simprocAttr]
  refine (le64 cl 0 _).call frz ?_
  cases h4:inB cl 0 ((p.sys.cl.length:Int)-1) with
  | false =>
   rw[if_pos h4] at hE
   rw[hfs (by rw[hE];decide),hE]
   simp only[h4,evA,simprocAttr]
   exact frz
  | true =>
  rw[if_neg (by rw[h4];decide)] at hE
  simp only[h4,evA,simprocAttr]
  refine DW_s [10,12] [] hmix (by kernel_rfl) rfl ?_
  simp only[ia,ld1,evA,simprocAttr]
  refine YE ((c49 p.sys.co.length hm8).call frz ⟨rfl,rfl⟩) rfl ?_
  simp only[hw2,evA,simprocAttr]
  refine YE ((le64 ft 0 _).call frz ⟨rfl,rfl⟩) rfl ?_
  unfold setN at hE
  cases h5:inB ft 0 ((2:Int) ^ p.sys.co.length-1) with
  | false =>
   rw[if_pos h5] at hE
   rw[hfs (by rw[hE];decide),hE]
   simp only[h5,evA,simprocAttr]
   exact frz
  | true =>
   rw[if_neg (by rw[h5];decide)] at hE
   simp only[h5,Q6 (show k+1<2 ^ 63 by omega),evA,simprocAttr]
   exact ZL (by first | trivial | omega) ⟨hnext hE,_,_,_,rfl⟩
 ·have hke:k=p.ca.length:=by omega
  subst hke
  rw[J7 p.ca.length 0 fun j _ hj=>hall j (by omega)]
  simp only[ic108l0,QJ,h,ne_eq,not_true,evA,simprocAttr]
  exact frz
theorem le52 (p:Pln) (hp:PSz p):PC Tryz.prog 52 [plnV p] (.i (plnE p)):=by
 have h107:=c54 p.sys hp.sys
 have h24:=le24 p.day hp.day
 have h108:=le108 p hp
 rw[plnE_eq]
 refine ⟨ZF (fok52 true) (QC rfl) ?_,rfl⟩
 simp only[ic52,WI,cellsOf,evA,simprocAttr]
 refine h107.call frz ?_
 unfold chkV
 have hl63:=hp.day.ls
 have hob:∀ o∈[AObj.cells (plnC p)],Z3 1 o=true:=by
  intro o ho
  simp only[ZD,WK,or_false] at ho
  subst ho;rfl
 by_cases hs0:(sysE p.sys).2.2=0
 rotate_left
 ·have hb:((sysE p.sys).2.2 == 0)=false:=by simpa using hs0
  simp only[hb,hs0,ne_eq,not_false_eq_true,evA,simprocAttr]
  refine J1 ?_
  by_cases hl:(0:Int)<p.day.ls.length <;> simp only[ic52l0,hl,hb,evA,simprocAttr] <;> exact frz
 have hb:((sysE p.sys).2.2 == 0)=true:=by simpa using hs0
 simp only[hb,hs0,ne_eq,not_true,evA,simprocAttr]
 refine h24.call frz ?_
 unfold chkA
 by_cases hd0:(dyE p.day).2.2=0
 rotate_left
 ·have hb:((dyE p.day).2.2 == 0)=false:=by simpa using hd0
  simp only[hb,hd0,ne_eq,not_false_eq_true,evA,simprocAttr]
  refine J1 ?_
  by_cases hl:(0:Int)<p.day.ls.length <;> simp only[ic52l0,hl,hb,evA,simprocAttr] <;> exact frz
 have hb:((dyE p.day).2.2 == 0)=true:=by simpa using hd0
 simp only[hb,hd0,ne_eq,not_true,evA,simprocAttr]
 by_cases hp0:pplE p=0
 rotate_left
 ·have hb:(pplE p == 0)=false:=by simpa using hp0
  rw[if_pos hp0]
  refine (h108 hs0).call frz ?_
  simp only[evA,simprocAttr]
  refine J1 ?_
  by_cases hl:(0:Int)<p.day.ls.length <;> simp only[ic52l0,hl,hb,evA,simprocAttr] <;> exact frz
 rw[if_neg (fun h=>h hp0)]
 refine (h108 hs0).call frz ?_
 simp only[hp0,evA,simprocAttr]
 refine ZW p.day.ls.length (fun k s=>∃ e:Int,(e=0∧(∀ j,j<k→whoB p p.day.ls[j]! = false)∨e=4∧p.day.ls.any (whoB p)=true)∧∃ v5 v8 v9,s=⟨[plnV p,.ptr 0 0,.i 0,.i e,.i k,v5,.b true,.b true,v8,v9],[.cells (plnC p)]⟩) ?_ 0 (QF _) ⟨0,.inl ⟨rfl,by omega⟩,_,_,_,rfl⟩
 rintro k s hk ⟨e,he,v5,v8,v9,rfl⟩
 have hany:k<p.day.ls.length→whoB p p.day.ls[k]! = true→p.day.ls.any (whoB p)=true:=fun h hw=>by
  rw[ZZ]
  exact ⟨p.day.ls[k]!,by rw[getElem!_pos p.day.ls k h];exact Q2 h,hw⟩
 rcases he with ⟨rfl,hall⟩ | ⟨rfl,hA⟩
 rotate_left
 ·rw[hA]
  by_cases hl:(k:Int)<p.day.ls.length <;> simp only[ic52l0,hl,evA,simprocAttr] <;> exact frz
 by_cases h:k<p.day.ls.length
 ·have hld:=Qcl h
  have hany:=hany h
  have hnext:whoB p p.day.ls[k]! = false→∀ j,j<k+1→whoB p p.day.ls[j]! = false:=fun h3 j hj=>by
   rcases QQ.1 hj with hj | rfl
   ·exact hall j hj
   ·exact h3
  have hwho:whoB p p.day.ls[k]! = (decide ((p.day.ls[k]!).le≥p.le.length)||decide ((p.day.ls[k]!).te≥p.te.length)||decide ((p.day.ls[k]!).ca≥p.ca.length)):=rfl
  generalize p.day.ls[k]! = l at *
  obtain ⟨l1,l2,l3,l4,l5,l6,l7⟩:=l
  simp only at hld hwho
  simp only[ic52l0,QJ,h,F5 h,hld,evA,simprocAttr]
  cases h1:decide (l1≥p.le.length) with
  | true =>
   rw[h1,US,US] at hwho
   simp only[h1,Q6 (show k+1<2 ^ 63 by omega),evA,simprocAttr]
   exact W1 [.cells (plnC p)] _ rfl (by first | trivial | omega) (QF _) hob ⟨4,.inr ⟨rfl,hany hwho⟩,_,_,_,rfl⟩
  | false =>
  cases h2:decide (l2≥p.te.length) with
  | true =>
   rw[h1,h2,Y3,US] at hwho
   simp only[h1,h2,Q6 (show k+1<2 ^ 63 by omega),evA,simprocAttr]
   exact W1 [.cells (plnC p)] _ rfl (by first | trivial | omega) (QF _) hob ⟨4,.inr ⟨rfl,hany hwho⟩,_,_,_,rfl⟩
  | false =>
  rw[h1,h2,Y3,Y3] at hwho
  cases h3:decide (l3≥p.ca.length) with
  | true =>
   rw[h3] at hwho
   simp only[h1,h2,h3,Q6 (show k+1<2 ^ 63 by omega),evA,simprocAttr]
   exact W1 [.cells (plnC p)] _ rfl (by first | trivial | omega) (QF _) hob ⟨4,.inr ⟨rfl,hany hwho⟩,_,_,_,rfl⟩
  | false =>
   rw[h3] at hwho
   simp only[h1,h2,h3,Q6 (show k+1<2 ^ 63 by omega),evA,simprocAttr]
   exact W1 [.cells (plnC p)] _ rfl (by first | trivial | omega) (QF _) hob ⟨0,.inl ⟨rfl,hnext hwho⟩,_,_,_,rfl⟩
 ·have hke:k=p.day.ls.length:=by omega
  subst hke
  have:p.day.ls.any (whoB p)=false:=by
   rw[W6]
   intro l hl
   obtain ⟨j,hj,rfl⟩:=WN.1 hl
   have:=hall j hj
   rw[getElem!_pos p.day.ls j hj] at this
   rw[this];decide
  rw[this]
  simp only[ic52l0,QJ,h,evA,simprocAttr]
  exact frz
theorem le38 (p:Pln) (hp:PSz p):PC Tryz.prog 38 [plnV p] (hrsA p):=by
 refine ⟨ZF (fok38 true) (QC rfl) ?_,by unfold hrsA;split <;> rfl⟩
 simp only[ic38,WI,cellsOf,evA,simprocAttr]
 refine (le52 p hp).call frz ?_
 unfold hrsA
 by_cases he:plnE p=0
 rotate_left
 ·have hb:(plnE p != 0)=true:=by simpa using he
  rw[if_pos he]
  simp only[hb,evA,simprocAttr]
  exact .tup (.cons (.agg (.cons (.c .nl) (.cons (.c .nl) (.cons (.c .nl) .nil)))) (.cons (.c (.c _ trivial)) .nil))
 have hok:=Qdc he
 have hb:(plnE p != 0)=false:=by simpa using he
 rw[if_neg (fun h=>h he)]
 simp only[hb,he,evA,simprocAttr]
 have m1:=fun σ=>MP (n:=p.le.length) (WJ hok.le (by decide)) σ
 have m2:=fun σ=>MP (n:=p.te.length) (WJ hok.te (by decide)) σ
 have m3:=fun σ=>MP (n:=p.ca.length) (WJ hok.ca (by decide)) σ
 refine DW_s [] [(1,7),(1,11),(1,13),(3,7),(3,11),(3,13),(5,3),(5,11),(5,13),(7,3),(7,11),(7,13),(9,3),(9,7),(9,13),(11,3),(11,7),(11,13),(13,3),(13,7),(13,11)] hmix (by kernel_rfl) rfl ?_
 simp only[m1,m2,m3,evA,simprocAttr]
 have h12:=hok.day.l12
 have hob:∀ a b c:List Int,∀ o∈[AObj.cells (plnC p),.cells [.cv .nils,.cv .nils,.cv .nils],.cells (a.map AV.i),.cells (b.map AV.i),.cells (c.map AV.i),.cells [.sl 2 0 p.le.length 1,.sl 3 0 p.te.length 1,.sl 4 0 p.ca.length 1]],Z3 6 o=true:=by
  intro a b c o ho
  simp only[ZD,WK,or_false] at ho
  rcases ho with rfl | rfl | rfl | rfl | rfl | rfl
  ·rfl
  ·rfl
  ·exact Qbf _ _
  ·exact Qbf _ _
  ·exact Qbf _ _
  ·rfl
 have hdur:∀ i,i<p.day.ls.length→0≤(p.day.ls[i]!).e-(p.day.ls[i]!).b∧(p.day.ls[i]!).e-(p.day.ls[i]!).b≤1440:=fun i hi=>by
  have hl:=hok.day.les i hi
  have:=hl.b0
  have:=hl.be
  have:=hl.e1
  omega
 refine ZW p.day.ls.length (fun k s=>∃ v7 v8 v10,s=⟨[plnV p,.ptr 0 0,.ptr 1 0,.i 0,.i 0,.ptr 5 0,.i k,v7,v8,.b false,v10],[.cells (plnC p),.cells [.cv .nils,.cv .nils,.cv .nils],.cells ((hrF (·.le) p.le.length p.day.ls k).map AV.i),.cells ((hrF (·.te) p.te.length p.day.ls k).map AV.i),.cells ((hrF (·.ca) p.ca.length p.day.ls k).map AV.i),.cells [.sl 2 0 p.le.length 1,.sl 3 0 p.te.length 1,.sl 4 0 p.ca.length 1]]⟩) ?_ 0 (QF _) ⟨_,_,_,rfl⟩
 rintro k s hk ⟨v7,v8,v10,rfl⟩
 by_cases h:k<p.day.ls.length
 ·have hld:=MQ h
  have hd:=hdur k h
  have hles:=hok.day.les k h
  have hwho:=hok.who k h
  have b1:=Qar (f:=(·.le)) (n:=p.le.length) hdur k hk
  have b2:=Qar (f:=(·.te)) (n:=p.te.length) hdur k hk
  have b3:=Qar (f:=(·.ca)) (n:=p.ca.length) hdur k hk
  have n1:=DC (·.le) p.le.length p.day.ls k
  have n2:=DC (·.te) p.te.length p.day.ls k
  have n3:=DC (·.ca) p.ca.length p.day.ls k
  have s1:hrF (·.le) p.le.length p.day.ls (k+1)=(hrF (·.le) p.le.length p.day.ls k).set (p.day.ls[k]!).le.toNat (gI (hrF (·.le) p.le.length p.day.ls k) (p.day.ls[k]!).le.toNat+((p.day.ls[k]!).e-(p.day.ls[k]!).b)):=rfl
  have s2:hrF (·.te) p.te.length p.day.ls (k+1)=(hrF (·.te) p.te.length p.day.ls k).set (p.day.ls[k]!).te.toNat (gI (hrF (·.te) p.te.length p.day.ls k) (p.day.ls[k]!).te.toNat+((p.day.ls[k]!).e-(p.day.ls[k]!).b)):=rfl
  have s3:hrF (·.ca) p.ca.length p.day.ls (k+1)=(hrF (·.ca) p.ca.length p.day.ls k).set (p.day.ls[k]!).ca.toNat (gI (hrF (·.ca) p.ca.length p.day.ls k) (p.day.ls[k]!).ca.toNat+((p.day.ls[k]!).e-(p.day.ls[k]!).b)):=rfl
  rw[s1,s2,s3]
  generalize hrF (·.le) p.le.length p.day.ls k=A at *
  generalize hrF (·.te) p.te.length p.day.ls k=B at *
  generalize hrF (·.ca) p.ca.length p.day.ls k=C at *
  have hles1:=hles.le
  have hles2:=hles.te
  have hles3:=hles.ca
  clear s1 s2 s3 hles
  generalize p.day.ls[k]! = l at *
  obtain ⟨l1,l2,l3,l4,l5,l6,l7⟩:=l
  simp only at hles1 hles2 hles3 hwho hd hld ⊢
  obtain ⟨x,rfl⟩:∃ x:Nat,l1=(x:Int):=⟨l1.toNat,by omega⟩
  obtain ⟨y,rfl⟩:∃ y:Nat,l2=(y:Int):=⟨l2.toNat,by omega⟩
  obtain ⟨z,rfl⟩:∃ z:Nat,l3=(z:Int):=⟨l3.toNat,by omega⟩
  have hx2:x<p.le.length:=by omega
  have hy2:y<p.te.length:=by omega
  have hz2:z<p.ca.length:=by omega
  simp only[Int.toNat_natCast]
  have hwn:IntKind.i64.wrap (l5-l4)=l5-l4:=ZC (by omega)
  have lA:=V1 (zs:=A) (k:=x) (by omega)
  have lB:=V1 (zs:=B) (k:=y) (by omega)
  have lC:=V1 (zs:=C) (k:=z) (by omega)
  have wA:IntKind.i64.wrap (A[x]?.getD 0+(l5-l4))=gI A x+(l5-l4):=ZC (by have:=b1 x;unfold gI at this;omega)
  have wB:IntKind.i64.wrap (B[y]?.getD 0+(l5-l4))=gI B y+(l5-l4):=ZC (by have:=b2 y;unfold gI at this;omega)
  have wC:IntKind.i64.wrap (C[z]?.getD 0+(l5-l4))=gI C z+(l5-l4):=ZC (by have:=b3 z;unfold gI at this;omega)
  have eA:x+1≤A.length:=by omega
  have eB:y+1≤B.length:=by omega
  have eC:z+1≤C.length:=by omega
  simp only[ic38l0,QJ,h,F5 h,hld,hwn,evA,simprocAttr]
  refine DW_s [] [] hmix (by kernel_rfl) rfl ?_
  simp only[W9 hx2,lA,wA,ZK,eA,GC,ZV,evA,simprocAttr]
  refine DW_s [] [] hmix (by kernel_rfl) rfl ?_
  simp only[W9 hy2,lB,wB,ZK,eB,GC,ZV,evA,simprocAttr]
  refine DW_s [] [] hmix (by kernel_rfl) rfl ?_
  simp only[W9 hz2,lC,wC,ZK,eC,GC,ZV,Q6 (show k+1<2 ^ 63 by omega),evA,simprocAttr]
  exact W1 [.cells (plnC p),.cells [.cv .nils,.cv .nils,.cv .nils],.cells ((A.set x (gI A x+(l5-l4))).map AV.i),.cells ((B.set y (gI B y+(l5-l4))).map AV.i),.cells ((C.set z (gI C z+(l5-l4))).map AV.i),.cells [.sl 2 0 p.le.length 1,.sl 3 0 p.te.length 1,.sl 4 0 p.ca.length 1]] _ rfl (by first | trivial | omega) (QF _) (hob _ _ _) ⟨_,_,_,rfl⟩
 ·have hke:k=p.day.ls.length:=by omega
  subst hke
  simp only[ic38l0,QJ,h,evA,simprocAttr]
  exact .tup (.cons (.agg (.cons (U4 (fun _=>trivial) (DC _ _ _ _).symm rfl) (.cons (U4 (fun _=>trivial) (DC _ _ _ _).symm rfl) (.cons (U4 (fun _=>trivial) (DC _ _ _ _).symm rfl) .nil)))) (.cons (.c (.c _ trivial)) .nil))
def atD (g:Int→Int) (S:List Int) (z:Int):Nat→Nat
 | 0=>0
 | k+1=>if g (gI S k)>g z then atD g S z k else k+1
theorem atD_le (g:Int→Int) (S:List Int) (z:Int):∀ k,atD g S z k≤k
 | 0=>QG _
 | k+1=>by
  unfold atD
  split
  ·exact Nat.le_succ_of_le (atD_le g S z k)
  ·exact QG _
def insD (g:Int→Int) (S:List Int) (z:Int):List Int:=S.take (atD g S z S.length)++z::S.drop (atD g S z S.length)
theorem atD_app {g:Int→Int} {S T:List Int} {z:Int}:∀ k,k≤S.length→atD g (S++T) z k=atD g S z k
 | 0,_=>rfl
 | k+1,h=>by
  have e:gI (S++T) k=gI S k:=by unfold gI;rw[QE (by omega)]
  unfold atD
  rw[e,atD_app k (by omega)]
theorem insJ_at (g:Int→Int):∀ (j:Nat) (S:List Int) (z:Int) (T:List Int),S.length=j→insJ g j (S++z::T)=insD g S z++T
 | 0,S,z,T,h=>by
  have:S=[]:=ZT h
  subst this;rfl
 | j+1,S,z,T,h=>by
  obtain ⟨R,y,rfl⟩:∃ R y,S=R++[y]:=⟨S.dropLast,S.getLast (by intro h0;rw[h0] at h;cases h),(List.dropLast_concat_getLast _).symm⟩
  have hR:R.length=j:=by simpa using h
  have g1:gI (R++[y]++z::T) (j+1)=z:=by unfold gI;simp[hR]
  have g2:gI (R++[y]++z::T) j=y:=by unfold gI;simp[hR]
  have g3:gI (R++[y]) j=y:=by unfold gI;simp[hR]
  have hsw:swpL (R++[y]++z::T) (j+1)=R++z::y::T:=by
   unfold swpL
   rw[Nat.add_sub_cancel,g1,g2]
   subst hR
   simp[List.set_append]
  unfold insJ ltG insD
  rw[Nat.add_sub_cancel,g1,g2,h]
  unfold atD
  rw[g3]
  by_cases hlt:g z<g y
  ·rw[if_pos (decide_eq_true hlt),if_pos hlt,hsw,insJ_at g j R z (y::T) hR,atD_app j (by omega)]
   have ha:=atD_le g R z j
   unfold insD
   rw[hR,List.take_append_of_le_length (by omega),List.drop_append_of_le_length (by omega)]
   simp
  ·rw[if_neg (by rw[decide_eq_false hlt];decide),if_neg hlt,Q5 (by omega),List.drop_of_length_le (by omega)]
   simp
theorem insJ_app {g:Int→Int} {j:Nat} {X t:List Int} (h:j<X.length):insJ g j (X++t)=insJ g j X++t:=by
 have hX:X=X.take j++X[j]::X.drop (j+1):=by simp
 have hl:(X.take j).length=j:=by simp;omega
 have e1:=insJ_at g j (X.take j) X[j] (X.drop (j+1)) hl
 have e2:=insJ_at g j (X.take j) X[j] (X.drop (j+1)++t) hl
 rw[← hX] at e1
 rw[e1,QW,← e2]
 congr 1
 rw[← List.cons_append,← QW,← hX]
theorem isrt_app {g:Int→Int} {l t:List Int}:∀ k,k≤l.length→isrt g (l++t) k=isrt g l k++t
 | 0,_=>rfl
 | k+1,h=>by
  unfold isrt
  rw[isrt_app k (by omega),insJ_app (by rw[I9];omega)]
theorem isrt_snoc (g:Int→Int) (l:List Int) (z:Int):isrt g (l++[z]) (l++[z]).length=insD g (isrt g l l.length) z:=by
 rw[QM]
 show insJ g l.length (isrt g (l++[z]) l.length)=_
 rw[isrt_app _ (QG _),insJ_at g l.length _ z [] (I9 _ _ _),ZU]
def thK (d:Dy) (w n k:Nat):List Int:=isrt (bgF d) (pkL (whoF w) d.ls n k) (pkL (whoF w) d.ls n k).length
theorem thK_succ (d:Dy) (w n k:Nat):thK d w n (k+1)=if whoF w d.ls[k]! = n then insD (bgF d) (thK d w n k) k else thK d w n k:=by
 unfold thK pkL
 rw[ET]
 by_cases h:whoF w d.ls[k]! = n
 ·rw[if_pos h,if_pos (by simpa using h),isrt_snoc]
 ·rw[if_neg h,if_neg (by simpa using h),ZU]
theorem thK_all (d:Dy) (w n:Nat):thK d w n d.ls.length=thL d w n:=rfl
theorem thK_li (d:Dy) (w n k:Nat) (hk:k≤d.ls.length):∀ i,i<(thK d w n k).length→isLi d (gI (thK d w n k) i) :=
 Qao (bgF d) (fun i hi=>by
  have:=Qcs hi
  obtain ⟨j,e,hj,_⟩:=bits_mem.1 this
  exact ⟨j,by omega,e⟩) _ (QG _)
theorem thK_len (d:Dy) (w n k:Nat):(thK d w n k).length≤k:=by
 unfold thK
 rw[I9]
 unfold pkL YS
 rw[ZK]
 exact YR (HC _ _) (by simp)
theorem who_get (l:Les) {w:Nat} (hw:w<3):([AV.i l.le,.i l.te,.i l.ca])[w]? = some (.i (whoF w l)):=by
 match w,hw with
 | 0,_=>rfl
 | 1,_=>rfl
 | 2,_=>rfl
theorem le139 (l:Les) (w:Nat) (hw:w<3):PC Tryz.prog 139 [lesA l,.i w] (.i (whoF w l)):=by
 refine ⟨ZF (fok139 true) (QC rfl) ?_,rfl⟩
 have hg:([AV.i l.le,.i l.te,.i l.ca])[w]? = some (.i (whoF w l)):=who_get l hw
 simp only[ic139,WI,cellsOf,W9 hw,ZV,hg,evA,simprocAttr]
 exact frz
theorem app_to {σ:List AObj} {l n:Nat} {xs ys:List Int} {w:AV} (hr:rowOf σ l=some (xs.map AV.i)) (hn:n=xs.length) (hs:Z9 σ 1 w=some (ys.map AV.i)) (hw:lenF w=some ys.length) (hb:xs.length+ys.length<2 ^ 40) :
  ∃ τ,ZX 1 8 [.sl l 0 n 1,w] σ=some (.sl σ.length 0 (n+ys.length) 1,τ)∧τ.length=σ.length+1∧rowOf τ σ.length=some ((xs++ys).map AV.i)∧∀ i,i≠l→i<σ.length→τ[i]? = σ[i]? := by
 subst hn
 refine ⟨σ.set l .dead++[.cells ((xs++ys).map AV.i)],?_,by simp,?_,fun i h1 h2=>?_⟩
 ·simp only[ZX,hr,hs,hw,Option.bind_some]
  have hp:(2:Nat) ^ 40=1099511627776:=by decide
  have hp2:(2:Nat) ^ 44=17592186044416:=by decide
  have hsc:(ys.map AV.i).all AV.isSc=true:=by
   rw[Q1]
   intro x hx
   obtain ⟨z,_,rfl⟩:=ZP.1 hx
   rfl
  rw[if_pos ⟨trivial,by simp,by simp,by omega,by omega,hsc⟩,Q5 (by simp),ZS]
 ·rw[show σ.length=(σ.set l .dead).length by simp,XH]
 ·rw[QE (by simpa using h2),QU (Ne.symm h1)]
theorem row_keep {σ τ:List AObj} {l:Nat} {cs:List AV} (h:τ[l]? = σ[l]?) (hr:rowOf σ l=some cs):rowOf τ l=some cs:=by
 unfold rowOf at *
 rw[h];exact hr
theorem rowLt {σ:List AObj} {l:Nat} {cs:List AV} (h:rowOf σ l=some cs):l<σ.length:=by
 rcases ZB l σ.length with h2 | h2
 ·exact h2
 ·unfold rowOf at h
  rw[QN h2] at h
  cases h
theorem xOne_of {a b:List AObj}:∀ {ls:List Nat},(∀ l∈ls,a[l]? = b[l]?)→xOne ls a b
 | [],_=>trivial
 | l::ls,h=>⟨h l (by simp),xOne_of fun x hx=>h x (by simp[hx])⟩
theorem slS_hi {b:Nat} {σ:List AObj} {v:AV} {zs:List Int} (h:G9 b σ v zs) {a:Nat} (ha:a≤zs.length) :
  ∃ w,(∀ τ,VG 1 false true [v,.i a] τ=some (w,τ))∧lenF w=some (zs.take a).length∧(∀ τ,(∀ l cs,b≤l→rowOf σ l=some cs→rowOf τ l=some cs)→Z9 τ 1 w=some ((zs.take a).map AV.i))∧∀ l∈JJ w,l<σ.length:=by
 rcases h.2 with ⟨rfl,rfl⟩ | ⟨l,hl,rfl,hr⟩
 ·have:a=0:=by simpa using ha
  subst this
  exact ⟨.cv .nils,fun τ=>rfl,rfl,fun τ _=>rfl,fun l h=>absurd h (by simp[JJ])⟩
 ·have hlt:=rowLt hr
  refine ⟨.sl l 0 a 1,fun τ=>?_,by simp[lenF,ha],fun τ hτ=>?_,fun l' h=>by simp[JJ] at h;omega⟩
  ·simp[VG,bnds,bnd,ha]
  ·have h2:=hτ l _ hl hr
   simp only[Z9,if_true,h2,Option.bind_some]
   simp[ha,List.map_take]
theorem slS_lo {b:Nat} {σ:List AObj} {v:AV} {zs:List Int} (h:G9 b σ v zs) {a:Nat} (ha:a≤zs.length) :
  ∃ w,(∀ τ,VG 1 true false [v,.i a] τ=some (w,τ))∧lenF w=some (zs.drop a).length∧∀ τ,(∀ l cs,b≤l→rowOf σ l=some cs→rowOf τ l=some cs)→Z9 τ 1 w=some ((zs.drop a).map AV.i):=by
 rcases h.2 with ⟨rfl,rfl⟩ | ⟨l,hl,rfl,hr⟩
 ·have:a=0:=by simpa using ha
  subst this
  exact ⟨.cv .nils,fun τ=>rfl,rfl,fun τ _=>rfl⟩
 ·by_cases he:a=zs.length∧0<a
  ·obtain ⟨rfl,h0⟩:=he
   refine ⟨.cv (.rsl [] 0),fun τ=>?_,by simp[lenF],fun τ hτ=>by simp[Z9]⟩
   simp[VG,bnds,bnd,h0]
  ·refine ⟨.sl l a (zs.length-a) 1,fun τ=>?_,by simp[lenF],fun τ hτ=>?_⟩
   ·simp[VG,bnds,bnd,ha,he]
   ·have h2:=hτ l _ hl hr
    simp only[Z9,if_true,h2,Option.bind_some]
    have h3:a+(zs.length-a)=zs.length:=by omega
    simp[h3,List.map_drop,Q5]
theorem le105 (d:Dy) (hd:DyOk d) (w:Nat) (hw:w<3) (n:Nat):PC Tryz.prog 105 [dyV d,.i w,.i n] (ints (thL d w n)):=by
 refine ⟨ZF (fok105 true) (QC rfl) ?_,rfl⟩
 have h12:=hd.l12
 have h40:(2:Nat) ^ 40=1099511627776:=by decide
 simp only[ic105,WI,cellsOf,evA,simprocAttr]
 refine ZW d.ls.length (fun k s=>∃ v5 v7 v8 v9 v10 J,G9 1 (AObj.cells [.cv (minR d.mi),.cv (lesR d.ls)]::J) v5 (thK d w n k)∧s=⟨[dyV d,.i w,.i n,.ptr 0 0,.cv .nils,v5,.i k,v7,v8,v9,v10],.cells [.cv (minR d.mi),.cv (lesR d.ls)]::J⟩) ?_ 0 (QF _) ⟨_,_,_,_,_,[],⟨by simp,.inl ⟨rfl,rfl⟩⟩,rfl⟩
 rintro k s hk ⟨v5,v7,v8,v9,v10,J,hacc,rfl⟩
 by_cases h:k<d.ls.length
 ·have hsucc:=thK_succ d w n k
  have hli:=thK_li d w n k hk
  have hln:=thK_len d w n k
  have h139:=le139 d.ls[k]! w hw
  generalize thK d w n k=S at *
  simp only[ic105l1,QJ,h,F5 h,Qcl h,evA,simprocAttr]
  refine h139.call frz ?_
  by_cases hwn:whoF w d.ls[k]! = n
  ·have hb:(whoF w d.ls[k]! != n)=false:=by simpa using hwn
   rw[if_pos hwn] at hsucc
   have hlen:∀ σ,RZ false [v5] σ=some (.i S.length,σ):=fun σ=>by
    rcases hacc.2 with ⟨rfl,rfl⟩ | ⟨l,_,rfl,_⟩ <;> rfl
   simp only[hb,hlen,evA,simprocAttr]
   refine ZW S.length (fun i s=>atD (bgF d) S k S.length=atD (bgF d) S k (S.length-i)∧∃ v10,s=⟨[dyV d,.i w,.i n,.ptr 0 0,.cv .nils,v5,.i k,.i (S.length-i:Nat),.b true,.b false,v10],.cells [.cv (minR d.mi),.cv (lesR d.ls)]::J⟩) ?_ 0 (QF _) ⟨rfl,_,rfl⟩
   clear v10
   rintro i s hi ⟨hat,v10,rfl⟩
   have hcase:(∃ m,S.length-i=m+1∧i<S.length∧bgF d (gI S m)>bgF d k)∨(atD (bgF d) S k S.length=S.length-i∧(S.length-i=0∨∃ m,S.length-i=m+1∧¬ bgF d (gI S m)>bgF d k)):=by
    cases hm:S.length-i with
    | zero=>rw[hm] at hat;exact .inr ⟨hat,.inl rfl⟩
    | succ m =>
     by_cases hg:bgF d (gI S m)>bgF d k
     ·exact .inl ⟨m,rfl,by omega,hg⟩
     ·rw[hm,show atD (bgF d) S k (m+1)=if bgF d (gI S m)>bgF d k then atD (bgF d) S k m else m+1 from rfl,if_neg hg] at hat
      exact .inr ⟨hat,.inr ⟨m,rfl,hg⟩⟩
   have hld:∀ m,m<S.length→∃ j l,j<d.ls.length∧gI S m=(j:Int)∧v5=.sl l 0 S.length 1∧1≤l∧rowOf (AObj.cells [.cv (minR d.mi),.cv (lesR d.ls)]::J) l=some (S.map AV.i):=fun m hm=>by
    obtain ⟨j,hj,he⟩:=hli m hm
    rcases hacc.2 with ⟨_,rfl⟩ | ⟨l,hl,rfl,hr⟩
    ·exact absurd hm (W5 _)
    ·exact ⟨j,l,hj,he,rfl,hl,hr⟩
   rcases hcase with ⟨m,hm,hil,hg⟩ | ⟨hfin,hor⟩
   ·rw[hm]
    obtain ⟨j,l,hj,hje,rfl,hl1,hr⟩:=hld m (by omega)
    have hld:=V1 (zs:=S) (k:=m) (by omega)
    rw[show S[m]?.getD 0=(j:Int) from hje] at hld
    have hmS:m<S.length:=by omega
    have hd1:decide (((m+1:Nat):Int)>0)=true:=decide_eq_true (by omega)
    have hw1:IntKind.i64.wrap (((m+1:Nat):Int)-1)=(m:Int):=by rw[ZC (by omega)];omega
    rw[hje] at hg
    have hd2:decide ((d.ls[j]!).b>(d.ls[k]!).b)=true:=decide_eq_true hg
    simp only[ic105l0,evA,simprocAttr]
    refine DW_s [] [] hmix (by kernel_rfl) rfl ?_
    simp only[hd1,hw1,W9 hmS,ZV,hr,hld,F5 hj,F5 h,les_3 hj,les_3 h,hd2,evA,simprocAttr]
    refine ZL hil ⟨?_,.b true,?_⟩
    ·rw[hat,hm,show S.length-(i+1)=m by omega]
     show (if _ then _ else _)=_
     rw[hje,if_pos hg]
    ·rw[show S.length-(i+1)=m by omega]
   ·have hexit:S.length-i=0∨∃ m j l,S.length-i=m+1∧m<S.length∧j<d.ls.length∧gI S m=(j:Int)∧v5=.sl l 0 S.length 1∧rowOf (AObj.cells [.cv (minR d.mi),.cv (lesR d.ls)]::J) l=some (S.map AV.i)∧¬ (d.ls[j]!).b>(d.ls[k]!).b:=by
     rcases hor with h0 | ⟨m,hm,hg⟩
     ·exact .inl h0
     ·obtain ⟨j,l,hj,hje,h5,hl1,hr⟩:=hld m (by omega)
      rw[hje] at hg
      exact .inr ⟨m,j,l,hm,by omega,hj,hje,h5,hr,hg⟩
    clear hor hld
    have ha:S.length-i≤S.length:=Nat.sub_le _ _
    generalize S.length-i=a at *
    obtain ⟨w1,s1,n1,c1,q1⟩:=slS_hi hacc ha
    obtain ⟨w2,s2,n2,c2⟩:=slS_lo hacc ha
    have hbx:=hacc.1
    obtain ⟨τ1,A1,L1,R1,K1⟩:=app_to (σ:=AObj.cells [.cv (minR d.mi),.cv (lesR d.ls)]::(J++[AObj.cells []])) (l:=J.length+1) (n:=0) (xs:=[]) (ys:=S.take a) (w:=w1) (by rw[MK,XH];rfl) rfl (c1 _ fun l cs h1 h2=>by
     obtain ⟨l,rfl⟩:∃ l',l=l'+1:=⟨l-1,by omega⟩
     rw[MK] at h2 ⊢
     exact FU h2 _) n1 (by simp;omega)
    have hsub:∀ l cs,1≤l→rowOf (AObj.cells [.cv (minR d.mi),.cv (lesR d.ls)]::J) l=some cs→l<J.length+1∧rowOf τ1 l=some cs:=fun l cs h1 h2=>by
     have hl:l<J.length+1:=by
      rcases ZB l (J.length+1) with h | h
      ·exact h
      ·unfold rowOf at h2
       rw[QN (by simpa using h)] at h2
       cases h2
     refine ⟨hl,row_keep ?_ h2⟩
     rw[K1 l (by omega) (by simp;omega),← List.cons_append,QE (by simpa using hl)]
    have hL1:τ1.length=J.length+3:=by rw[L1];simp
    obtain ⟨τ2,A2,L2,R2,K2⟩:=app_to (σ:=τ1++[AObj.cells [.i (k:Int)]]) (l:=(J++[AObj.cells []]).length+1) (n:=(S.take a).length) (xs:=S.take a) (ys:=[(k:Int)]) (w:=.sl τ1.length 0 1 1) (FU R1 _) rfl (by simp[Z9,XH]) rfl (by simp;omega)
    have hL2:τ2.length=J.length+5:=by rw[L2];simp[hL1]
    obtain ⟨τ3,A3,L3,R3,K3⟩:=app_to (σ:=τ2) (l:=(τ1++[AObj.cells [.i (k:Int)]]).length) (n:=(S.take a).length+1) (xs:=S.take a++[(k:Int)]) (ys:=S.drop a) (w:=w2) R2 (by simp) (c2 _ fun l cs h1 h2=>by
     obtain ⟨hl,hr⟩:=hsub l cs h1 h2
     refine row_keep ?_ hr
     rw[K2 l (by simp;omega) (by simp;omega),QE (by omega)]) n2 (by simp;omega)
    have hbx0:τ3[0]? = some (AObj.cells [.cv (minR d.mi),.cv (lesR d.ls)]):=by
     rw[K3 0 (by simp) (by omega),K2 0 (by simp) (by simp),QE (by omega),K1 0 (by simp) (by simp)]
     rfl
    obtain ⟨J2,rfl⟩:∃ J2,τ3=AObj.cells [.cv (minR d.mi),.cv (lesR d.ls)]::J2:=by
     match τ3,hbx0 with
     | o::J2,h=>cases h;exact ⟨J2,rfl⟩
    have hnew:∀ v10,∃ v5' v7 v8 v9 v10' J',G9 1 (AObj.cells [.cv (minR d.mi),.cv (lesR d.ls)]::J') v5' (thK d w n (k+1))∧(⟨[dyV d,.i w,.i n,.ptr 0 0,.cv .nils,.sl τ2.length 0 ((S.take a).length+1+(S.drop a).length) 1,.i (k+1:Nat),.i a,.b true,.b false,v10],AObj.cells [.cv (minR d.mi),.cv (lesR d.ls)]::J2⟩:St)=⟨[dyV d,.i w,.i n,.ptr 0 0,.cv .nils,v5',.i (k+1:Nat),v7,v8,v9,v10'],AObj.cells [.cv (minR d.mi),.cv (lesR d.ls)]::J'⟩:=fun v10=>by
     refine ⟨_,_,_,_,_,J2,⟨by simp,.inr ⟨τ2.length,by omega,?_,?_⟩⟩,rfl⟩
     ·rw[hsucc];unfold insD;rw[hfin]
      simp only[QM,List.length_cons,Nat.add_assoc,Nat.add_comm 1]
     ·rw[R3,hsucc];unfold insD;rw[hfin,QW];rfl
    have hchk:(τ1++[AObj.cells [AV.i k]])[J.length+1]? = τ1[J.length+1]?∧((τ1++[AObj.cells [AV.i k]])[J.length+1]? = τ1[J.length+1]?∧xOne (JJ w1++[(J++[AObj.cells []]).length+1]) (τ1++[AObj.cells [AV.i k]]) τ1)∧(AObj.cells [AV.cv (minR d.mi),AV.cv (lesR d.ls)]::(J++[AObj.cells []]))[τ1.length]? = (AObj.cells [AV.cv (minR d.mi),AV.cv (lesR d.ls)]::J)[τ1.length]?∧τ1[τ1.length]? = (AObj.cells [AV.cv (minR d.mi),AV.cv (lesR d.ls)]::(J++[AObj.cells []]))[τ1.length]? := by
     refine ⟨QE (by omega),⟨QE (by omega),xOne_of fun l hl=>QE ?_⟩,?_,?_⟩
     ·rcases YV.1 hl with hl | hl
      ·have:=q1 l hl
       simp at this;omega
      ·simp at hl;omega
     ·rw[QN (by simp;omega),QN (by simp;omega)]
     ·rw[QN (by omega),QN (by simp;omega)]
    simp only[ic105l0,evA,simprocAttr]
    refine DW_s [] [] hmix (by kernel_rfl) rfl ?_
    rcases hexit with h0 | ⟨m,j,l,hm,hmS,hj,hje,h5,hr,hg⟩
    ·have hd1:decide ((a:Int)>0)=false:=decide_eq_false (by omega)
     simp only[hd1,evA,simprocAttr]
     refine DW_s [] [(0,6),(4,6),(6,0),(6,4)] hmix (by kernel_rfl) rfl ?_
     simp only[s1,A1,A2,s2,A3,evA,simprocAttr]
     rw[Q6 (show k+1<2 ^ 63 by omega)]
     exact ⟨hchk,ZL trivial (hnew _)⟩
    ·obtain hm:=hm
     have hd1:decide ((a:Int)>0)=true:=decide_eq_true (by omega)
     have hw1:IntKind.i64.wrap ((a:Int)-1)=(m:Int):=by rw[ZC (by omega)];omega
     have hd2:decide ((d.ls[j]!).b>(d.ls[k]!).b)=false:=decide_eq_false hg
     have hld:=V1 (zs:=S) hmS
     rw[show S[m]?.getD 0=(j:Int) from hje] at hld
     have hia:∀ σ,VP 1 [v5,.i m] σ=some (.ptr l m,σ):=fun σ=>by rw[h5,W9 hmS,ZV]
     simp only[hd1,hw1,hia,hr,hld,F5 hj,F5 h,les_3 hj,les_3 h,hd2,evA,simprocAttr]
     refine DW_s [] [(0,6),(4,6),(6,0),(6,4)] hmix (by kernel_rfl) rfl ?_
     simp only[s1,A1,A2,s2,A3,evA,simprocAttr]
     rw[Q6 (show k+1<2 ^ 63 by omega)]
     exact ⟨hchk,ZL trivial (hnew _)⟩
  ·have hb:(whoF w d.ls[k]! != n)=true:=by simpa using hwn
   rw[if_neg hwn] at hsucc
   simp only[hb,Q6 (show k+1<2 ^ 63 by omega),evA,simprocAttr]
   refine ZL (by first | trivial | omega) ⟨_,_,_,_,_,J,by rw[hsucc];exact hacc,rfl⟩
 ·have hke:k=d.ls.length:=by omega
  subst hke
  rw[thK_all] at hacc
  simp only[ic105l1,QJ,h,evA,simprocAttr]
  exact acc_frz (fun _=>trivial) hacc.acc
theorem right_ok {p:Pln} (h:LkOk p) {l:Les} (hl:LiOk p l):Qca p l=alwB p.sys (p.te[l.te.toNat]!).rg (p.ca[l.ca.toNat]!).cl (p.ca[l.ca.toNat]!).ft∧rgsE p.sys (p.te[l.te.toNat]!).rg=0∧inB (p.ca[l.ca.toNat]!).cl 0 ((p.sys.cl.length:Int)-1)=true∧inB (p.ca[l.ca.toNat]!).ft 0 (setN p.sys-1)=true:=by
 have h1:=h.tch l.te.toNat (by have:=hl.te;omega)
 have h2:=h.car l.ca.toNat (by have:=hl.ca;omega)
 unfold Qca
 generalize p.te[l.te.toNat]! = t at *
 generalize p.ca[l.ca.toNat]! = c at *
 have hrg:lstE p.sys t.rg=rgsE p.sys t.rg:=by unfold lstE;rw[h.sys];rfl
 have hnil:lstE p.sys []=0:=by unfold lstE;rw[h.sys];rfl
 unfold tchE at h1
 split at h1
 ·rename_i hh;exact absurd h1 hh
 rename_i hh
 have h0:lstE p.sys t.rg=0:=JE.1 hh
 unfold carE mayE at h2
 rw[hnil,if_neg (fun h=>h rfl)] at h2
 split at h2
 ·cases h2
 rename_i g1
 split at h2
 ·cases h2
 rename_i g2
 have g1:inB c.cl 0 ((p.sys.cl.length:Int)-1)=true:=by simpa using g1
 have g2:inB c.ft 0 (setN p.sys-1)=true:=by simpa using g2
 refine ⟨?_,by rw[← hrg];exact h0,g1,g2⟩
 unfold mayE
 rw[h0,if_neg (fun h=>h rfl),g1,g2,if_neg (by decide),if_neg (by decide)]
 rfl
theorem le36 (p:Pln) (hp:PSz p):PC Tryz.prog 36 [plnV p] (brA p):=by
 refine ⟨ZF (fok36 true) (QC rfl) ?_,by unfold brA;split <;> rfl⟩
 simp only[ic36,WI,cellsOf,evA,simprocAttr]
 refine (le52 p hp).call frz ?_
 unfold brA
 by_cases he:plnE p=0
 rotate_left
 ·have hb:(plnE p != 0)=true:=by simpa using he
  rw[if_pos he]
  simp only[hb,evA,simprocAttr]
  exact frz
 have hok:=Qdc he
 have hb:(plnE p != 0)=false:=by simpa using he
 rw[if_neg (fun h=>h he)]
 simp only[hb,he,evA,simprocAttr]
 have h12:=hok.day.l12
 obtain ⟨⟨hn1,hn12⟩,hm8,hokI⟩:=QaV hok.sys
 have hob:∀ o∈[AObj.cells (plnC p),.cells [.i 0,.i 0,.i 0]],Z3 2 o=true:=by
  intro o ho
  simp only[ZD,WK,or_false] at ho
  rcases ho with rfl | rfl <;> rfl
 refine ZW 3 (fun r s=>(∀ r',r'<r→(ruE p r').2=0)∧∃ z:Int,z=(r:Int)+1∧∃ v6 v7 v8 v9 v15 v16 v17,s=⟨[plnV p,.ptr 0 0,.ptr 1 0,.i 0,.i 0,.i z,v6,v7,v8,v9,.undef,.undef,.undef,.undef,.b false,v15,v16,v17,.undef,.undef,.undef,.undef],[.cells (plnC p),.cells [.i 0,.i 0,.i 0]]⟩) ?_ 0 (QF _) ⟨by omega,1,by omega,_,_,_,_,_,_,_,rfl⟩
 rintro r s hr ⟨hall,z,hz,v6,v7,v8,v9,v15,v16,v17,rfl⟩
 by_cases hr3:r<3
 ·have hd:decide (z≤3)=true:=decide_eq_true (by omega)
  simp only[ic36l4,hd,evA,simprocAttr]
  refine ZW p.day.ls.length (fun i s=>(∀ j,j<i→rE p r j=0)∧∃ v7 v8 v9 v16 v17,s=⟨[plnV p,.ptr 0 0,.ptr 1 0,.i 0,.i 0,.i z,.i i,v7,v8,v9,.undef,.undef,.undef,.undef,.b false,.b true,v16,v17,.undef,.undef,.undef,.undef],[.cells (plnC p),.cells [.i 0,.i 0,.i 0]]⟩) ?_ 0 (QF _) ⟨by omega,_,_,_,_,_,rfl⟩
  clear v7 v8 v9 v16 v17
  rintro k s hk ⟨hk0,v7,v8,v9,v16,v17,rfl⟩
  by_cases h:k<p.day.ls.length
  ·have hld:=MQ h
   have hli:=hok.li h
   obtain ⟨hR,hrg0,hcl,hft⟩:=right_ok hok hli
   have hE:rE p r k=if Qdf p r p.day.ls[k]! then 0 else 1:=rfl
   have hrule:=fun h3=>brL_rule hr3 h hall hk0 h3
   have hK:Qdf p r p.day.ls[k]! = if r=0 then kindB p p.day.ls[k]! else if r=1 then Qca p p.day.ls[k]! else Qcr p p.day.ls[k]! := by
    match r,hr3 with
    | 0,_=>rfl
    | 1,_=>rfl
    | 2,_=>rfl
   rw[hR] at hK
   unfold kindB Qcr at hK
   generalize Qdf p r p.day.ls[k]! = kb at *
   generalize p.day.ls[k]! = l at *
   obtain ⟨l1,l2,l3,l4,l5,l6,l7⟩:=l
   obtain ⟨q1,q2,q3⟩:=hli
   simp only at hld q1 q2 q3 hcl hft hrg0 hK
   obtain ⟨x,rfl⟩:∃ x:Nat,l1=(x:Int):=⟨l1.toNat,by omega⟩
   obtain ⟨y,rfl⟩:∃ y:Nat,l2=(y:Int):=⟨l2.toNat,by omega⟩
   obtain ⟨w,rfl⟩:∃ w:Nat,l3=(w:Int):=⟨l3.toNat,by omega⟩
   have hx:x<p.le.length:=by omega
   have hy:y<p.te.length:=by omega
   have hw:w<p.ca.length:=by omega
   simp only[Int.toNat_natCast] at hcl hft hrg0 hK
   have ht:=tch_ld hy
   have hc:=car_ld hw
   have hrg:=hp.rg y hy
   obtain ⟨t,hte⟩:∃ t,p.te[y]! = t:=⟨_,rfl⟩
   obtain ⟨c,hce⟩:∃ c,p.ca[w]! = c:=⟨_,rfl⟩
   simp only[hte,hce] at hcl hft hrg0 hK ht hc hrg
   obtain ⟨rg,tb,te⟩:=t
   obtain ⟨cl,ft⟩:=c
   simp only at ht hc hrg hcl hft hrg0 hK
   have ia:∀ σ,VP 2 [.cv (carR p.ca),.cv (.int .i64 w)] σ=some (.cv (.rp (QaH p.ca) (w*2)),σ):=fun σ=>XP hw σ
   have ia2:∀ σ,VP 3 [.cv (tchR p.te),.cv (.int .i64 y)] σ=some (.cv (.rp (SV p.te) (y*3)),σ):=fun σ=>XP hy σ
   simp only[ic36l3,QJ,h,F5 h,hld,evA,simprocAttr]
   refine DW_s [] [(1,12),(1,13),(3,12),(3,13),(5,12),(5,13),(7,12),(7,13),(7,14),(9,12),(9,13),(9,14),(11,12),(11,13),(11,14),(12,13),(13,12)] hmix (by kernel_rfl) rfl ?_
   simp only[ia,ia2,ht,hc,evA,simprocAttr]
   have hrz:(r=0∧z=1)∨(r=1∧z=2)∨(r=2∧z=3):=by omega
   have hnx:rE p r k=0→∀ j,j<k+1→rE p r j=0:=fun h3 j hj=>by
    rcases QQ.1 hj with hj | rfl
    ·exact hk0 j hj
    ·exact h3
   have hrule:rE p r k≠0→brL p=(z,(k:Int),0):=fun h3=>by rw[hrule h3,hz,Int.add_comm]
   have hwk:=Q6 (show k+1<2 ^ 63 by omega)
   clear hz hd hall
   rcases hrz with ⟨rfl,rfl⟩ | ⟨rfl,rfl⟩ | ⟨rfl,rfl⟩
   ·rw[if_pos rfl] at hK
    have hcc:(cl != p.le[x]?.getD 0) = !kb:=by rw[hK];rfl
    cases kb with
    | true =>
     refine DW_s [25] [] hmix (by kernel_rfl) rfl ?_
     simp only[J5 hx,J4 hx,hcc,hwk,evA,simprocAttr]
     exact W1 [.cells (plnC p),.cells [.i 0,.i 0,.i 0]] _ rfl (by first | trivial | omega) (QF _) hob ⟨hnx (by rw[hE];rfl),_,_,_,_,_,rfl⟩
    | false =>
     rw[hrule (by rw[hE];decide)]
     refine DW_s [25] [] hmix (by kernel_rfl) rfl ?_
     simp only[J5 hx,J4 hx,hcc,evA,simprocAttr]
     exact frz
   ·rw[if_neg (by decide),if_pos rfl] at hK
    have h53:=c50 p.sys hp.sys hn12 hokI rg hm8 hrg (ML hrg0).2 cl ⟨(VB.1 hcl).1,by have:=(VB.1 hcl).2;omega⟩ ft ⟨(VB.1 hft).1,by have h7:=(VB.1 hft).2;have h8:=HF hm8;have h9:setN p.sys=(2:Int) ^ p.sys.co.length:=rfl;omega⟩
    rw[← hK] at h53
    cases kb with
    | true =>
     refine DW_s [25] [] hmix (by kernel_rfl) rfl ?_
     simp only[evA,simprocAttr]
     refine YE (h53.call frz ⟨rfl,rfl⟩) rfl ?_
     simp only[hwk,evA,simprocAttr]
     exact W1 [.cells (plnC p),.cells [.i 0,.i 0,.i 0]] _ rfl (by first | trivial | omega) (QF _) hob ⟨hnx (by rw[hE];rfl),_,_,_,_,_,rfl⟩
    | false =>
     rw[hrule (by rw[hE];decide)]
     refine DW_s [25] [] hmix (by kernel_rfl) rfl ?_
     simp only[evA,simprocAttr]
     refine YE (h53.call frz ⟨rfl,rfl⟩) rfl ?_
     simp only[evA,simprocAttr]
     exact frz
   ·rw[if_neg (by decide),if_neg (by decide)] at hK
    by_cases h1:l4<tb
    ·rw[decide_eq_false (show ¬ l4≥tb by omega),Bool.false_and] at hK
     subst hK
     rw[hrule (by rw[hE];decide)]
     refine DW_s [25] [] hmix (by kernel_rfl) rfl ?_
     simp only[h1,evA,simprocAttr]
     exact frz
    ·rw[decide_eq_true (show l4≥tb by omega),XI] at hK
     by_cases h2:l5>te
     ·rw[decide_eq_false (show ¬ l5≤te by omega)] at hK
      subst hK
      rw[hrule (by rw[hE];decide)]
      refine DW_s [25] [] hmix (by kernel_rfl) rfl ?_
      simp only[h1,h2,evA,simprocAttr]
      exact frz
     ·rw[decide_eq_true (show l5≤te by omega)] at hK
      subst hK
      refine DW_s [25] [] hmix (by kernel_rfl) rfl ?_
      simp only[h1,h2,hwk,evA,simprocAttr]
      exact W1 [.cells (plnC p),.cells [.i 0,.i 0,.i 0]] _ rfl (by first | trivial | omega) (QF _) hob ⟨hnx (by rw[hE];rfl),_,_,_,_,_,rfl⟩
  ·have hke:k=p.day.ls.length:=by omega
   subst hke
   have hwz:IntKind.i64.wrap (z+1)=((r+1:Nat):Int)+1:=by rw[ZC (by omega)];omega
   simp only[ic36l3,QJ,h,hwz,evA,simprocAttr]
   refine ZL (by first | trivial | omega) ⟨fun r' hr'=>?_,_,_,_,_,_,_,_,rfl⟩
   by_cases hrr:r'=r
   ·subst hrr
    unfold ruE
    rw[J7 _ 0 fun j _ hj=>hk0 j (by omega)]
   ·exact hall r' (by omega)
 ·have hre:r=3:=by omega
  subst hre
  have hz4:z=4:=by omega
  subst hz4
  simp only[ic36l4,evA,simprocAttr]
  clear hr3 hr
  refine ZW 3 (fun w s=>(∀ w',w'<w→(whN p.day w').2=0)∧∃ v11 v12 v13 v16 v17 v18 v19 v20 v21,s=⟨[plnV p,.ptr 0 0,.ptr 1 0,.i 0,.i 0,.i 4,v6,v7,v8,v9,.i w,v11,v12,v13,.b false,.b false,v16,v17,v18,v19,v20,v21],[.cells (plnC p),.cells [.i 0,.i 0,.i 0]]⟩) ?_ 0 (QF _) ⟨by omega,_,_,_,_,_,_,_,_,_,rfl⟩
  rintro w s hw ⟨hw0,v11,v12,v13,v16,v17,v18,v19,v20,v21,rfl⟩
  by_cases hw3:w<3
  ·have hd:decide ((w:Int)<3)=true:=decide_eq_true (by omega)
   simp only[ic36l2,hd,evA,simprocAttr]
   refine ZW 8 (fun n s=>(∀ n',n'<n→(chW p.day w n').2=0)∧∃ v12 v13 v16 v17 v19 v20 v21,s=⟨[plnV p,.ptr 0 0,.ptr 1 0,.i 0,.i 0,.i 4,v6,v7,v8,v9,.i w,.i n,v12,v13,.b false,.b false,v16,v17,.b true,v19,v20,v21],[.cells (plnC p),.cells [.i 0,.i 0,.i 0]]⟩) ?_ 0 (QF _) ⟨by omega,_,_,_,_,_,_,_,rfl⟩
   clear v11 v12 v13 v16 v17 v18 v19 v20 v21
   rintro n s hn ⟨hn0,v12,v13,v16,v17,v19,v20,v21,rfl⟩
   by_cases hn8:n<8
   ·have hd2:decide ((n:Int)<8)=true:=decide_eq_true (by omega)
    have h105:=le105 p.day hok.day w hw3 n
    have hTli:∀ i,i<(thL p.day w n).length→isLi p.day (gI (thL p.day w n) i):=Qao (bgF p.day) (pk_li) _ (QG _)
    have hT12:(thL p.day w n).length≤12:=YR (thK_len p.day w n p.day.ls.length) h12
    have hstep:(chW p.day w n).2=0→∀ n',n'<n+1→(chW p.day w n').2=0:=fun h n' hn'=>by
     by_cases e:n'=n
     ·rw[e];exact h
     ·exact hn0 n' (by omega)
    have hchW:chW p.day w n=fndE (chE p.day (thL p.day w n)) 0 ((thL p.day w n).length-1):=rfl
    have hwho:=fun (k:Nat) (hk:k<(thL p.day w n).length-1) h3 h4=>brL_who hall hw3 hn8 hk hw0 hn0 h3 h4
    generalize hT:thL p.day w n=T at *
    simp only[ic36l1,hd2,evA,simprocAttr]
    refine h105.call frz ?_
    simp only[evA,simprocAttr]
    refine ZW (T.length-1) (fun k s=>(∀ j,j<k→chE p.day T j=0)∧∃ v16 v17 v20 v21,s=⟨[plnV p,.ptr 0 0,.ptr 1 0,.i 0,.i 0,.i 4,v6,v7,v8,v9,.i w,.i n,ints T,.i (k+1:Nat),.b false,.b false,v16,v17,.b true,.b true,v20,v21],[.cells (plnC p),.cells [.i 0,.i 0,.i 0]]⟩) ?_ 0 (QF _) ⟨by omega,_,_,_,_,rfl⟩
    clear v16 v17 v20 v21
    rintro k s hk ⟨hk0,v16,v17,v20,v21,rfl⟩
    have hiff:(((k+1:Nat):Int)<T.length)↔k+1<T.length:=QJ
    by_cases hkt:k+1<T.length
    ·have hd3:decide (((k+1:Nat):Int)<T.length)=true:=decide_eq_true (hiff.2 hkt)
     have hw1:IntKind.i64.wrap (((k+1:Nat):Int)-1)=(k:Int):=by rw[ZC (by omega)];omega
     have hw2:IntKind.i64.wrap (((k+1:Nat):Int)+1)=((k+1+1:Nat):Int):=by rw[ZC (by omega)];omega
     obtain ⟨x,hx,hxe⟩:=hTli k (by omega)
     obtain ⟨y,hy,hye⟩:=hTli (k+1) hkt
     have hE:chE p.day T k=if canB p.day x y then 0 else 1:=by unfold chE;rw[hxe,hye];rfl
     have hrule:=hwho k (by omega) hk0
     rw[hxe,hye] at hrule
     have hkl:k<T.length:=by omega
     have la:T[k]?.getD 0=(x:Int):=hxe
     have lb:T[k+1]?.getD 0=(y:Int):=hye
     simp only[ic36l0,hd3,evA,simprocAttr]
     have hnx:chE p.day T k=0→∀ j,j<k+1→chE p.day T j=0:=fun h3 j hj=>by
      by_cases hjk:j=k
      ·rw[hjk];exact h3
      ·exact hk0 j (by omega)
     cases hcb:canB p.day x y with
     | true =>
      rw[hcb,if_pos rfl] at hE
      refine DW_s [11] [] hmix (by kernel_rfl) rfl ?_
      simp only[hw1,J5 hkl,J5 hkt,J4 hkl,J4 hkt,WA,la,lb,evA,simprocAttr]
      refine YE ((le51 p.day hok.day hx hy).call frz ⟨rfl,rfl⟩) rfl ?_
      simp only[hcb,hw2,evA,simprocAttr]
      exact ZL (by first | trivial | omega) ⟨hnx hE,_,_,_,_,rfl⟩
     | false =>
      rw[hcb,if_neg (by decide)] at hE
      rw[hrule (by rw[hE];decide)]
      have hw4:IntKind.i64.wrap (4+(w:Int))=4+(w:Int):=ZC (by omega)
      refine DW_s [11] [] hmix (by kernel_rfl) rfl ?_
      simp only[hw1,J5 hkl,J5 hkt,J4 hkl,J4 hkt,WA,la,lb,evA,simprocAttr]
      refine YE ((le51 p.day hok.day hx hy).call frz ⟨rfl,rfl⟩) rfl ?_
      simp only[hcb,evA,simprocAttr]
      refine DW_s [] [] hmix (by kernel_rfl) rfl ?_
      simp only[hw1,hw4,J5 hkl,J5 hkt,J4 hkl,J4 hkt,WA,la,lb,evA,simprocAttr]
      exact frz
    ·have hd3:decide (((k+1:Nat):Int)<T.length)=false:=decide_eq_false fun e=>hkt (hiff.1 e)
     simp only[ic36l0,hd3,Q6 (show n+1<2 ^ 63 by omega),evA,simprocAttr]
     refine ZL (by first | trivial | omega) ⟨hstep ?_,_,_,_,_,_,_,_,rfl⟩
     rw[hchW,J7 _ 0 fun j _ hj=>hk0 j (by omega)]
   ·have hne:n=8:=by omega
    subst hne
    simp only[ic36l1,Q6 (show w+1<2 ^ 63 by omega),evA,simprocAttr]
    refine ZL (by first | trivial | omega) ⟨fun w' hw'=>?_,_,_,_,_,_,_,_,_,_,rfl⟩
    by_cases hww:w'=w
    ·subst hww
     unfold whN
     rw[J7 8 0 fun j _ hj=>hn0 j (by omega)]
    ·exact hw0 w' (by omega)
  ·have hwe:w=3:=by omega
   subst hwe
   rw[brL_none hall hw0]
   simp only[ic36l2,evA,simprocAttr]
   exact frz
end Go.Proofs.YtgkidpolomhghaaGreatDoor.AM
namespace Go.Proofs.YtgkidpolomhghaaGreatDoor.AM
open Go Pl
theorem fndE_bd (g:Nat→Int):∀ (k i:Nat),0≤(fndE g i k).1∧(fndE g i k).1≤i+k
 | 0,i=>by simp[fndE]
 | k+1,i=>by
  have:=fndE_bd g k (i+1)
  unfold fndE
  split
  ·omega
  ·simp only;omega
theorem th_bd {d:Dy} (h:d.ls.length≤12) (w n j:Nat):0≤gI (thL d w n) j∧gI (thL d w n) j≤12:=by
 by_cases hj:j<(thL d w n).length
 ·obtain ⟨x,hx,e⟩:=Qao (bgF d) (pk_li) _ (QG _) j hj
  have e:gI (thL d w n) j=(x:Int):=e
  rw[e];omega
 ·unfold gI
  rw[QN (by omega)]
  simp
theorem br_form (p:Pln):∃ b1 b2 b3 e,brA p=.tup [.agg [.i b1,.i b2,.i b3],.i e]∧(0≤b1∧b1≤12)∧(0≤b2∧b2≤12)∧0≤b3∧b3≤12:=by
 unfold brA
 split
 ·exact ⟨0,0,0,_,rfl,by decide,by decide,by decide,by decide⟩
 ·rename_i he
  have hl:=(Qdc (JE.1 he)).day.l12
  refine ⟨_,_,_,_,rfl,?_⟩
  unfold brL
  split
  ·have h1:0≤(ru1 p).1∧(ru1 p).1≤(0:Nat)+(3:Nat):=fndE_bd _ 3 0
   have h2:0≤(ruE p (ru1 p).1.toNat).1∧(ruE p (ru1 p).1.toNat).1≤(0:Nat)+(p.day.ls.length:Nat):=fndE_bd _ _ 0
   simp only
   omega
  ·split
   ·have h1:0≤(wh3 p.day).1∧(wh3 p.day).1≤(0:Nat)+(3:Nat):=fndE_bd _ 3 0
    exact ⟨by simp only;omega,th_bd hl _ _ _,th_bd hl _ _ _⟩
   ·decide
theorem n3_ok {a b c:Int} (ha:0≤a∧a≤12) (hb:0≤b∧b≤12) (hc:0≤c∧c≤12):∀ i,i<3→-9223372036854775808≤gI [a,b,c] i∧gI [a,b,c] i≤9223372036854775807
 | 0,_=>by show _≤a∧a≤_;omega
 | 1,_=>by show _≤b∧b≤_;omega
 | 2,_=>by show _≤c∧c≤_;omega
 | i+3,hi=>absurd hi (by omega)
theorem eq3 {a b c:Int} (ha:0≤a∧a≤12) (hb:0≤b∧b≤12) (hc:0≤c∧c≤12):JW (true,[.int .i64,.int .i64,.int .i64]) (.agg [.i a,.i b,.i c]) (.agg [.i a,.i b,.i c])=some true:=by
 have h:=eqk_n (n:=3) (a:=[a,b,c]) (b:=[a,b,c]) rfl rfl (n3_ok ha hb hc) (n3_ok ha hb hc)
 rw[decide_eq_true rfl] at h
 exact h
theorem hrs_form (p:Pln):∃ a b c e,hrsA p=.tup [.agg [ints a,ints b,ints c],.i e]∧a.length<2 ^ 63∧b.length<2 ^ 63∧c.length<2 ^ 63:=by
 unfold hrsA
 split
 ·exact ⟨[],[],[],_,rfl,by decide,by decide,by decide⟩
 ·rename_i h
  have hok:=Qdc (JE.1 h)
  have:=hok.le
  have:=hok.te
  have:=hok.ca
  exact ⟨_,_,_,_,rfl,by rw[DC];omega,by rw[DC];omega,by rw[DC];omega⟩
theorem law6 (p:Pln) (hp:PSz p):PC Tryz.prog 6 [plnV p] (.b true):=by
 have h35:=le35 p hp
 have h36:=le36 p hp
 have h37:=le37 p hp
 have h38:=le38 p hp
 obtain ⟨b1,b2,b3,e,hb,g1,g2,g3⟩:=br_form p
 have hk:=eq3 g1 g2 g3
 obtain ⟨x,y,z,e2,hh,hx,hy,hz⟩:=hrs_form p
 rw[hb] at h35 h36
 rw[hh] at h37 h38
 have c1:=c45 x x hx hx
 have c2:=c45 y y hy hy
 have c3:=c45 z z hz hz
 rw[decide_eq_true rfl] at c1 c2 c3
 refine ⟨ZF (fok6 true) (QC rfl) ?_,rfl⟩
 simp only[ic6,WI,cellsOf,evA,simprocAttr]
 refine h35.call frz ?_
 simp only[evA,simprocAttr]
 refine h36.call frz ?_
 simp only[hk,bne_self_eq_false,evA,simprocAttr]
 refine h37.call frz ?_
 simp only[evA,simprocAttr]
 refine h38.call frz ?_
 simp only[evA,simprocAttr]
 refine c1.call frz ?_
 simp only[evA,simprocAttr]
 refine c2.call frz ?_
 simp only[evA,simprocAttr]
 refine c3.call frz ?_
 simp only[evA,simprocAttr]
 refine awake.call .nil ?_
 simp only[evA,simprocAttr]
 (repeat' (first | exact HL.nil | exact KS.nil | exact FrzC.nl | exact FrzC.c _ trivial | apply HL.cons | apply KS.cons | apply FrzV.agg | apply FrzV.tup | apply FrzV.c | refine FrzC.sl _ _ _ _ _ _ rfl (QC rfl) ?_))
theorem law_LessonPlans (avs:List AV) (h:Args Tryz.prog Tryz.f6.params.toList avs):AC Tryz.prog 6 avs [] fun r _=>r=.b true:=by
 have h:Args Tryz.prog [56] avs:=h
 obtain ⟨cs1,avs,rfl,h1,h⟩:=args_cons h
 cases args_nil h
 obtain ⟨p,e1,hp⟩:=typed_pln h1
 rw[e1]
 exact (law6 p hp).call (by (repeat' (first | exact HL.nil | exact KS.nil | exact FrzC.nl | exact FrzC.c _ trivial | apply HL.cons | apply KS.cons | apply FrzV.agg | apply FrzV.tup | apply FrzV.c | refine FrzC.sl _ _ _ _ _ _ rfl (QC rfl) ?_))) rfl
end Go.Proofs.YtgkidpolomhghaaGreatDoor.AM

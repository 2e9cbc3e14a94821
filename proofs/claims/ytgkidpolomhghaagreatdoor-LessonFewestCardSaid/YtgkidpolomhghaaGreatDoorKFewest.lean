/- Parts of the proof of Fewest. -/
import Derived.Test.YtgkidpolomhghaaGreatDoorProg
import Derived.Test.YtgkidpolomhghaaGreatDoorRows
import Derived.WalkKit
import Derived.ProofKit
import Derived.OpenShut
import Derived.Carry
import Derived.Test.YtgkidpolomhghaaGreatDoorZ27
set_option linter.unusedVariables false
set_option linter.unusedSimpArgs false
set_option linter.unusedSectionVars false
set_option linter.defProp false
namespace Go.Proofs.YtgkidpolomhghaaGreatDoor.AM
variable [Dr]
open Go
abbrev vs18:List Nat:=[0,1,4,5,6,7,8,9,10,11,12,13,14,15,16,17,22,28,39,49,65,73,85,114]
def ic18l0:IC:=(.seq (.seq (.region [jv 13,jk 61 [.t 0],jw 21 (.bin .gtr .int) [.t 1,jn 0]])
 (.cond 21 .skip
 (.exit 6)))
 (.block 7 (.seq (.region [jv 0,jv 12,ja 2 0 1,jq (.loadN 2) [.t 2],jv 13,jk 62 [.t 3,.t 4],jm 14 5])
 (.seq (.region [jq (.build [(.cv (.int .i64 0)),(.cv (.int .i64 0))] [(0,1),(1,1)]) [jn (-2),jn 0],jw 15 (.alloc [(.cv (.int .i64 0)),(.cv (.int .i64 0))]) [],jq (.store 2) [.v 15,.t 0]])
 (.seq (.seq (.region [jv 14,jk 61 [.t 0],jv 13,jk 61 [.t 2],jw 22 (.bin .neq .int) [.t 1,.t 3]])
 (.cond 22 (.region [jv 0,jv 7,jv 12,jv 14,jk 60 [.t 0,.t 1,.t 2,.t 3],jq (.store 2) [.v 15,.t 4]])
 .skip))
 (.seq (.dr [[],[0],[1],[2],[3],[4,3],[5,3],[3],[7,3],[6,8,3],[3,9],[10,3],[11],[12,11],[11],[11],[14,15,11],[16,11],[17,11],[13,18,11],[11],[20,11],[19,21,11],[11,22]] [jF 0 15,jl 0,jq (.bin .geq .int) [.t 1,jn 0],jt 2,jg 3 true (.fadd 0) [.v 15],ji 3 true 4,jg 3 true (.bin .add .int) [.t 5,jn 1],jg 3 true (.fadd 0) [.v 10],ji 3 true 7,jg 3 true (.bin .eql .int) [.t 6,.t 8],jq .pick [.t 3,.t 9,jB false],jt 10,jg 11 true (.fadd 1) [.v 15],ji 11 true 12,jh 11 true 0,jh 11 true 12,jg 11 true (.iaS 2) [.t 14,.t 15],jg 11 true (.fadd 1) [.t 16],ji 11 true 17,jg 11 true (.bin .add .int) [.t 13,.t 18],jg 11 true (.fadd 1) [.v 10],ji 11 true 20,jg 11 true (.bin .eql .int) [.t 19,.t 21],jw 23 .pick [.t 11,.t 22,jB false]])
 (.cond 23 (.dr [[],[0],[],[2],[1,3],[],[],[0,1,2,3,4],[7,4,4,0,1,2,3,4],[5,8,0,1,2,3,4,5,7,8],[6,9,0,1,2,3,4,5,6,7,8,9]] [jF 0 11,jl 0,jv 12,jq (.bslice 1 1 [(.cv (.int .i64 0))] [(0,1)]) [.t 2],jq (.append 1 8) [.t 1,.t 3],jv 14,jN 2 15,jF 0 11,jq (.store 1) [.t 7,.t 4],jm 13 5,jq (.store 2) [.v 10,.t 6]])
 (.region [jv 12,jq (.bin .add .int) [.t 0,jn 1],jm 12 1]))))))))
def ic18l1:IC:=(.seq (.seq (.region [jv 9,jv 5,jw 19 (.bin .lss .int) [.t 0,.t 1]])
 (.cond 19 .skip
 (.exit 4)))
 (.seq (.block 5 (.region [jv 7,jv 8,ja 1 0 1,jl 2,jv 9,jq (.build [(.cv (.int .i64 0)),(.cv (.int .i64 0))] [(0,1),(1,1)]) [jn (-1),jn 0],ja 2 3 4,jq (.store 2) [.t 6,.t 5]]))
 (.region [jv 9,jq (.bin .add .int) [.t 0,jn 1],jm 9 1])))
def ic18l2:IC:=(.seq (.seq (.region [jv 8,jv 0,je 1,jw 18 (.bin .lss .int) [.t 0,.t 2]])
 (.cond 18 .skip
 (.exit 2)))
 (.seq (.block 3 (.seq (.region [jv 7,jv 8,jv 5,jq (.mkslice 2 16 [(.cv (.int .i64 0)),(.cv (.int .i64 0))]) [.t 2,.t 2],ja 1 0 1,jq (.store 1) [.t 4,.t 3]])
 (.seq (.region [jz 9 0])
 (.block 4 (.loop ic18l1)))))
 (.region [jv 8,jq (.bin .add .int) [.t 0,jn 1],jm 8 1])))
def ic18l3:IC:=(.seq (.seq (.region [jv 6,jv 1,je 1,jw 17 (.bin .lss .int) [.t 0,.t 2]])
 (.cond 17 .skip
 (.exit 0)))
 (.seq (.block 1 (.region [jv 5,jq (.bin .mul .int) [.t 0,jn 4],jm 5 1]))
 (.region [jv 6,jq (.bin .add .int) [.t 0,jn 1],jm 6 1])))
def ic18:IC:=(.seq (.region [jw 2 (.alloc [(.cv .nils),(.cv (.int .i64 0))]) [],jz 3 0])
 (.seq (.region [jv 0,jv 1,jk 42 [.t 0,.t 1],jm 4 2])
 (.seq (.seq (.region [jv 4,jw 16 (.bin .neq .int) [.t 0,jn 0]])
 (.cond 16 (.seq (.region [jq (.build [(.cv .nils),(.cv (.int .i64 0))] []) [],jv 4,jq (.store 2) [.v 2,.t 0],jm 3 1])
 .ret)
 .skip))
 (.seq (.region [jz 5 1])
 (.seq (.seq (.region [jz 6 0])
 (.block 0 (.loop ic18l3)))
 (.seq (.region [jv 0,je 0,jq (.mkslice 1 24 [(.cv .nils)]) [.t 1,.t 1],jm 7 2])
 (.seq (.seq (.region [jz 8 0])
 (.block 2 (.loop ic18l2)))
 (.seq (.region [jv 0,jv 7,jv 1,jk 60 [.t 0,.t 1,jn 0,.t 2],jw 10 (.alloc [(.cv (.int .i64 0)),(.cv (.int .i64 0))]) [],jq (.store 2) [.v 10,.t 3]])
 (.seq (.seq (.region [jF 0 10,jl 0,jw 20 (.bin .lss .int) [.t 1,jn 0]])
 (.cond 20 (.seq (.region [jq (.build [(.cv .nils),(.cv (.int .i64 0))] []) [],jq (.store 2) [.v 2,.t 0],jz 3 9])
 .ret)
 .skip))
 (.seq (.region [jF 1 10,jl 0,jq (.build [(.cv .nils),(.cv (.int .i64 0))] [(1,1)]) [.t 1],jw 11 (.alloc [(.cv .nils),(.cv (.int .i64 0))]) [],jq (.store 2) [.v 11,.t 2]])
 (.seq (.region [jv 1,jz 12 0,jm 13 0])
 (.seq (.block 6 (.loop ic18l0))
 (.seq (.region [jN 2 11,jq (.store 2) [.v 2,.t 0],jz 3 0])
 .ret)))))))))))))
abbrev rs18:List RC:=[(.lN 2 2),(.v 3)]
theorem fok18 (p:Bool):FnOk Tryz.prog 18 ⟨ic18,vs18,126,rs18,p⟩:=.mk2 Tryz.func18 (by kernel_rfl) (by kernel_rfl) (by kernel_rfl) (by kernel_rfl) (by kernel_rfl)
abbrev vs42:List Nat:=[0,1,4,5,6,16,20,28,32,54]
def ic42l0:IC:=(.seq (.seq (.region [jv 4,jv 0,je 1,jw 8 (.bin .lss .int) [.t 0,.t 2]])
 (.cond 8 .skip
 (.exit 2)))
 (.seq (.block 3 (.seq (.dr [[],[],[0,1],[2],[3],[],[5],[6],[7],[4,8,7],[9],[10,9],[11],[11],[12,13,11],[14,11],[15,11],[16,11,11],[17,11],[11,18]] [jv 0,jv 4,ja 2 0 1,jG 0 2,jl 3,jv 1,je 5,jk 83 [.t 6],jq (.bin .sub .int) [.t 7,jn 1],jk 64 [.t 4,jn 0,.t 8],jq .not [.t 9],jt 10,jh 11 false 0,jh 11 false 4,jg 11 false (.iaS 2) [.t 12,.t 13],jg 11 false (.fadd 1) [.t 14],ji 11 false 15,jf 11 false 64 [.t 16,jn 0,jn 100000],jg 11 false .not [.t 17],jw 9 .pick [.t 11,jB true,.t 18]])
 (.cond 9 (.seq (.region [jz 2 7])
 .ret)
 .skip)))
 (.region [jv 4,jq (.bin .add .int) [.t 0,jn 1],jm 4 1])))
def ic42l1:IC:=(.seq (.seq (.region [jv 3,jv 1,je 1,jw 6 (.bin .lss .int) [.t 0,.t 2]])
 (.cond 6 .skip
 (.exit 0)))
 (.seq (.block 1 (.seq (.region [jv 1,jv 3,ja 1 0 1,jl 2,jk 64 [.t 3,jn 0,jn 3],jw 7 .not [.t 4]])
 (.cond 7 (.seq (.region [jz 2 7])
 .ret)
 .skip)))
 (.region [jv 3,jq (.bin .add .int) [.t 0,jn 1],jm 3 1])))
def ic42:IC:=(.seq (.region [jz 2 0])
 (.seq (.seq (.region [jv 0,je 0,jk 64 [.t 1,jn 1,jn 12],jq .not [.t 2],jt 3,jh 4 false 1,jg 4 false (.len false) [.t 5],jf 4 false 64 [.t 6,jn 1,jn 6],jg 4 false .not [.t 7],jw 5 .pick [.t 4,jB true,.t 8]])
 (.cond 5 (.seq (.region [jz 2 3])
 .ret)
 .skip))
 (.seq (.seq (.region [jz 3 0])
 (.block 0 (.loop ic42l1)))
 (.seq (.seq (.region [jz 4 0])
 (.block 2 (.loop ic42l0)))
 (.seq (.region [jz 2 0])
 .ret)))))
abbrev rs42:List RC:=[(.v 2)]
theorem fok42 (p:Bool):FnOk Tryz.prog 42 ⟨ic42,vs42,55,rs42,p⟩:=.mk2 Tryz.func42 (by kernel_rfl) (by kernel_rfl) (by kernel_rfl) (by kernel_rfl) (by kernel_rfl)
abbrev vs47:List Nat:=[0,1,4,5,6,7,11,17,26,34]
def ic47l0:IC:=(.seq (.seq (.region [jv 5,jv 1,je 1,jw 7 (.bin .lss .int) [.t 0,.t 2]])
 (.cond 7 .skip
 (.exit 2)))
 (.seq (.block 3 (.seq (.region [jv 0,jv 3,ja 2 0 1,jG 0 2,jl 3,jv 5,jd 8 43 [.t 4,.t 5]])
 (.cond 8 (.region [jv 4,jv 1,jv 5,ja 1 1 2,jl 3,jq (.bin .add .int) [.t 0,.t 4],jm 4 5])
 .skip)))
 (.region [jv 5,jq (.bin .add .int) [.t 0,jn 1],jm 5 1])))
def ic47l1:IC:=(.seq (.seq (.region [jv 3,jv 0,je 1,jw 6 (.bin .lss .int) [.t 0,.t 2]])
 (.cond 6 .skip
 (.exit 0)))
 (.seq (.block 1 (.seq (.region [jz 4 0])
 (.seq (.seq (.region [jz 5 0])
 (.block 2 (.loop ic47l0)))
 (.seq (.region [jv 4,jw 9 (.bin .gtr .int) [.t 0,jn 1000]])
 (.cond 9 (.seq (.region [jw 2 .mv [jB false]])
 .ret)
 .skip)))))
 (.region [jv 3,jq (.bin .add .int) [.t 0,jn 1],jm 3 1])))
def ic47:IC:=(.seq (.region [jw 2 .mv [jB false]])
 (.seq (.seq (.region [jz 3 0])
 (.block 0 (.loop ic47l1)))
 (.seq (.region [jw 2 .mv [jB true]])
 .ret)))
abbrev rs47:List RC:=[(.v 2)]
theorem fok47 (p:Bool):FnOk Tryz.prog 47 ⟨ic47,vs47,35,rs47,p⟩:=.mk2 Tryz.func47 (by kernel_rfl) (by kernel_rfl) (by kernel_rfl) (by kernel_rfl) (by kernel_rfl)
abbrev vs60:List Nat:=[0,1,2,3,8,9,10,11,12,16,21,31,54,62,77]
def ic60:IC:=(.seq (.region [jw 4 (.alloc [(.cv (.int .i64 0)),(.cv (.int .i64 0))]) []])
 (.seq (.region [jv 3,jk 61 [.t 0],jm 5 1])
 (.seq (.seq (.region [jv 5,jw 9 (.bin .eql .int) [.t 0,jn 0]])
 (.cond 9 (.seq (.region [jq (.build [(.cv (.int .i64 0)),(.cv (.int .i64 0))] []) [],jq (.store 2) [.v 4,.t 0]])
 .ret)
 .skip))
 (.seq (.seq (.region [jv 2,jv 0,je 1,jw 10 (.bin .eql .int) [.t 0,.t 2]])
 (.cond 10 (.seq (.region [jq (.build [(.cv (.int .i64 0)),(.cv (.int .i64 0))] [(0,1),(1,1)]) [jn (-2),jn 0],jq (.store 2) [.v 4,.t 0]])
 .ret)
 .skip))
 (.seq (.seq (.region [jv 1,jv 2,ja 1 0 1,jl 2,jv 5,ja 2 3 4,jG 0 5,jl 6,jw 11 (.bin .neq .int) [.t 7,jn (-1)]])
 (.cond 11 (.seq (.region [jv 1,jv 2,ja 1 0 1,jl 2,jv 5,ja 2 3 4,jq (.loadN 2) [.t 5],jq (.store 2) [.v 4,.t 6]])
 .ret)
 .skip))
 (.seq (.region [jv 0,jv 1,jv 2,jq (.bin .add .int) [.t 2,jn 1],jv 3,jk 60 [.t 0,.t 1,.t 3,.t 4],jw 6 (.alloc [(.cv (.int .i64 0)),(.cv (.int .i64 0))]) [],jq (.store 2) [.v 6,.t 5]])
 (.seq (.region [jv 0,jv 2,ja 2 0 1,jq (.loadN 2) [.t 2],jv 3,jk 62 [.t 3,.t 4],jm 7 5])
 (.seq (.seq (.region [jv 7,jk 61 [.t 0],jv 5,jw 12 (.bin .neq .int) [.t 1,.t 2]])
 (.cond 12 (.seq (.region [jv 0,jv 1,jv 2,jv 7,jk 60 [.t 0,.t 1,.t 2,.t 3],jw 8 (.alloc [(.cv (.int .i64 0)),(.cv (.int .i64 0))]) [],jq (.store 2) [.v 8,.t 4]])
 (.seq (.region [jF 0 8,jl 0,jw 13 (.bin .geq .int) [.t 1,jn 0]])
 (.cond 13 (.seq (.dr [[],[0],[1],[],[3],[],[],[5,6],[7],[8],[4,9],[2,10],[11,0,1,2,3,4,5,6,7,8,9,10,11]] [jF 0 8,jl 0,jq (.bin .add .int) [.t 1,jn 1],jF 1 8,jl 3,jv 0,jv 2,ja 2 5 6,jG 1 7,jl 8,jq (.bin .add .int) [.t 4,.t 9],jq (.build [(.cv (.int .i64 0)),(.cv (.int .i64 0))] [(0,1),(1,1)]) [.t 2,.t 10],jq (.store 2) [.v 8,.t 11]])
 (.seq (.region [jN 2 6,jN 2 8,jd 14 116 [.t 0,.t 1]])
 (.cond 14 (.region [jN 2 8,jq (.store 2) [.v 6,.t 0]])
 .skip)))
 .skip)))
 .skip))
 (.seq (.dr [[],[],[0,1],[2],[],[],[3,4,0,1,2,3,4,5],[6,5,0,1,2,3,4,5]] [jv 1,jv 2,ja 1 0 1,jl 2,jv 5,jN 2 6,ja 2 3 4,jq (.store 2) [.t 6,.t 5]])
 (.seq (.region [jN 2 6,jq (.store 2) [.v 4,.t 0]])
 .ret))))))))))
abbrev rs60:List RC:=[(.lN 4 2)]
theorem fok60 (p:Bool):FnOk Tryz.prog 60 ⟨ic60,vs60,87,rs60,p⟩:=.mk2 Tryz.func60 (by kernel_rfl) (by kernel_rfl) (by kernel_rfl) (by kernel_rfl) (by kernel_rfl)
abbrev vs116:List Nat:=[0,1,2,3,4,12]
def ic116:IC:=(.seq (.region [jb 2 0,jb 3 1,jw 4 .mv [jB false]])
 (.seq (.seq (.region [jF 0 2,jl 0,jq (.bin .lss .int) [.t 1,jn 0],jt 2,jg 3 false (.fadd 0) [.v 3],ji 3 false 4,jg 3 false (.bin .lss .int) [.t 5,jn 0],jw 5 .pick [.t 3,jB true,.t 6]])
 (.cond 5 (.seq (.region [jF 0 2,jl 0,jq (.bin .lss .int) [.t 1,jn 0],jt 2,jg 3 true (.fadd 0) [.v 3],ji 3 true 4,jg 3 true (.bin .geq .int) [.t 5,jn 0],jq .pick [.t 3,.t 6,jB false],jm 4 7])
 .ret)
 .skip))
 (.seq (.region [jF 0 2,jl 0,jF 0 3,jl 2,jq (.bin .gtr .int) [.t 1,.t 3],jt 4,jg 5 false (.fadd 0) [.v 2],ji 5 false 6,jg 5 false (.fadd 0) [.v 3],ji 5 false 8,jg 5 false (.bin .eql .int) [.t 7,.t 9],jg 5 false .mv [.t 10],jg 11 true (.fadd 1) [.v 2],ji 11 true 12,jg 11 true (.fadd 1) [.v 3],ji 11 true 14,jg 11 true (.bin .gtr .int) [.t 13,.t 15],jg 5 false .pick [.t 11,.t 16,jB false],jq .pick [.t 5,jB true,.t 17],jm 4 18])
 .ret)))
abbrev rs116:List RC:=[(.v 4)]
theorem fok116 (p:Bool):FnOk Tryz.prog 116 ⟨ic116,vs116,40,rs116,p⟩:=.mk2 Tryz.func116 (by kernel_rfl) (by kernel_rfl) (by kernel_rfl) (by kernel_rfl) (by kernel_rfl)
abbrev vs61:List Nat:=[0,2,3,4,8]
def ic61l0:IC:=(.seq (.seq (.region [jv 3,jv 0,je 1,jw 4 (.bin .lss .int) [.t 0,.t 2]])
 (.cond 4 .skip
 (.exit 0)))
 (.seq (.block 1 (.region [jv 2,jq (.bin .mul .int) [.t 0,jn 4],jv 0,jv 3,ja 1 2 3,jl 4,jq (.bin .add .int) [.t 1,.t 5],jm 2 6]))
 (.region [jv 3,jq (.bin .add .int) [.t 0,jn 1],jm 3 1])))
def ic61:IC:=(.seq (.region [jz 1 0])
 (.seq (.region [jz 2 0])
 (.seq (.seq (.region [jz 3 0])
 (.block 0 (.loop ic61l0)))
 (.seq (.region [jv 2,jm 1 0])
 .ret))))
abbrev rs61:List RC:=[(.v 1)]
theorem fok61 (p:Bool):FnOk Tryz.prog 61 ⟨ic61,vs61,19,rs61,p⟩:=.mk2 Tryz.func61 (by kernel_rfl) (by kernel_rfl) (by kernel_rfl) (by kernel_rfl) (by kernel_rfl)
abbrev vs62:List Nat:=[0,1,2,4,5,6,7,11,25]
def ic62l0:IC:=(.seq (.seq (.region [jv 5,jv 1,je 1,jw 7 (.bin .lss .int) [.t 0,.t 2]])
 (.cond 7 .skip
 (.exit 0)))
 (.seq (.block 1 (.seq (.region [jv 1,jv 5,ja 1 0 1,jl 2,jm 6 3])
 (.seq (.seq (.region [jv 6,jq (.bin .gtr .int) [.t 0,jn 0],jt 1,jg 2 true (.fadd 0) [.v 2],ji 2 true 3,jh 2 true 5,jf 2 true 43 [.t 4,.t 5],jw 8 .pick [.t 2,.t 6,jB false]])
 (.cond 8 (.region [jv 6,jq (.bin .sub .int) [.t 0,jn 1],jm 6 1])
 .skip))
 (.region [jv 4,jv 6,jq (.bslice 1 1 [(.cv (.int .i64 0))] [(0,1)]) [.t 1],jq (.append 1 8) [.t 0,.t 2],jm 4 3]))))
 (.region [jv 5,jq (.bin .add .int) [.t 0,jn 1],jm 5 1])))
def ic62:IC:=(.seq (.region [jb 2 0,jw 3 .mv [jS]])
 (.seq (.region [jw 4 .mv [jS]])
 (.seq (.seq (.region [jz 5 0])
 (.block 0 (.loop ic62l0)))
 (.seq (.region [jv 4,jm 3 0])
 .ret))))
abbrev rs62:List RC:=[(.v 3)]
theorem fok62 (p:Bool):FnOk Tryz.prog 62 ⟨ic62,vs62,33,rs62,p⟩:=.mk2 Tryz.func62 (by kernel_rfl) (by kernel_rfl) (by kernel_rfl) (by kernel_rfl) (by kernel_rfl)
abbrev vs64:List Nat:=[0,1,2,6]
def ic64:IC:=(.seq (.region [jw 3 .mv [jB false]])
 (.seq (.region [jv 0,jv 1,jq (.bin .geq .int) [.t 0,.t 1],jt 2,jh 3 true 0,jh 3 true 2,jg 3 true (.bin .leq .int) [.t 4,.t 5],jq .pick [.t 3,.t 6,jB false],jm 3 7])
 .ret))
abbrev rs64:List RC:=[(.v 3)]
theorem fok64 (p:Bool):FnOk Tryz.prog 64 ⟨ic64,vs64,15,rs64,p⟩:=.mk2 Tryz.func64 (by kernel_rfl) (by kernel_rfl) (by kernel_rfl) (by kernel_rfl) (by kernel_rfl)
theorem accFrom_append {b:Nat} {σ:List AObj} {v:AV} {zs:List Int} (z:Int) (h:G9 b σ v zs) (hl:zs.length<2 ^ 40) :
  ∃ (v':AV) (σ':List AObj),ZX 1 8 [v,.sl σ.length 0 1 1] (σ++[AObj.cells [.i z]])=some (v',σ')∧G9 b σ' v' (zs++[z])∧∀ l,l<b→rowOf σ' l=rowOf σ l:=by
 have hsrc:Z9 (σ++[AObj.cells [.i z]]) 1 (.sl σ.length 0 1 1)=some [.i z]:=by simp[Z9,rowOf]
 have low:∀ l,l<b→rowOf (σ++[AObj.cells [.i z]]) l=rowOf σ l:=fun l hl=>by
  unfold rowOf;rw[QE (by have:=h.1;omega)]
 have hb:=h.1
 rcases h.2 with ⟨rfl,rfl⟩ | ⟨l,hbl,rfl,hr⟩
 ·refine ⟨.sl (σ++[AObj.cells [.i z]]).length 0 1 1,(σ++[AObj.cells [.i z]])++[AObj.cells [.i z]],?_,⟨by simp;omega,.inr ⟨(σ++[AObj.cells [.i z]]).length,by simp;omega,rfl,?_⟩⟩,fun l hl=>?_⟩
  ·simp only[ZX,hsrc,lenF,Option.bind_some]
   rfl
  ·rw[XH];rfl
  ·rw[← low l hl];unfold rowOf;rw[QE (by simp;omega)]
 ·have hr':=FU hr (AObj.cells [.i z])
  refine ⟨.sl (σ++[AObj.cells [.i z]]).length 0 (zs.length+1) 1,(σ++[AObj.cells [.i z]]).set l AObj.dead++[AObj.cells (zs.map AV.i++[.i z])],?_,⟨by simp;omega,.inr ⟨(σ++[AObj.cells [.i z]]).length,by simp;omega,by simp,?_⟩⟩,fun l' hl'=>?_⟩
  ·simp only[ZX,hr',hsrc,lenF,Option.bind_some]
   have hp:(2:Nat) ^ 40=1099511627776:=by decide
   have hp2:(2:Nat) ^ 44=17592186044416:=by decide
   have hc:(True∧zs.length*1≤(zs.map AV.i).length∧1*1=[AV.i z].length∧(zs.length+1)*8≤2 ^ 44∧zs.length+1≤2 ^ 44∧[AV.i z].all AV.isSc=true):=by
    refine ⟨trivial,by simp,rfl,by omega,by omega,rfl⟩
   rw[if_pos hc,W3,Q5 (by simp)]
  ·have:(σ++[AObj.cells [.i z]]).length=((σ++[AObj.cells [.i z]]).set l AObj.dead).length:=by simp
   rw[this,XH];simp
  ·rw[← low l' hl']
   have:rowOf ((σ++[AObj.cells [.i z]]).set l AObj.dead) l'=rowOf (σ++[AObj.cells [.i z]]) l':=QX (by omega) _
   rw[← this];unfold rowOf;rw[QE (by simp;omega)]
end Go.Proofs.YtgkidpolomhghaaGreatDoor.AM
namespace Go.Proofs.YtgkidpolomhghaaGreatDoor.AM
variable [Dr]
open Go
variable {P:Program} {fx:Fx} {s:St} {Q:Exit→St→Prop} {f:FuncId}
theorem WB.later {m:LM} {X:Nat→Prop} {en:En} {w:World} {c:Code} {s':St} {m':LM} {w':World} {ac':Act} (h:WB f P fx c s' Q) (hr:rok fx m) (hs':SRel fx m' X en s' ac' w') (hst:Step fx.n0 m X w m' w') :
  InF f (fen m fx.r) 0 P c (Lift fx m X en w Q) ac' w':=by
 rw[← EQ hr hst]
 exact InF.mono (h m' X en ac' w' hs' (EH hr hst)) fun e ac2 w2 ⟨s2,m2,h1,h2,h3⟩=>⟨s2,m2,h1,h2,hst.trans h3⟩
end Go.Proofs.YtgkidpolomhghaaGreatDoor.AM
namespace Go.Proofs.YtgkidpolomhghaaGreatDoor.Pl
section
variable (ps:List Pat)
variable {ps}
theorem few_none (hm:∀ k,k<ps.length→0≤(ps[k]!).2) {l:List Int} (hn:NN l) (h:NY ps l=true):fewV ps 0 l=none:=by
 cases hv:fewV ps 0 l with
 | none=>rfl
 | some c =>
  exfalso
  obtain ⟨_,_,h3,_,h5⟩:=EM hm (ps.length-0+sumN l+1) 0 l c.1 c.2 hn (by omega) hv
  unfold NY at h
  rw[ZZ] at h
  obtain ⟨i,hi,h⟩:=h
  simp only[QD,decide_eq_true_eq,Z0,W6] at h
  have h6:=h3 i (ZI.1 hi)
  have h7:0<YJ ps (grL ps (ps.length-0+sumN l+1) 0 l) i:=by omega
  obtain ⟨k,hk,hb⟩:=List.countP_pos_iff.1 h7
  exact h.2 k (ZI.2 (h5 k hk).2) hb
end
end Go.Proofs.YtgkidpolomhghaaGreatDoor.Pl
namespace Go.Proofs.YtgkidpolomhghaaGreatDoor.AM
variable [Dr]
open Go Pl
section
variable {l:List Pat} {k:Nat}
theorem pat_0 (h:k<l.length):(NU l)[k*2]? = some (.int .i64 (l[k]!).1):=flat_get IY h (j:=0) (by omega)
theorem pat_1 (h:k<l.length):(NU l)[k*2+1]? = some (.int .i64 (l[k]!).2):=flat_get IY h (j:=1) (by omega)
end
theorem le64 (n lo hi:Int):PC Tryz.prog 64 [.i n,.i lo,.i hi] (.b (inB n lo hi)):=by
 refine ⟨ZF (fok64 true) (QC rfl) ?_,rfl⟩
 unfold inB
 by_cases h:n≥lo <;> simp only[ic64,h,evA,simprocAttr] <;> exact frz
end Go.Proofs.YtgkidpolomhghaaGreatDoor.AM
namespace Go.Proofs.YtgkidpolomhghaaGreatDoor.AM
variable [Dr]
open Go
abbrev vs21:List Nat:=[0,1,2,6,7,8,9,10,22,30,38,57,59]
def ic21l0:IC:=(.seq (.seq (.region [jv 7,jv 2,je 1,jq (.bin .lss .int) [.t 0,.t 2],jt 3,jh 4 true 5,jg 4 true (.bin .eql .int) [.t 5,jn 0],jw 9 .pick [.t 4,.t 6,jB false]])
 (.cond 9 .skip
 (.exit 0)))
 (.seq (.block 1 (.seq (.seq (.region [jv 2,jv 7,ja 1 0 1,jl 2,jk 64 [.t 3,jn 0,jn 1000],jw 10 .not [.t 4]])
 (.cond 10 (.region [jz 5 7])
 .skip))
 (.dr [[],[],[],[1,2],[3],[],[],[5,6],[7],[4,8],[0,9],[10,0,1,2,3,4,5,6,7,8,9,10]] [jv 6,jv 2,jv 7,ja 1 1 2,jl 3,jv 1,jv 7,ja 1 5 6,jl 7,jq (.bin .mul .int) [.t 4,.t 8],jq (.bin .add .int) [.t 0,.t 9],jm 6 10])))
 (.region [jv 7,jq (.bin .add .int) [.t 0,jn 1],jm 7 1])))
def ic21:IC:=(.seq (.region [jz 3 0,jz 4 0])
 (.seq (.region [jv 0,jv 1,jk 42 [.t 0,.t 1],jm 5 2])
 (.seq (.seq (.region [jv 5,jq (.bin .eql .int) [.t 0,jn 0],jt 1,jh 2 true 2,jg 2 true (.len false) [.t 3],jh 2 true 1,jg 2 true (.len false) [.t 5],jg 2 true (.bin .neq .int) [.t 4,.t 6],jw 8 .pick [.t 2,.t 7,jB false]])
 (.cond 8 (.region [jz 5 3])
 .skip))
 (.seq (.region [jz 6 0])
 (.seq (.seq (.region [jz 7 0])
 (.block 0 (.loop ic21l0)))
 (.seq (.seq (.region [jv 5,jq (.bin .eql .int) [.t 0,jn 0],jt 1,jh 2 true 0,jh 2 true 2,jf 2 true 47 [.t 3,.t 4],jg 2 true .not [.t 5],jw 11 .pick [.t 2,.t 6,jB false]])
 (.cond 11 (.region [jz 5 2])
 .skip))
 (.seq (.seq (.region [jv 5,jw 12 (.bin .neq .int) [.t 0,jn 0]])
 (.cond 12 (.seq (.region [jv 5,jz 3 0,jm 4 0])
 .ret)
 .skip))
 (.seq (.region [jv 6,jq (.bin .add .int) [.t 0,jn 1000],jq (.bin .sub .int) [.t 1,jn 1],jq (.bin .quo .int) [.t 2,jn 1000],jm 3 3,jz 4 0])
 .ret))))))))
abbrev rs21:List RC:=[(.v 3),(.v 4)]
theorem fok21 (p:Bool):FnOk Tryz.prog 21 ⟨ic21,vs21,65,rs21,p⟩:=.mk2 Tryz.func21 (by kernel_rfl) (by kernel_rfl) (by kernel_rfl) (by kernel_rfl) (by kernel_rfl)
end Go.Proofs.YtgkidpolomhghaaGreatDoor.AM
namespace Go.Proofs.YtgkidpolomhghaaGreatDoor.AM
variable [Dr]
open Go Go.ChangeShapes Go.WideShapes Go.ChangeAt Go.RowKit
abbrev noO:Nat→Prop:=Own (fun _=>none) (fun _=>False)
theorem not_noO (b:Nat):¬ noO b:=by rintro (h | ⟨l,hl⟩);exact h;cases hl
theorem DG {α:Type} {Q:Nat→α→Prop}:∀ (n:Nat),(∀ i,i<n→∃ l,Q i l)→∃ L:List α,L.length=n∧∀ (i:Nat) (l:α),L[i]? = some l→Q i l
 | 0,_=>⟨[],rfl,by simp⟩
 | n+1,h=>by
  obtain ⟨L,h1,h2⟩:=DG n (fun i hi=>h i (by omega))
  obtain ⟨l,hl⟩:=h n (by omega)
  refine ⟨L++[l],by simp[h1],fun i l' hi=>?_⟩
  rcases ZB i n with hlt | hge
  ·rw[QE (by omega)] at hi;exact h2 i l' hi
  ·rw[QS (by omega),h1] at hi
   have:i=n:=by
    rcases ZB n i with h' | h'
    ·rw[QN (by simp;omega)] at hi;cases hi
    ·omega
   subst this
   simp at hi;subst hi;exact hl
theorem CJ {R:Nat→CV→Prop} {esz:Nat}:∀ (L:List (List CV)) (n:Nat),(∀ (i:Nat) (l:List CV),L[i]? = some l→l.length=esz∧∀ (j:Nat) (c:CV),l[j]? = some c→R (n+i*esz+j) c) →
  L.flatten.length=L.length*esz∧∀ (k:Nat) (c:CV),L.flatten[k]? = some c→R (n+k) c
 | [],n,_=>by simp
 | l::L,n,h=>by
  obtain ⟨h1,h2⟩:=h 0 l (by simp)
  have ih:=CJ L (n+esz) (fun i l' hi=>by
   obtain ⟨g1,g2⟩:=h (i+1) l' (by simpa using hi)
   refine ⟨g1,fun j c hj=>?_⟩
   have:=g2 j c hj
   rwa [WP,Nat.one_mul,← Nat.add_assoc,Nat.add_right_comm n] at this)
  refine ⟨by simp[h1,ih.1,WP,Nat.add_comm],fun k c hk=>?_⟩
  rw[List.flatten_cons] at hk
  rcases ZB k l.length with hlt | hge
  ·rw[QE hlt] at hk
   have:=h2 k c hk
   simpa using this
  ·rw[QS hge] at hk
   have:=ih.2 (k-l.length) c hk
   rwa [show n+esz+(k-l.length)=n+k by omega] at this
theorem A4 {P:Program} {R:Nat→CV→Prop} {N:Nat}:∀ (fs:List Field) (L:List (List CV)) (n:Nat),J8 P fs n=some N→L.length=fs.length →
  (∀ (i:Nat) (f:Field) (l:List CV),fs[i]? = some f→L[i]? = some l→l.length=P.cellsOf f.type∧∀ (j:Nat) (c:CV),l[j]? = some c→R (f.offset+j) c) →
  n+L.flatten.length=N∧∀ (k:Nat) (c:CV),L.flatten[k]? = some c→R (n+k) c
 | [],L,n,he,hl,_=>by
  have:L=[]:=ZT (by simpa using hl)
  subst this
  simp only[J8,Option.some.injEq] at he
  simp[he]
 | f::fs,[],n,_,hl,_=>by simp at hl
 | f::fs,l::L,n,he,hl,h=>by
  simp only[J8] at he
  split at he
  ·rename_i hoff
   obtain ⟨h1,h2⟩:=h 0 f l (by simp) (by simp)
   have ih:=A4 fs L (n+P.cellsOf f.type) he (by simpa using hl) (fun i f' l' hf hl'=>h (i+1) f' l' (by simpa using hf) (by simpa using hl'))
   refine ⟨by rw[← ih.1];simp[h1];omega,fun k c hk=>?_⟩
   rw[List.flatten_cons] at hk
   rcases ZB k l.length with hlt | hge
   ·rw[QE hlt] at hk
    have:=h2 k c hk
    rwa [hoff] at this
   ·rw[QS hge] at hk
    have:=ih.2 (k-l.length) c hk
    rwa [show n+P.cellsOf f.type+(k-l.length)=n+k by omega] at this
  ·cases he
theorem NT {W:World} {a:Addr}:∀ (cs:List CV) (i:Nat),(∀ (j:Nat) (c:CV),cs[j]? = some c→∃ v,W.cell? (a.add (i+j))=some v∧c.rep W noO v)→CV.reps W noO cs a i
 | [],_,_=>by simp[CV.reps]
 | c::cs,i,h=>by
  simp only[CV.reps]
  refine ⟨not_noO _,by simpa using h 0 c (by simp),NT cs (i+1) fun j c' hj=>?_⟩
  have:=h (j+1) c' (by simpa using hj)
  rwa [show i+(j+1)=i+1+j by omega] at this
section
variable {H:Type} {enc:TypeId × Value→H} {P:Program} {W:World}
theorem EW:∀ (n:Nat) (t:TypeId) (cs:List Value) (x:DataW H × List MemPlace) (fuel:Nat),TG P n t=true→DataW.trod enc P W 0 (fun _=>true) true fuel t cs=some x →
  ∃ cvs:List CV,Typed P t cvs∧cvs.length=cs.length∧∀ (i:Nat) (c:CV) (v:Value),cvs[i]? = some c→cs[i]? = some v→c.rep W noO v
 | 0,t,cs,x,fuel,ho,_=>by simp[TG] at ho
 | n + 1,t,cs,x,fuel,ho,h=>by
  simp only[TG] at ho
  split at ho
  ·rename_i ht
   obtain ⟨b,rfl,_⟩:=DataW.trod_bool ht h
   refine ⟨[.bool b],.bool ht b,rfl,fun i c v h1 h2=>?_⟩
   cases i with
   | zero=>simp at h1 h2;subst h1 h2;simp[CV.rep]
   | succ i=>simp at h1
  ·rename_i k ht
   obtain ⟨b,rfl,_,hw⟩:=DataW.trod_int ht h
   refine ⟨[.int k b],.int ht b hw,rfl,fun i c v h1 h2=>?_⟩
   cases i with
   | zero=>simp at h1 h2;subst h1 h2;simp[CV.rep]
   | succ i=>simp at h1
  ·rename_i ht
   obtain ⟨s,rfl,_,hw⟩:=DataW.trod_string ht h
   refine ⟨[.str s],.str ht s hw,rfl,fun i c v h1 h2=>?_⟩
   cases i with
   | zero=>simp at h1 h2;subst h1 h2;simp[CV.rep]
   | succ i=>simp at h1
  ·rename_i e ht
   rcases DataW.trod_slice ht h with ⟨rfl,_⟩ | ⟨a,len,cap,elems,rest,m,_,rfl,_,_,hlc,hcm,hel,hget,_⟩
   ·refine ⟨[.rsl [] 0],by simpa using Typed.slc ht [] (by simp) (by simp) (by simp),rfl,fun i c v h1 h2=>?_⟩
    cases i with
    | zero=>simp at h1 h2;subst h1 h2;simp[CV.rep]
    | succ i=>simp at h1
   ·obtain ⟨L,hL,hQ⟩:=DG (Q:=fun i l=>Typed P e l∧l.length=P.cellsOf e∧∀ (j:Nat) (c:CV),l[j]? = some c→∃ v,W.cell? (a.add (i*P.cellsOf e+j))=some v∧c.rep W noO v) len (fun i hi=>by
     have hg:=hget i hi
     rw[QI (by omega)] at hg
     obtain ⟨ci,h1,h2⟩:=QB.1 hg
     obtain ⟨_,hlen,hcell⟩:=World.cells?_some h1
     obtain ⟨cvs,g1,g2,g3⟩:=EW n e ci _ _ ho h2
     refine ⟨cvs,g1,by omega,fun j c hj=>?_⟩
     have hjl:j<cvs.length:=(QH.1 hj).1
     have hc:=hcell j (by omega)
     rw[QI (by omega)] at hc
     exact ⟨_,by rw[← Addr.add_add];exact hc,g3 j c _ hj (QI _)⟩)
    have hmem:∀ l∈L,∃ i:Nat,L[i]? = some l:=fun l hl=>List.mem_iff_getElem?.1 hl
    have hfl:=CJ (R:=fun k c=>∃ v,W.cell? (a.add k)=some v∧c.rep W noO v) (esz:=P.cellsOf e) L 0 (fun i l hi=>⟨(hQ i l hi).2.1,fun j c hj=>by simpa using (hQ i l hi).2.2 j c hj⟩)
    refine ⟨[.rsl L.flatten L.length],Typed.slc ht L (by omega) (fun l hl=>let ⟨i,hi⟩:=hmem l hl;(hQ i l hi).2.1) (fun l hl=>let ⟨i,hi⟩:=hmem l hl;(hQ i l hi).1),rfl,fun i c v h1 h2=>?_⟩
    cases i with
    | zero =>
     simp at h1 h2;subst h1 h2
     simp only[CV.rep]
     exact .inr ⟨a,cap,by rw[hL],by omega,NT _ 0 (fun j c hj=>hfl.2 j c hj)⟩
    | succ i=>simp at h1
  ·rename_i k e ht
   simp only[QD,decide_eq_true_eq] at ho
   obtain ⟨xs,m,_,_,hlen,hxs,hget⟩:=DataW.trod_array ht h
   obtain ⟨L,hL,hQ⟩:=DG (Q:=fun i l=>Typed P e l∧l.length=P.cellsOf e∧∀ (j:Nat) (c:CV),l[j]? = some c→∀ v,cs[i*P.cellsOf e+j]? = some v→c.rep W noO v) k (fun i hi=>by
     have hg:=hget i hi
     rw[QI (by omega)] at hg
     obtain ⟨cvs,g1,g2,g3⟩:=EW n e _ _ _ ho.1 hg
     have hik:i*P.cellsOf e+P.cellsOf e≤k*P.cellsOf e:=by
      have:=YQ (P.cellsOf e) (show i+1≤k by omega)
      rwa [WP,Nat.one_mul] at this
     have hl2:cvs.length=P.cellsOf e:=by rw[g2];simp;omega
     refine ⟨cvs,g1,hl2,fun j c hj v hv=>?_⟩
     have hjl:j<cvs.length:=(QH.1 hj).1
     exact g3 j c v hj (by rw[Z7,if_pos (by omega),X4];exact hv))
   have hmem:∀ l∈L,∃ i:Nat,L[i]? = some l:=fun l hl=>List.mem_iff_getElem?.1 hl
   have hfl:=CJ (R:=fun k c=>∀ v,cs[k]? = some v→c.rep W noO v) (esz:=P.cellsOf e) L 0 (fun i l hi=>⟨(hQ i l hi).2.1,fun j c hj=>by simpa using (hQ i l hi).2.2 j c hj⟩)
   exact ⟨L.flatten,Typed.arr ht L hL (fun l hl=>let ⟨i,hi⟩:=hmem l hl;(hQ i l hi).2.1) (fun l hl=>let ⟨i,hi⟩:=hmem l hl;(hQ i l hi).1),by rw[hfl.1,hlen,ho.2,hL],fun i c v h1 h2=>hfl.2 i c h1 v (by simpa using h2)⟩
  ·rename_i fs ht
   simp only[QD,decide_eq_true_eq,Q1] at ho
   obtain ⟨xs,m,_,_,hlen,hxs,hget⟩:=DataW.trod_struct ht h
   obtain ⟨L,hL,hQ⟩:=DG (Q:=fun i l=>∀ f,fs[i]? = some f→Typed P f.type l∧l.length=min (P.cellsOf f.type) (cs.length-f.offset)∧∀ (j:Nat) (c:CV),l[j]? = some c→∀ v,cs[f.offset+j]? = some v→c.rep W noO v) fs.size (fun i hi=>by
     have hfi:fs[i]? = some fs[i]:=Q7 hi
     have hg:=hget i fs[i] hfi
     rw[QI (by omega)] at hg
     obtain ⟨cvs,g1,g2,g3⟩:=EW n _ _ _ _ (ho.1 fs[i] (by simp)) hg
     have hl2:cvs.length=min (P.cellsOf fs[i].type) (cs.length-fs[i].offset):=by rw[g2];simp
     refine ⟨cvs,fun f hf=>?_⟩
     rw[hfi] at hf;cases hf
     refine ⟨g1,hl2,fun j c hj v hv=>?_⟩
     have hjl:j<cvs.length:=(QH.1 hj).1
     exact g3 j c v hj (by rw[Z7,if_pos (by omega),X4];exact hv))
   have hoff:∀ (fs:List Field) (n N:Nat),J8 P fs n=some N→n≤N∧∀ (i:Nat) (f:Field),fs[i]? = some f→f.offset+P.cellsOf f.type≤N:=by
    intro fs
    induction fs with
    | nil=>intro n N h;simp only[J8,Option.some.injEq] at h;simp[h]
    | cons f fs ih =>
     intro n N h
     simp only[J8] at h
     split at h
     ·rename_i ho
      obtain ⟨h1,h2⟩:=ih _ _ h
      refine ⟨by omega,fun i f' hi=>?_⟩
      cases i with
      | zero=>simp at hi;subst hi;omega
      | succ i=>exact h2 i f' (by simpa using hi)
     ·cases h
   have hin:=(hoff _ _ _ ho.2).2
   have hl:∀ (i:Nat) (f:Field) (l:List CV),fs[i]? = some f→L[i]? = some l→l.length=P.cellsOf f.type:=by
    intro i f l hf hl
    obtain ⟨_,h2,_⟩:=hQ i l hl f hf
    have:=hin i f (by simpa using hf)
    omega
   have hfl:=A4 (P:=P) (R:=fun k c=>∀ v,cs[k]? = some v→c.rep W noO v) fs.toList L 0 ho.2 (by simpa using hL) (fun i f l hf hl' =>
    ⟨hl i f l (by simpa using hf) hl',fun j c hj=>(hQ i l hl' f (by simpa using hf)).2.2 j c hj⟩)
   exact ⟨L.flatten,Typed.struct ht L hL hl (fun i f l hf hl'=>(hQ i l hl' f hf).1),by have:=hfl.1;omega,fun i c v h1 h2=>hfl.2 i c h1 v (by simpa using h2)⟩
  ·cases ho
theorem DV:∀ (cvs:List CV) (vs:List Value),cvs.length=vs.length→(∀ (i:Nat) (c:CV) (v:Value),cvs[i]? = some c→vs[i]? = some v→c.rep W noO v)→QK nom noX W (cvs.map .cv) vs
 | [],[],_,_=>by simp[QK]
 | c::cvs,v::vs,hl,h=>by
  simp only[Q0,QK,VRel]
  exact ⟨h 0 c v rfl rfl,DV cvs vs (by simpa using hl) fun i c v h1 h2=>h (i+1) c v (by simpa using h1) (by simpa using h2)⟩
 | [],_::_,hl,_=>by simp at hl
 | _::_,[],hl,_=>by simp at hl
theorem QfB {n:Nat} {t:TypeId} {v:Value} {d:DataW H} {ps:List MemPlace} {r:Reach} {base:Nat} (ho:TG P n t=true) (hval:Value.okWide P W r base t v) (h:DataW.Trod enc P W 0 (fun _=>true) true t v d ps) :
  ∃ cs,Typed P t cs∧VRel nom noX W (avOf P t cs) v:=by
 obtain ⟨fuel,h⟩:=h
 obtain ⟨cvs,h1,h2,h3⟩:=EW n t _ _ _ ho h
 refine ⟨cvs,h1,?_⟩
 unfold avOf
 have one:(v.cells.toList=[v])→VRel nom noX W (.cv (cvs.headD .nilp)) v:=by
  intro hv
  rw[hv] at h2 h3
  match cvs,h2 with
  | [c],_=>simp only[List.headD_cons,VRel];exact h3 0 c v rfl rfl
 cases n with
 | zero=>simp[TG] at ho
 | succ n =>
  simp only[TG] at ho
  split at ho
  ·rename_i ht;rw[ht];obtain ⟨b,rfl⟩:=okWide_bool ht hval;exact one rfl
  ·rename_i ht;rw[ht];obtain ⟨b,rfl⟩:=okWide_int ht hval;exact one rfl
  ·rename_i ht;rw[ht];obtain ⟨b,rfl⟩:=okWide_string ht hval;exact one rfl
  ·rename_i ht;rw[ht];obtain ⟨_,_,_,rfl⟩:=okWide_slice ht hval;exact one rfl
  ·rename_i ht;rw[ht]
   simp only[Value.okWide,ht] at hval
   obtain ⟨arr,rfl,_⟩:=hval
   simp only[VRel]
   exact ⟨arr.toList,by simp,DV _ _ h2 h3⟩
  ·rename_i ht;rw[ht]
   simp only[Value.okWide,ht] at hval
   obtain ⟨arr,rfl,_⟩:=hval
   simp only[VRel]
   exact ⟨arr.toList,by simp,DV _ _ h2 h3⟩
  ·cases ho
theorem C1 {n:Nat} {r:Reach} {base:Nat}:∀ {ts:List TypeId} {vs:List Value} {ds:List (DataW H)} {ps:List MemPlace},(ts.all (TG P n))=true →
  (∀ (j:Nat) (t:TypeId) (v:Value),ts[j]? = some t→vs[j]? = some v→Value.okWide P W r base t v)→DataW.TrodAll enc P W 0 (fun _=>true) true ts vs ds ps →
  ds.length=ts.length∧∃ avs,Args P ts avs∧QK nom noX W avs vs
 | [],_,_,_,_,_,h=>by
  obtain ⟨rfl,rfl,rfl⟩:=trodAll_nil h
  exact ⟨rfl,[],.nil,by simp[QK]⟩
 | t::ts,_,_,_,ho,hval,h=>by
  obtain ⟨v,vs1,d,ds1,a,b,rfl,rfl,rfl,h1,h2⟩:=trodAll_cons h
  simp only[List.all_cons,QD] at ho
  obtain ⟨cs,g1,g2⟩:=QfB ho.1 (hval 0 t v rfl rfl) h1
  obtain ⟨hl,avs,g3,g4⟩:=C1 ho.2 (fun j t v h1 h2=>hval (j+1) t v (by simpa using h1) (by simpa using h2)) h2
  exact ⟨by simp[hl],_,.cons g1 g3,by simp only[QK];exact ⟨g2,g4⟩⟩
theorem LU (hl:laidOutB P=true) {W':World} (hb:Below W.heap.size W W'):∀ {ts:List TypeId} {vs:List Value} {ds:List (DataW H)} {ps:List MemPlace},(ts.all fun t=>P.readableRec t&&decide (t<P.types.size))=true →
  DataW.TrodAll enc P W 0 (fun _=>true) true ts vs ds ps→(∀ x∈ps,x.block<W.heap.size)→DataW.TrodAll enc P W' 0 (fun b=>decide (b<W.heap.size)) true ts vs ds ps
 | [],_,_,_,_,h,_=>by
  obtain ⟨rfl,rfl,rfl⟩:=trodAll_nil h
  exact trodAll_mk0
 | t::ts,_,_,_,ho,h,hlt=>by
  obtain ⟨v,vs1,d,ds1,a,b,rfl,rfl,rfl,h1,h2⟩:=trodAll_cons h
  simp only[List.all_cons,QD,decide_eq_true_eq] at ho
  refine trodAll_cons_mk (Below.trod hl ho.1.1 ho.1.2 h1 hb fun x hx=>hlt x (by simp[hx])) (LU hl hb ?_ h2 fun x hx=>hlt x (by simp[hx]))
  simpa using ho.2
theorem law_of_AC {f:FuncId} {fn:Func} {s:ChangeSpec} {n:Nat} {t:TypeId} {base:Nat} {args:Array Value} {ds gs:List (DataW H)} {before:List MemPlace}
  (hl:laidOutB P=true) (hpar:(fn.params.toList.all fun t=>P.readableRec t&&decide (t<P.types.size))=true) (ho:fn.params.toList.all (TG P n)=true)
  (hres:fn.resultTypes = #[t]) (htb:P.underlying t=some .bool) (hsv:s.vars=[]) (hs:∀ ds:List (DataW H),ds.length=fn.params.toList.length→s.fn H ds = { results:=[.lit (.bool true)],args:=ds })
  (hAC:∀ avs,Args P fn.params.toList avs→AC P f avs [] fun r _=>r=.b true)
  (hval:∀ (j:Nat) t v,fn.params[j]? = some t→args[j]? = some v→Value.okWide P W .any base t v) (hgl:GlOk nom noX W)
  (hW:DataW.Whole enc P fn.params.toList s.vars false W args.toList ds gs before) :
  Calls P f args W fun e W'=>∃ v,e=.returned v∧s.post enc P fn false true false false W args v W':=by
 have hW':=hW
 obtain ⟨p,q,hA,hV,rfl,hfz,hnd⟩:=hW
 rw[hsv] at hV
 obtain ⟨rfl,rfl⟩:=trodVars_none hV
 have hlt:∀ x∈p,x.block<W.heap.size:=fun x hx=>hW'.lt x (by simp[hx])
 obtain ⟨hlen,avs,hav,hrel⟩:=C1 ho (fun j t v h1 h2=>hval j t v (by simpa using h1) (by simpa using h2)) hA
 have hcall:=(hAC avs hav).2 nom noX W args.toList hrel ⟨by simp,by simp,by simp,by simp,by simp,hgl⟩
 have hcall:=callsIn_wide.1 hcall
 simp only[Array.toArray_toList] at hcall
 refine hcall.mono fun e W' ⟨c,r,σ',m',he,hq,hr,_,hst,_⟩=>?_
 subst he hq
 simp only[VRel,CV.rep] at hr
 subst hr
 have hb:Below W.heap.size W W':=⟨hst.os,hst.tape,hst.output,hst.size,fun k hk=>hst.fr k hk (.inr (by simp))⟩
 have hsf:s.fn H (ds++[]) = { results:=[.lit (.bool true)],args:=ds }:=by rw[ZU];exact hs ds hlen
 refine ⟨_,rfl,ds,[],p++[],[],p,[],hW',?_,?_,?_,hb.frame _,fun h=>by simp at h⟩
 ·rw[hsf,hres]
  exact trodAll_mk1 (shut_bool htb true)
 ·rw[hsf]
  exact LU hl hb hpar hA hlt
 ·rw[hsf,hsv]
  rfl
end
end Go.Proofs.YtgkidpolomhghaaGreatDoor.AM
namespace Go.Proofs.YtgkidpolomhghaaGreatDoor.AM
variable [Dr]
open Go
theorem QeV {P:Program} {t:TypeId} {k:IntKind} {cs:List CV} (ht:P.underlying t=some (.int k)) (h:Typed P t cs):∃ n,cs=[.int k n]∧(Lit.int k n).wf=true:=by
 cases h with
 | int ht' n hw=>rw[ht] at ht';cases ht';exact ⟨n,rfl,hw⟩
 | bool ht'=>rw[ht] at ht';cases ht'
 | str ht'=>rw[ht] at ht';cases ht'
 | slc ht'=>rw[ht] at ht';cases ht'
 | arr ht'=>rw[ht] at ht';cases ht'
 | struct ht'=>rw[ht] at ht';cases ht'
theorem QeU {P:Program} {t e:TypeId} {cs:List CV} (ht:P.underlying t=some (.slice e)) (h:Typed P t cs):∃ L:List (List CV),cs=[.rsl L.flatten L.length]∧L.length≤maxLen∧(∀ l∈L,l.length=P.cellsOf e)∧∀ l∈L,Typed P e l:=by
 cases h with
 | slc ht' L hn hl h=>rw[ht] at ht';cases ht';exact ⟨L,rfl,hn,hl,h⟩
 | bool ht'=>rw[ht] at ht';cases ht'
 | int ht'=>rw[ht] at ht';cases ht'
 | str ht'=>rw[ht] at ht';cases ht'
 | arr ht'=>rw[ht] at ht';cases ht'
 | struct ht'=>rw[ht] at ht';cases ht'
theorem typed_struct {P:Program} {t:TypeId} {fs:Array Field} {cs:List CV} (ht:P.underlying t=some (.struct fs)) (h:Typed P t cs):∃ L:List (List CV),cs=L.flatten∧L.length=fs.size∧∀ (i:Nat) (f:Field) (l:List CV),fs[i]? = some f→L[i]? = some l→Typed P f.type l:=by
 cases h with
 | struct ht' L hn hl h=>rw[ht] at ht';cases ht';exact ⟨L,rfl,hn,h⟩
 | bool ht'=>rw[ht] at ht';cases ht'
 | int ht'=>rw[ht] at ht';cases ht'
 | str ht'=>rw[ht] at ht';cases ht'
 | slc ht'=>rw[ht] at ht';cases ht'
 | arr ht'=>rw[ht] at ht';cases ht'
theorem Qdi {P:Program} {e:TypeId} {k:IntKind} (he:P.underlying e=some (.int k)):∀ L:List (List CV),(∀ l∈L,Typed P e l)→∃ zs:List Int,L.flatten=zs.map (.int k)∧L.length=zs.length∧∀ z∈zs,(Lit.int k z).wf=true
 | [],_=>⟨[],rfl,rfl,by simp⟩
 | l::L,h=>by
  obtain ⟨n,rfl,hn⟩:=QeV he (h l (by simp))
  obtain ⟨zs,h1,h2,h3⟩:=Qdi he L fun l hl=>h l (by simp[hl])
  exact ⟨n::zs,by simp[h1],by simp[h2],by simpa using ⟨hn,h3⟩⟩
theorem typed_ints {P:Program} {t e:TypeId} {k:IntKind} {cs:List CV} (ht:P.underlying t=some (.slice e)) (he:P.underlying e=some (.int k)) (h:Typed P t cs):∃ zs:List Int,cs=[.rsl (zs.map (.int k)) zs.length]∧zs.length<2 ^ 63∧∀ z∈zs,(Lit.int k z).wf=true:=by
 obtain ⟨L,rfl,hn,_,hl⟩:=QeU ht h
 obtain ⟨zs,h1,h2,h3⟩:=Qdi he L hl
 refine ⟨zs,by rw[h1,h2],?_,h3⟩
 rw[← h2];unfold maxLen at hn;omega
theorem args_cons {P:Program} {t:TypeId} {ts:List TypeId} {avs:List AV} (h:Args P (t::ts) avs):∃ cs avs',avs=avOf P t cs::avs'∧Typed P t cs∧Args P ts avs':=by
 generalize hts:t::ts=u at h
 cases h with
 | nil=>cases hts
 | cons h1 h2=>cases hts;exact ⟨_,_,rfl,h1,h2⟩
theorem args_nil {P:Program} {avs:List AV} (h:Args P [] avs):avs=[]:=by
 generalize hts:([]:List TypeId)=u at h
 cases h with
 | nil=>rfl
 | cons h1 h2=>cases hts
abbrev vs3:List Nat:=[0,1,2,6,7,8,9,10,11,12,33]
def ic3:IC:=(.seq (.region [jw 3 .mv [jB false]])
 (.seq (.region [jv 0,jv 1,jk 17 [.t 0,.t 1],jt 2,jx 0 3,jx 1 3,jw 4 (.alloc [(.cv .nils),(.cv (.int .i64 0))]) [],jq (.store 2) [.v 4,.t 4],jm 5 5])
 (.seq (.region [jv 0,jv 1,jk 18 [.t 0,.t 1],jt 2,jx 0 3,jx 1 3,jw 6 (.alloc [(.cv .nils),(.cv (.int .i64 0))]) [],jq (.store 2) [.v 6,.t 4],jm 7 5])
 (.seq (.seq (.region [jN 2 4,jN 2 6,jk 19 [.t 0,.t 1],jq .not [.t 2],jt 3,jh 4 false 5,jh 4 false 7,jg 4 false (.bin .neq .int) [.t 5,.t 6],jw 10 .pick [.t 4,jB true,.t 7]])
 (.cond 10 (.seq (.region [jw 3 .mv [jB false]])
 .ret)
 .skip))
 (.seq (.region [jv 0,jv 1,jv 2,jk 20 [.t 0,.t 1,.t 2],jt 3,jx 0 4,jx 1 4,jm 8 5,jm 5 6])
 (.seq (.region [jv 0,jv 1,jv 2,jk 21 [.t 0,.t 1,.t 2],jt 3,jx 0 4,jx 1 4,jm 9 5,jm 7 6])
 (.seq (.region [jv 8,jv 9,jq (.bin .eql .int) [.t 0,.t 1],jt 2,jh 3 true 5,jh 3 true 7,jg 3 true (.bin .eql .int) [.t 4,.t 5],jq .pick [.t 3,.t 6,jB false],jt 7,jf 8 true 22 [],jq .pick [.t 8,.t 9,jB false],jm 3 10])
 .ret)))))))
abbrev rs3:List RC:=[(.v 3)]
theorem fok3 (p:Bool):FnOk Tryz.prog 3 ⟨ic3,vs3,59,rs3,p⟩:=.mk2 Tryz.func3 (by kernel_rfl) (by kernel_rfl) (by kernel_rfl) (by kernel_rfl) (by kernel_rfl)
end Go.Proofs.YtgkidpolomhghaaGreatDoor.AM
namespace Go.Proofs.YtgkidpolomhghaaGreatDoor.AM
open Go Pl
theorem typed_list {α:Type} {f:α→List CV} {p:α→Prop} {t:TypeId} (h:∀ cs,Typed Tryz.prog t cs→∃ x,cs=f x∧p x):∀ L:List (List CV),(∀ l∈L,Typed Tryz.prog t l)→∃ xs:List α,L.flatten=xs.flatMap f∧L.length=xs.length∧∀ x∈xs,p x
 | [],_=>⟨[],rfl,rfl,by simp⟩
 | l::L,hl=>by
  obtain ⟨x,h1,h2⟩:=h l (hl l (by simp))
  obtain ⟨xs,g1,g2,g3⟩:=typed_list h L fun l hh=>hl l (by simp[hh])
  exact ⟨x::xs,by simp[h1,g1],by simp[g2],by simpa using ⟨h2,g3⟩⟩
theorem typed_i {cs:List CV} (h:Typed Tryz.prog 3 cs):∃ x:Int,cs=[.int .i64 x]:=by
 obtain ⟨n,rfl,_⟩:=QeV Tryz.underlying3 h
 exact ⟨n,rfl⟩
theorem typed_row {cs:List CV} (h:Typed Tryz.prog 23 cs):∃ zs:List Int,cs=[rowC zs]∧zs.length<2 ^ 63:=by
 obtain ⟨zs,h1,h2,_⟩:=typed_ints Tryz.underlying23 Tryz.underlying3 h
 exact ⟨zs,h1,h2⟩
theorem typed_need {cs:List CV} (h:Typed Tryz.prog 23 cs):∃ zs:List Int,avOf Tryz.prog 23 cs=ints zs∧zs.length<2 ^ 63:=by
 obtain ⟨zs,rfl,hz⟩:=typed_row h
 exact ⟨zs,by simp only[avOf,Tryz.underlying23];rfl,hz⟩
theorem typed_pat {cs:List CV} (h:Typed Tryz.prog 73 cs):∃ p:Pat,cs=patC p∧True:=by
 obtain ⟨L,rfl,hn,hf⟩:=typed_struct Tryz.underlying73 h
 match L,hn with
 | [a,b],_ =>
  obtain ⟨n1,rfl⟩:=typed_i (hf 0 _ a rfl rfl)
  obtain ⟨n2,rfl⟩:=typed_i (hf 1 _ b rfl rfl)
  exact ⟨(n1,n2),rfl,trivial⟩
theorem typed_pats {cs:List CV} (h:Typed Tryz.prog 22 cs):∃ l:List Pat,avOf Tryz.prog 22 cs=.cv (patR l)∧l.length<2 ^ 63:=by
 obtain ⟨L1,rfl,n1,_,h1⟩:=QeU Tryz.underlying22 h
 obtain ⟨l,a1,a2,_⟩:=typed_list (fun cs h=>typed_pat h) L1 h1
 have hm:maxLen<2 ^ 63:=by decide
 refine ⟨l,?_,by omega⟩
 simp only[avOf,Tryz.underlying22,a1,a2,List.headD_cons]
 rfl
end Go.Proofs.YtgkidpolomhghaaGreatDoor.AM
namespace Go.Proofs.YtgkidpolomhghaaGreatDoor.Pl
def numP (l:List Int):Nat→Nat
 | 0=>0
 | i+1=>numP l i*4+(gI l i).toNat
abbrev numF (l:List Int):Nat:=numP l l.length
theorem numP_lt {l:List Int} (h:N3 l):∀ i,i≤l.length→numP l i<4 ^ i
 | 0,_=>by simp[numP]
 | i+1,hi=>by
  have ih:=numP_lt h i (by omega)
  have:=h i (by omega)
  rw[Nat.pow_succ]
  simp only[numP]
  omega
theorem numP_inj {a b:List Int} (ha:N3 a) (hb:N3 b):∀ i,i≤a.length→i≤b.length→numP a i=numP b i→∀ j,j<i→gI a j=gI b j
 | 0,_,_,_,j,hj=>by omega
 | i+1,h1,h2,h,j,hj=>by
  simp only[numP] at h
  have x1:=ha i (by omega)
  have x2:=hb i (by omega)
  rcases QQ.1 hj with hj | rfl
  ·exact numP_inj ha hb i (by omega) (by omega) (by omega) j hj
  ·omega
theorem num_inj {a b:List Int} (ha:N3 a) (hb:N3 b) (hl:a.length=b.length):numF a=numF b↔a=b:=by
 refine ⟨fun h=>B9 hl fun i hi=>?_,fun h=>by rw[h]⟩
 unfold numF at h
 rw[← hl] at h
 exact numP_inj ha hb _ (QG _) (by omega) h i hi
theorem numP_zero {l:List Int}:∀ i,numP l i=0↔∀ j,j<i→(gI l j).toNat=0
 | 0=>by simp[numP]
 | i+1=>by
  have ih:=numP_zero (l:=l) i
  simp only[numP]
  constructor
  ·intro h j hj
   rcases QQ.1 hj with hj | rfl
   ·exact ih.1 (by omega) j hj
   ·omega
  ·intro h
   have h1:=ih.2 fun j hj=>h j (by omega)
   have h2:=h i (by omega)
   omega
theorem num_zero {l:List Int} (h:N3 l):numF l=0↔J9 l=true:=by
 rw[numP_zero,OW]
 constructor
 ·intro h1 i hi
  have:=h1 i hi
  have:=h i hi
  omega
 ·intro h1 i hi
  have:=h1 i hi
  omega
def c3:Cost→Int × Int
 | none=>(-2,0)
 | some c=>c
def ovr (a b:Int × Int):Bool:=if a.1<0∨b.1<0 then decide (a.1<0)&&decide (b.1≥0) else TF a b
def leX (m:Int) (a b:Int × Int):Int × Int:=if 0≤b.1∧ovr a (b.1+1,b.2+m)=true then (b.1+1,b.2+m) else a
theorem c3_best {A B:Cost} {m:Int} (hA:∀ a b,A=some (a,b)→0≤a) (hB:∀ a b,B=some (a,b)→0≤a):c3 (TZ A m B)=leX m (c3 A) (c3 B):=by
 unfold leX
 cases B with
 | none=>rw[if_neg (fun h=>by have:=h.1;simp[c3] at this)];rfl
 | some b =>
  obtain ⟨b1,b2⟩:=b
  have hb:=hB b1 b2 rfl
  have ho:Qbe A (b1+1,b2+m)=ovr (c3 A) (b1+1,b2+m):=by
   cases A with
   | none =>
    show true=ovr (-2,0) _
    unfold ovr
    rw[if_pos (.inl (by decide))]
    have:decide (b1+1≥0)=true:=decide_eq_true (by omega)
    simp only[this]
    rfl
   | some a =>
    obtain ⟨a1,a2⟩:=a
    have ha:=hA a1 a2 rfl
    show Qbe _ _=ovr (a1,a2) _
    unfold ovr
    rw[if_neg (fun h=>by rcases h with h | h <;> simp only at h <;> omega)]
    rfl
  have hc:c3 (some (b1,b2))=(b1,b2):=rfl
  simp only[TZ,hc]
  rw[ho]
  by_cases h:ovr (c3 A) (b1+1,b2+m)=true
  ·rw[if_pos h,if_pos ⟨hb,h⟩];rfl
  ·rw[if_neg h,if_neg (fun h2=>h h2.2)]
def ent (K:List (List Int)) (k n:Nat):Int × Int:=(gI (K[k]?.getD []) (n*2),gI (K[k]?.getD []) (n*2+1))
def putE (K:List (List Int)) (k n:Nat) (v:Int × Int):List (List Int):=K.set k (((K[k]?.getD []).set (n*2) v.1).set (n*2+1) v.2)
section
variable (ps:List Pat)
def leM:Nat→Nat→List Int→List (List Int)→(Int × Int) × List (List Int)
 | 0,_,_,K=>((0,0),K)
 | f+1,k,l,K =>
  if numF l=0 then ((0,0),K)
  else if k=ps.length then ((-2,0),K)
  else if (ent K k (numF l)).1≠-1 then (ent K k (numF l),K)
  else if numF (afL (ps[k]!).1 l)=numF l then ((leM f (k+1) l K).1,putE (leM f (k+1) l K).2 k (numF l) (leM f (k+1) l K).1)
  else (leX (ps[k]!).2 (leM f (k+1) l K).1 (leM f k (afL (ps[k]!).1 l) (leM f (k+1) l K).2).1,
   putE (leM f k (afL (ps[k]!).1 l) (leM f (k+1) l K).2).2 k (numF l) (leX (ps[k]!).2 (leM f (k+1) l K).1 (leM f k (afL (ps[k]!).1 l) (leM f (k+1) l K).2).1))
variable {ps}
structure TabOk (ps:List Pat) (L:Nat) (K:List (List Int)):Prop where
 kl:K.length=ps.length
 rl:∀ j,j<ps.length→(K[j]?.getD []).length=4 ^ L*2
 rt:∀ j,j<ps.length→∀ l,l.length=L→N3 l→(ent K j (numF l)).1≠-1→ent K j (numF l)=c3 (fewV ps j l)
theorem putE_row {K:List (List Int)} {k n:Nat} {v:Int × Int} (hk:k<K.length) (j:Nat):(putE K k n v)[j]?.getD []=if k=j then ((K[k]?.getD []).set (n*2) v.1).set (n*2+1) v.2 else K[j]?.getD []:=by
 unfold putE
 by_cases e:k=j
 ·subst e
  rw[if_pos rfl,Z2 hk];rfl
 ·rw[if_neg e,QU e]
theorem gI_set2 {l:List Int} {i j:Nat} {x:Int} (h:i<l.length):gI (l.set i x) j=if i=j then x else gI l j:=by
 unfold gI
 by_cases e:i=j
 ·subst e;rw[if_pos rfl,Z2 h];rfl
 ·rw[if_neg e,QU e]
theorem TabOk.put {L:Nat} {K:List (List Int)} (h:TabOk ps L K) {k:Nat} (hk:k<ps.length) {l:List Int} (hl:l.length=L) (hn:N3 l) {v:Int × Int} (hv:v=c3 (fewV ps k l)):TabOk ps L (putE K k (numF l) v):=by
 have hkl:=h.kl
 have hlt:=numP_lt hn l.length (QG _)
 have hnum:numF l<4 ^ L:=by rw[← hl];exact hlt
 refine ⟨by unfold putE;rw[WE];exact hkl,fun j hj=>?_,fun j hj l2 h2 n2=>?_⟩
 ·rw[putE_row (by omega)]
  split
  ·rw[WE,WE];exact h.rl k hk
  ·exact h.rl j hj
 ·have hr:=h.rl k hk
  unfold ent
  rw[putE_row (by omega)]
  by_cases e:k=j
  ·subst e
   rw[if_pos rfl]
   rw[gI_set2 (by rw[WE,hr];omega),gI_set2 (by rw[hr];omega),gI_set2 (by rw[WE,hr];omega),gI_set2 (by rw[hr];omega)]
   by_cases e2:numF l=numF l2
   ·have:l=l2:=(num_inj hn n2 (by omega)).1 e2
    subst this
    intro _
    rw[if_neg (by omega),if_pos rfl,if_pos rfl]
    rw[← hv]
   ·rw[if_neg (by omega),if_neg (by omega),if_neg (by omega),if_neg (by omega)]
    exact h.rt k hk l2 h2 n2
  ·rw[if_neg e]
   exact h.rt j hj l2 h2 n2
theorem leM_ok (hm:MtOk ps):∀ (f k:Nat) (l:List Int) (K:List (List Int)),k≤ps.length→N3 l→ps.length-k+sumN l<f→TabOk ps l.length K →
  (leM ps f k l K).1=c3 (fewV ps k l)∧TabOk ps l.length (leM ps f k l K).2
 | 0,_,_,_,_,_,h,_=>absurd h (W5 _)
 | f+1,k,l,K,hk,hn,hf,hK=>by
  unfold leM
  by_cases hz:numF l=0
  ·rw[if_pos hz]
   have hz:=(num_zero hn).1 hz
   rw[LK hn.nn hz]
   exact ⟨rfl,hK⟩
  have hz':J9 l=false:=by
   cases h:J9 l with
   | false=>rfl
   | true=>exact absurd ((num_zero hn).2 h) hz
  rw[if_neg hz]
  by_cases hkn:k=ps.length
  ·rw[if_pos hkn,CL hn.nn hz' (by omega)]
   exact ⟨rfl,hK⟩
  rw[if_neg hkn]
  have hk2:k<ps.length:=by omega
  by_cases he:(ent K k (numF l)).1≠-1
  ·rw[if_pos he]
   exact ⟨hK.rt k hk2 l rfl hn he,hK⟩
  rw[if_neg he]
  obtain ⟨g1,g2⟩:=leM_ok hm f (k+1) l K (by omega) hn (by omega) hK
  by_cases ha:afL (ps[k]!).1 l=l
  ·rw[if_pos (by rw[ha])]
   have hv:(leM ps f (k+1) l K).1=c3 (fewV ps k l):=by rw[g1,FB hn.nn hz' hk2 ha]
   exact ⟨hv,g2.put hk2 rfl hn hv⟩
  ·have hne:¬ numF (afL (ps[k]!).1 l)=numF l:=fun e=>ha ((num_inj (hn.af _) hn (JQ _ _)).1 e)
   rw[if_neg hne]
   have hlt:=R3 hn.nn ha
   have hlen:=JQ (ps[k]!).1 l
   obtain ⟨g3,g4⟩:=leM_ok hm f k (afL (ps[k]!).1 l) (leM ps f (k+1) l K).2 hk (hn.af _) (by omega) (by rw[hlen];exact g2)
   rw[hlen] at g4
   have hv:leX (ps[k]!).2 (leM ps f (k+1) l K).1 (leM ps f k (afL (ps[k]!).1 l) (leM ps f (k+1) l K).2).1=c3 (fewV ps k l):=by
    rw[g1,g3,FC hn.nn hz' hk2 ha,c3_best (A:=fewV ps (k+1) l) (B:=fewV ps k (afL (ps[k]!).1 l)) (fun a b h=>(DI hm _ _ _ _ _ hn.nn h).1) (fun a b h=>(DI hm _ _ _ _ _ (hn.af _).nn h).1)]
   exact ⟨hv,g4.put hk2 rfl hn hv⟩
end
end Go.Proofs.YtgkidpolomhghaaGreatDoor.Pl
namespace Go.Proofs.YtgkidpolomhghaaGreatDoor.AM
variable [Dr]
open Go Pl
def putTab (σ:List AObj) (b:Nat) (K:List (List Int)):List AObj:=σ.mapIdx fun l o=>if b+1≤l∧l<b+1+K.length then AObj.cells ((K[l-(b+1)]?.getD []).map AV.i) else o
theorem putTab_length (σ:List AObj) (b:Nat) (K:List (List Int)):(putTab σ b K).length=σ.length:=by simp[putTab]
theorem putTab_get (σ:List AObj) (b:Nat) (K:List (List Int)) (l:Nat):(putTab σ b K)[l]? = (σ[l]?).map fun o=>if b+1≤l∧l<b+1+K.length then AObj.cells ((K[l-(b+1)]?.getD []).map AV.i) else o:=by simp[putTab,List.getElem?_mapIdx]
structure TabAt (σ:List AObj) (b T size:Nat) (K:List (List Int)):Prop where
 out:rowOf σ b=some ((List.range T).map fun j=>AV.sl (b+1+j) 0 size 1)
 kl:K.length=T
 rows:∀ j,j<T→rowOf σ (b+1+j)=some ((K[j]?.getD []).map AV.i)∧(K[j]?.getD []).length=size
theorem putTab_put (σ:List AObj) (b:Nat) {K K':List (List Int)} (h:K.length=K'.length):putTab (putTab σ b K) b K'=putTab σ b K':=by
 apply Z1
 intro l
 rw[putTab_get,putTab_get,putTab_get]
 cases σ[l]? with
 | none=>rfl
 | some o =>
  simp only[Option.map_some,Option.some.injEq,h]
  split <;> rfl
theorem objIn_ints (n:Nat) (zs:List Int):Z3 n (AObj.cells (zs.map AV.i))=true:=by
 simp only[Z3]
 induction zs with
 | nil=>rfl
 | cons z zs ih=>simp only[Q0,QO,QR,XI];exact ih
theorem TabAt.lt {σ:List AObj} {b T size:Nat} {K:List (List Int)} (h:TabAt σ b T size K):b+T<σ.length:=by
 by_cases hT:T=0
 ·have:=(QH.1 (WO h.out)).1;omega
 ·have:=(QH.1 (WO (h.rows (T-1) (by omega)).1)).1;omega
section
variable (can:Nat→Nat→Bool) (n:Nat)
variable {can n}
structure MemT (can:Nat→Nat→Bool) (n:Nat) (K:List (List Int)):Prop where
 kl:K.length=n
 rl:∀ j,j<n→(K[j]?.getD []).length=2 ^ n
 rt:∀ j,j<n→∀ S,S<2 ^ n→(K[j]?.getD [])[S]?.getD 0≥0→(K[j]?.getD [])[S]?.getD 0=(prF can n (n-j) j S.testBit:Int)
end
end Go.Proofs.YtgkidpolomhghaaGreatDoor.AM
namespace Go.Proofs.YtgkidpolomhghaaGreatDoor.AM
open Go Pl
theorem set_last {rows:List AObj} {c x:AObj} {t:Nat} (h:rows.length=t):(rows++[c]).set t x=rows++[x]:=by
 subst h;simp
theorem row_last {rows:List AObj} {cs:List AV} {t:Nat} (h:rows.length=t):rowOf (rows++[AObj.cells cs]) t=some cs:=by
 subst h;exact XH _ _
theorem mk1 {bytes n:Nat} {z:AV} (hb:bytes≤1000) (h:n≤1000000) (σ:List AObj):XB 1 bytes [z] [.cv (.int .i64 n),.cv (.int .i64 n)] σ=some (.sl σ.length 0 n 1,σ++[AObj.cells (List.replicate n z)]):=by
 have h1:n*bytes≤1000000*1000:=Nat.mul_le_mul h hb
 have h2:(2:Int) ^ 46=70368744177664:=by decide
 have h3:(n:Int)*(bytes:Int)=((n*bytes:Nat):Int):=by simp
 have hc:(0≤(n:Int)∧True∧(n:Int)*bytes≤2 ^ 46∧(n:Int)≤2 ^ 46∧[z].length=1):=by
  rw[h3,h2];exact ⟨by omega,trivial,by omega,by omega,rfl⟩
 simp only[XB]
 rw[if_pos hc]
 simp[YW]
theorem putTab_lo {σ:List AObj} {b:Nat} {K:List (List Int)} {l:Nat} (hl:l<b+1):rowOf (putTab σ b K) l=rowOf σ l:=by
 unfold rowOf
 rw[putTab_get]
 cases σ[l]? with
 | none=>rfl
 | some o =>
  simp only[Option.map_some]
  rw[if_neg (by omega)]
end Go.Proofs.YtgkidpolomhghaaGreatDoor.AM
namespace Go.Proofs.YtgkidpolomhghaaGreatDoor.AM
variable [Dr]
open Go Pl
theorem outF_alR {lo hi:Int} {zs:List Int} (h:∀ j,j<zs.length→inB (gI zs j) lo hi=true):outF lo hi zs=false:=by
 rw[VL]
 intro z hz
 obtain ⟨j,hj,rfl⟩:=WN.1 hz
 have:=VB.1 (h j hj)
 unfold gI at this
 rwa [QI hj] at this
theorem outF_exR {lo hi:Int} {zs:List Int} {j:Nat} (hj:j<zs.length) (h:inB (gI zs j) lo hi=false):outF lo hi zs=true:=by
 cases hh:outF lo hi zs with
 | true=>rfl
 | false =>
  rw[VB.2 (VL.1 hh _ (Qcs hj))] at h
  cases h
theorem outF_sgR {lo hi z:Int}:outF lo hi [z] = !inB z lo hi:=by
 cases h:inB z lo hi with
 | true =>
  refine outF_alR (zs:=[z]) fun j hj=>?_
  have:j=0:=by simpa using hj
  subst this;exact h
 | false=>exact outF_exR (zs:=[z]) (j:=0) (by simp) h
theorem le42 (ps:List Pat) (l:List Int) (hp:ps.length<2 ^ 63) (hl:l.length<2 ^ 63):PC Tryz.prog 42 [.cv (patR ps),ints l] (.i (chkE ps l)):=by
 refine ⟨ZF (fok42 true) (QC rfl) ?_,rfl⟩
 unfold chkE
 rw[outF_sgR,outF_sgR]
 simp only[ic42,evA,simprocAttr]
 refine (le64 _ 1 12).call frz ?_
 cases h1:inB (ps.length:Int) 1 12 with
 | false =>
  simp only[h1,US,evA,simprocAttr]
  exact frz
 | true =>
 simp only[h1,Y3,evA,simprocAttr]
 refine (le64 _ 1 6).call frz ?_
 cases h2:inB (l.length:Int) 1 6 with
 | false =>
  simp only[h2,evA,simprocAttr]
  exact frz
 | true =>
 have hl6:=(VB.1 h2).2
 have hm8:l.length≤8:=by omega
 have hpw:=HF hm8
 have hw2:IntKind.i64.wrap ((2:Int) ^ l.length-1)=(2:Int) ^ l.length-1:=ZC (by omega)
 simp only[h2,evA,simprocAttr]
 refine ZW l.length (fun k s=>(∀ j,j<k→inB (gI l j) 0 3=true)∧∃ v6 v7,s=⟨[.cv (patR ps),ints l,.i 0,.i k,.undef,.b false,v6,v7,.undef,.undef],[]⟩) ?_ 0 (QF _) ⟨by omega,_,_,rfl⟩
 rintro k s hk ⟨hall,v6,v7,rfl⟩
 by_cases h:k<l.length
 ·simp only[ic42l1,QJ,h,J5 h,J4 h,evA,simprocAttr]
  refine (le64 _ 0 3).call frz ?_
  cases hin:inB (gI l k) 0 3 with
  | true =>
   have hin2:inB (l[k]?.getD 0) 0 3=true:=hin
   simp only[hin2,Q6 (show k+1<2 ^ 63 by omega),evA,simprocAttr]
   refine ZL (by first | trivial | omega) ⟨fun j hj=>?_,_,_,rfl⟩
   rcases QQ.1 hj with hj | rfl
   ·exact hall j hj
   ·exact hin
  | false =>
   have hin2:inB (l[k]?.getD 0) 0 3=false:=hin
   rw[outF_exR h hin]
   simp only[hin2,evA,simprocAttr]
   exact frz
 have hke:k=l.length:=by omega
 subst hke
 rw[outF_alR hall]
 simp only[ic42l1,QJ,h,evA,simprocAttr]
 clear h hk hall
 refine ZW ps.length (fun k s=>(∀ j,j<k→patE l.length ps[j]! = 0)∧∃ v8 v9,s=⟨[.cv (patR ps),ints l,.i 0,.i l.length,.i k,.b false,.b false,v7,v8,v9],[]⟩) ?_ 0 (QF _) ⟨by omega,_,_,rfl⟩
 rintro k s hk ⟨hall,v8,v9,rfl⟩
 by_cases h:k<ps.length
 ·have ld0:=pat_0 h
  have ld1:=pat_1 h
  have hE:patE l.length ps[k]! = if inB (ps[k]!).1 0 ((2:Int) ^ l.length-1)=false∨inB (ps[k]!).2 0 100000=false then 7 else 0:=by
   unfold patE
   rw[outF_sgR,outF_sgR]
   cases inB (ps[k]!).1 0 ((2:Int) ^ l.length-1) <;> cases inB (ps[k]!).2 0 100000 <;> simp
  have hfs:=fun h3=>VO (g:=fun i=>patE l.length ps[i]!) ps.length 0 k (QF _) (by omega) (fun j _ hj=>hall j hj) h3
  have hnext:patE l.length ps[k]! = 0→∀ j,j<k+1→patE l.length ps[j]! = 0:=fun h3 j hj=>by
   rcases QQ.1 hj with hj | rfl
   ·exact hall j hj
   ·exact h3
  generalize ps[k]! = q at *
  obtain ⟨sh,me⟩:=q
  simp only at ld0 ld1 hE
  simp only[ic42l0,QJ,h,evA,simprocAttr]
  cases h4:inB sh 0 ((2:Int) ^ l.length-1) with
  | false =>
   rw[if_pos (.inl h4)] at hE
   rw[hfs (by rw[hE];decide),hE]
   refine DW_s [7,9,17] [] hmix (by kernel_rfl) rfl ?_
   simp only[O9 h,ld0,evA,simprocAttr]
   refine YE ((c49 l.length hm8).call frz ⟨rfl,rfl⟩) rfl ?_
   simp only[hw2,evA,simprocAttr]
   refine YE ((le64 sh 0 _).call frz ⟨rfl,rfl⟩) rfl ?_
   simp only[h4,evA,simprocAttr]
   exact frz
  | true =>
  cases h5:inB me 0 100000 with
  | false =>
   rw[if_pos (.inr h5)] at hE
   rw[hfs (by rw[hE];decide),hE]
   refine DW_s [7,9,17] [] hmix (by kernel_rfl) rfl ?_
   simp only[O9 h,ld0,evA,simprocAttr]
   refine YE ((c49 l.length hm8).call frz ⟨rfl,rfl⟩) rfl ?_
   simp only[hw2,evA,simprocAttr]
   refine YE ((le64 sh 0 _).call frz ⟨rfl,rfl⟩) rfl ?_
   simp only[h4,O9 h,ld1,evA,simprocAttr]
   refine YE ((le64 me 0 _).call frz ⟨rfl,rfl⟩) rfl ?_
   simp only[h5,evA,simprocAttr]
   exact frz
  | true =>
   rw[if_neg (by rw[h4,h5];simp)] at hE
   refine DW_s [7,9,17] [] hmix (by kernel_rfl) rfl ?_
   simp only[O9 h,ld0,evA,simprocAttr]
   refine YE ((c49 l.length hm8).call frz ⟨rfl,rfl⟩) rfl ?_
   simp only[hw2,evA,simprocAttr]
   refine YE ((le64 sh 0 _).call frz ⟨rfl,rfl⟩) rfl ?_
   simp only[h4,O9 h,ld1,evA,simprocAttr]
   refine YE ((le64 me 0 _).call frz ⟨rfl,rfl⟩) rfl ?_
   simp only[h5,Q6 (show k+1<2 ^ 63 by omega),evA,simprocAttr]
   exact ZL (by first | trivial | omega) ⟨hnext hE,_,_,rfl⟩
 ·have hke:k=ps.length:=by omega
  subst hke
  rw[J7 ps.length 0 fun j _ hj=>hall j (by omega)]
  simp only[ic42l0,QJ,h,evA,simprocAttr]
  exact frz
structure PtOk (ps:List Pat):Prop where
 p12:ps.length≤12
 sh:∀ k,k<ps.length→0≤(ps[k]!).1∧(ps[k]!).1<9223372036854775808
theorem PsOk.pt {ps:List Pat} {l:List Int} (h:PsOk ps l):PtOk ps:=⟨h.p12,fun k hk=>by
 have h1:=(h.pat k hk).1
 have:=(Qa6 h.l6).2
 omega⟩
end Go.Proofs.YtgkidpolomhghaaGreatDoor.AM
namespace Go.Proofs.YtgkidpolomhghaaGreatDoor.AM
open Go Pl
theorem num4 {l:List Int} (h:N3 l) (h6:l.length≤6) {i:Nat} (hi:i≤l.length):numP l i<4096:=by
 have h1:=numP_lt h i hi
 have h2:4 ^ i≤4 ^ 6:=Nat.pow_le_pow_right (by decide) (by omega)
 have h3:(4:Nat) ^ 6=4096:=by decide
 omega
theorem le61 (l:List Int) (h:N3 l) (h6:l.length≤6):PC Tryz.prog 61 [ints l] (.i (numF l:Nat)):=by
 refine ⟨ZF (fok61 true) (QC rfl) ?_,rfl⟩
 simp only[ic61,evA,simprocAttr]
 refine ZW l.length (fun i s=>∃ v4,s=⟨[ints l,.i 0,.i (numP l i:Nat),.i i,v4],[]⟩) ?_ 0 (QF _) ⟨_,rfl⟩
 rintro i s hi ⟨v4,rfl⟩
 by_cases hl:i<l.length
 ·have hb:=h i hl
  have h1:=num4 h h6 (i:=i) (by omega)
  have h2:numP l (i+1)=numP l i*4+(gI l i).toNat:=rfl
  have hw1:IntKind.i64.wrap ((numP l i:Int)*4)=(numP l i:Int)*4:=ZC (by omega)
  have hw2:IntKind.i64.wrap ((numP l i:Int)*4+l[i]?.getD 0)=((numP l (i+1):Nat):Int):=by
   have hg:l[i]?.getD 0=gI l i:=rfl
   rw[hg,h2,ZC (by omega)];push_cast;omega
  simp only[ic61l0,QJ,hl,J5 hl,J4 hl,WA,hw1,hw2,Q6 (show i+1<2 ^ 63 by omega),evA,simprocAttr]
  exact ZL (by first | trivial | omega) ⟨_,rfl⟩
 ·have:i=l.length:=by omega
  subst this
  simp only[ic61l0,QJ,hl,evA,simprocAttr]
  exact frz
theorem le62 (l:List Int) (h:N3 l) (h6:l.length≤6) (s m:Int) (hs:0≤s∧s<9223372036854775808):PC Tryz.prog 62 [.agg [.i s,.i m],ints l] (ints (afL s l)):=by
 refine ⟨ZF (fok62 true) (QC rfl) ?_,rfl⟩
 simp only[ic62,WI,cellsOf,evA,simprocAttr]
 refine ZW l.length (fun i st=>∃ v v6 v7 v8 σ,(G9 1 σ v ((afL s l).take i)∧rowOf σ 0=some [.i s,.i m])∧st=⟨[.agg [.i s,.i m],ints l,.ptr 0 0,.cv .nils,v,.i i,v6,v7,v8],σ⟩) ?_ 0 (QF _) ⟨_,_,_,_,_,⟨.nil (by simp),rfl⟩,rfl⟩
 rintro i st hi ⟨v,v6,v7,v8,σ,⟨hA,hr⟩,rfl⟩
 have hal:=JQ s l
 by_cases hl:i<l.length
 ·have hb:=h i hl
  have hg:l[i]?.getD 0=gI l i:=rfl
  have hx:=G8 (s:=s) hl
  have htk:(afL s l).take (i+1)=(afL s l).take i++[gI (afL s l) i]:=by
   rw[JC]
   congr 1
   have:i<(afL s l).length:=by omega
   simp[gI,this]
  have h52:=c52 s hs i (by omega)
  obtain ⟨v',σ',hap,hacc,hrow⟩:=accFrom_append (gI (afL s l) i) hA (by simp;omega)
  rw[← htk] at hacc
  have hr':rowOf σ' 0=some [.i s,.i m]:=by rw[hrow 0 (by decide)];exact hr
  by_cases h0:gI l i>0
  ·have hd:decide (gI l i>0)=true:=decide_eq_true h0
   simp only[ic62l0,QJ,hl,J5 hl,J4 hl,WA,hg,hd,hr,evA,simprocAttr]
   refine h52.call frz ?_
   cases hbt:bit s i with
   | true =>
    rw[hbt,if_pos rfl] at hx
    have hw:IntKind.i64.wrap (gI l i-1)=gI (afL s l) i:=by rw[ZC (by omega),hx];omega
    simp only[hw,hap,Q6 (show i+1<2 ^ 63 by omega),evA,simprocAttr]
    exact ZL (by first | trivial | omega) ⟨_,_,_,_,_,⟨hacc,hr'⟩,rfl⟩
   | false =>
    rw[hbt,if_neg (by decide)] at hx
    rw[hx] at hap
    simp only[hap,Q6 (show i+1<2 ^ 63 by omega),evA,simprocAttr]
    exact ZL (by first | trivial | omega) ⟨_,_,_,_,_,⟨hacc,hr'⟩,rfl⟩
  ·have hd:decide (gI l i>0)=false:=decide_eq_false h0
   have hx2:gI (afL s l) i=gI l i:=by
    rw[hx];split <;> omega
   rw[hx2] at hap
   simp only[ic62l0,QJ,hl,J5 hl,J4 hl,WA,hg,hd,hap,Q6 (show i+1<2 ^ 63 by omega),evA,simprocAttr]
   exact ZL (by first | trivial | omega) ⟨_,_,_,_,_,⟨hacc,hr'⟩,rfl⟩
 ·have:i=l.length:=by omega
  subst this
  rw[Q5 (by omega)] at hA
  simp only[ic62l0,QJ,hl,evA,simprocAttr]
  exact acc_frz (fun _=>trivial) hA.acc
theorem le116 (a b:Int × Int):PC Tryz.prog 116 [.agg [.i a.1,.i a.2],.agg [.i b.1,.i b.2]] (.b (ovr a b)):=by
 obtain ⟨a1,a2⟩:=a
 obtain ⟨b1,b2⟩:=b
 refine ⟨ZF (fok116 true) (QC rfl) ?_,rfl⟩
 unfold ovr
 simp only[ic116,WI,cellsOf,evA,simprocAttr]
 by_cases h1:a1<0
 ·have d1:decide (a1<0)=true:=decide_eq_true h1
  rw[if_pos (.inl h1),d1,XI]
  cases h2:decide (b1≥0) with
  | true =>
   simp only[d1,h2,evA,simprocAttr]
   exact frz
  | false =>
   simp only[d1,h2,evA,simprocAttr]
   exact frz
 have d1:decide (a1<0)=false:=decide_eq_false h1
 by_cases h2:b1<0
 ·have d2:decide (b1<0)=true:=decide_eq_true h2
  rw[if_pos (.inr h2),d1,Bool.false_and]
  simp only[d1,d2,evA,simprocAttr]
  exact frz
 have d2:decide (b1<0)=false:=decide_eq_false h2
 rw[if_neg (fun h=>h.elim h1 h2)]
 simp only[TF]
 cases h3:decide (a1>b1) with
 | true =>
  simp only[d1,d2,h3,US,evA,simprocAttr]
  exact frz
 | false =>
  cases h4:(a1 == b1) with
  | true =>
   simp only[d1,d2,h3,h4,Y3,XI,evA,simprocAttr]
   exact frz
  | false =>
   simp only[d1,d2,h3,h4,Y3,Bool.false_and,evA,simprocAttr]
   exact frz
structure TbS (σ:List AObj) (b T size:Nat):Prop where
 out:rowOf σ b=some ((List.range T).map fun j=>AV.sl (b+1+j) 0 size 2)
 lt:b+T<σ.length
section
variable {σ:List AObj} {b T size:Nat}
theorem TbS.app (h:TbS σ b T size) (J:List AObj):TbS (σ++J) b T size:=⟨ZH h.out J,by have:=h.lt;rw[QM];omega⟩
theorem tb_app (h:TbS σ b T size) {K:List (List Int)} (hk:K.length=T) (J:List AObj):putTab (σ++J) b K=putTab σ b K++J:=by
 have hlt:=h.lt
 apply Z1
 intro l
 rw[putTab_get]
 rcases ZB l σ.length with h1 | h1
 ·rw[QE h1,QE (by rw[putTab_length];exact h1),putTab_get]
 ·rw[QS h1,QS (by rw[putTab_length];exact h1),putTab_length]
  cases hx:J[l-σ.length]? with
  | none=>rfl
  | some o =>
   simp only[Option.map_some,Option.some.injEq]
   rw[if_neg (by omega)]
theorem tb_out (h:TbS σ b T size) (K:List (List Int)) (J:List AObj):rowOf (putTab σ b K++J) b=some ((List.range T).map fun j=>AV.sl (b+1+j) 0 size 2):=by
 refine ZH ?_ J
 rw[putTab_lo (by omega)]
 exact h.out
theorem tb_row (h:TbS σ b T size) {K:List (List Int)} (hk:K.length=T) {k:Nat} (hkT:k<T) (J:List AObj):rowOf (putTab σ b K++J) (b+1+k)=some ((K[k]?.getD []).map AV.i):=by
 refine ZH ?_ J
 have hlt:=h.lt
 unfold rowOf
 rw[putTab_get,QI (l:=σ) (i:=b+1+k) (by omega)]
 simp only[Option.map_some]
 rw[if_pos (by omega),show b+1+k-(b+1)=k by omega]
theorem tb_set (h:TbS σ b T size) {K:List (List Int)} (hk:K.length=T) {k:Nat} (hkT:k<T) (row:List Int) (J:List AObj):(putTab σ b K++J).set (b+1+k) (AObj.cells (row.map AV.i))=putTab σ b (K.set k row)++J:=by
 have hlt:=h.lt
 rw[YG _ _ (by rw[putTab_length];omega)]
 congr 1
 apply Z1
 intro l
 by_cases e:b+1+k=l
 ·subst e
  have hl:(K.set k row).length=K.length:=WE
  rw[Z2 (by rw[putTab_length];omega),putTab_get,QI (l:=σ) (i:=b+1+k) (by omega)]
  simp only[Option.map_some,hl]
  rw[if_pos (by omega),show b+1+k-(b+1)=k by omega,Z2 (by omega)]
  rfl
 ·rw[QU e,putTab_get,putTab_get]
  cases σ[l]? with
  | none=>rfl
  | some o =>
   simp only[Option.map_some,Option.some.injEq,WE]
   by_cases hr:b+1≤l∧l<b+1+K.length
   ·rw[if_pos hr,if_pos hr,QU (by omega)]
   ·rw[if_neg hr,if_neg hr]
theorem tb_z (K:List (List Int)) (J:List AObj):rowOf (putTab σ b K++J) σ.length=rowOf J 0:=by
 have:=WW (putTab σ b K) J
 rwa [putTab_length] at this
theorem tb_s (K:List (List Int)) (J:List AObj) (k:Nat):rowOf (putTab σ b K++J) (σ.length+k)=rowOf J k:=by
 have:=X9 (putTab σ b K) J k
 rwa [putTab_length] at this
theorem tb_sz (K:List (List Int)) (J:List AObj) (v:AObj):(putTab σ b K++J).set σ.length v=putTab σ b K++J.set 0 v:=by
 have:=VW (putTab σ b K) J v
 rwa [putTab_length] at this
theorem tb_ss (K:List (List Int)) (J:List AObj) (v:AObj) (k:Nat):(putTab σ b K++J).set (σ.length+k) v=putTab σ b K++J.set k v:=by
 have:=EZ (putTab σ b K) J k v
 rwa [putTab_length] at this
theorem tb_obj {K K':List (List Int)} {m l:Nat} {o:AObj} (hk:K.length=K'.length) (h:(putTab σ b K')[l]? = some o):(putTab σ b K)[l]? = some o∨Z3 m o=true:=by
 rw[putTab_get] at h ⊢
 cases hl:σ[l]? with
 | none=>rw[hl] at h;cases h
 | some x =>
  rw[hl] at h
  simp only[Option.map_some,Option.some.injEq] at h ⊢
  by_cases hr:b+1≤l∧l<b+1+K'.length
  ·rw[if_pos hr] at h
   exact .inr (by rw[← h];exact objIn_ints _ _)
  ·rw[if_neg hr] at h
   rw[hk,if_neg hr]
   exact .inl h
end
theorem sl2_addr {l n k:Nat} (h:k<n) (σ:List AObj):VP 2 [.sl l 0 n 2,.cv (.int .i64 k)] σ=some (.ptr l (k*2),σ):=by
 simp[VP,h]
theorem row_two {row:List Int} {n:Nat} (h:n*2+2≤row.length):((row.map AV.i).drop (n*2)).take 2=[.i (gI row (n*2)),.i (gI row (n*2+1))]:=by
 have h1:n*2<(row.map AV.i).length:=by simp;omega
 have h2:n*2+1<(row.map AV.i).length:=by simp;omega
 rw[List.drop_eq_getElem_cons h1,List.take_succ_cons,List.drop_eq_getElem_cons h2,List.take_succ_cons,List.take_zero]
 have h3:n*2<row.length:=by omega
 have h4:n*2+1<row.length:=by omega
 simp[gI,h3,h4]
theorem le60 (ps:List Pat) (hm:MtOk ps) (h12:ps.length≤12) (hsh:∀ k,k<ps.length→0≤(ps[k]!).1∧(ps[k]!).1<9223372036854775808) {b:Nat}:∀ (f k:Nat) (l:List Int) (K:List (List Int)) (σ:List AObj),TbS σ b ps.length (4 ^ l.length)→k≤ps.length→l.length≤6→N3 l→sumN l<1000→ps.length-k+sumN l<f→TabOk ps l.length K →
  AC Tryz.prog 60 [.cv (patR ps),.sl b 0 ps.length 1,.i k,ints l] (putTab σ b K) fun r τ=>r=c2V (leM ps f k l K).1∧τ=putTab σ b (leM ps f k l K).2
 | 0,_,_,_,_,_,_,_,_,_,h,_=>absurd h (W5 _)
 | f+1,k,l,K,σ,hS,hk,h6,hn,hs,hf,hK=>by
  have hlen:=fun K=>putTab_length σ b K
  have hz:=fun K J=>tb_z (σ:=σ) (b:=b) K J
  have hs':=fun K J k=>tb_s (σ:=σ) (b:=b) K J k
  have hsz:=fun K J v=>tb_sz (σ:=σ) (b:=b) K J v
  have hss:=fun K J v k=>tb_ss (σ:=σ) (b:=b) K J v k
  have hout:=fun K J=>tb_out hS K J
  have hkl:=hK.kl
  have hend:=(leM_ok hm (f+1) k l K hk hn hf hK).2.kl
  have hc0:((0,0):Int × Int).1=0:=rfl
  refine AC.cut (σ2:=putTab σ b _) ?_ (by rw[putTab_length,putTab_length]) rfl fun q o h=>tb_obj (K:=K) (by omega) h
  clear hend
  unfold leM
  refine ZF (fok60 true) (QC rfl) ?_
  simp only[ic60,WI,cellsOf,hlen,QW,QM,List.cons_append,List.nil_append,hz,hs',evA,simprocAttr]
  refine (le61 l hn h6).call frz ?_
  have hnum:numF l<4 ^ l.length:=numP_lt hn _ (QG _)
  obtain ⟨n,hnE⟩:∃ n,n=numF l:=⟨_,rfl⟩
  rw[← hnE] at hnum ⊢
  by_cases h0:n=0
  ·have hb:((n:Int) == 0)=true:=by rw[h0];rfl
   rw[if_pos h0]
   simp only[hb,hlen,QW,QM,List.cons_append,List.nil_append,hz,hs',hsz,hss,evA,simprocAttr]
   exact ⟨_,rfl⟩
  have hb:((n:Int) == 0)=false:=by rw[beq_eq_false_iff_ne];omega
  rw[if_neg h0]
  by_cases hkn:k=ps.length
  ·have hbe:((k:Int) == ps.length)=true:=by rw[hkn];exact beq_self_eq_true _
   rw[if_pos hkn]
   simp only[hb,hbe,hlen,QW,QM,List.cons_append,List.nil_append,hz,hs',hsz,hss,evA,simprocAttr]
   exact ⟨_,rfl⟩
  have hbe:((k:Int) == ps.length)=false:=by rw[beq_eq_false_iff_ne];omega
  have hk2:k<ps.length:=by omega
  rw[if_neg hkn]
  have hgo:((List.range ps.length).map fun j=>AV.sl (b+1+j) 0 (4 ^ l.length) 2)[k]? = some (.sl (b+1+k) 0 (4 ^ l.length) 2):=by simp[hk2]
  have hia:=fun σ=>sl2_addr (l:=b+1+k) hnum σ
  have hrl:=hK.rl k hk2
  have hrow:=fun J=>tb_row hS hkl hk2 J
  have hn2:n*2<(K[k]?.getD []).length:=by omega
  have hn3:n*2+2≤(K[k]?.getD []).length:=by omega
  have htwo:=row_two hn3
  have he1:(K[k]?.getD [])[n*2]?.getD 0=(ent K k n).1:=rfl
  have heg:[AV.i (gI (K[k]?.getD []) (n*2)),.i (gI (K[k]?.getD []) (n*2+1))]=[.i (ent K k n).1,.i (ent K k n).2]:=rfl
  rw[heg] at htwo
  by_cases he:(ent K k n).1≠-1
  ·have hbn:((ent K k n).1 != -1)=true:=bne_iff_ne.2 he
   rw[if_pos he]
   generalize ent K k n=E at *
   simp only[hb,hbe,W9 hk2,hout,hgo,hia,hrow,V1 hn2,he1,hbn,hn3,htwo,hlen,QW,QM,List.cons_append,List.nil_append,hz,hs',hsz,hss,evA,simprocAttr]
   exact ⟨_,rfl⟩
  have hbn:((ent K k n).1 != -1)=false:=by simpa using he
  rw[if_neg he]
  have app:∀ {K':List (List Int)},K'.length=ps.length→∀ J,putTab (σ++J) b K'=putTab σ b K'++J:=fun h J=>tb_app hS h J
  have ih1:=fun J=>le60 ps hm h12 hsh f (k+1) l K (σ++J) (hS.app J) (by omega) h6 hn hs (by omega) hK
  obtain ⟨g1,g2⟩:=leM_ok hm f (k+1) l K (by omega) hn (by omega) hK
  generalize leM ps f (k+1) l K=r1 at *
  obtain ⟨⟨a1,b1⟩,K1₀⟩:=r1
  simp only at g1 g2
  simp only[app hkl,app g2.kl] at ih1
  have hpt:=hsh k hk2
  have hmt:=hm k hk2
  have hld:=B4 hk2
  have hpm:=pat_1 hk2
  generalize ps[k]! = p at *
  obtain ⟨s,m⟩:=p
  simp only at hpt hmt hld hpm
  have h62:=le62 l hn h6 s m hpt
  have hal:=JQ s l
  have h61:=le61 (afL s l) (hn.af s) (by omega)
  have hwk:=Q6 (show k+1<2 ^ 63 by omega)
  have hrl1:=g2.rl k hk2
  have hst1:n*2+2≤(K1₀[k]?.getD []).length:=by omega
  have hrow1:=fun J=>tb_row hS g2.kl hk2 J
  have hset1:=fun row J=>tb_set hS g2.kl hk2 row J
  simp only[hb,hbe,W9 hk2,hout,hgo,hia,hrow,V1 hn2,he1,hbn,hwk,hlen,QW,QM,List.cons_append,List.nil_append,hz,hs',hsz,hss,evA,simprocAttr]
  refine (ih1 _).run ?_
  simp only[hlen,QW,QM,List.cons_append,List.nil_append,hz,hs',hsz,hss,O9 hk2,hld,evA,simprocAttr]
  refine h62.call frz ?_
  simp only[evA,simprocAttr]
  refine h61.call frz ?_
  by_cases ha:numF (afL s l)=n
  ·have hbq:(((numF (afL s l):Nat):Int) != (n:Int))=false:=by rw[ha];simp
   rw[if_pos ha]
   simp only[hbq,W9 hk2,hout,hgo,hia,hlen,QW,QM,List.cons_append,List.nil_append,hz,hs',hsz,hss,evA,simprocAttr]
   refine DW_s [] [] hmix (by kernel_rfl) rfl ?_
   simp only[W9 hk2,hout,hgo,hia,hrow1,hset1,hst1,hlen,QW,QM,List.cons_append,List.nil_append,hz,hs',hsz,hss,evA,simprocAttr]
   exact ⟨_,rfl⟩
  have hbq:(((numF (afL s l):Nat):Int) != (n:Int))=true:=bne_iff_ne.2 (by omega)
  rw[if_neg ha]
  have hne:afL s l≠l:=fun e=>ha (by rw[hnE,e])
  have hlt:=R3 hn.nn hne
  rw[← hal] at g2
  have hS2:=hS
  rw[← hal] at hS2
  have ih2:=fun J=>le60 ps hm h12 hsh f k (afL s l) K1₀ (σ++J) (hS2.app J) hk (by omega) (hn.af s) (by omega) (by omega) g2
  obtain ⟨g3,g4⟩:=leM_ok hm f k (afL s l) K1₀ hk (hn.af s) (by omega) g2
  dsimp only
  generalize leM ps f k (afL s l) K1₀=r2 at *
  obtain ⟨⟨a2,b2⟩,K2⟩:=r2
  simp only at g3 g4
  simp only[app g2.kl,app g4.kl] at ih2
  rw[hal] at g4
  have hrl2:=g4.rl k hk2
  have hst2:n*2+2≤(K2[k]?.getD []).length:=by omega
  have hrow2:=fun J=>tb_row hS g4.kl hk2 J
  have hset2:=fun row J=>tb_set hS g4.kl hk2 row J
  have hbd:-2≤a2∧a2≤1073741824∧0≤b2∧b2≤100000000:=by
   cases hc:fewV ps k (afL s l) with
   | none=>rw[hc] at g3;cases g3;decide
   | some c =>
    obtain ⟨c1,c2'⟩:=c
    rw[hc] at g3
    cases g3
    have:=DI hm _ _ _ _ _ (hn.af s).nn hc
    omega
  have hw1:IntKind.i64.wrap (a2+1)=a2+1:=ZC (by omega)
  have hw2:IntKind.i64.wrap (b2+m)=b2+m:=ZC (by omega)
  simp only[hbq,hlen,QW,QM,List.cons_append,List.nil_append,hz,hs',hsz,hss,evA,simprocAttr]
  refine (ih2 _).run ?_
  unfold leX
  by_cases h2:a2≥0
  rotate_left
  ·have hd2:decide (a2≥0)=false:=decide_eq_false h2
   rw[if_neg (fun h=>h2 h.1)]
   simp only[hd2,hlen,QW,QM,List.cons_append,List.nil_append,hz,hs',hsz,hss,evA,simprocAttr]
   refine DW_s [] [] hmix (by kernel_rfl) rfl ?_
   simp only[W9 hk2,hout,hgo,hia,hrow2,hset2,hst2,hlen,QW,QM,List.cons_append,List.nil_append,hz,hs',hsz,hss,evA,simprocAttr]
   exact ⟨_,rfl⟩
  have hd2:decide (a2≥0)=true:=decide_eq_true h2
  simp only[hd2,hlen,QW,QM,List.cons_append,List.nil_append,hz,hs',hsz,hss,evA,simprocAttr]
  refine DW_s [] [] hmix (by kernel_rfl) rfl ?_
  simp only[O9 hk2,hpm,hw1,hw2,hlen,QW,QM,List.cons_append,List.nil_append,hz,hs',hsz,hss,evA,simprocAttr]
  refine (le116 (a1,b1) (a2+1,b2+m)).call frz ?_
  cases ho:ovr (a1,b1) (a2+1,b2+m) with
  | true =>
   rw[if_pos ⟨h2,rfl⟩]
   simp only[hlen,QW,QM,List.cons_append,List.nil_append,hz,hs',hsz,hss,evA,simprocAttr]
   refine DW_s [] [] hmix (by kernel_rfl) rfl ?_
   simp only[W9 hk2,hout,hgo,hia,hrow2,hset2,hst2,hlen,QW,QM,List.cons_append,List.nil_append,hz,hs',hsz,hss,evA,simprocAttr]
   exact ⟨_,rfl⟩
  | false =>
   rw[if_neg (fun h=>by cases h.2)]
   simp only[hlen,QW,QM,List.cons_append,List.nil_append,hz,hs',hsz,hss,evA,simprocAttr]
   refine DW_s [] [] hmix (by kernel_rfl) rfl ?_
   simp only[W9 hk2,hout,hgo,hia,hrow2,hset2,hst2,hlen,QW,QM,List.cons_append,List.nil_append,hz,hs',hsz,hss,evA,simprocAttr]
   exact ⟨_,rfl⟩
def pw4 (i:Nat):Nat:=4 ^ i
theorem pw4_le {i:Nat} (h:i≤6):1≤pw4 i∧pw4 i≤4096:=by
 match i,h with
 | 0,_ | 1,_ | 2,_ | 3,_ | 4,_ | 5,_ | 6,_=>decide
theorem pw4_succ {i:Nat} (h:i<6):IntKind.i64.wrap ((pw4 i:Int)*4)=(pw4 (i+1):Int):=by
 have h1:=pw4_le (i:=i) (by omega)
 have h2:pw4 (i+1)=pw4 i*4:=Nat.pow_succ ..
 rw[ZC (by omega),h2];push_cast;rfl
theorem mk2 {n:Nat} (h:n≤4096) (σ:List AObj):XB 2 16 [.cv (.int .i64 0),.cv (.int .i64 0)] [.cv (.int .i64 n),.cv (.int .i64 n)] σ=some (.sl σ.length 0 n 2,σ++[AObj.cells ((List.replicate (n*2) (0:Int)).map AV.i)]):=by
 have h2:(2:Int) ^ 46=70368744177664:=by decide
 have hc:(0≤(n:Int)∧True∧(n:Int)*(16:Nat)≤2 ^ 46∧(n:Int)≤2 ^ 46∧[AV.cv (.int .i64 0),AV.cv (.int .i64 0)].length=2):=by
  rw[h2];exact ⟨by omega,trivial,by omega,by omega,rfl⟩
 simp only[XB]
 rw[if_pos hc]
 have hz:YW n [AV.cv (.int .i64 0),AV.cv (.int .i64 0)]=(List.replicate (n*2) (0:Int)).map AV.i:=by
  simp only[YW]
  apply Y1 (by simp)
  intro j h1 h2
  have hj:j % 2<2:=Nat.mod_lt _ (by decide)
  simp only[List.getElem_map,List.getElem_range,List.getElem_replicate]
  match hm:j % 2,hj with
  | 0,_=>simp[hm]
  | 1,_=>simp[hm]
 simp[hz]
def out2 (size T t:Nat):List AV:=(List.range T).map fun j=>if j<t then .sl (j+2) 0 size 2 else .cv .nils
theorem out2_set {size T t:Nat} (h:t<T):(out2 size T t).set t (.sl (t+2) 0 size 2)=out2 size T (t+1):=by
 apply Y1 (by simp[out2])
 intro j h1 h2
 simp only[out2,ZK,List.length_range] at h2
 by_cases hj:j=t
 ·subst hj;simp[out2]
 ·rw[List.getElem_set_ne (by omega)]
  have:(j<t)↔(j<t+1):=by omega
  simp[out2,this]
theorem out2_get {size T t j:Nat} (h:j<T) (hj:j<t):(out2 size T t)[j]? = some (.sl (j+2) 0 size 2):=by simp[out2,h,hj]
theorem out2_len {size T t:Nat}:(out2 size T t).length=T:=by simp[out2]
def f2 (size k:Nat):List Int:=(List.range (size*2)).map fun j=>if j<k*2∧j % 2=0 then -1 else 0
theorem f2_len {size k:Nat}:(f2 size k).length=size*2:=by simp[f2]
theorem f2_set {size k:Nat} (h:k<size):((f2 size k).set (k*2) (-1)).set (k*2+1) 0=f2 size (k+1):=by
 apply Y1 (by simp[f2])
 intro j h1 h2
 rw[f2_len] at h2
 simp only[f2,List.getElem_set,List.getElem_map,List.getElem_range]
 by_cases e1:k*2+1=j
 ·subst e1
  rw[if_pos rfl,if_neg (by omega)]
 ·rw[if_neg e1]
  by_cases e2:k*2=j
  ·subst e2
   rw[if_pos rfl,if_pos (by omega)]
  ·rw[if_neg e2]
   by_cases e3:j<k*2∧j % 2=0
   ·rw[if_pos e3,if_pos (by omega)]
   ·rw[if_neg e3,if_neg (by omega)]
theorem f2_zero {size:Nat}:List.replicate (size*2) (0:Int)=f2 size 0:=by
 apply Y1 (by simp[f2])
 intro j h1 h2
 simp[f2]
def E0₀ (T size:Nat):List (List Int):=List.replicate T (f2 size size)
theorem E0_ok {ps:List Pat} {L:Nat}:TabOk ps L (E0₀ ps.length (4 ^ L)):=by
 have hg:∀ j,j<ps.length→(E0₀ ps.length (4 ^ L))[j]?.getD []=f2 (4 ^ L) (4 ^ L):=fun j hj=>by simp[E0₀,hj]
 refine ⟨by simp[E0₀],fun j hj=>by rw[hg j hj,f2_len],fun j hj l hl hn h=>?_⟩
 exfalso
 apply h
 unfold ent
 rw[hg j hj]
 have hlt:=numP_lt hn l.length (QG _)
 have hlt:numF l<4 ^ L:=by rw[← hl];exact hlt
 show gI (f2 (4 ^ L) (4 ^ L)) (numF l*2) = -1
 generalize numF l=n at *
 generalize 4 ^ L=size at *
 unfold gI
 have h1:n*2<size*2:=by omega
 simp[f2,h1]
theorem E0_tab {c:AObj} {T size:Nat}:TbS (c::AObj.cells (out2 size T T)::List.replicate T (AObj.cells ((f2 size size).map AV.i))) 1 T size ∧
  putTab (c::AObj.cells (out2 size T T)::List.replicate T (AObj.cells ((f2 size size).map AV.i))) 1 (E0₀ T size)=c::AObj.cells (out2 size T T)::List.replicate T (AObj.cells ((f2 size size).map AV.i)):=by
 refine ⟨⟨?_,by simp;omega⟩,?_⟩
 ·show some (out2 size T T)=_
  congr 1
  apply JI
  intro j hj
  have:j<T:=by simpa using hj
  rw[if_pos this]
  congr 1
  omega
 ·apply Z1
  intro l
  rw[putTab_get]
  match l with
  | 0=>simp
  | 1=>simp
  | j+2 =>
   simp only[List.getElem?_cons_succ,E0₀,List.length_replicate,YN]
   by_cases hj:j<T
   ·rw[if_pos hj]
    simp only[Option.map_some]
    rw[if_pos (by omega),if_pos (by omega)];rfl
   ·rw[if_neg hj];rfl
structure FdL (ps:List Pat) (H:List AObj) (L:Nat) (K:List (List Int)) (v:AV) (C:List Int) (mt:Int) (c:Int × Int):Prop where
 r0:rowOf H 0=some [.cv .nils,.i 0]
 tb:TbS H 1 ps.length (4 ^ L)
 self:putTab H 1 K=H
 ok:TabOk ps L K
 rc:rowOf H (ps.length+2)=some [.i c.1,.i c.2]
 ro:rowOf H (ps.length+3)=some [v,.i mt]
 acc:VH (ps.length+4) 1 H v C.length (C.map (.int .i64))
 len:ps.length+4≤H.length
theorem n3_sum6 {l:List Int} (h6:l.length≤6) (h:N3 l):sumN l<100:=by
 have h1:=n3_sum (pad6_len h6) (pad6_n3 h)
 unfold pad6 at h1
 rwa [QbW] at h1
theorem takes_doc {ps:List Pat} (hm:MtOk ps) {k:Nat} {L:List Int} {c:Int × Int} (hn:N3 L) (hf:fewV ps k L=some c):EC ps k L=(!decide (numF (afL (ps[k]!).1 L)=numF L)&&(decide ((c3 (fewV ps k (afL (ps[k]!).1 L))).1≥0)&&((c3 (fewV ps k (afL (ps[k]!).1 L))).1+1 == c.1)&&((c3 (fewV ps k (afL (ps[k]!).1 L))).2+(ps[k]!).2 == c.2))):=by
 unfold EC
 have h1:decide (numF (afL (ps[k]!).1 L)=numF L)=decide (afL (ps[k]!).1 L=L):=by
  rw[decide_eq_decide]
  exact num_inj (hn.af _) hn (JQ _ _)
 rw[h1]
 congr 1
 cases h2:fewV ps k (afL (ps[k]!).1 L) with
 | none=>rfl
 | some d =>
  obtain ⟨d1,d2⟩:=d
  have h3:=DI hm _ _ _ _ _ (hn.af _).nn h2
  obtain ⟨c1,c2⟩:=c
  rw[hf]
  have h4:decide (d1≥0)=true:=decide_eq_true h3.1
  show decide (some (c1,c2)=some (d1+1,d2+(ps[k]!).2))=(decide (d1≥0)&&(d1+1 == c1)&&(d2+(ps[k]!).2 == c2))
  rw[h4,XI,Q8]
  simp only[decide_eq_true_eq,Option.some.injEq,Prod.mk.injEq,QD,beq_iff_eq]
  constructor
  ·rintro ⟨h5,h6⟩;exact ⟨h5.symm,h6.symm⟩
  ·rintro ⟨h5,h6⟩;exact ⟨h5.symm,h6.symm⟩
section
variable {ps:List Pat} {H:List AObj} {L:Nat} {K:List (List Int)} {v:AV} {C:List Int} {mt:Int} {c:Int × Int}
theorem FdL.app (h:FdL ps H L K v C mt c) (J:List AObj):FdL ps (H++J) L K v C mt c :=
 ⟨ZH h.r0 J,h.tb.app J,by rw[tb_app h.tb h.ok.kl,h.self],h.ok,ZH h.rc J,ZH h.ro J,QfE h.acc J,by have:=h.len;simp;omega⟩
theorem put_row {T:Nat} (hk:K.length=T) {x:Nat} (hx:x<2∨T+2≤x):rowOf (putTab H 1 K) x=rowOf H x:=by
 unfold rowOf
 rw[putTab_get]
 cases H[x]? with
 | none=>rfl
 | some o =>
  simp only[Option.map_some]
  rw[if_neg (by omega)]
theorem put_tb {T size:Nat} (h:TbS H 1 T size) (hk:K.length=T):TbS (putTab H 1 K) 1 T size:=⟨by rw[put_row hk (.inl (by decide))];exact h.out,by rw[putTab_length];exact h.lt⟩
theorem put_put {K':List (List Int)} (h:K.length=K'.length):putTab (putTab H 1 K) 1 K'=putTab H 1 K':=putTab_put H 1 h
theorem accSF_rows {b e n:Nat} {cs:List CV} {σ τ:List AObj} (h:VH b e σ v n cs) (hr:∀ x,b≤x→rowOf τ x=rowOf σ x):VH b e τ v n cs:=h.imp id fun ⟨l,h1,h2,h3,h4⟩=>⟨l,h1,h2,h3,by rw[hr l h1];exact h4⟩
theorem FdL.put (h:FdL ps H L K v C mt c) {K':List (List Int)} (hK:TabOk ps L K'):FdL ps (putTab H 1 K') L K' v C mt c :=
 ⟨by rw[put_row hK.kl (.inl (by decide))];exact h.r0,put_tb h.tb hK.kl,put_put rfl,hK,by rw[put_row hK.kl (.inr (by omega))];exact h.rc,by rw[put_row hK.kl (.inr (by omega))];exact h.ro,accSF_rows h.acc fun x hx=>put_row hK.kl (.inr (by omega)),by rw[putTab_length];exact h.len⟩
theorem FdL.low (h:FdL ps H L K v C mt c) {W:List AObj} (hl:ps.length+4≤W.length) (hi:∀ i,i<ps.length+4→i≠ps.length+2→i≠ps.length+3→W[i]? = H[i]?) {v':AV} {C':List Int} {c':Int × Int} (hc:rowOf W (ps.length+2)=some [.i c'.1,.i c'.2]) (ho:rowOf W (ps.length+3)=some [v',.i mt]) (ha:VH (ps.length+4) 1 W v' C'.length (C'.map (.int .i64))):FdL ps W L K v' C' mt c':=by
 have hr:∀ i,i<ps.length+2→rowOf W i=rowOf H i:=fun i h=>by unfold rowOf;rw[hi i (by omega) (by omega) (by omega)]
 have hlen:=h.len
 have htb:TbS W 1 ps.length (4 ^ L):=⟨by rw[hr 1 (by omega)];exact h.tb.out,by omega⟩
 refine ⟨by rw[hr 0 (by omega)];exact h.r0,htb,?_,h.ok,hc,ho,ha,hl⟩
 apply Z1
 intro l
 rw[putTab_get]
 cases hw:W[l]? with
 | none=>rfl
 | some o =>
  simp only[Option.map_some,Option.some.injEq]
  by_cases hx:1+1≤l∧l<1+1+K.length
  ·rw[if_pos hx]
   have hkl:=h.ok.kl
   have h1:=hi l (by omega) (by omega) (by omega)
   have h2:(putTab H 1 K)[l]? = H[l]? := by rw[h.self]
   rw[putTab_get,← h1,hw] at h2
   simp only[Option.map_some,Option.some.injEq] at h2
   rwa [if_pos hx] at h2
  ·rw[if_neg hx]
end
theorem le18 (ps:List Pat) (l:List Int) (hp:ps.length<2 ^ 63) (hl:l.length<2 ^ 63):PC Tryz.prog 18 [.cv (patR ps),ints l] (fewA ps l):=by
 refine ⟨ZF (fok18 true) (QC rfl) ?_,rfl⟩
 unfold fewA fewL
 simp only[ic18,WI,cellsOf,evA,simprocAttr]
 refine (le42 ps l hp hl).call frz ?_
 by_cases he:chkE ps l=0
 rotate_left
 ·have hb:(chkE ps l != 0)=true:=by simpa using he
  rw[if_pos he]
  simp only[hb,evA,simprocAttr]
  exact .tup (.cons (.agg (.cons (.c .nl) (.cons (.c (.c _ trivial)) .nil))) (.cons (.c (.c _ trivial)) .nil))
 have hb:(chkE ps l != 0)=false:=by simpa using he
 have hok:=Qd3 he
 have hn3:N3 l:=hok.need
 rw[if_neg (fun h=>h he)]
 have h12:=hok.p12
 have h6:=hok.l6
 have hmt:MtOk ps:=fun k hk=>(hok.pat k hk).2
 have hsh:∀ k,k<ps.length→0≤(ps[k]!).1∧(ps[k]!).1<9223372036854775808:=(PsOk.pt hok).sh
 simp only[hb,he,evA,simprocAttr]
 refine ZW l.length (fun i st=>∃ v17,st=⟨[.cv (patR ps),ints l,.ptr 0 0,.i 0,.i 0,.i (pw4 i:Nat),.i i,.undef,.undef,.undef,.undef,.undef,.undef,.undef,.undef,.undef,.b false,v17,.undef,.undef,.undef,.undef,.undef,.undef],[.cells [.cv .nils,.i 0]]⟩) ?_ 0 (QF _) ⟨_,rfl⟩
 rintro i st hi ⟨v17,rfl⟩
 by_cases hil:i<l.length
 ·have hw:=pw4_succ (i:=i) (by omega)
  simp only[ic18l3,QJ,hil,hw,Q6 (show i+1<2 ^ 63 by omega),evA,simprocAttr]
  exact ZL (by first | trivial | omega) ⟨_,rfl⟩
 have hie:i=l.length:=by omega
 have hsz:=(pw4_le (i:=i) (by omega)).2
 obtain ⟨size,hsize⟩:∃ size,size=pw4 i:=⟨_,rfl⟩
 rw[← hsize] at hsz ⊢
 have hs4:size=4 ^ l.length:=by rw[hsize,hie];rfl
 have hm1:=mk1 (bytes:=24) (n:=ps.length) (z:=.cv .nils) (by decide) (by omega)
 have hm2:=mk2 (n:=size) (by omega)
 have ho0:List.replicate ps.length (AV.cv .nils)=out2 size ps.length 0:=by
  apply Y1 (by simp[out2])
  intro j h1 h2
  simp[out2]
 simp only[ic18l3,QJ,hil,hm1,evA,simprocAttr]
 rw[ho0]
 clear ho0
 refine ZW ps.length (fun t st=>∃ v9 v18 v19,st=⟨[.cv (patR ps),ints l,.ptr 0 0,.i 0,.i 0,.i size,.i i,.sl 1 0 ps.length 1,.i t,v9,.undef,.undef,.undef,.undef,.undef,.undef,.b false,.b false,v18,v19,.undef,.undef,.undef,.undef],AObj.cells [.cv .nils,.i 0]::AObj.cells (out2 size ps.length t)::List.replicate t (AObj.cells ((f2 size size).map AV.i))⟩) ?_ 0 (QF _) ⟨_,_,_,rfl⟩
 rintro t st htl ⟨v9,v18,v19,rfl⟩
 by_cases ht2:t<ps.length
 ·have hset:=out2_set (size:=size) ht2
  have hol:(out2 size ps.length t).length=ps.length:=out2_len
  have ht3:t+1≤ps.length:=ht2
  simp only[ic18l2,QJ,ht2,ht3,hm2,hol,List.length_replicate,hset,evA,simprocAttr]
  rw[f2_zero]
  have hget:(out2 size ps.length (t+1))[t]? = some (.sl (t+2) 0 size 2):=out2_get ht2 (by omega)
  generalize hR:List.replicate t (AObj.cells ((f2 size size).map AV.i))=R
  have hRl:R.length=t:=by rw[← hR];simp
  refine ZW size (fun k st=>∃ v19,st=⟨[.cv (patR ps),ints l,.ptr 0 0,.i 0,.i 0,.i size,.i i,.sl 1 0 ps.length 1,.i t,.i k,.undef,.undef,.undef,.undef,.undef,.undef,.b false,.b false,.b true,v19,.undef,.undef,.undef,.undef],AObj.cells [.cv .nils,.i 0]::AObj.cells (out2 size ps.length (t+1))::(R++[AObj.cells ((f2 size k).map AV.i)])⟩) ?_ 0 (QF _) ⟨_,rfl⟩
  rintro k st hks ⟨v19,rfl⟩
  by_cases hk2:k<size
  ·have hrow:=row_last (cs:=(f2 size k).map AV.i) hRl
   have hsl:=fun x=>set_last (c:=AObj.cells ((f2 size k).map AV.i)) (x:=x) hRl
   have hfl:=f2_len (size:=size) (k:=k)
   have hfs:=f2_set hk2
   have hk3:k*2+2≤size*2:=by omega
   have hia:=fun σ=>sl2_addr (l:=t+2) hk2 σ
   simp only[ic18l1,QJ,hk2,hk3,ht2,hget,hia,hrow,hsl,hfl,hfs,Q6 (show k+1<2 ^ 63 by omega),evA,simprocAttr]
   exact ZL (by first | trivial | omega) ⟨_,rfl⟩
  ·have:k=size:=by omega
   subst this
   simp only[ic18l1,QJ,hk2,ht2,hget,evA,simprocAttr]
   exact ZL (by first | trivial | omega) ⟨_,_,_,by rw[ZC (n:=(t:Int)+1) (by omega),← hR,← List.replicate_succ'];rfl⟩
 have hte:t=ps.length:=by omega
 subst hte
 obtain ⟨hT0,hself⟩:=E0_tab (c:=AObj.cells [.cv .nils,.i 0]) (T:=ps.length) (size:=size)
 have hlen0:(AObj.cells [.cv .nils,.i 0]::AObj.cells (out2 size ps.length ps.length)::List.replicate ps.length (AObj.cells ((f2 size size).map AV.i))).length=ps.length+2:=by simp
 have hr0:rowOf (AObj.cells [.cv .nils,.i 0]::AObj.cells (out2 size ps.length ps.length)::List.replicate ps.length (AObj.cells ((f2 size size).map AV.i))) 0=some [.cv .nils,.i 0]:=rfl
 simp only[ic18l2,QJ,ht2,evA,simprocAttr]
 generalize AObj.cells [.cv .nils,.i 0]::AObj.cells (out2 size ps.length ps.length)::List.replicate ps.length (AObj.cells ((f2 size size).map AV.i))=H0₀ at *
 clear hm1 hm2 htl ht2 hil hi hsize hsz
 subst hs4
 obtain ⟨F,hF⟩:∃ F,F=ps.length+sumN l+1:=⟨_,rfl⟩
 have hsum:=n3_sum6 h6 hn3
 have hcall:=le60 ps hmt h12 hsh F 0 l (E0₀ ps.length (4 ^ l.length)) H0₀ hT0 (QF _) h6 hn3 (by omega) (by omega) E0_ok
 obtain ⟨g1,g2⟩:=leM_ok hmt F 0 l (E0₀ ps.length (4 ^ l.length)) (QF _) hn3 (by omega) E0_ok
 rw[hself] at hcall
 generalize leM ps F 0 l (E0₀ ps.length (4 ^ l.length))=r1 at *
 obtain ⟨⟨a1,b1⟩,K1₀⟩:=r1
 simp only at g1 g2
 refine hcall.run ?_
 have hP0:rowOf (putTab H0₀ 1 K1₀) 0=some [.cv .nils,.i 0]:=by rw[put_row g2.kl (.inl (by decide))];exact hr0
 have hPl:(putTab H0₀ 1 K1₀).length=ps.length+2:=by rw[putTab_length,hlen0]
 have hPt:=put_tb hT0 g2.kl
 have hPs:putTab (putTab H0₀ 1 K1₀) 1 K1₀=putTab H0₀ 1 K1₀:=put_put rfl
 clear hcall
 generalize putTab H0₀ 1 K1₀=G at *
 have q0:∀ J,rowOf (G++J) 0=some [.cv .nils,.i 0]:=fun J=>ZH hP0 J
 have qz:∀ J,rowOf (G++J) (ps.length+2)=rowOf J 0:=fun J=>by rw[← hPl];exact WW G J
 have qs:∀ J k,rowOf (G++J) (ps.length+2+k)=rowOf J k:=fun J k=>by rw[← hPl];exact X9 G J k
 have qsz:∀ J v,(G++J).set (ps.length+2) v=G++J.set 0 v:=fun J v=>by rw[← hPl];exact VW G J v
 have qss:∀ J v k,(G++J).set (ps.length+2+k) v=G++J.set k v:=fun J v k=>by rw[← hPl];exact EZ G J k v
 cases hlk:NY ps l with
 | true =>
  have hnone:=few_none (fun k hk=>(hmt k hk).1) hn3.nn hlk
  rw[hnone] at g1
  cases g1
  have hd:decide ((-2:Int)<0)=true:=by decide
  rw[if_pos rfl]
  have hs0:∀ J x,rowOf ((G++J).set 0 (AObj.cells x)) 0=some x:=fun J x=>W0 (q0 J)
  simp only[hPl,hd,qz,qsz,q0,hs0,QW,QM,List.cons_append,List.nil_append,evA,simprocAttr]
  exact .tup (.cons (.agg (.cons (.c .nl) (.cons (.c (.c _ trivial)) .nil))) (.cons (.c (.c _ trivial)) .nil))
 | false =>
 obtain ⟨c1,c2',hc0⟩:=few_some (fun k hk=>(hmt k hk).1) hn3.nn hlk
 rw[hc0] at g1
 cases g1
 have hcb:=DI hmt _ _ _ _ _ hn3.nn hc0
 have hd:decide (a1<0)=false:=decide_eq_false (by omega)
 have hmet:XX ps (UJ ps l)=b1:=(OP (fun k hk=>(hmt k hk).1) hn3.nn hc0).2.1
 rw[if_neg (by decide),hmet]
 simp only[hPl,hd,qz,qs,qsz,qss,q0,QW,QM,List.cons_append,List.nil_append,evA,simprocAttr]
 have hbest:HG (UJ ps l)=HG (grL ps F 0 l):=by rw[hF];rfl
 rw[hbest]
 refine ZW F (fun t st=>∃ (k:Nat) (L:List Int) (K:List (List Int)) (v:AV) (C:List Int) (c:Int × Int) (H:List AObj) (v14 v15 v21 v22 v23:AV),FdL ps H l.length K v C b1 c∧L.length=l.length∧N3 L∧fewV ps k L=some c∧k≤ps.length∧ps.length-k+sumN L+t<F∧HG (grL ps F 0 l)=C++HG (grL ps (F-t) k L)∧C.length≤t ∧
  st=⟨[.cv (patR ps),ints l,.ptr 0 0,.i 0,.i 0,.i (4 ^ l.length:Nat),.i i,.sl 1 0 ps.length 1,.i ps.length,v9,.ptr (ps.length+2) 0,.ptr (ps.length+2+1) 0,.i k,ints L,v14,v15,.b false,.b false,.b false,v19,.b false,v21,v22,v23],H⟩) ?_ 0 (QF _) ⟨0,l,K1₀,.cv .nils,[],(a1,b1),_,_,_,_,_,_,⟨q0 _,hPt.app _,by rw[tb_app hPt g2.kl,hPs],g2,qz _,qs _ 1,.inl ⟨rfl,rfl,rfl⟩,by simp[hPl]⟩,rfl,hn3,hc0,QF _,by omega,rfl,QG _,rfl⟩
 clear hP0 hPl hPt hPs q0 qz qs qsz qss hT0 hself hlen0 hr0
 rintro t st ht ⟨k,L,K,v,C,c,H,v14,v15,v21,v22,v23,hH,hLl,hLn,hfv,hkp,hmeas,hgr,hCt,rfl⟩
 obtain ⟨c1,c2'⟩:=c
 have hcb:=DI hmt _ _ _ _ _ hLn.nn hfv
 have hL6:L.length≤6:=by omega
 have hLs:=n3_sum6 hL6 hLn
 have hnz:=num_zero hLn
 have h61:=le61 L hLn hL6
 have hro:rowOf H (ps.length+2+1)=some [v,.i b1]:=hH.ro
 by_cases hz:numF L=0
 ·have hzl:=hnz.1 hz
  have hd:decide (((numF L:Nat):Int)>0)=false:=decide_eq_false (by omega)
  obtain ⟨f,hf⟩:∃ f,F-t=f+1:=⟨F-t-1,by omega⟩
  have hnil:grL ps (F-t) k L=[]:=by rw[hf];unfold grL;rw[if_pos hzl]
  rw[hnil] at hgr
  have hCe:HG (grL ps F 0 l)=C:=by rw[hgr];simp[HG]
  rw[hCe]
  have hacc:=hH.acc
  have hnu:=hacc.nu
  have rs0:rowOf (H.set 0 (.cells [v,.i b1])) 0=some [v,.i b1]:=W0 hH.r0
  simp only[ic18l0,evA,simprocAttr]
  refine h61.call frz ?_
  simp only[hd,hro,hH.r0,hnu,rs0,evA,simprocAttr]
  exact .tup (.cons (.agg (.cons (frz_accS (fun _=>trivial) (FF hacc (by omega) _)) (.cons (.c (.c _ trivial)) .nil))) (.cons (.c (.c _ trivial)) .nil))
 have hzl:J9 L=false:=by
  cases hzz:J9 L with
  | false=>rfl
  | true=>exact absurd (hnz.2 hzz) hz
 have hd:decide (((numF L:Nat):Int)>0)=true:=decide_eq_true (by omega)
 have hk2:=few_lt hLn.nn hzl hfv
 have hskip:=few_skip hLn.nn hzl hfv
 have htk:=takes_doc hmt hLn hfv
 obtain ⟨f,hf⟩:∃ f,F-t=f+1:=⟨F-t-1,by omega⟩
 have hf1:F-(t+1)=f:=by omega
 have hgs:grL ps (F-t) k L=if EC ps k L=true then k::grL ps f k (afL (ps[k]!).1 L) else grL ps f (k+1) L:=by
  rw[hf]
  show (if J9 L=true then _ else _)=_
  rw[if_neg (by rw[hzl];decide)]
 have hno:EC ps k L=false→HG (grL ps F 0 l)=C++HG (grL ps (F-(t+1)) (k+1) L):=fun h=>by
  rw[hgr,hgs,h,if_neg (by decide),hf1]
 have hpt:=hsh k hk2
 have hmk:=hmt k hk2
 have hld:=B4 hk2
 have hpm:=pat_1 hk2
 generalize ps[k]! = p at *
 obtain ⟨s,m⟩:=p
 simp only at hpt hmk hld hpm htk hgs
 have h62:=le62 L hLn hL6 s m hpt
 have hal:=JQ s L
 have han:=hLn.af s
 have h61a:=le61 (afL s L) han (by omega)
 have hwk:IntKind.i64.wrap ((k:Int)+1)=((k+1:Nat):Int):=Q6 (by omega)
 have hbz:=fun J=>WW H J
 have hszz:=fun J v=>VW H J v
 have hrcJ:=fun J=>ZH hH.rc J
 simp only[ic18l0,evA,simprocAttr]
 refine h61.call frz ?_
 simp only[hd,O9 hk2,hld,evA,simprocAttr]
 refine h62.call frz ?_
 simp only[hbz,hszz,evA,simprocAttr]
 refine h61a.call frz ?_
 simp only[evA,simprocAttr]
 refine h61.call frz ?_
 by_cases hsame:numF (afL s L)=numF L
 ·have hbq:(((numF (afL s L):Nat):Int) != ((numF L:Nat):Int))=false:=by rw[hsame];simp
  have htf:EC ps k L=false:=by rw[htk,decide_eq_true hsame];rfl
  have hd2:decide ((-2:Int)≥0)=false:=by decide
  simp only[hbq,evA,simprocAttr]
  refine DW_s [] [] hmix (by kernel_rfl) rfl ?_
  simp only[hbz,hd2,hwk,evA,simprocAttr]
  exact ZL (by omega) ⟨k+1,L,K,v,C,(c1,c2'),_,_,_,_,_,_,hH.app _,hLl,hLn,hskip htf,by omega,by omega,hno htf,by omega,rfl⟩
 have hbq:(((numF (afL s L):Nat):Int) != ((numF L:Nat):Int))=true:=bne_iff_ne.2 (by omega)
 have hne:afL s L≠L:=fun e=>hsame (by rw[e])
 have hlt:=R3 hLn.nn hne
 rw[decide_eq_false hsame,ZY,XI] at htk
 have hLl2:(afL s L).length=l.length:=by omega
 have hok1:=hH.ok
 have h60:=fun J=>le60 ps hmt h12 hsh (ps.length-k+sumN (afL s L)+1) k (afL s L) K (H++J) (by rw[hLl2];exact (hH.app J).tb) hkp (by omega) han (by omega) (by omega) (by rw[hLl2];exact hok1)
 obtain ⟨g3,g4⟩:=leM_ok hmt (ps.length-k+sumN (afL s L)+1) k (afL s L) K hkp han (by omega) (by rw[hLl2];exact hok1)
 rw[hLl2] at g4
 rw[← g3] at htk
 generalize leM ps (ps.length-k+sumN (afL s L)+1) k (afL s L) K=r2 at *
 obtain ⟨⟨a2,b2⟩,K2⟩:=r2
 simp only at g3 g4 htk
 have hself2:=fun J=>(hH.app J).self
 have happ2:=fun J=>tb_app hH.tb g4.kl J
 simp only[hself2,happ2] at h60
 have hH2:=hH.put g4
 have hGl:(putTab H 1 K2).length=H.length:=putTab_length _ _ _
 have hbd:-2≤a2∧a2≤1073741824∧0≤b2∧b2≤100000000:=by
  cases hc:fewV ps k (afL s L) with
  | none=>rw[hc] at g3;cases g3;decide
  | some c =>
   obtain ⟨c3,c4⟩:=c
   rw[hc] at g3
   cases g3
   have:=DI hmt _ _ _ _ _ han.nn hc
   omega
 have hw1:IntKind.i64.wrap (a2+1)=a2+1:=ZC (by omega)
 have hw2:IntKind.i64.wrap (b2+m)=b2+m:=ZC (by omega)
 simp only[hbq,evA,simprocAttr]
 refine (h60 _).run ?_
 generalize putTab H 1 K2=G2₀ at *
 have gz:=fun J=>WW G2₀ J
 have gsz:=fun J v=>VW G2₀ J v
 rw[hGl] at gz gsz
 have gc:=fun J=>ZH hH2.rc J
 simp only[gz,gsz,evA,simprocAttr]
 by_cases h2:a2≥0
 rotate_left
 ·have hd2:decide (a2≥0)=false:=decide_eq_false h2
  have htf:EC ps k L=false:=by rw[htk,hd2];rfl
  refine DW_s [] [] hmix (by kernel_rfl) rfl ?_
  simp only[gz,hd2,hwk,evA,simprocAttr]
  exact ZL (by omega) ⟨k+1,L,K2,v,C,(c1,c2'),_,_,_,_,_,_,hH2.app _,hLl,hLn,hskip htf,by omega,by omega,hno htf,by omega,rfl⟩
 have hd2:decide (a2≥0)=true:=decide_eq_true h2
 rw[hd2,XI] at htk
 cases e1:(a2+1 == c1) with
 | false =>
  have htf:EC ps k L=false:=by rw[htk,e1];rfl
  refine DW_s [] [] hmix (by kernel_rfl) rfl ?_
  simp only[gz,gc,hd2,hw1,e1,hwk,evA,simprocAttr]
  exact ZL (by omega) ⟨k+1,L,K2,v,C,(c1,c2'),_,_,_,_,_,_,hH2.app _,hLl,hLn,hskip htf,by omega,by omega,hno htf,by omega,rfl⟩
 | true =>
 rw[e1,XI] at htk
 cases e2:(b2+m == c2') with
 | false =>
  have htf:EC ps k L=false:=by rw[htk,e2]
  refine DW_s [] [] hmix (by kernel_rfl) rfl ?_
  simp only[gz,gc,hd2,hw1,hw2,e1,e2,hwk,O9 hk2,hpm,evA,simprocAttr]
  exact ZL (by omega) ⟨k+1,L,K2,v,C,(c1,c2'),_,_,_,_,_,_,hH2.app _,hLl,hLn,hskip htf,by omega,by omega,hno htf,by omega,rfl⟩
 | true =>
 rw[e2] at htk
 have ec1:a2+1=c1:=eq_of_beq e1
 have ec2:b2+m=c2':=eq_of_beq e2
 have hfv2:fewV ps k (afL s L)=some (a2,b2):=by
  cases hq:fewV ps k (afL s L) with
  | none =>
   rw[hq] at g3
   cases g3
   omega
  | some c=>rw[hq] at g3;exact congrArg some g3.symm
 have hyes:HG (grL ps F 0 l)=(C++[(k:Int)])++HG (grL ps (F-(t+1)) k (afL s L)):=by
  rw[hgr,hgs,htk,if_pos rfl,hf1,QW]
  rfl
 have hCl:(C++[(k:Int)]).length=C.length+1:=by simp
 have hG4:=hH2.len
 obtain ⟨v',σ2,Kx,p1,p2,p3,p4⟩:=SO (by_:=8) (x:=[.int .i64 k]) (K:=[AObj.cells [.i a2,.i b2]]) hG4 hH2.acc rfl (by omega) (by omega)
 have pn:=p2.nu
 simp only[QM,List.length_cons,List.length_nil,ZV,hGl,QW,List.cons_append,List.nil_append,Q0,WS] at p1
 have p3':σ2.length=H.length:=by rw[p3,hGl]
 have hHl:ps.length+2+1<H.length:=by omega
 have go:∀ J,rowOf (G2₀++J) (ps.length+2+1)=some [v,.i b1]:=fun J=>ZH hH2.ro J
 have rz:=fun J=>WW σ2 J
 rw[p3'] at rz
 have ro:∀ J,rowOf (σ2++J) (ps.length+2+1)=some [v,.i b1]:=fun J=>by
  refine ZH ?_ J
  rw[rowOf,p4 _ (by omega)]
  exact hH2.ro
 have rc:∀ J,rowOf (σ2++J) (ps.length+2)=some [.i c1,.i c2']:=fun J=>by
  refine ZH ?_ J
  rw[rowOf,p4 _ (by omega)]
  exact hH2.rc
 have ne1:ps.length+2+1≠H.length:=by omega
 have ne2:ps.length+2+1≠ps.length+2:=by omega
 have sz':∀ J x,rowOf ((σ2++J).set (ps.length+2+1) x) H.length=rowOf J 0:=fun J x=>by rw[QX ne1,rz]
 have sc':∀ J x,rowOf ((σ2++J).set (ps.length+2+1) x) (ps.length+2)=some [.i c1,.i c2']:=fun J x=>by rw[QX ne2,rc]
 have xz1:∀ J,(G2₀++J)[H.length]? = J[0]? := fun J=>by rw[← hGl];exact Qau G2₀ J
 have xz2:∀ J,(σ2++J)[H.length]? = J[0]? := fun J=>by rw[← p3'];exact Qau σ2 J
 have xz3:∀ J x,((σ2++J).set (ps.length+2+1) x)[H.length]? = J[0]? := fun J x=>by rw[QU ne1,xz2]
 have xo1:∀ J,(G2₀++J)[ps.length+2+1]? = some (.cells [v,.i b1]):=fun J=>Qdq hH2.ro J
 have gw:∀ J:List AObj,(G2₀++J).length=H.length+J.length:=fun J=>by rw[QM,hGl]
 refine DW_s [] [] hmix (by kernel_rfl) rfl ?_
 simp only[gz,gc,hd2,hw1,hw2,e1,e2,hwk,O9 hk2,hpm,evA,simprocAttr]
 refine DW_s [] [(1,3),(6,3),(6,4),(6,8)] hmix (by kernel_rfl) rfl ?_
 simp only[go,gw,p1,pn,ro,rz,sz',sc',xz1,xz2,xz3,xo1,QW,QM,List.cons_append,List.nil_append,evA,simprocAttr]
 rw[QW] at p2
 simp only[List.cons_append,List.nil_append] at p2
 have hfin:FdL ps (((σ2++AObj.cells [AV.i a2,AV.i b2]::Kx).set (ps.length+2+1) (AObj.cells [v',AV.i b1])).set (ps.length+2) (AObj.cells [AV.i a2,AV.i b2])) l.length K2 v' (C++[(k:Int)]) b1 (a2,b2):=by
  refine hH2.low (by simp;omega) (fun j hj h1 h2=>?_) ?_ ?_ ?_
  ·rw[QU (by omega),QU (by omega),QE (by omega)]
   exact p4 j hj
  ·exact W0 (sc' _ _)
  ·rw[QX (by omega)]
   exact W0 (ro _)
  ·refine FF (FF ?_ (by omega) _) (by omega) _
   rw[hCl,ZS]
   exact p2
 exact ZL (by omega) ⟨k,afL s L,K2,v',C++[(k:Int)],(a2,b2),_,_,_,_,_,_,hfin,hLl2,han,hfv2,hkp,by omega,hyes,by omega,rfl⟩
end Go.Proofs.YtgkidpolomhghaaGreatDoor.AM
namespace Go.Proofs.YtgkidpolomhghaaGreatDoor.AM
variable [Dr]
open Go Pl
theorem le47 (ps:List Pat) (pr:List Int) (hp:PtOk ps) (hl:pr.length≤8) (hpr:∀ i,i<pr.length→0≤gI pr i∧gI pr i≤1000):PC Tryz.prog 47 [.cv (patR ps),ints pr] (.b (OE ps pr)):=by
 refine ⟨ZF (fok47 true) (QC rfl) ?_,rfl⟩
 have h12:=hp.p12
 simp only[ic47,evA,simprocAttr]
 refine ZW ps.length (fun i s=>(∀ k,k<i→RO (ps[k]!).1 pr≤1000)∧∃ v4 v5 v6 v7 v8 v9,s=⟨[.cv (patR ps),ints pr,.b false,.i i,v4,v5,v6,v7,v8,v9],[]⟩) ?_ 0 (QF _) ⟨by omega,_,_,_,_,_,_,rfl⟩
 rintro i s hi ⟨hall,v4,v5,v6,v7,v8,v9,rfl⟩
 by_cases h:i<ps.length
 ·have ld:=pat_0 h
  have hsh:=hp.sh i h
  obtain ⟨f,hf⟩:∃ f:Nat→Int,f=fun j=>if bit (ps[i]!).1 j then gI pr j else 0:=⟨_,rfl⟩
  have hprice:RO (ps[i]!).1 pr=sumI pr.length f:=by rw[hf];rfl
  have hbd:∀ j,j≤pr.length→0≤sumI j f∧sumI j f≤1000*j:=fun j hj=>QaX (by decide) fun k hk=>by
   have:=hpr k (by omega)
   rw[hf]
   simp only
   split <;> omega
  simp only[ic47l1,QJ,h,evA,simprocAttr]
  refine ZW pr.length (fun j s=>∃ v7 v8,s=⟨[.cv (patR ps),ints pr,.b false,.i i,.i (sumI j f),.i j,.b true,v7,v8,v9],[]⟩) ?_ 0 (QF _) ⟨_,_,rfl⟩
  clear v4 v5 v6 v7 v8
  rintro j s hj ⟨v7,v8,rfl⟩
  by_cases hjl:j<pr.length
  ·have h52:=c52 (ps[i]!).1 hsh j (by omega)
   have hb1:=hbd (j+1) hjl
   have hs:sumI (j+1) f=sumI j f+f j:=rfl
   simp only[ic47l0,QJ,hjl,O9 h,ld,evA,simprocAttr]
   refine h52.call frz ?_
   cases hb:bit (ps[i]!).1 j with
   | true =>
    have hfj:f j=pr[j]?.getD 0:=by rw[hf];show (if _ then _ else _)=_;rw[if_pos hb]
    have hw:IntKind.i64.wrap (sumI j f+pr[j]?.getD 0)=sumI (j+1) f:=by rw[hs,hfj];exact ZC (by omega)
    simp only[hb,J5 hjl,J4 hjl,WA,hw,Q6 (show j+1<2 ^ 63 by omega),evA,simprocAttr]
    exact ZL (by first | trivial | omega) ⟨_,_,rfl⟩
   | false =>
    have hfj:f j=0:=by rw[hf];show (if _ then _ else _)=_;rw[if_neg (by rw[hb];decide)]
    have hs2:sumI (j+1) f=sumI j f:=by rw[hs,hfj];omega
    rw[hs2]
    simp only[hb,Q6 (show j+1<2 ^ 63 by omega),evA,simprocAttr]
    exact ZL (by first | trivial | omega) ⟨_,_,rfl⟩
  ·have hje:j=pr.length:=by omega
   subst hje
   rw[← hprice]
   by_cases hg:RO (ps[i]!).1 pr>1000
   ·have hd:decide (RO (ps[i]!).1 pr>1000)=true:=decide_eq_true hg
    have hff:OE ps pr=false:=by
     cases hh:OE ps pr with
     | false=>rfl
     | true=>have:=Qbw.1 hh i h;omega
    rw[hff]
    simp only[ic47l0,QJ,hjl,hd,evA,simprocAttr]
    exact frz
   ·have hd:decide (RO (ps[i]!).1 pr>1000)=false:=decide_eq_false hg
    simp only[ic47l0,QJ,hjl,hd,Q6 (show i+1<2 ^ 63 by omega),evA,simprocAttr]
    refine ZL (by first | trivial | omega) ⟨fun k hk=>?_,_,_,_,_,_,_,rfl⟩
    rcases QQ.1 hk with hk | rfl
    ·exact hall k hk
    ·omega
 ·have hie:i=ps.length:=by omega
  subst hie
  rw[Qbw.2 hall]
  simp only[ic47l1,QJ,h,evA,simprocAttr]
  exact frz
end Go.Proofs.YtgkidpolomhghaaGreatDoor.AM
namespace Go.Proofs.YtgkidpolomhghaaGreatDoor.AM
open Go Pl
theorem lo21 {Q:Exit→St→Prop} (ps:List Pat) (l pr:List Int) (e z:Int) (he:e≠0) (i:Nat) (v8 v9 v10:AV) (hend:∀ v9 v10,Q (.exit 0) ⟨[.cv (patR ps),ints l,ints pr,.i 0,.i 0,.i e,.i z,.i i,v8,v9,v10,.undef,.undef],[]⟩) :
  IL Tryz.prog ⟨vs21,65,none,0⟩ ic21l0 ⟨[.cv (patR ps),ints l,ints pr,.i 0,.i 0,.i e,.i z,.i i,v8,v9,v10,.undef,.undef],[]⟩ Q:=by
 have hb:(e == 0)=false:=beq_eq_false_iff_ne.2 he
 refine ZW 0 (fun t s=>s=⟨[.cv (patR ps),ints l,ints pr,.i 0,.i 0,.i e,.i z,.i i,v8,v9,v10,.undef,.undef],[]⟩) ?_ 0 (QF _) rfl
 rintro t s ht rfl
 cases hd:decide ((i:Int)<pr.length) with
 | true =>
  simp only[ic21l0,hd,hb,evA,simprocAttr]
  exact hend _ _
 | false =>
  simp only[ic21l0,hd,hb,evA,simprocAttr]
  exact hend _ _
theorem le21 (ps:List Pat) (l pr:List Int) (hp:ps.length<2 ^ 63) (hl:l.length<2 ^ 63) (hr:pr.length<2 ^ 63):PC Tryz.prog 21 [.cv (patR ps),ints l,ints pr] (floA ps l pr):=by
 refine ⟨ZF (fok21 true) (QC rfl) ?_,rfl⟩
 unfold floA floL
 simp only[ic21,evA,simprocAttr]
 refine (le42 ps l hp hl).call frz ?_
 by_cases he:chkE ps l=0
 rotate_left
 ·have hb:(chkE ps l == 0)=false:=beq_eq_false_iff_ne.2 he
  have hb2:(chkE ps l != 0)=true:=by simpa using he
  rw[if_pos he]
  simp only[hb,evA,simprocAttr]
  refine lo21 ps l pr (chkE ps l) 0 he 0 _ _ _ ?_
  intro v9 v10
  simp only[hb,hb2,evA,simprocAttr]
  exact frz
 have hok:=Qd3 he
 rw[if_neg (fun h=>h he)]
 have h12:=hok.p12
 have h6:=hok.l6
 by_cases hlen:pr.length=l.length
 rotate_left
 ·have hb2:((pr.length:Int) != l.length)=true:=bne_iff_ne.2 (by omega)
  have e3:((3:Int) == 0)=false:=by decide
  have n3:((3:Int) != 0)=true:=by decide
  rw[if_pos hlen]
  simp only[he,hb2,evA,simprocAttr]
  refine lo21 ps l pr 3 0 (by decide) 0 _ _ _ ?_
  intro v9 v10
  simp only[e3,n3,evA,simprocAttr]
  exact frz
 have hb2:((pr.length:Int) != l.length)=false:=by rw[hlen];simp
 have z0:((0:Int) == 0)=true:=rfl
 rw[if_neg (fun h=>h hlen)]
 simp only[he,hb2,evA,simprocAttr]
 obtain ⟨f,hf⟩:∃ f:Nat→Int,f=fun i=>gI pr i*gI l i:=⟨_,rfl⟩
 have hbd:∀ j,j≤pr.length→(∀ k,k<j→inB (gI pr k) 0 1000=true)→0≤sumI j f∧sumI j f≤3000*j:=fun j hj hall=>QaX (by decide) fun k hk=>by
  have h1:=VB.1 (hall k hk)
  have h2:=hok.need k (by omega)
  rw[hf]
  exact ⟨Int.mul_nonneg h1.1 h2.1,Int.le_trans (Int.mul_le_mul h1.2 h2.2 h2.1 (by decide)) (by decide)⟩
 refine ZW pr.length (fun i s=>((∀ k,k<i→inB (gI pr k) 0 1000=true)∧∃ v9 v10,s=⟨[.cv (patR ps),ints l,ints pr,.i 0,.i 0,.i 0,.i (sumI i f),.i i,.b false,v9,v10,.undef,.undef],[]⟩) ∨
  (outF 0 1000 pr=true∧∃ z v9 v10,s=⟨[.cv (patR ps),ints l,ints pr,.i 0,.i 0,.i 7,.i z,.i i,.b false,v9,v10,.undef,.undef],[]⟩)) ?_ 0 (QF _) (.inl ⟨by omega,_,_,rfl⟩)
 have e7:((7:Int) == 0)=false:=by decide
 have n7:((7:Int) != 0)=true:=by decide
 rintro i s hi (⟨hall,v9,v10,rfl⟩ | ⟨hout,z,v9,v10,rfl⟩)
 rotate_left
 ·rw[hout,if_pos rfl]
  cases hd:decide ((i:Int)<pr.length) with
  | true =>
   simp only[ic21l0,hd,e7,n7,evA,simprocAttr]
   exact frz
  | false =>
   simp only[ic21l0,hd,e7,n7,evA,simprocAttr]
   exact frz
 by_cases h:i<pr.length
 ·have h2:i<l.length:=by omega
  have hwi:=Q6 (show i+1<2 ^ 63 by omega)
  simp only[ic21l0,QJ,h,J5 h,J4 h,WA,evA,simprocAttr]
  refine (le64 _ 0 1000).call frz ?_
  have hg:pr[i]?.getD 0=gI pr i:=rfl
  have hg2:l[i]?.getD 0=gI l i:=rfl
  rw[hg]
  cases hin:inB (gI pr i) 0 1000 with
  | true =>
   have hall2:∀ k,k<i+1→inB (gI pr k) 0 1000=true:=fun k hk=>by
    rcases QQ.1 hk with hk | rfl
    ·exact hall k hk
    ·exact hin
   have hb1:=hbd i hi hall
   have hb3:=hbd (i+1) h hall2
   have h1:=VB.1 hin
   have h3:=hok.need i h2
   have hpos:=Int.mul_nonneg h1.1 h3.1
   have hle:=Int.mul_le_mul h1.2 h3.2 h3.1 (by decide)
   have hs:sumI (i+1) f=sumI i f+f i:=rfl
   have hfi:f i=gI pr i*gI l i:=by rw[hf]
   have hmul:IntKind.i64.wrap (gI pr i*gI l i)=f i:=by rw[hfi];exact ZC (by omega)
   have hadd:IntKind.i64.wrap (sumI i f+f i)=sumI (i+1) f:=by rw[hs] at hb3 ⊢;exact ZC (by omega)
   simp only[hin,evA,simprocAttr]
   refine DW_s [] [] hmix (by kernel_rfl) rfl ?_
   simp only[J5 h,J4 h,J5 h2,J4 h2,WA,hg,hg2,hmul,hadd,hwi,evA,simprocAttr]
   exact ZL (by first | trivial | omega) (.inl ⟨hall2,_,_,rfl⟩)
  | false =>
   have hout:outF 0 1000 pr=true:=outF_exR h hin
   simp only[hin,evA,simprocAttr]
   refine DW_s [] [] hmix (by kernel_rfl) rfl ?_
   simp only[J5 h,J4 h,J5 h2,J4 h2,WA,hg,hg2,hwi,evA,simprocAttr]
   exact ZL (by first | trivial | omega) (.inr ⟨hout,_,_,_,rfl⟩)
 ·have hie:i=pr.length:=by omega
  subst hie
  have hout:outF 0 1000 pr=false:=outF_alR hall
  have hpr:∀ i,i<pr.length→0≤gI pr i∧gI pr i≤1000:=fun i hi=>VB.1 (hall i hi)
  have h47:=le47 ps pr hok.pt (by omega) hpr
  rw[hout,if_neg (by decide)]
  simp only[ic21l0,QJ,h,z0,evA,simprocAttr]
  refine h47.call frz ?_
  cases hfb:OE ps pr with
  | false =>
   have n2:((2:Int) != 0)=true:=by decide
   rw[if_pos rfl]
   simp only[hfb,n2,evA,simprocAttr]
   exact frz
  | true =>
   have n0:((0:Int) != 0)=false:=by decide
   have hbn:=hbd pr.length (QG _) hall
   have hdot:sumI pr.length f=dotL pr l:=by rw[hf];rfl
   rw[hdot] at hbn ⊢
   have hw1:IntKind.i64.wrap (dotL pr l+1000)=dotL pr l+1000:=ZC (by omega)
   have hw2:IntKind.i64.wrap (dotL pr l+1000-1)=dotL pr l+999:=by rw[ZC (by omega)];omega
   have hw3:IntKind.i64.wrap ((dotL pr l+999).tdiv 1000)=(dotL pr l+999) / 1000:=by
    rw[Int.tdiv_eq_ediv_of_nonneg (by omega)]
    exact ZC (by omega)
   rw[if_neg (by decide)]
   simp only[hfb,n0,hw1,hw2,hw3,evA,simprocAttr]
   exact frz
theorem grL_len (ps:List Pat):∀ (f k:Nat) (l:List Int),(grL ps f k l).length≤f
 | 0,_,_=>QG _
 | f+1,k,l=>by
  unfold grL
  split
  ·exact QF _
  ·split
   ·rw[List.length_cons];have:=grL_len ps f k (afL (ps[k]!).1 l);omega
   ·have:=grL_len ps f (k+1) l;omega
structure BcOk (ps:List Pat) (l:List Int):Prop where
 few:fewL ps l=(HG (UJ ps l),XX ps (UJ ps l),0)
 len:(UJ ps l).length≤200
 rng:∀ x∈UJ ps l,x<ps.length
 srt:(UJ ps l).Pairwise (·≤·)
 eno:OS ps l (UJ ps l)
 least:∀ cs:List Nat,(∀ x∈cs,x<ps.length)→OS ps l cs→(UJ ps l).length<cs.length∨(UJ ps l).length=cs.length∧XX ps (UJ ps l)≤XX ps cs
theorem PsOk.n3 {ps:List Pat} {l:List Int} (h:PsOk ps l):N3 l:=fun i hi=>h.need i hi
theorem fewL_bad {ps:List Pat} {l:List Int} (hc:chkE ps l≠0):fewL ps l=([],0,chkE ps l):=by unfold fewL;rw[if_pos hc]
theorem fewL_lack {ps:List Pat} {l:List Int} (hc:chkE ps l=0) (hl:NY ps l=true):fewL ps l=([],0,9):=by unfold fewL;rw[if_neg (fun h=>h hc),if_pos hl]
theorem fewL_len (ps:List Pat) (l:List Int):(fewL ps l).1.length<2 ^ 63:=by
 by_cases hc:chkE ps l=0
 rotate_left
 ·rw[fewL_bad hc];show 0<2 ^ 63;decide
 cases hl:NY ps l with
 | true=>rw[fewL_lack hc hl];show 0<2 ^ 63;decide
 | false =>
  have hok:=Qd3 hc
  have h1:=n3_sum6 hok.l6 hok.n3
  have h2:=grL_len ps (ps.length+sumN l+1) 0 l
  have h3:=hok.p12
  unfold fewL
  rw[if_neg (fun h=>h hc),if_neg (by rw[hl];decide)]
  show ((grL ps (ps.length+sumN l+1) 0 l).map _).length<_
  rw[ZK]
  omega
theorem law3 (ps:List Pat) (l pr:List Int) (hp:ps.length<2 ^ 63) (hl:l.length<2 ^ 63) (hr:pr.length<2 ^ 63):PC Tryz.prog 3 [.cv (patR ps),ints l,ints pr] (.b true):=by
 have h17:=le17 ps l hp hl
 have h18:=le18 ps l hp hl
 have h20:=le20 ps l pr hp hl hr
 have h21:=le21 ps l pr hp hl hr
 have hn:=fewL_len ps l
 unfold fewA at h17 h18
 unfold floA at h20 h21
 generalize fewL ps l=A at *
 generalize floL ps l pr=B at *
 obtain ⟨a1,a2,a3⟩:=A
 obtain ⟨b1,b2⟩:=B
 simp only at h17 h18 h20 h21 hn
 have h19:=le19 a1 a1 a2 a2 hn hn
 rw[decide_eq_true rfl,beq_self_eq_true,Bool.and_self] at h19
 refine ⟨ZF (fok3 true) (QC rfl) ?_,rfl⟩
 simp only[ic3,WI,cellsOf,evA,simprocAttr]
 refine h17.call frz ?_
 simp only[evA,simprocAttr]
 refine h18.call frz ?_
 simp only[evA,simprocAttr]
 refine h19.call frz ?_
 simp only[bne_self_eq_false,evA,simprocAttr]
 refine h20.call frz ?_
 simp only[evA,simprocAttr]
 refine h21.call frz ?_
 simp only[beq_self_eq_true,evA,simprocAttr]
 refine awake.call .nil ?_
 simp only[evA,simprocAttr]
 (repeat' (first | exact HL.nil | exact KS.nil | exact FrzC.nl | exact FrzC.c _ trivial | apply HL.cons | apply KS.cons | apply FrzV.agg | apply FrzV.tup | apply FrzV.c | refine FrzC.sl _ _ _ _ _ _ rfl (QC rfl) ?_))
theorem law_LessonFewest (avs:List AV) (h:Args Tryz.prog Tryz.f3.params.toList avs):AC Tryz.prog 3 avs [] fun r _=>r=.b true:=by
 have h:Args Tryz.prog [22,23,23] avs:=h
 obtain ⟨cs1,avs,rfl,h1,h⟩:=args_cons h
 obtain ⟨cs2,avs,rfl,h2,h⟩:=args_cons h
 obtain ⟨cs3,avs,rfl,h3,h⟩:=args_cons h
 cases args_nil h
 obtain ⟨ps,e1,hp⟩:=typed_pats h1
 obtain ⟨l,e2,hl⟩:=typed_need h2
 obtain ⟨pr,e3,hr⟩:=typed_need h3
 rw[e1,e2,e3]
 exact (law3 ps l pr hp hl hr).call (by (repeat' (first | exact HL.nil | exact KS.nil | exact FrzC.nl | exact FrzC.c _ trivial | apply HL.cons | apply KS.cons | apply FrzV.agg | apply FrzV.tup | apply FrzV.c | refine FrzC.sl _ _ _ _ _ _ rfl (QC rfl) ?_))) rfl
end Go.Proofs.YtgkidpolomhghaaGreatDoor.AM

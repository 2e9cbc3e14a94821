/- Parts of the proof of TopRoutes. -/
import Derived.RangeFuncNested
import Derived.Test.YtogjcmnopidfpaaGreatProg
import GoSem.Op.String
import Derived.Lib.Strings
import Derived.Test.YtogjcmnopidfpaaGreatRows
import Derived.WalkKit
import Derived.ProofKit
import Derived.OpenShut
import Derived.Carry
import Derived.Test.YtogjcmnopidfpaaGreatChecked
import Derived.Test.YtogjcmnopidfpaaGreatZ20
set_option linter.unusedVariables false
set_option linter.unusedSimpArgs false
set_option linter.unusedSectionVars false
namespace Go.Proofs.YtogjcmnopidfpaaGreat.AM
variable [Dr]
open Go
variable {P:Program} {fx:Fx} {m:LM} {X:Nat→Prop} {en:En} {w:World} {s:St} {Q:Exit→St→Prop}
abbrev noX:Nat→Prop:=fun _=>False
end Go.Proofs.YtogjcmnopidfpaaGreat.AM
namespace Go.Proofs.YtogjcmnopidfpaaGreat.AM
variable [Dr]
open Go
abbrev vs3:List Nat:=[0,1,2,3,4,5,6,7,8,9,12,13,14,15,16,17,18,19,20,21,22,31,43,62,73,100,133,158,171,209,245]
def ic3l0:IC:=(.seq (.seq (.region [jv 7,jF 0 2,jG 3 1,jl 2,je 3,jw 23 (.bin .lss .int) [.t 0,.t 4]])
 (.cond 23 .skip
 (.exit 2)))
 (.seq (.block 3 (.seq (.region [jF 7 3,jl 0,jv 5,ja 1 1 2,jl 3,jv 7,jq (.bin .shr .int) [.t 4,.t 5],jq (.bin .rem .int) [.t 6,.c (.cv (.int .u64 2))],jw 24 (.bin .eql .int) [.t 7,.c (.cv (.int .u64 1))]])
 (.cond 24 (.region [jF 4 6,jl 0,jv 7,jq (.bslice 1 1 [(.cv (.int .i64 0))] [(0,1)]) [.t 2],jq (.append 1 8) [.t 1,.t 3],jF 4 6,jq (.store 1) [.t 5,.t 4]])
 .skip)))
 (.region [jv 7,jq (.bin .add .int) [.t 0,jn 1],jm 7 1])))
def ic3l1:IC:=(.seq (.seq (.region [jv 5,jF 7 3,jl 1,je 2,jq (.bin .lss .int) [.t 0,.t 3],jt 4,jg 5 true (.fadd 6) [.v 2],ji 5 true 6,jg 5 true (.len false) [.t 7],jg 5 true (.bin .lss .int) [.t 8,jn 10],jw 22 .pick [.t 5,.t 9,jB false]])
 (.cond 22 .skip
 (.exit 0)))
 (.seq (.block 1 (.seq (.region [jF 4 2,jl 0,jF 4 2,jl 2,jF 3 3,jG 2 4,jl 5,jF 3 3,jG 3 7,jl 8,jq (.build [(.cv (.int .i64 0)),(.cv (.int .i64 0)),(.cv (.int .i64 0)),(.cv (.int .i64 0)),(.cv .nils)] [(0,1),(1,1),(2,1),(3,1)]) [.t 1,.t 3,.t 6,.t 9],jw 6 (.alloc [(.cv (.int .i64 0)),(.cv (.int .i64 0)),(.cv (.int .i64 0)),(.cv (.int .i64 0)),(.cv .nils)]) [],jq (.store 5) [.v 6,.t 10]])
 (.seq (.seq (.region [jz 7 0])
 (.block 2 (.loop ic3l0)))
 (.seq (.region [jF 0 2,jq (.loadN 4) [.t 0],jN 5 6,jk 5 [.t 1,.t 2],jt 3,jx 0 4,jx 1 4,jw 8 (.alloc [(.cv .nils),(.cv (.int .i64 0)),(.cv (.int .i64 0)),(.cv (.int .i64 0)),(.cv (.int .i64 0))]) [],jq (.store 5) [.v 8,.t 5],jm 9 6])
 (.seq (.region [jv 9,jq (.bin .eql .int) [.t 0,jn 0],jt 1,jg 2 true (.fadd 0) [.v 8],ji 2 true 3,jg 2 true (.len false) [.t 4],jg 2 true (.bin .gtr .int) [.t 5,jn 0],jq .pick [.t 2,.t 6,jB false],jt 7,jg 8 true (.fadd 0) [.v 8],ji 8 true 9,jg 8 true (.len false) [.t 10],jg 8 true (.bin .leq .int) [.t 11,jn 60],jw 25 .pick [.t 8,.t 12,jB false]])
 (.cond 25 (.region [jF 6 2,jl 0,jF 0 8,jl 2,jq (.bslice 1 1 [(.cv .nils)] [(0,1)]) [.t 3],jq (.append 1 24) [.t 1,.t 4],jF 6 2,jq (.store 1) [.t 6,.t 5]])
 .skip))))))
 (.region [jv 5,jq (.bin .add .int) [.t 0,jn 1],jm 5 1])))
def ic3:IC:=(.seq (.region [jb 2 0,jb 3 1,jw 4 .mv [jB false]])
 (.seq (.region [jF 6 2,jq (.store 1) [.t 0,jS]])
 (.seq (.seq (.region [jF 5 2,jl 0,je 1,jF 0 2,jG 3 3,jl 4,je 5,jw 21 (.bin .neq .int) [.t 2,.t 6]])
 (.cond 21 (.seq (.region [jk 4 [],jm 4 0])
 .ret)
 .skip))
 (.seq (.seq (.region [jz 5 0])
 (.block 0 (.loop ic3l1)))
 (.seq (.region [jN 7 2,jk 6 [.t 0],jt 1,jx 0 2,jx 1 2,jx 2 2,jt 3,jt 4,jm 10 5])
 (.seq (.region [jN 7 2,jF 3 3,jq (.loadN 4) [.t 1],jk 7 [.t 0,.t 2],jt 3,jx 0 4,jx 1 4,jw 11 (.alloc [(.cv .nils),(.cv (.int .i64 0))]) [],jq (.store 2) [.v 11,.t 5],jm 12 6])
 (.seq (.seq (.region [jv 10,jq (.bin .neq .int) [.t 0,jn 0],jt 1,jh 2 false 12,jg 2 false (.bin .neq .int) [.t 3,jn 0],jq .pick [.t 2,jB true,.t 4],jt 5,jg 6 false (.loadN 7) [.v 2],jg 6 false (.fadd 3) [.v 3],jg 6 false (.loadN 4) [.t 8],jf 6 false 8 [.t 7,.t 9],jg 6 false (.bin .neq .int) [.t 10,jn 0],jw 26 .pick [.t 6,jB true,.t 11]])
 (.cond 26 (.seq (.region [jv 12,jq (.bin .neq .int) [.t 0,jn 0],jt 1,jf 2 true 4 [],jq .pick [.t 2,.t 3,jB false],jm 4 4])
 .ret)
 .skip))
 (.seq (.region [jF 0 3,jq (.iaA 2 1) [.t 0,jn 0],jl 1,jk 9 [.t 2],jt 3,jx 0 4,jx 1 4,jm 13 5,jm 10 6])
 (.seq (.region [jF 0 3,jq (.iaA 2 1) [.t 0,jn 1],jl 1,jk 9 [.t 2],jt 3,jx 0 4,jx 1 4,jm 14 5,jm 15 6])
 (.seq (.seq (.region [jv 10,jq (.bin .neq .int) [.t 0,jn 0],jt 1,jh 2 false 15,jg 2 false (.bin .neq .int) [.t 3,jn 0],jw 27 .pick [.t 2,jB true,.t 4]])
 (.cond 27 (.seq (.region [jk 4 [],jm 4 0])
 .ret)
 .skip))
 (.seq (.seq (.region [jF 0 11,jl 0,je 1,jq (.bin .eql .int) [.t 2,jn 0],jt 3,jh 4 false 13,jg 4 false (.bin .lss .int) [.t 5,jn 0],jq .pick [.t 4,jB true,.t 6],jt 7,jh 8 false 14,jg 8 false (.bin .lss .int) [.t 9,jn 0],jw 28 .pick [.t 8,jB true,.t 10]])
 (.cond 28 (.seq (.region [jw 4 .mv [jB false]])
 .ret)
 .skip))
 (.seq (.dr [[],[0],[],[],[3],[4],[2,5],[1,6],[7],[],[9],[],[],[12],[13],[11,14],[10,15],[16],[8,0,1,2,3,4,5,6,7,8],[17,18,0,1,2,3,4,5,6,7,8,9,10,11,12,13,14,15,16,17,18]] [jF 0 11,jl 0,jv 13,jF 0 11,jl 3,je 4,jq (.bin .rem .int) [.t 2,.t 5],ja 1 1 6,jl 7,jF 0 11,jl 9,jv 14,jF 0 11,jl 12,je 13,jq (.bin .rem .int) [.t 11,.t 14],ja 1 10 15,jl 16,jm 16 8,jm 17 17])
 (.seq (.seq (.region [jv 16,jq (.bin .lss .int) [.t 0,jn 0],jt 1,jh 2 false 16,jg 2 false (.fadd 6) [.v 2],ji 2 false 4,jg 2 false (.len false) [.t 5],jg 2 false (.bin .geq .int) [.t 3,.t 6],jq .pick [.t 2,jB true,.t 7],jt 8,jh 9 false 17,jg 9 false (.bin .lss .int) [.t 10,jn 0],jq .pick [.t 9,jB true,.t 11],jt 12,jh 13 false 17,jg 13 false (.fadd 6) [.v 2],ji 13 false 15,jg 13 false (.len false) [.t 16],jg 13 false (.bin .geq .int) [.t 14,.t 17],jw 29 .pick [.t 13,jB true,.t 18]])
 (.cond 29 (.seq (.region [jw 4 .mv [jB false]])
 .ret)
 .skip))
 (.seq (.region [jN 7 2,jF 2 3,jl 1,jk 10 [.t 0,.t 2],jm 18 3])
 (.seq (.region [jN 7 2,jv 16,jv 18,jk 11 [.t 0,.t 1,.t 2],jt 3,jx 0 4,jx 1 4,jm 19 5,jm 10 6])
 (.seq (.region [jN 7 2,jv 17,jv 18,jk 11 [.t 0,.t 1,.t 2],jt 3,jx 0 4,jx 1 4,jm 20 5,jm 15 6])
 (.seq (.seq (.region [jv 10,jq (.bin .neq .int) [.t 0,jn 0],jt 1,jh 2 false 15,jg 2 false (.bin .neq .int) [.t 3,jn 0],jq .pick [.t 2,jB true,.t 4],jt 5,jh 6 false 19,jh 6 false 20,jg 6 false (.bin .sub .int) [.t 7,.t 8],jh 6 false 20,jh 6 false 19,jg 6 false (.bin .sub .int) [.t 10,.t 11],jg 6 false .max2 [.t 9,.t 12],jg 6 false (.fadd 1) [.v 11],ji 6 false 14,jg 6 false (.bin .gtr .int) [.t 13,.t 15],jw 30 .pick [.t 6,jB true,.t 16]])
 (.cond 30 (.seq (.region [jw 4 .mv [jB false]])
 .ret)
 .skip))
 (.seq (.region [jN 7 2,jF 3 3,jG 2 1,jl 2,jF 3 3,jG 3 4,jl 5,jq (.build [(.cv (.int .i64 0)),(.cv (.int .i64 0)),(.cv (.int .i64 0)),(.cv (.int .i64 0))] [(0,1),(2,1),(3,1)]) [jn 1,.t 3,.t 6],jv 16,jq (.bslice 1 1 [(.cv (.int .i64 0))] [(0,1)]) [.t 8],jk 12 [.t 0,.t 7,.t 9],jt 10,jg 11 true (.loadN 7) [.v 2],jg 11 true (.fadd 3) [.v 3],jg 11 true (.fadd 2) [.t 13],ji 11 true 14,jg 11 true (.fadd 3) [.v 3],jg 11 true (.fadd 3) [.t 16],ji 11 true 17,jg 11 true (.build [(.cv (.int .i64 0)),(.cv (.int .i64 0)),(.cv (.int .i64 0)),(.cv (.int .i64 0))] [(0,1),(2,1),(3,1)]) [jn 1,.t 15,.t 18],jh 11 true 17,jg 11 true (.bslice 1 1 [(.cv (.int .i64 0))] [(0,1)]) [.t 20],jf 11 true 12 [.t 12,.t 19,.t 21],jq .pick [.t 11,.t 22,jB false],jt 23,jf 24 true 4 [],jq .pick [.t 24,.t 25,jB false],jm 4 26])
 .ret))))))))))))))))))
abbrev rs3:List RC:=[(.v 4)]
theorem fok3 (p:Bool):FnOk Tryz.prog 3 ⟨ic3,vs3,273,rs3,p⟩:=.mk2 Tryz.func3 (by kernel_rfl) (by kernel_rfl) (by kernel_rfl) (by kernel_rfl) (by kernel_rfl)
abbrev vs4:List Nat:=[0,1,2,3,4,5,6,7,8,9,10,11,12,14]
def ic4:IC:=(.seq (.region [jw 0 .mv [jB false]])
 (.seq (.region [jk 14 [],jk 13 [.t 0,jn 1],jt 1,jx 0 2,jx 1 2,jw 1 (.alloc [(.cv (.int .i64 0)),(.cv (.int .i64 0))]) [],jq (.store 2) [.v 1,.t 3],jm 2 4])
 (.seq (.region [jk 14 [],jq (.bslice 1 4 [(.cv (.int .i64 0)),(.cv (.int .i64 0)),(.cv (.int .i64 0)),(.cv (.int .i64 0))] [(0,1),(1,1),(2,1),(3,1)]) [jn 5,jn 3,jn 0,jn 9],jk 11 [.t 0,jn 1,.t 1],jt 2,jx 0 3,jx 1 3,jm 3 4,jm 4 5])
 (.seq (.region [jk 14 [],jk 15 [.t 0,jn 0,jn 1],jt 1,jx 0 2,jx 1 2,jw 5 (.alloc [(.cv (.int .i64 0)),(.cv (.int .i64 0)),(.cv .nils),(.cv .nils)]) [],jq (.store 4) [.v 5,.t 3],jm 6 4])
 (.seq (.region [jk 14 [],jk 16 [.t 0,jn 0,jn 1],jt 1,jx 0 2,jx 1 2,jm 7 3,jm 8 4])
 (.seq (.region [jk 14 [],jq (.build [(.cv (.int .i64 0)),(.cv (.int .i64 0)),(.cv (.int .i64 0)),(.cv (.int .i64 0))] [(0,1),(1,1)]) [jn 2,jn 1],jk 7 [.t 0,.t 1],jt 2,jx 0 3,jx 1 3,jw 9 (.alloc [(.cv .nils),(.cv (.int .i64 0))]) [],jq (.store 2) [.v 9,.t 4],jm 10 5])
 (.seq (.region [jk 14 [],jq (.bslice 1 3 [(.cv (.int .i64 0)),(.cv (.int .i64 0)),(.cv (.int .i64 0))] [(0,1),(1,1),(2,1)]) [jn 0,jn 1,jn 2],jk 17 [.t 0,.t 1,jn 20],jt 2,jx 0 3,jx 1 3,jw 11 (.alloc [(.cv (.int .i64 0)),(.cv (.int .i64 0)),(.cv .nils)]) [],jq (.store 3) [.v 11,.t 4],jm 12 5])
 (.seq (.region [jk 14 [],jq (.build [(.cv (.int .i64 0)),(.cv (.int .i64 0)),(.cv (.int .i64 0)),(.cv (.int .i64 0))] [(0,1),(1,1)]) [jn 2,jn 4],jk 7 [.t 0,.t 1],jt 2,jx 0 3,jx 1 3,jq (.alloc [(.cv .nils),(.cv (.int .i64 0))]) [],jq (.store 2) [.t 6,.t 4],jm 13 5])
 (.seq (.dr [[],[0],[1],[2],[3,2],[2,4],[5,2],[6],[7,6],[6,8],[9,6],[10],[11,10],[10,12],[13,10],[14],[15,14],[14,16],[17,14],[18],[19,18],[18,20],[21,18],[22],[23,22],[22,24],[25,22],[26],[26,26],[27,28,26],[26,29],[30,28],[31],[32,31],[31,33],[34,31],[35],[35,35],[35],[35],[37,38,39,35],[36,40,37,35],[35,41],[42,41],[43],[43],[44,45,43,43],[43,46],[47,46],[48],[48],[50,48],[49,51,48,48],[48,52],[53,52],[54],[54],[56,54],[55,57,54,54],[54,58],[59,58,0,1,2,3,4,5,6,7,8,9,10,11,12,13,14,15,16,17,18,19,20,21,22,23,24,25,26,27,28,29,30,31,32,33,34,35,36,37,38,39,40,41,42,43,44,45,46,47,48,49,50,51,52,53,54,55,56,57,58,59]] [jv 2,jq (.bin .eql .int) [.t 0,jn 0],jt 1,jh 2 true 4,jg 2 true (.bin .eql .int) [.t 3,jn 0],jq .pick [.t 2,.t 4,jB false],jt 5,jh 6 true 6,jg 6 true (.bin .eql .int) [.t 7,jn 0],jq .pick [.t 6,.t 8,jB false],jt 9,jh 10 true 8,jg 10 true (.bin .eql .int) [.t 11,jn 0],jq .pick [.t 10,.t 12,jB false],jt 13,jh 14 true 10,jg 14 true (.bin .eql .int) [.t 15,jn 0],jq .pick [.t 14,.t 16,jB false],jt 17,jh 18 true 12,jg 18 true (.bin .eql .int) [.t 19,jn 0],jq .pick [.t 18,.t 20,jB false],jt 21,jh 22 true 13,jg 22 true (.bin .eql .int) [.t 23,jn 9],jq .pick [.t 22,.t 24,jB false],jt 25,jg 26 true (.loadN 2) [.v 1],jf 26 true 18 [jn 37,jn 136],jg 26 true (.eqS false (true,[(.int .i64),(.int .i64)])) [.t 27,.t 28],jq .pick [.t 26,.t 29,jB false],jt 30,jh 31 true 3,jg 31 true (.bin .eql .int) [.t 32,jn 136],jq .pick [.t 31,.t 33,jB false],jt 34,jg 35 true (.loadN 4) [.v 5],jf 35 true 18 [jn (-11),jn (-2)],jg 35 true (.bslice 1 4 [(.cv (.int .i64 0)),(.cv (.int .i64 0)),(.cv (.int .i64 0)),(.cv (.int .i64 0))] [(0,1),(1,1),(2,1),(3,1)]) [jn 5,jn 3,jn 0,jn 0],jg 35 true (.bslice 1 4 [(.cv (.int .i64 0)),(.cv (.int .i64 0)),(.cv (.int .i64 0)),(.cv (.int .i64 0))] [(0,1),(1,1),(2,1),(3,1)]) [jn 0,jn 1,jn 0,jn 0],jg 35 true (.build [(.cv (.int .i64 0)),(.cv (.int .i64 0)),(.cv .nils),(.cv .nils)] [(0,2),(2,1),(3,1)]) [.t 37,.t 38,.t 39],jf 35 true 19 [.t 36,.t 40],jq .pick [.t 35,.t 41,jB false],jt 42,jh 43 true 7,jg 43 true (.bslice 1 3 [(.cv (.int .i64 0)),(.cv (.int .i64 0)),(.cv (.int .i64 0))] [(0,1),(1,1),(2,1)]) [jn 0,jn 1,jn 2],jf 43 true 20 [.t 44,.t 45],jq .pick [.t 43,.t 46,jB false],jt 47,jg 48 true (.loadN 2) [.v 9],jg 48 true (.bslice 1 2 [(.cv (.int .i64 0)),(.cv (.int .i64 0))] [(0,1),(1,1)]) [jn 0,jn 1],jg 48 true (.build [(.cv .nils),(.cv (.int .i64 0))] [(0,1),(1,1)]) [.t 50,jn 11],jf 48 true 21 [.t 49,.t 51],jq .pick [.t 48,.t 52,jB false],jt 53,jg 54 true (.loadN 3) [.v 11],jg 54 true (.bslice 1 4 [(.cv (.int .i64 0)),(.cv (.int .i64 0)),(.cv (.int .i64 0)),(.cv (.int .i64 0))] [(0,1),(1,1),(2,1),(3,1)]) [jn 5,jn 1,jn 0,jn 0],jg 54 true (.build [(.cv (.int .i64 0)),(.cv (.int .i64 0)),(.cv .nils)] [(0,1),(1,1),(2,1)]) [jn 0,jn 2,.t 56],jf 54 true 22 [.t 55,.t 57],jq .pick [.t 54,.t 58,jB false],jm 0 59])
 .ret)))))))))
abbrev rs4:List RC:=[(.v 0)]
theorem fok4 (p:Bool):FnOk Tryz.prog 4 ⟨ic4,vs4,114,rs4,p⟩:=.mk2 Tryz.func4 (by kernel_rfl) (by kernel_rfl) (by kernel_rfl) (by kernel_rfl) (by kernel_rfl)
abbrev vs6:List Nat:=[0,1,2,3,4,7,8,9,29,47,49,55,65,72,83]
def ic6l0:IC:=(.seq (.seq (.region [jv 7,jF 6 1,jl 1,je 2,jw 13 (.bin .lss .int) [.t 0,.t 3]])
 (.cond 13 .skip
 (.exit 2)))
 (.seq (.block 3 (.seq (.dr [[],[],[1],[],[2,3],[4],[0,5],[6,6,0,1,2,3,4,5,6]] [jN 7 1,jF 6 1,jl 1,jv 7,ja 1 2 3,jl 4,jk 32 [.t 0,.t 5],jm 5 6])
 (.seq (.region [jv 5,jw 14 (.bin .neq .int) [.t 0,jn 0]])
 (.cond 14 (.seq (.region [jv 7,jv 5,jz 2 3,jm 3 0,jm 4 1])
 .ret)
 .skip))))
 (.region [jv 7,jq (.bin .add .int) [.t 0,jn 1],jm 7 1])))
def ic6l1:IC:=(.seq (.seq (.region [jv 6,jF 5 1,jl 1,je 2,jw 11 (.bin .lss .int) [.t 0,.t 3]])
 (.cond 11 .skip
 (.exit 0)))
 (.seq (.block 1 (.seq (.region [jF 5 1,jl 0,jv 6,ja 4 1 2,jq (.loadN 4) [.t 3],jk 31 [.t 4],jm 5 5])
 (.seq (.region [jv 5,jw 12 (.bin .neq .int) [.t 0,jn 0]])
 (.cond 12 (.seq (.region [jv 6,jv 5,jz 2 2,jm 3 0,jm 4 1])
 .ret)
 .skip))))
 (.region [jv 6,jq (.bin .add .int) [.t 0,jn 1],jm 6 1])))
def ic6:IC:=(.seq (.region [jb 1 0,jz 2 0,jz 3 0,jz 4 0])
 (.seq (.region [jF 0 1,jq (.loadN 4) [.t 0],jk 29 [.t 1],jt 2,jx 0 3,jx 1 3,jx 2 3,jt 4,jt 5,jm 5 6])
 (.seq (.seq (.region [jv 5,jq (.bin .eql .int) [.t 0,jn 0],jt 1,jg 2 true (.fadd 4) [.v 1],ji 2 true 3,jg 2 true (.fadd 0) [.v 1],jg 2 true (.fadd 0) [.t 5],ji 2 true 6,jg 2 true (.len false) [.t 7],jg 2 true (.bin .sub .int) [.t 8,jn 1],jf 2 true 30 [.t 4,jn 0,.t 9],jg 2 true .not [.t 10],jw 8 .pick [.t 2,.t 11,jB false]])
 (.cond 8 (.region [jz 5 4])
 .skip))
 (.seq (.seq (.region [jv 5,jq (.bin .eql .int) [.t 0,jn 0],jt 1,jg 2 true (.fadd 5) [.v 1],ji 2 true 3,jg 2 true (.len false) [.t 4],jg 2 true (.fadd 0) [.v 1],jg 2 true (.fadd 3) [.t 6],ji 2 true 7,jg 2 true (.len false) [.t 8],jg 2 true (.bin .neq .int) [.t 5,.t 9],jg 2 true .mv [.t 10],jg 11 false (.fadd 6) [.v 1],ji 11 false 12,jg 11 false (.len false) [.t 13],jg 11 false (.bin .gtr .int) [.t 14,jn 10],jg 2 true .pick [.t 11,jB true,.t 15],jw 9 .pick [.t 2,.t 16,jB false]])
 (.cond 9 (.region [jz 5 3])
 .skip))
 (.seq (.seq (.region [jv 5,jw 10 (.bin .neq .int) [.t 0,jn 0]])
 (.cond 10 (.seq (.region [jv 5,jz 2 1,jz 3 0,jm 4 0])
 .ret)
 .skip))
 (.seq (.seq (.region [jz 6 0])
 (.block 0 (.loop ic6l1)))
 (.seq (.seq (.region [jz 7 0])
 (.block 2 (.loop ic6l0)))
 (.seq (.region [jz 2 0,jz 3 0,jz 4 0])
 .ret))))))))
abbrev rs6:List RC:=[(.v 2),(.v 3),(.v 4)]
theorem fok6 (p:Bool):FnOk Tryz.prog 6 ⟨ic6,vs6,86,rs6,p⟩:=.mk2 Tryz.func6 (by kernel_rfl) (by kernel_rfl) (by kernel_rfl) (by kernel_rfl) (by kernel_rfl)
abbrev vs8:List Nat:=[0,1,2,3,4,26,35]
def ic8:IC:=(.seq (.region [jb 2 0,jb 3 1,jz 4 0])
 (.seq (.seq (.dr [[],[0],[1],[2],[3,2],[4],[5,4],[6,4,4],[7,4],[4,8],[9,7],[10],[11,10],[10],[13,10],[14,10],[15,10],[16,10,10],[17,10],[12,18,17,10],[19,10],[10,20]] [jF 0 3,jl 0,jk 30 [.t 1,jn 1,jn 10],jq .not [.t 2],jt 3,jg 4 false (.fadd 1) [.v 3],ji 4 false 5,jf 4 false 30 [.t 6,jn 0,jn 40],jg 4 false .not [.t 7],jq .pick [.t 4,jB true,.t 8],jt 9,jg 10 false (.fadd 2) [.v 3],ji 10 false 11,jg 10 false (.fadd 0) [.v 2],jg 10 false (.fadd 1) [.t 13],ji 10 false 14,jg 10 false (.len false) [.t 15],jf 10 false 40 [.t 16],jg 10 false (.bin .sub .int) [.t 17,jn 1],jf 10 false 30 [.t 12,jn 0,.t 18],jg 10 false .not [.t 19],jw 5 .pick [.t 10,jB true,.t 20]])
 (.cond 5 (.seq (.region [jz 4 7])
 .ret)
 .skip))
 (.seq (.seq (.region [jF 3 3,jl 0,jF 0 2,jG 2 2,jl 3,je 4,jq (.bin .sub .int) [.t 5,jn 1],jk 30 [.t 1,jn 0,.t 6],jw 6 .not [.t 7]])
 (.cond 6 (.seq (.region [jz 4 4])
 .ret)
 .skip))
 (.seq (.region [jz 4 0])
 .ret))))
abbrev rs8:List RC:=[(.v 4)]
theorem fok8 (p:Bool):FnOk Tryz.prog 8 ⟨ic8,vs8,36,rs8,p⟩:=.mk2 Tryz.func8 (by kernel_rfl) (by kernel_rfl) (by kernel_rfl) (by kernel_rfl) (by kernel_rfl)
abbrev vs9:List Nat:=[0,2,3,5,9,11,12,13,14]
def ic9l0:IC:=(.seq (.region [jw 8 (.bin .lss .int) [.v 7,.v 6]])
 (.seq (.cond 8 .skip
 (.exit 0))
 (.seq (.block 1 (.seq (.region [jq (.iaS 1) [.v 5,.v 7],jl 0,jm 3 1])
 (.region [jv 1,jq (.bin .mul .int) [.t 0,jn 1000003],jv 3,jq (.bin .add .int) [.t 1,.t 2],jq (.bin .add .int) [.t 3,jn 1],jq (.bin .rem .int) [.t 4,jn 2147483647],jm 1 5])))
 (.region [jq (.bin .add .int) [.v 7,jn 1],jm 7 0]))))
def ic9:IC:=(.seq (.region [jz 1 0,jz 2 0])
 (.seq (.seq (.region [jv 0,jk 41 [.t 0],jm 2 1])
 (.seq (.region [jv 2,jw 4 (.bin .neq .int) [.t 0,jn 0]])
 (.cond 4 (.seq (.region [jv 2,jz 1 0,jm 2 0])
 .ret)
 .skip)))
 (.seq (.seq (.region [jw 5 .mv [.v 0],jw 6 (.len false) [.v 5],jz 7 0])
 (.block 0 (.loop ic9l0)))
 (.seq (.region [jv 1,jm 1 0,jz 2 0])
 .ret))))
abbrev rs9:List RC:=[(.v 1),(.v 2)]
theorem fok9 (p:Bool):FnOk Tryz.prog 9 ⟨ic9,vs9,25,rs9,p⟩:=.mk2 Tryz.func9 (by kernel_rfl) (by kernel_rfl) (by kernel_rfl) (by kernel_rfl) (by kernel_rfl)
abbrev vs10:List Nat:=[0,1,2,4,5,6,7,8,13,18]
def ic10l0:IC:=(.seq (.seq (.region [jv 5,jF 5 2,jl 1,je 2,jw 8 (.bin .lss .int) [.t 0,.t 3]])
 (.cond 8 .skip
 (.exit 0)))
 (.seq (.block 1 (.seq (.region [jz 6 0])
 (.seq (.seq (.region [jv 1,je 0,jw 9 (.bin .gtr .int) [.t 1,jn 0]])
 (.cond 9 (.region [jv 1,jv 5,jv 1,je 2,jq (.bin .rem .int) [.t 1,.t 3],ja 1 0 4,jl 5,jq (.conv .i64) [.t 6],jm 6 7])
 .skip))
 (.seq (.region [jF 5 2,jl 0,jv 5,ja 4 1 2,jG 2 3,jq (.loadN 2) [.t 4],jw 7 (.alloc [(.cv (.int .i64 0)),(.cv (.int .i64 0))]) [],jq (.store 2) [.v 7,.t 5]])
 (.dr [[],[],[1],[],[],[4],[],[6],[5,7],[8],[3,9],[2,10],[11],[0,12],[13,13,0,1,2,3,4,5,6,7,8,9,10,11,12,13]] [jv 4,jF 0 7,jl 1,jv 6,jF 1 7,jl 4,jF 0 7,jl 6,jq (.bin .sub .int) [.t 5,.t 7],jq (.bin .add .int) [.t 8,jn 1],jq (.bin .rem .int) [.t 3,.t 9],jq (.bin .add .int) [.t 2,.t 10],jq (.bslice 1 1 [(.cv (.int .i64 0))] [(0,1)]) [.t 11],jq (.append 1 8) [.t 0,.t 12],jm 4 13])))))
 (.region [jv 5,jq (.bin .add .int) [.t 0,jn 1],jm 5 1])))
def ic10:IC:=(.seq (.region [jb 2 0,jw 3 .mv [jS]])
 (.seq (.region [jw 4 .mv [jS]])
 (.seq (.seq (.region [jz 5 0])
 (.block 0 (.loop ic10l0)))
 (.seq (.region [jv 4,jm 3 0])
 .ret))))
abbrev rs10:List RC:=[(.v 3)]
theorem fok10 (p:Bool):FnOk Tryz.prog 10 ⟨ic10,vs10,48,rs10,p⟩:=.mk2 Tryz.func10 (by kernel_rfl) (by kernel_rfl) (by kernel_rfl) (by kernel_rfl) (by kernel_rfl)
abbrev vs11:List Nat:=[0,1,2,3,6,7,8,9,10,18,22,36,37,38,39,54]
def ic11l0:IC:=(.seq (.region [jw 14 (.bin .lss .int) [.v 13,.v 12]])
 (.seq (.cond 14 .skip
 (.exit 1))
 (.seq (.block 2 (.seq (.region [jv 13,jq (.iaS 4) [.v 11,.v 13],jq (.loadN 4) [.t 1],jw 8 (.alloc [(.cv (.int .i64 0)),(.cv (.int .i64 0)),(.cv (.int .i64 0)),(.cv (.int .i64 0))]) [],jm 7 0,jq (.store 4) [.v 8,.t 2]])
 (.seq (.seq (.dr [[],[0],[1],[],[3],[4],[],[],[6,7],[8],[9],[2,5,10]] [jF 2 8,jG 0 0,jl 1,jF 2 8,jG 1 3,jl 4,jv 2,jv 7,ja 1 6 7,jl 8,jq (.bslice 1 1 [(.cv (.int .i64 0))] [(0,1)]) [.t 9],jd 15 34 [.t 2,.t 5,.t 10]])
 (.cond 15 (.seq (.region [jz 4 0,jz 5 7])
 .ret)
 .skip))
 (.dr [[],[],[1],[2],[3],[],[],[4,5],[7,6],[8],[],[10],[],[],[12,13],[14],[11,15],[9,16],[0,17],[18,16,0,1,2,3,4,5,6,7,8,9,10,11,12,13,14,15,16,17,18]] [jv 4,jv 6,jc 1,jG 7 2,jl 3,jv 1,jv 7,ja 40 4 5,jq (.iaA 40 1) [.t 7,.t 6],jl 8,jN 4 8,jq (.build [(.cv (.int .i64 0)),(.cv (.int .i64 0)),(.cv (.int .i64 0)),(.cv (.int .i64 0))] [(0,4)]) [.t 10],jv 2,jv 7,ja 1 12 13,jl 14,jk 42 [.t 11,.t 15],jq (.bin .mul .int) [.t 9,.t 16],jq (.bin .add .int) [.t 0,.t 17],jm 4 18]))))
 (.region [jq (.bin .add .int) [.v 13,jn 1],jm 13 0]))))
def ic11:IC:=(.seq (.region [jb 3 0,jz 4 0,jz 5 0])
 (.seq (.region [jN 7 3,jv 1,jq (.bslice 1 1 [(.cv (.int .i64 0))] [(0,1)]) [.t 1],jk 33 [.t 0,.t 2],jt 3,jx 0 4,jx 1 4,jm 6 5,jm 5 6])
 (.seq (.block 0 (.seq (.region [jv 5,jq (.bin .neq .int) [.t 0,jn 0],jm 9 1])
 (.cond 9 (.seq (.region [jv 5,jz 4 0,jm 5 0])
 .ret)
 (.seq (.region [jv 2,je 0,jv 6,jc 2,jG 0 3,jG 5 4,jl 5,je 6,jq (.bin .neq .int) [.t 1,.t 7],jm 10 8])
 (.cond 10 (.seq (.region [jz 4 0,jz 5 3])
 .ret)
 .skip)))))
 (.seq (.seq (.region [jv 6,jc 0,jG 0 1,jG 5 2,jw 11 .load1 [.t 3],jw 12 (.len false) [.v 11],jz 13 0])
 (.block 1 (.loop ic11l0)))
 (.seq (.region [jv 4,jm 4 0,jz 5 0])
 .ret)))))
abbrev rs11:List RC:=[(.v 4),(.v 5)]
theorem fok11 (p:Bool):FnOk Tryz.prog 11 ⟨ic11,vs11,76,rs11,p⟩:=.mk2 Tryz.func11 (by kernel_rfl) (by kernel_rfl) (by kernel_rfl) (by kernel_rfl) (by kernel_rfl)
abbrev vs12:List Nat:=[0,1,2,3,4,6,7,8,11,15,42,45,72]
def ic12l0:IC:=(.seq (.seq (.region [jv 8,jv 6,jw 11 (.bin .lss .int) [.t 0,.t 1]])
 (.cond 11 .skip
 (.exit 2)))
 (.seq (.block 3 (.seq (.dr [[],[],[],[1,2],[3],[],[],[5,6],[7],[0,4,8],[9],[],[11],[10,12],[13,9],[14],[14],[15,16,14],[17,14],[14],[14],[19,20,14],[21,14],[18,22,14],[14,23]] [jN 7 3,jv 2,jv 8,ja 1 1 2,jl 3,jv 2,jv 6,ja 1 5 6,jl 7,jk 45 [.t 0,.t 4,.t 8],je 9,jF 1 4,jl 11,jq (.bin .lss .int) [.t 10,.t 12],jt 13,jh 14 false 2,jh 14 false 8,jg 14 false (.iaS 1) [.t 15,.t 16],ji 14 false 17,jh 14 false 2,jh 14 false 6,jg 14 false (.iaS 1) [.t 19,.t 20],ji 14 false 21,jg 14 false (.bin .eql .int) [.t 18,.t 22],jw 12 .pick [.t 14,jB true,.t 23]])
 (.cond 12 (.seq (.region [jw 5 .mv [jB false]])
 .ret)
 .skip)))
 (.region [jv 8,jq (.bin .add .int) [.t 0,jn 1],jm 8 1])))
def ic12l1:IC:=(.seq (.seq (.region [jv 6,jv 2,je 1,jw 9 (.bin .lss .int) [.t 0,.t 2]])
 (.cond 9 .skip
 (.exit 0)))
 (.seq (.block 1 (.seq (.dr [[],[0],[],[2],[],[4],[],[6],[],[],[8,9],[10],[7,11],[12],[1,3,5,13],[14],[15],[15],[15],[],[19,16,14,0,1,2,3,4,5,6,7,8,9,10,11,12,13,14,15,16,19],[17,20,0,1,2,3,4,5,6,7,8,9,10,11,12,13,14,15,16,17,19,20],[18,21,0,1,2,3,4,5,6,7,8,9,10,11,12,13,14,15,16,17,18,19,20,21]] [jF 0 3,jq (.loadN 4) [.t 0],jF 4 3,jl 2,jF 3 4,jl 4,jF 6 3,jl 6,jv 2,jv 6,ja 1 8 9,jl 10,ja 1 7 11,jl 12,jk 43 [.t 1,.t 3,.t 5,.t 13],jt 14,jx 0 15,jx 1 15,jx 2 15,jw 7 (.alloc [(.cv .nils),(.cv (.int .i64 0)),(.cv (.int .i64 0)),(.cv (.int .i64 0)),(.cv (.int .i64 0))]) [],jq (.store 5) [.v 7,.t 16],jt 17,jt 18])
 (.seq (.seq (.region [jF 2 4,jl 0,jF 4 7,jl 2,jk 44 [.t 1,.t 3],jw 10 (.bin .neq .int) [.t 4,jn 0]])
 (.cond 10 (.seq (.region [jw 5 .mv [jB false]])
 .ret)
 .skip))
 (.seq (.region [jz 8 0])
 (.block 2 (.loop ic12l0))))))
 (.region [jv 6,jq (.bin .add .int) [.t 0,jn 1],jm 6 1])))
def ic12:IC:=(.seq (.region [jb 3 0,jb 4 1,jw 5 .mv [jB false]])
 (.seq (.seq (.region [jz 6 0])
 (.block 0 (.loop ic12l1)))
 (.seq (.region [jv 2,je 0,jF 0 4,jl 2,jq (.bin .eql .int) [.t 1,.t 3],jm 5 4])
 .ret)))
abbrev rs12:List RC:=[(.v 5)]
theorem fok12 (p:Bool):FnOk Tryz.prog 12 ⟨ic12,vs12,78,rs12,p⟩:=.mk2 Tryz.func12 (by kernel_rfl) (by kernel_rfl) (by kernel_rfl) (by kernel_rfl) (by kernel_rfl)
abbrev vs13:List Nat:=[0,1,2,4,5,6,7,8,9,10,19,26,27,28,29]
def ic13l0:IC:=(.seq (.region [jw 14 (.bin .lss .int) [.v 13,.v 12]])
 (.seq (.cond 14 .skip
 (.exit 0))
 (.seq (.block 1 (.seq (.region [jv 13,jq (.iaS 4) [.v 11,.v 13],jq (.loadN 4) [.t 1],jw 8 (.alloc [(.cv (.int .i64 0)),(.cv (.int .i64 0)),(.cv (.int .i64 0)),(.cv (.int .i64 0))]) [],jm 7 0,jq (.store 4) [.v 8,.t 2]])
 (.seq (.region [jv 5,jc 0,jG 7 1,jl 2,jv 1,jv 7,ja 40 3 4,jq (.iaA 40 1) [.t 6,.t 5],jl 7,jm 9 8])
 (.seq (.dr [[],[0],[],[],[],[4],[],[6],[7],[3,5,8],[2,9],[1,10],[0,1,2,3,4,5,6,7,8,9,10,11],[12,11,9,0,1,2,3,4,5,6,7,8,9,10,11]] [jF 0 3,jl 0,jv 9,jv 6,jN 4 8,jq (.build [(.cv (.int .i64 0)),(.cv (.int .i64 0)),(.cv (.int .i64 0)),(.cv (.int .i64 0))] [(0,4)]) [.t 4],jF 2 8,jG 0 6,jl 7,⟨none,none,.call,[(.t 3),(.t 5),(.t 8)]⟩,jq (.bin .mul .int) [.t 2,.t 9],jq (.bin .add .int) [.t 1,.t 10],jF 0 3,jq (.store 1) [.t 12,.t 11]])
 (.dr [[],[0],[],[],[],[4],[],[6],[7],[3,5,8],[2,9],[1,10],[0,1,2,3,4,5,6,7,8,9,10,11],[12,11,9,0,1,2,3,4,5,6,7,8,9,10,11]] [jF 1 3,jl 0,jv 9,jv 6,jN 4 8,jq (.build [(.cv (.int .i64 0)),(.cv (.int .i64 0)),(.cv (.int .i64 0)),(.cv (.int .i64 0))] [(0,4)]) [.t 4],jF 2 8,jG 1 6,jl 7,⟨none,none,.call,[(.t 3),(.t 5),(.t 8)]⟩,jq (.bin .mul .int) [.t 2,.t 9],jq (.bin .add .int) [.t 1,.t 10],jF 1 3,jq (.store 1) [.t 12,.t 11]])))))
 (.region [jq (.bin .add .int) [.v 13,jn 1],jm 13 0]))))
def ic13:IC:=(.seq (.region [jb 2 0,jw 3 (.alloc [(.cv (.int .i64 0)),(.cv (.int .i64 0))]) [],jz 4 0])
 (.seq (.region [jN 7 2,jv 1,jq (.bslice 1 1 [(.cv (.int .i64 0))] [(0,1)]) [.t 1],jk 33 [.t 0,.t 2],jt 3,jx 0 4,jx 1 4,jm 5 5,jm 4 6])
 (.seq (.seq (.region [jv 4,jw 10 (.bin .neq .int) [.t 0,jn 0]])
 (.cond 10 (.seq (.region [jN 2 3,jv 4,jq (.store 2) [.v 3,.t 0],jm 4 1])
 .ret)
 .skip))
 (.seq (.region [jw 6 .mv [.c (.fn (.func 42) [])]])
 (.seq (.seq (.region [jv 5,jc 0,jG 0 1,jG 5 2,jw 11 .load1 [.t 3],jw 12 (.len false) [.v 11],jz 13 0])
 (.block 0 (.loop ic13l0)))
 (.seq (.region [jN 2 3,jq (.store 2) [.v 3,.t 0],jz 4 0])
 .ret))))))
abbrev rs13:List RC:=[(.lN 3 2),(.v 4)]
theorem fok13 (p:Bool):FnOk Tryz.prog 13 ⟨ic13,vs13,70,rs13,p⟩:=.mk2 Tryz.func13 (by kernel_rfl) (by kernel_rfl) (by kernel_rfl) (by kernel_rfl) (by kernel_rfl)
abbrev vs14:List Nat:=[0]
def ic14:IC:=(.seq (.region [jw 0 (.alloc [(.cv .nils),(.cv .nils),(.cv .nils),(.cv .nils),(.cv (.int .i64 0)),(.cv .nils),(.cv .nils)]) []])
 (.seq (.region [jk 46 [],jk 18 [jn 0,jn 5],jq (.build [(.cv (.int .i64 0)),(.cv (.int .i64 0)),(.cv (.int .i64 0)),(.cv (.int .i64 0))] [(0,1),(1,1),(2,2)]) [jn 10,jn 1,.t 1],jk 18 [jn 1,jn 3],jq (.build [(.cv (.int .i64 0)),(.cv (.int .i64 0)),(.cv (.int .i64 0)),(.cv (.int .i64 0))] [(0,1),(1,1),(2,2)]) [jn 20,jn 2,.t 3],jq (.build [(.cv (.int .i64 0)),(.cv (.int .i64 0)),(.cv (.int .i64 0)),(.cv (.int .i64 0))] [(0,1)]) [jn 30],jk 18 [jn 0,jn 9],jq (.build [(.cv (.int .i64 0)),(.cv (.int .i64 0)),(.cv (.int .i64 0)),(.cv (.int .i64 0))] [(0,1),(1,1),(2,2)]) [jn 5,jn 10,.t 6],jq (.bslice 4 4 [(.cv (.int .i64 0)),(.cv (.int .i64 0)),(.cv (.int .i64 0)),(.cv (.int .i64 0)),(.cv (.int .i64 0)),(.cv (.int .i64 0)),(.cv (.int .i64 0)),(.cv (.int .i64 0)),(.cv (.int .i64 0)),(.cv (.int .i64 0)),(.cv (.int .i64 0)),(.cv (.int .i64 0)),(.cv (.int .i64 0)),(.cv (.int .i64 0)),(.cv (.int .i64 0)),(.cv (.int .i64 0))] [(0,4),(4,4),(8,4),(12,4)]) [.t 2,.t 4,.t 5,.t 7],jq (.build [(.cv (.int .i64 0)),(.cv (.bool false))] [(0,1)]) [jn 2],jq (.build [(.cv (.int .i64 0)),(.cv (.bool false))] [(0,1)]) [jn 3],jq (.bslice 2 2 [(.cv (.int .i64 0)),(.cv (.bool false)),(.cv (.int .i64 0)),(.cv (.bool false))] [(0,2),(2,2)]) [.t 9,.t 10],jq (.build [(.cv (.int .i64 0)),(.cv (.bool false))] [(0,1)]) [jn 0],jq (.build [(.cv (.int .i64 0)),(.cv (.bool false))] [(0,1)]) [jn 1],jq (.build [(.cv (.int .i64 0)),(.cv (.bool false))] [(0,1)]) [jn 3],jq (.bslice 2 3 [(.cv (.int .i64 0)),(.cv (.bool false)),(.cv (.int .i64 0)),(.cv (.bool false)),(.cv (.int .i64 0)),(.cv (.bool false))] [(0,2),(2,2),(4,2)]) [.t 12,.t 13,.t 14],jq (.build [(.cv (.int .i64 0)),(.cv (.bool false))] [(0,1)]) [jn 0],jq (.build [(.cv (.int .i64 0)),(.cv (.bool false))] [(0,1),(1,1)]) [jn 0,jB true],jq (.build [(.cv (.int .i64 0)),(.cv (.bool false))] [(0,1)]) [jn 2],jq (.build [(.cv (.int .i64 0)),(.cv (.bool false))] [(0,1)]) [jn 3],jq (.bslice 2 4 [(.cv (.int .i64 0)),(.cv (.bool false)),(.cv (.int .i64 0)),(.cv (.bool false)),(.cv (.int .i64 0)),(.cv (.bool false)),(.cv (.int .i64 0)),(.cv (.bool false))] [(0,2),(2,2),(4,2),(6,2)]) [.t 16,.t 17,.t 18,.t 19],jq (.bslice 1 3 [(.cv .nils),(.cv .nils),(.cv .nils)] [(0,1),(1,1),(2,1)]) [.t 11,.t 15,.t 20],jq (.build [(.cv .nils),(.cv .nils),(.cv .nils),(.cv .nils),(.cv (.int .i64 0)),(.cv .nils),(.cv .nils)] [(0,4),(5,1),(6,1)]) [.t 0,.t 8,.t 21],jq (.store 7) [.v 0,.t 22]])
 .ret))
abbrev rs14:List RC:=[(.lN 0 7)]
theorem fok14 (p:Bool):FnOk Tryz.prog 14 ⟨ic14,vs14,24,rs14,p⟩:=.mk2 Tryz.func14 (by kernel_rfl) (by kernel_rfl) (by kernel_rfl) (by kernel_rfl) (by kernel_rfl)
abbrev vs15:List Nat:=[0,1,2,3,6,7,8,9,19]
def ic15:IC:=(.seq (.region [jb 3 0,jw 4 (.alloc [(.cv (.int .i64 0)),(.cv (.int .i64 0)),(.cv .nils),(.cv .nils)]) [],jz 5 0])
 (.seq (.region [jN 7 3,jv 1,jv 2,jq (.bslice 1 2 [(.cv (.int .i64 0)),(.cv (.int .i64 0))] [(0,1),(1,1)]) [.t 1,.t 2],jk 33 [.t 0,.t 3],jt 4,jx 0 5,jx 1 5,jm 6 6,jm 7 7])
 (.seq (.seq (.region [jv 7,jw 8 (.bin .neq .int) [.t 0,jn 0]])
 (.cond 8 (.seq (.region [jq (.build [(.cv (.int .i64 0)),(.cv (.int .i64 0)),(.cv .nils),(.cv .nils)] []) [],jv 7,jq (.store 4) [.v 4,.t 0],jm 5 1])
 .ret)
 .skip))
 (.seq (.region [jv 6,jv 1,jv 2,jk 47 [.t 0,.t 1,.t 2],jq (.store 4) [.v 4,.t 3],jz 5 0])
 .ret))))
abbrev rs15:List RC:=[(.lN 4 4),(.v 5)]
theorem fok15 (p:Bool):FnOk Tryz.prog 15 ⟨ic15,vs15,26,rs15,p⟩:=.mk2 Tryz.func15 (by kernel_rfl) (by kernel_rfl) (by kernel_rfl) (by kernel_rfl) (by kernel_rfl)
abbrev vs16:List Nat:=[0,1,2,3,6,7,8,9,19]
def ic16:IC:=(.seq (.region [jb 3 0,jw 4 .mv [jS],jz 5 0])
 (.seq (.region [jN 7 3,jv 1,jv 2,jq (.bslice 1 2 [(.cv (.int .i64 0)),(.cv (.int .i64 0))] [(0,1),(1,1)]) [.t 1,.t 2],jk 33 [.t 0,.t 3],jt 4,jx 0 5,jx 1 5,jm 6 6,jm 7 7])
 (.seq (.seq (.region [jv 7,jw 8 (.bin .neq .int) [.t 0,jn 0]])
 (.cond 8 (.seq (.region [jv 7,jw 4 .mv [jS],jm 5 0])
 .ret)
 .skip))
 (.seq (.region [jv 6,jv 1,jv 2,jk 38 [.t 0,.t 1,.t 2],jm 4 3,jz 5 0])
 .ret))))
abbrev rs16:List RC:=[(.v 4),(.v 5)]
theorem fok16 (p:Bool):FnOk Tryz.prog 16 ⟨ic16,vs16,25,rs16,p⟩:=.mk2 Tryz.func16 (by kernel_rfl) (by kernel_rfl) (by kernel_rfl) (by kernel_rfl) (by kernel_rfl)
theorem hb17:Tryz.f17.body=some (Tryz.f17.body.getD .skip):=by kernel_rfl
abbrev vs17:List Nat:=[0,1,2,3,5,6,7,8,9,10,11,17,22,27,38,44,45,46,56,63]
def ic17 (b17:Code):IC:=(.seq (.region [jb 3 0,jb 4 2,jw 5 (.alloc [(.cv (.int .i64 0)),(.cv (.int .i64 0)),(.cv .nils)]) [],jw 6 (.alloc [(.cv (.int .i64 0))]) []])
 (.seq (.region [jN 7 3,jk 33 [.t 0,jS],jt 1,jx 0 2,jx 1 2,jw 7 (.alloc [(.cv .nilp)]) [],jq (.store 1) [.v 7,.t 3],jq (.store 1) [.v 6,.t 4]])
 (.seq (.block 0 (.seq (.region [jL 6,jq (.bin .neq .int) [.t 0,jn 0],jm 11 1])
 (.cond 11 (.seq (.dr [[],[],[0,0],[1,2,0,1,2]] [jN 3 5,jL 6,jq (.store 3) [.v 5,.t 0],jq (.store 1) [.v 6,.t 1]])
 .ret)
 (.seq (.region [jv 1,je 0,jq (.bin .gtr .int) [.t 1,jn 10],jm 12 2])
 (.cond 12 (.seq (.region [jN 3 5,jq (.store 3) [.v 5,.t 0],jq (.store 1) [.v 6,jn 3]])
 .ret)
 (.seq (.region [jL 7,jc 0,jG 0 1,jG 6 2,jl 3,je 4,jq (.bin .sub .int) [.t 5,jn 1],jv 1,jk 34 [jn 0,.t 6,.t 7],jm 13 8])
 (.cond 13 (.seq (.region [jN 3 5,jq (.store 3) [.v 5,.t 0],jq (.store 1) [.v 6,jn 4]])
 .ret)
 (.seq (.region [jL 4,jq (.bslice 1 1 [(.cv (.int .i64 0))] [(0,1)]) [.t 0],jk 34 [jn 0,jn 1000000,.t 1],jm 14 2])
 (.cond 14 (.seq (.region [jN 3 5,jq (.store 3) [.v 5,.t 0],jq (.store 1) [.v 6,jn 7]])
 .ret)
 .skip)))))))))
 (.seq (.seq (.region [jv 1,jd 15 48 [.t 0]])
 (.block 1 (.rangef (.v 15) #[45,46] (nav [1,1,1,0,1,0,2] b17) (nav [1,1,1,0,1,0,3] b17) (.seq (.region [jw 8 .mv [.v 16]])
 (.region [jw 9 .mv [.v 17]]))
 (.block 2 (.seq (.region [jL 7,jv 8,jv 9,jk 47 [.t 0,.t 1,.t 2],jw 10 (.alloc [(.cv (.int .i64 0)),(.cv (.int .i64 0)),(.cv .nils),(.cv .nils)]) [],jq (.store 4) [.v 10,.t 3]])
 (.block 3 (.seq (.dr [[],[],[],[0,1,2],[],[3,4],[5,3]] [jL 7,jv 8,jv 9,jk 39 [.t 0,.t 1,.t 2],jL 4,jq (.bin .leq .int) [.t 3,.t 4],jm 18 5])
 (.cond 18 .skip
 (.seq (.region [jF 0 10,jG 0 0,jl 1,jq (.bin .sub .int) [.t 2],jF 0 10,jG 1 4,jl 5,jq (.bin .geq .int) [.t 3,.t 6],jm 19 7])
 (.cond 19 (.seq (.region [jv 8,jv 9,jF 2 10,jl 2,jq (.build [(.cv (.int .i64 0)),(.cv (.int .i64 0)),(.cv .nils)] [(0,1),(1,1),(2,1)]) [.t 0,.t 1,.t 3],jq (.store 3) [.v 5,.t 4],jq (.store 1) [.v 6,jn 0]])
 .ret)
 (.seq (.region [jv 8,jv 9,jF 3 10,jl 2,jq (.build [(.cv (.int .i64 0)),(.cv (.int .i64 0)),(.cv .nils)] [(0,1),(1,1),(2,1)]) [.t 0,.t 1,.t 3],jq (.store 3) [.v 5,.t 4],jq (.store 1) [.v 6,jn 0]])
 .ret)))))))))))
 (.seq (.region [jq (.build [(.cv (.int .i64 0)),(.cv (.int .i64 0)),(.cv .nils)] [(0,1),(1,1)]) [jn (-1),jn (-1)],jq (.store 3) [.v 5,.t 0],jq (.store 1) [.v 6,jn 0]])
 .ret)))))
theorem cc17:QL Tryz.prog vs17 Tryz.f17.ntmps (Tryz.f17.body.getD .skip)=some (ic17 (Tryz.f17.body.getD .skip)):=by kernel_rfl
abbrev rs17:List RC:=[(.lN 5 3),(.l1 6)]
theorem fok17 (p:Bool):FnOk Tryz.prog 17 ⟨ic17 (Tryz.f17.body.getD .skip),vs17,78,rs17,p⟩:=FnOk.mk' Tryz.func17 hb17 (by kernel_rfl) cc17 (by kernel_rfl) (by kernel_rfl)
abbrev vs18:List Nat:=[0,1,4]
def ic18:IC:=(.seq (.region [jw 2 (.alloc [(.cv (.int .i64 0)),(.cv (.int .i64 0))]) []])
 (.seq (.region [jv 0,jv 1,jq (.build [(.cv (.int .i64 0)),(.cv (.int .i64 0))] [(0,1),(1,1)]) [.t 0,.t 1],jq (.store 2) [.v 2,.t 2]])
 .ret))
abbrev rs18:List RC:=[(.lN 2 2)]
theorem fok18 (p:Bool):FnOk Tryz.prog 18 ⟨ic18,vs18,8,rs18,p⟩:=.mk2 Tryz.func18 (by kernel_rfl) (by kernel_rfl) (by kernel_rfl) (by kernel_rfl) (by kernel_rfl)
abbrev vs19:List Nat:=[0,1,2,3,4]
def ic19:IC:=(.seq (.region [jb 2 0,jb 3 1,jw 4 .mv [jB false]])
 (.seq (.region [jF 0 2,jq (.loadN 2) [.t 0],jF 0 3,jq (.loadN 2) [.t 2],jq (.eqS false (true,[(.int .i64),(.int .i64)])) [.t 1,.t 3],jt 4,jg 5 true (.fadd 2) [.v 2],ji 5 true 6,jg 5 true (.fadd 2) [.v 3],ji 5 true 8,jf 5 true 20 [.t 7,.t 9],jq .pick [.t 5,.t 10,jB false],jt 11,jg 12 true (.fadd 3) [.v 2],ji 12 true 13,jg 12 true (.fadd 3) [.v 3],ji 12 true 15,jf 12 true 20 [.t 14,.t 16],jq .pick [.t 12,.t 17,jB false],jm 4 18])
 .ret))
abbrev rs19:List RC:=[(.v 4)]
theorem fok19 (p:Bool):FnOk Tryz.prog 19 ⟨ic19,vs19,24,rs19,p⟩:=.mk2 Tryz.func19 (by kernel_rfl) (by kernel_rfl) (by kernel_rfl) (by kernel_rfl) (by kernel_rfl)
abbrev vs20:List Nat:=[0,1,4,5,10,14,25]
def ic20l0:IC:=(.seq (.seq (.region [jv 3,jv 0,je 1,jw 5 (.bin .lss .int) [.t 0,.t 2]])
 (.cond 5 .skip
 (.exit 0)))
 (.seq (.block 1 (.seq (.dr [[],[],[0,1],[2],[],[],[4,5],[6],[3,7]] [jv 0,jv 3,ja 1 0 1,jl 2,jv 1,jv 3,ja 1 4 5,jl 6,jw 6 (.bin .neq .int) [.t 3,.t 7]])
 (.cond 6 (.seq (.region [jw 2 .mv [jB false]])
 .ret)
 .skip)))
 (.region [jv 3,jq (.bin .add .int) [.t 0,jn 1],jm 3 1])))
def ic20:IC:=(.seq (.region [jw 2 .mv [jB false]])
 (.seq (.seq (.region [jv 0,je 0,jv 1,je 2,jw 4 (.bin .neq .int) [.t 1,.t 3]])
 (.cond 4 (.seq (.region [jw 2 .mv [jB false]])
 .ret)
 .skip))
 (.seq (.seq (.region [jz 3 0])
 (.block 0 (.loop ic20l0)))
 (.seq (.region [jw 2 .mv [jB true]])
 .ret))))
abbrev rs20:List RC:=[(.v 2)]
theorem fok20 (p:Bool):FnOk Tryz.prog 20 ⟨ic20,vs20,26,rs20,p⟩:=.mk2 Tryz.func20 (by kernel_rfl) (by kernel_rfl) (by kernel_rfl) (by kernel_rfl) (by kernel_rfl)
abbrev vs21:List Nat:=[0,1,2,3,4]
def ic21:IC:=(.seq (.region [jb 2 0,jb 3 1,jw 4 .mv [jB false]])
 (.seq (.region [jF 1 2,jl 0,jF 1 3,jl 2,jq (.bin .eql .int) [.t 1,.t 3],jt 4,jg 5 true (.fadd 0) [.v 2],ji 5 true 6,jg 5 true (.fadd 0) [.v 3],ji 5 true 8,jf 5 true 20 [.t 7,.t 9],jq .pick [.t 5,.t 10,jB false],jm 4 11])
 .ret))
abbrev rs21:List RC:=[(.v 4)]
theorem fok21 (p:Bool):FnOk Tryz.prog 21 ⟨ic21,vs21,17,rs21,p⟩:=.mk2 Tryz.func21 (by kernel_rfl) (by kernel_rfl) (by kernel_rfl) (by kernel_rfl) (by kernel_rfl)
abbrev vs22:List Nat:=[0,1,2,3,4]
def ic22:IC:=(.seq (.region [jb 2 0,jb 3 1,jw 4 .mv [jB false]])
 (.seq (.region [jF 0 2,jl 0,jF 0 3,jl 2,jq (.bin .eql .int) [.t 1,.t 3],jt 4,jg 5 true (.fadd 1) [.v 2],ji 5 true 6,jg 5 true (.fadd 1) [.v 3],ji 5 true 8,jg 5 true (.bin .eql .int) [.t 7,.t 9],jq .pick [.t 5,.t 10,jB false],jt 11,jg 12 true (.fadd 2) [.v 2],ji 12 true 13,jg 12 true (.fadd 2) [.v 3],ji 12 true 15,jf 12 true 20 [.t 14,.t 16],jq .pick [.t 12,.t 17,jB false],jm 4 18])
 .ret))
abbrev rs22:List RC:=[(.v 4)]
theorem fok22 (p:Bool):FnOk Tryz.prog 22 ⟨ic22,vs22,24,rs22,p⟩:=.mk2 Tryz.func22 (by kernel_rfl) (by kernel_rfl) (by kernel_rfl) (by kernel_rfl) (by kernel_rfl)
abbrev vs30:List Nat:=[0,1,2,6]
def ic30:IC:=(.seq (.region [jw 3 .mv [jB false]])
 (.seq (.region [jv 0,jv 1,jq (.bin .geq .int) [.t 0,.t 1],jt 2,jh 3 true 0,jh 3 true 2,jg 3 true (.bin .leq .int) [.t 4,.t 5],jq .pick [.t 3,.t 6,jB false],jm 3 7])
 .ret))
abbrev rs30:List RC:=[(.v 3)]
theorem fok30 (p:Bool):FnOk Tryz.prog 30 ⟨ic30,vs30,15,rs30,p⟩:=.mk2 Tryz.func30 (by kernel_rfl) (by kernel_rfl) (by kernel_rfl) (by kernel_rfl) (by kernel_rfl)
abbrev vs31:List Nat:=[0,1,2,26,33]
def ic31:IC:=(.seq (.region [jb 1 0,jz 2 0])
 (.seq (.seq (.region [jF 0 1,jl 0,jk 30 [.t 1,jn 0,jn 1000],jq .not [.t 2],jt 3,jg 4 false (.fadd 1) [.v 1],ji 4 false 5,jf 4 false 30 [.t 6,jn 0,jn 100],jg 4 false .not [.t 7],jq .pick [.t 4,jB true,.t 8],jt 9,jg 10 false (.fadd 2) [.v 1],jg 10 false (.fadd 0) [.t 11],ji 10 false 12,jf 10 false 30 [.t 13,jn 0,jn 100],jg 10 false .not [.t 14],jq .pick [.t 10,jB true,.t 15],jt 16,jg 17 false (.fadd 2) [.v 1],jg 17 false (.fadd 1) [.t 18],ji 17 false 19,jf 17 false 30 [.t 20,jn 0,jn 100],jg 17 false .not [.t 21],jw 3 .pick [.t 17,jB true,.t 22]])
 (.cond 3 (.seq (.region [jz 2 7])
 .ret)
 .skip))
 (.seq (.seq (.region [jF 2 1,jG 0 0,jl 1,jF 2 1,jG 1 3,jl 4,jw 4 (.bin .gtr .int) [.t 2,.t 5]])
 (.cond 4 (.seq (.region [jz 2 2])
 .ret)
 .skip))
 (.seq (.region [jz 2 0])
 .ret))))
abbrev rs31:List RC:=[(.v 2)]
theorem fok31 (p:Bool):FnOk Tryz.prog 31 ⟨ic31,vs31,34,rs31,p⟩:=.mk2 Tryz.func31 (by kernel_rfl) (by kernel_rfl) (by kernel_rfl) (by kernel_rfl) (by kernel_rfl)
abbrev vs32:List Nat:=[0,1,2,4,5,6,10,27]
def ic32:IC:=(.seq (.region [jb 2 0,jz 3 0])
 (.seq (.seq (.region [jv 1,je 0,jk 30 [.t 1,jn 1,jn 60],jw 6 .not [.t 2]])
 (.cond 6 (.seq (.region [jz 3 3])
 .ret)
 .skip))
 (.seq (.region [jF 0 2,jq (.loadN 4) [.t 0],jF 4 2,jl 2,jv 1,jk 61 [.t 1,.t 3,.t 4],jt 5,jx 0 6,jx 1 6,jm 4 7,jm 5 8])
 (.seq (.seq (.region [jv 5,jq (.bin .eql .int) [.t 0,jn 0],jt 1,jh 2 true 4,jg 2 true (.fadd 4) [.v 2],ji 2 true 4,jg 2 true (.bin .neq .int) [.t 3,.t 5],jw 7 .pick [.t 2,.t 6,jB false]])
 (.cond 7 (.region [jz 5 9])
 .skip))
 (.seq (.region [jv 5,jm 3 0])
 .ret)))))
abbrev rs32:List RC:=[(.v 3)]
theorem fok32 (p:Bool):FnOk Tryz.prog 32 ⟨ic32,vs32,29,rs32,p⟩:=.mk2 Tryz.func32 (by kernel_rfl) (by kernel_rfl) (by kernel_rfl) (by kernel_rfl) (by kernel_rfl)
abbrev vs41:List Nat:=[0,2,3,8]
def ic41:IC:=(.seq (.region [jz 1 0])
 (.seq (.block 0 (.seq (.region [jv 0,je 0,jq (.bslice 1 1 [(.cv (.int .i64 0))] [(0,1)]) [.t 1],jk 66 [jn 1,jn 8,.t 2],jm 2 3])
 (.cond 2 (.seq (.region [jz 1 3])
 .ret)
 (.seq (.region [jv 0,jk 66 [jn 0,jn 1000000000,.t 0],jm 3 1])
 (.cond 3 (.seq (.region [jz 1 7])
 .ret)
 .skip)))))
 (.seq (.region [jz 1 0])
 .ret)))
abbrev rs41:List RC:=[(.v 1)]
theorem fok41 (p:Bool):FnOk Tryz.prog 41 ⟨ic41,vs41,11,rs41,p⟩:=.mk2 Tryz.func41 (by kernel_rfl) (by kernel_rfl) (by kernel_rfl) (by kernel_rfl) (by kernel_rfl)
abbrev vs43:List Nat:=[0,1,2,3,4,8,9,10,13,14,15,16,17,43,45,56,66]
def ic43l0:IC:=(.seq (.seq (.region [jv 11,jv 3,je 1,jw 16 (.bin .lss .int) [.t 0,.t 2]])
 (.cond 16 .skip
 (.exit 0)))
 (.seq (.block 1 (.seq (.dr [[],[0],[],[],[2,3],[4],[5],[1,6],[7],[],[9,8,0,1,2,3,4,5,6,7,8,9]] [jF 3 4,jl 0,jv 3,jv 11,ja 2 2 3,jG 0 4,jl 5,ja 7 1 6,jq (.loadN 7) [.t 7],jw 12 (.alloc [(.cv (.int .i64 0)),(.cv (.int .i64 0)),(.cv (.int .i64 0)),(.cv (.int .i64 0)),(.cv (.int .i64 0)),(.cv (.bool false)),(.cv .nils)]) [],jq (.store 7) [.v 12,.t 8]])
 (.seq (.region [jF 1 10,jl 0,jF 2 12,jl 2,jq (.bin .add .int) [.t 1,.t 3],jF 1 10,jq (.store 1) [.t 5,.t 4]])
 (.seq (.region [jF 2 10,jG 0 0,jl 1,jF 3 12,jG 0 3,jl 4,jq (.bin .add .int) [.t 2,.t 5],jF 2 10,jG 1 7,jl 8,jF 3 12,jG 1 10,jl 11,jq (.bin .add .int) [.t 9,.t 12],jq (.build [(.cv (.int .i64 0)),(.cv (.int .i64 0))] [(0,1),(1,1)]) [.t 6,.t 13],jF 2 10,jq (.store 2) [.t 15,.t 14]])
 (.dr [[],[0],[],[2],[],[3,4],[5],[1,6],[0,1,2,3,4,5,6,7],[8,7,7,0,1,2,3,4,5,6,7]] [jF 4 10,jl 0,jF 6 12,jl 2,jv 2,ja 1 3 4,jl 5,jk 67 [.t 1,.t 6],jF 4 10,jq (.store 1) [.t 8,.t 7]])))))
 (.region [jv 11,jq (.bin .add .int) [.t 0,jn 1],jm 11 1])))
def ic43:IC:=(.seq (.region [jb 4 0,jw 5 (.alloc [(.cv .nils),(.cv (.int .i64 0)),(.cv (.int .i64 0)),(.cv (.int .i64 0)),(.cv (.int .i64 0))]) [],jz 6 0,jz 7 0])
 (.seq (.region [jN 4 4,jk 29 [.t 0],jt 1,jx 0 2,jx 1 2,jx 2 2,jt 3,jt 4,jm 8 5])
 (.seq (.seq (.region [jv 8,jq (.bin .eql .int) [.t 0,jn 0],jt 1,jh 2 true 1,jg 2 true (.fadd 0) [.v 4],ji 2 true 4,jg 2 true (.len false) [.t 5],jg 2 true (.bin .sub .int) [.t 6,jn 1],jf 2 true 58 [.t 3,jn 0,.t 7],jg 2 true .not [.t 8],jg 2 true .mv [.t 9],jh 10 false 2,jg 10 false (.fadd 2) [.v 4],ji 10 false 12,jg 10 false (.len false) [.t 13],jg 10 false (.bin .sub .int) [.t 14,jn 1],jf 10 false 58 [.t 11,jn 0,.t 15],jg 10 false .not [.t 16],jg 2 true .pick [.t 10,jB true,.t 17],jw 13 .pick [.t 2,.t 18,jB false]])
 (.cond 13 (.region [jz 8 4])
 .skip))
 (.seq (.seq (.region [jv 8,jw 14 (.bin .neq .int) [.t 0,jn 0]])
 (.cond 14 (.seq (.region [jq (.build [(.cv .nils),(.cv (.int .i64 0)),(.cv (.int .i64 0)),(.cv (.int .i64 0)),(.cv (.int .i64 0))] []) [],jv 8,jq (.store 5) [.v 5,.t 0],jz 6 0,jm 7 1])
 .ret)
 .skip))
 (.seq (.region [jN 4 4,jv 1,jv 3,jk 61 [.t 0,.t 1,.t 2],jt 3,jx 0 4,jx 1 4,jm 9 5,jm 8 6])
 (.seq (.seq (.region [jv 8,jw 15 (.bin .neq .int) [.t 0,jn 0]])
 (.cond 15 (.seq (.region [jq (.build [(.cv .nils),(.cv (.int .i64 0)),(.cv (.int .i64 0)),(.cv (.int .i64 0)),(.cv (.int .i64 0))] []) [],jv 8,jq (.store 5) [.v 5,.t 0],jz 6 0,jm 7 1])
 .ret)
 .skip))
 (.seq (.region [jq (.bslice 2 0 [] []) [],jv 3,jq (.append 2 16) [.t 0,.t 1],jq (.build [(.cv .nils),(.cv (.int .i64 0)),(.cv (.int .i64 0)),(.cv (.int .i64 0)),(.cv (.int .i64 0))] [(0,1)]) [.t 2],jw 10 (.alloc [(.cv .nils),(.cv (.int .i64 0)),(.cv (.int .i64 0)),(.cv (.int .i64 0)),(.cv (.int .i64 0))]) [],jq (.store 5) [.v 10,.t 3]])
 (.seq (.seq (.region [jz 11 0])
 (.block 0 (.loop ic43l0)))
 (.seq (.region [jN 5 10,jv 9,jq (.store 5) [.v 5,.t 0],jm 6 1,jz 7 0])
 .ret)))))))))
abbrev rs43:List RC:=[(.lN 5 5),(.v 6),(.v 7)]
theorem fok43 (p:Bool):FnOk Tryz.prog 43 ⟨ic43,vs43,111,rs43,p⟩:=.mk2 Tryz.func43 (by kernel_rfl) (by kernel_rfl) (by kernel_rfl) (by kernel_rfl) (by kernel_rfl)
abbrev vs44:List Nat:=[0,1,4,5,6,8,19]
def ic44l0:IC:=(.seq (.seq (.region [jv 4,jw 5 (.bin .lss .int) [.t 0,jn 6]])
 (.cond 5 .skip
 (.exit 0)))
 (.seq (.block 1 (.seq (.region [jv 0,jv 4,jk 68 [.t 0,.t 1],jt 2,jh 3 true 1,jh 3 true 4,jf 3 true 68 [.t 4,.t 5],jg 3 true .not [.t 6],jw 6 .pick [.t 3,.t 7,jB false]])
 (.cond 6 (.region [jv 3,jv 4,jk 40 [.t 1],jq (.bin .add .int) [.t 0,.t 2],jm 3 3])
 .skip)))
 (.region [jv 4,jq (.bin .add .int) [.t 0,jn 1],jm 4 1])))
def ic44:IC:=(.seq (.region [jz 2 0])
 (.seq (.region [jz 3 0])
 (.seq (.seq (.region [jz 4 0])
 (.block 0 (.loop ic44l0)))
 (.seq (.region [jv 3,jm 2 0])
 .ret))))
abbrev rs44:List RC:=[(.v 2)]
theorem fok44 (p:Bool):FnOk Tryz.prog 44 ⟨ic44,vs44,25,rs44,p⟩:=.mk2 Tryz.func44 (by kernel_rfl) (by kernel_rfl) (by kernel_rfl) (by kernel_rfl) (by kernel_rfl)
abbrev vs46:List Nat:=[0]
def ic46:IC:=(.seq (.region [jw 0 (.alloc [(.cv .nils),(.cv .nils),(.cv .nils),(.cv .nils)]) []])
 (.seq (.region [jq (.bslice 1 4 [(.cv (.str (bts []))),(.cv (.str (bts []))),(.cv (.str (bts []))),(.cv (.str (bts [])))] [(0,1),(1,1),(2,1),(3,1)]) [.c (.cv (.str (bts [104,111,109,101]))),.c (.cv (.str (bts [104,105,108,108]))),.c (.cv (.str (bts [114,105,110,103]))),.c (.cv (.str (bts [100,101,112,111,116])))],jq (.bslice 1 2 [(.cv (.str (bts []))),(.cv (.str (bts [])))] [(0,1),(1,1)]) [.c (.cv (.str (bts [116,114,97,109]))),.c (.cv (.str (bts [98,101,110,100])))],jq (.bslice 1 2 [(.cv (.str (bts []))),(.cv (.str (bts [])))] [(0,1),(1,1)]) [.c (.cv (.str (bts [97,109]))),.c (.cv (.str (bts [112,109])))],jk 70 [jn 1,jn 2],jq (.bslice 1 2 [(.cv (.int .i64 0)),(.cv (.int .i64 0))] [(0,1),(1,1)]) [jn 2,jn 2],jq (.build [(.cv (.int .i64 0)),(.cv (.int .i64 0)),(.cv (.int .i64 0)),(.cv (.int .i64 0)),(.cv (.int .i64 0)),(.cv (.bool false)),(.cv .nils)] [(0,1),(1,1),(2,1),(3,2),(5,1),(6,1)]) [jn 0,jn 1,jn 300,.t 3,jB true,.t 4],jk 70 [jn 2,jn 3],jq (.bslice 1 2 [(.cv (.int .i64 0)),(.cv (.int .i64 0))] [(0,1),(1,1)]) [jn 0,jn 1],jq (.build [(.cv (.int .i64 0)),(.cv (.int .i64 0)),(.cv (.int .i64 0)),(.cv (.int .i64 0)),(.cv (.int .i64 0)),(.cv (.bool false)),(.cv .nils)] [(0,1),(1,1),(2,1),(3,2),(5,1),(6,1)]) [jn 1,jn 2,jn 500,.t 6,jB true,.t 7],jk 70 [jn 1,jn 4],jq (.bslice 1 2 [(.cv (.int .i64 0)),(.cv (.int .i64 0))] [(0,1),(1,1)]) [jn 0,jn 0],jq (.build [(.cv (.int .i64 0)),(.cv (.int .i64 0)),(.cv (.int .i64 0)),(.cv (.int .i64 0)),(.cv (.int .i64 0)),(.cv (.bool false)),(.cv .nils)] [(0,1),(1,1),(2,1),(3,2),(6,1)]) [jn 0,jn 2,jn 400,.t 9,.t 10],jk 70 [jn 2,jn 2],jq (.bslice 1 2 [(.cv (.int .i64 0)),(.cv (.int .i64 0))] [(0,1),(1,1)]) [jn 1,jn 1],jq (.build [(.cv (.int .i64 0)),(.cv (.int .i64 0)),(.cv (.int .i64 0)),(.cv (.int .i64 0)),(.cv (.int .i64 0)),(.cv (.bool false)),(.cv .nils)] [(0,1),(1,1),(2,1),(3,2),(6,1)]) [jn 2,jn 0,jn 600,.t 12,.t 13],jq (.bslice 7 4 [(.cv (.int .i64 0)),(.cv (.int .i64 0)),(.cv (.int .i64 0)),(.cv (.int .i64 0)),(.cv (.int .i64 0)),(.cv (.bool false)),(.cv .nils),(.cv (.int .i64 0)),(.cv (.int .i64 0)),(.cv (.int .i64 0)),(.cv (.int .i64 0)),(.cv (.int .i64 0)),(.cv (.bool false)),(.cv .nils),(.cv (.int .i64 0)),(.cv (.int .i64 0)),(.cv (.int .i64 0)),(.cv (.int .i64 0)),(.cv (.int .i64 0)),(.cv (.bool false)),(.cv .nils),(.cv (.int .i64 0)),(.cv (.int .i64 0)),(.cv (.int .i64 0)),(.cv (.int .i64 0)),(.cv (.int .i64 0)),(.cv (.bool false)),(.cv .nils)] [(0,7),(7,7),(14,7),(21,7)]) [.t 5,.t 8,.t 11,.t 14],jq (.build [(.cv .nils),(.cv .nils),(.cv .nils),(.cv .nils)] [(0,1),(1,1),(2,1),(3,1)]) [.t 0,.t 1,.t 2,.t 15],jq (.store 4) [.v 0,.t 16]])
 .ret))
abbrev rs46:List RC:=[(.lN 0 4)]
theorem fok46 (p:Bool):FnOk Tryz.prog 46 ⟨ic46,vs46,18,rs46,p⟩:=.mk2 Tryz.func46 (by kernel_rfl) (by kernel_rfl) (by kernel_rfl) (by kernel_rfl) (by kernel_rfl)
abbrev vs48:List Nat:=[0,1,2]
def ic48:IC:=(.seq (.region [jb 1 0,jw 2 .mv [.c (.cv .nilf)]])
 (.seq (.region [jq (.mkfn (.func 71)) [.v 1],jm 2 0])
 .ret))
abbrev rs48:List RC:=[(.v 2)]
theorem fok48 (p:Bool):FnOk Tryz.prog 48 ⟨ic48,vs48,4,rs48,p⟩:=.mk2 Tryz.func48 (by kernel_rfl) (by kernel_rfl) (by kernel_rfl) (by kernel_rfl) (by kernel_rfl)
abbrev vs61:List Nat:=[0,1,2,3,6,7,8,9,10,11,14,19,32,50,62]
def ic61l0:IC:=(.seq (.seq (.region [jv 7,jv 2,je 1,jw 11 (.bin .lss .int) [.t 0,.t 2]])
 (.cond 11 .skip
 (.exit 0)))
 (.seq (.block 1 (.seq (.seq (.dr [[],[],[0,1],[2],[3],[],[5],[6],[7],[4,8],[9]] [jv 2,jv 7,ja 2 0 1,jG 0 2,jl 3,jF 3 3,jl 5,je 6,jq (.bin .sub .int) [.t 7,jn 1],jk 58 [.t 4,jn 0,.t 8],jw 12 .not [.t 9]])
 (.cond 12 (.seq (.region [jz 4 0,jz 5 4])
 .ret)
 .skip))
 (.seq (.seq (.dr [[],[],[0,1],[2],[3],[4],[5],[6,5],[5],[5],[8,9,5],[10,5],[11,5],[7,12,5],[13,5],[14,5],[15,5],[5,16]] [jv 2,jv 7,ja 2 0 1,jG 1 2,jl 3,jt 4,jg 5 true (.fadd 3) [.v 3],ji 5 true 6,jh 5 true 2,jh 5 true 7,jg 5 true (.iaS 2) [.t 8,.t 9],jg 5 true (.fadd 0) [.t 10],ji 5 true 11,jg 5 true (.iaS 7) [.t 7,.t 12],jg 5 true (.fadd 5) [.t 13],ji 5 true 14,jg 5 true .not [.t 15],jw 13 .pick [.t 5,.t 16,jB false]])
 (.cond 13 (.seq (.region [jz 4 0,jz 5 2])
 .ret)
 .skip))
 (.seq (.dr [[],[],[],[1,2],[3],[0,4],[5],[6],[6],[7,5,0,1,2,3,4,5,6,7],[8,9,0,1,2,3,4,5,6,7,8,9]] [jN 4 3,jv 2,jv 7,ja 2 1 2,jq (.loadN 2) [.t 3],jk 82 [.t 0,.t 4],jt 5,jx 0 6,jx 1 6,jm 8 7,jm 9 8])
 (.seq (.seq (.region [jv 8,jv 6,jw 14 (.bin .neq .int) [.t 0,.t 1]])
 (.cond 14 (.seq (.region [jz 4 0,jz 5 9])
 .ret)
 .skip))
 (.region [jv 9,jm 6 0]))))))
 (.region [jv 7,jq (.bin .add .int) [.t 0,jn 1],jm 7 1])))
def ic61:IC:=(.seq (.region [jb 3 0,jz 4 0,jz 5 0])
 (.seq (.seq (.region [jv 2,je 0,jw 10 (.bin .gtr .int) [.t 1,jn 1100]])
 (.cond 10 (.seq (.region [jz 4 0,jz 5 3])
 .ret)
 .skip))
 (.seq (.region [jv 1,jm 6 0])
 (.seq (.seq (.region [jz 7 0])
 (.block 0 (.loop ic61l0)))
 (.seq (.region [jv 6,jm 4 0,jz 5 0])
 .ret)))))
abbrev rs61:List RC:=[(.v 4),(.v 5)]
theorem fok61 (p:Bool):FnOk Tryz.prog 61 ⟨ic61,vs61,65,rs61,p⟩:=.mk2 Tryz.func61 (by kernel_rfl) (by kernel_rfl) (by kernel_rfl) (by kernel_rfl) (by kernel_rfl)
abbrev vs66:List Nat:=[0,1,2,3,4,6]
def ic66:IC:=(.seq (.region [jb 3 0,jb 4 1,jw 5 .mv [jB false]])
 (.seq (.region [jv 2,jq (.mkfn (.func 89)) [.v 3,.v 4],jk 63 [.t 0,.t 1],jm 5 2])
 .ret))
abbrev rs66:List RC:=[(.v 5)]
theorem fok66 (p:Bool):FnOk Tryz.prog 66 ⟨ic66,vs66,10,rs66,p⟩:=.mk2 Tryz.func66 (by kernel_rfl) (by kernel_rfl) (by kernel_rfl) (by kernel_rfl) (by kernel_rfl)
abbrev vs67:List Nat:=[0,1,4,5,6,8,18]
def ic67l0:IC:=(.seq (.seq (.region [jv 4,jw 5 (.bin .lss .int) [.t 0,jn 6]])
 (.cond 5 .skip
 (.exit 0)))
 (.seq (.block 1 (.seq (.region [jv 0,jv 4,jk 68 [.t 0,.t 1],jt 2,jh 3 false 1,jh 3 false 4,jf 3 false 68 [.t 4,.t 5],jw 6 .pick [.t 3,jB true,.t 6]])
 (.cond 6 (.region [jv 3,jv 4,jk 40 [.t 1],jq (.bin .add .int) [.t 0,.t 2],jm 3 3])
 .skip)))
 (.region [jv 4,jq (.bin .add .int) [.t 0,jn 1],jm 4 1])))
def ic67:IC:=(.seq (.region [jz 2 0])
 (.seq (.region [jz 3 0])
 (.seq (.seq (.region [jz 4 0])
 (.block 0 (.loop ic67l0)))
 (.seq (.region [jv 3,jm 2 0])
 .ret))))
abbrev rs67:List RC:=[(.v 2)]
theorem fok67 (p:Bool):FnOk Tryz.prog 67 ⟨ic67,vs67,24,rs67,p⟩:=.mk2 Tryz.func67 (by kernel_rfl) (by kernel_rfl) (by kernel_rfl) (by kernel_rfl) (by kernel_rfl)
abbrev vs68:List Nat:=[0,1,4]
def ic68:IC:=(.seq (.region [jw 2 .mv [jB false]])
 (.seq (.region [jv 0,jv 1,jk 40 [.t 1],jq (.bin .quo .int) [.t 0,.t 2],jq (.bin .rem .int) [.t 3,jn 2],jq (.bin .eql .int) [.t 4,jn 1],jm 2 5])
 .ret))
abbrev rs68:List RC:=[(.v 2)]
theorem fok68 (p:Bool):FnOk Tryz.prog 68 ⟨ic68,vs68,11,rs68,p⟩:=.mk2 Tryz.func68 (by kernel_rfl) (by kernel_rfl) (by kernel_rfl) (by kernel_rfl) (by kernel_rfl)
abbrev vs70:List Nat:=[0,1,4]
def ic70:IC:=(.seq (.region [jw 2 (.alloc [(.cv (.int .i64 0)),(.cv (.int .i64 0))]) []])
 (.seq (.region [jv 0,jv 1,jq (.build [(.cv (.int .i64 0)),(.cv (.int .i64 0))] [(0,1),(1,1)]) [.t 0,.t 1],jq (.store 2) [.v 2,.t 2]])
 .ret))
abbrev rs70:List RC:=[(.lN 2 2)]
theorem fok70 (p:Bool):FnOk Tryz.prog 70 ⟨ic70,vs70,8,rs70,p⟩:=.mk2 Tryz.func70 (by kernel_rfl) (by kernel_rfl) (by kernel_rfl) (by kernel_rfl) (by kernel_rfl)
abbrev vs71:List Nat:=[0,1,3,4,6,7,8,9,10,17,18,19,20,27]
def ic71l0:IC:=(.seq (.region [jw 12 (.bin .lss .int) [.v 11,.v 10]])
 (.seq (.cond 12 .skip
 (.exit 2))
 (.seq (.block 3 (.seq (.region [jq (.iaS 1) [.v 9,.v 11],jl 0,jm 4 1])
 (.seq (.region [jv 0,jv 3,jv 4,⟨none,none,.call,[(.t 0),(.t 1),(.t 2)]⟩,jw 13 .not [.t 3]])
 (.cond 13 .ret
 .skip))))
 (.region [jq (.bin .add .int) [.v 11,jn 1],jm 11 0]))))
def ic71l1:IC:=(.seq (.region [jw 8 (.bin .lss .int) [.v 7,.v 6]])
 (.seq (.cond 8 .skip
 (.exit 0))
 (.seq (.block 1 (.seq (.region [jv 7,jq (.iaS 1) [.v 5,.v 7],jl 1,jm 2 0,jm 3 2])
 (.seq (.region [jL 1,jv 2,jq (.bin .add .int) [.t 1,jn 1],jw 9 (.slS 1 true false) [.t 0,.t 2],jw 10 (.len false) [.v 9],jz 11 0])
 (.block 2 (.loop ic71l0)))))
 (.region [jq (.bin .add .int) [.v 7,jn 1],jm 7 0]))))
def ic71:IC:=(.seq (.region [jw 5 .load1 [.v 1],jw 6 (.len false) [.v 5],jz 7 0])
 (.block 0 (.loop ic71l1)))
abbrev rs71:List RC:=[]
theorem fok71 (p:Bool):FnOk Tryz.prog 71 ⟨ic71,vs71,30,rs71,p⟩:=.mk2 Tryz.func71 (by kernel_rfl) (by kernel_rfl) (by kernel_rfl) (by kernel_rfl) (by kernel_rfl)
abbrev vs82:List Nat:=[0,1,2,3,4,5,6,14]
def ic82:IC:=(.seq (.region [jb 2 0,jb 3 1,jz 4 0,jz 5 0])
 (.seq (.region [jF 3 2,jl 0,jF 0 3,jl 2,ja 7 1 3,jq (.loadN 7) [.t 4],jw 6 (.alloc [(.cv (.int .i64 0)),(.cv (.int .i64 0)),(.cv (.int .i64 0)),(.cv (.int .i64 0)),(.cv (.int .i64 0)),(.cv (.bool false)),(.cv .nils)]) [],jq (.store 7) [.v 6,.t 5]])
 (.seq (.seq (.region [jF 1 3,jw 7 .load1 [.t 0]])
 (.cond 7 (.seq (.dr [[],[0],[],[2],[1,0,1],[3,4,0,1,2,3,4]] [jF 1 6,jl 0,jF 0 6,jl 2,jm 4 1,jm 5 3])
 .ret)
 .skip))
 (.seq (.dr [[],[0],[],[2],[1,0,1],[3,4,0,1,2,3,4]] [jF 0 6,jl 0,jF 1 6,jl 2,jm 4 1,jm 5 3])
 .ret))))
abbrev rs82:List RC:=[(.v 4),(.v 5)]
theorem fok82 (p:Bool):FnOk Tryz.prog 82 ⟨ic82,vs82,23,rs82,p⟩:=.mk2 Tryz.func82 (by kernel_rfl) (by kernel_rfl) (by kernel_rfl) (by kernel_rfl) (by kernel_rfl)
abbrev vs89:List Nat:=[0,1,2,4]
def ic89:IC:=(.seq (.region [jw 3 .mv [jB false]])
 (.seq (.region [jv 0,jL 1,jq (.bin .lss .int) [.t 0,.t 1],jt 2,jh 3 false 0,jg 3 false .load1 [.v 2],jg 3 false (.bin .gtr .int) [.t 4,.t 5],jq .pick [.t 3,jB true,.t 6],jm 3 7])
 .ret))
abbrev rs89:List RC:=[(.v 3)]
theorem fok89 (p:Bool):FnOk Tryz.prog 89 ⟨ic89,vs89,13,rs89,p⟩:=.mk2 Tryz.func89 (by kernel_rfl) (by kernel_rfl) (by kernel_rfl) (by kernel_rfl) (by kernel_rfl)
section
variable {k:Nat}
end
theorem o88_66 (z lo hi:Int) (σ:List AObj):AC Tryz.prog 89 [.i z,.cv (.rp [.int .i64 lo] 0),.cv (.rp [.int .i64 hi] 0)] σ fun r τ=>r=.b (decide (z<lo)||decide (z>hi))∧τ=σ:=by
 refine ZF (fok89 true) (QC rfl) ?_
 by_cases h:z<lo <;> simp only[ic89,h,evA,simprocAttr]
theorem o56_66 (lo hi:Int) (zs:List Int) (hz:zs.length<2 ^ 63):PC Tryz.prog 66 [.i lo,.i hi,ints zs] (.b (outF lo hi zs)):=by
 refine ⟨ZF (fok66 true) (QC rfl) ?_,rfl⟩
 simp only[ic66,evA,simprocAttr]
 refine (o87 zs (.fn (.func 89) [.cv (.rp [.int .i64 lo] 0),.cv (.rp [.int .i64 hi] 0)]) (fun z=>decide (z<lo)||decide (z>hi)) hz (fun z σ=>o88_66 z lo hi σ)).call frz ?_
 exact frz
abbrev twnC (t:Twn):List CV:=[strR t.pl,strR t.sh,strR t.tm,sttR t.st]
section
variable {l:List Stt} {k:Nat}
end
theorem t30 (n lo hi:Int):PC Tryz.prog 30 [.i n,.i lo,.i hi] (.b (inB n lo hi)):=by
 have h:PC Tryz.prog 30 [.i n,.i lo,.i hi] (.b (decide (n≥lo)&&decide (n≤hi))):=by
  refine ⟨ZF (fok30 true) (QC rfl) ?_,rfl⟩
  by_cases h:n≥lo <;> simp only[ic30,h,evA,simprocAttr] <;> exact frz
 exact h
section
variable {l:List Stp} {k:Nat}
theorem stp_0 (h:k<l.length):(l.flatMap stpC)[k*2]? = some (.int .i64 (l[k]!).1):=flat_get stpC_len h (j:=0) (by omega)
theorem stp_1 (h:k<l.length):(l.flatMap stpC)[k*2+1]? = some (.bool (l[k]!).2):=flat_get stpC_len h (j:=1) (by omega)
end
theorem t82 (t:Twn) (x:Stp) (hx:0≤x.1) (hx2:x.1<t.st.length) (hl:t.st.length<2 ^ 63):PC Tryz.prog 82 [twnA t,stpA x] (twoA (ends t x)):=by
 refine ⟨ZF (fok82 true) (QC rfl) ?_,rfl⟩
 obtain ⟨k,hk⟩:∃ k:Nat,x.1=(k:Int):=⟨x.1.toNat,by omega⟩
 have h:k<t.st.length:=by omega
 unfold ends
 simp only[hk,Int.toNat_natCast,ic82,ia_stt h,stt_ld h,evA,simprocAttr]
 cases x.2
 ·simp only[evA,simprocAttr]
  refine DW_s [] [] hmix (by kernel_rfl) rfl ?_
  simp only[evA,simprocAttr]
  exact frz
 ·simp only[evA,simprocAttr]
  refine DW_s [] [] hmix (by kernel_rfl) rfl ?_
  simp only[evA,simprocAttr]
  exact frz
set_option maxHeartbeats 1000000 in
theorem t61 (t:Twn) (ht:TSz t) (a:Int) (l:List Stp) (hl:l.length<2 ^ 63):PC Tryz.prog 61 [twnA t,.i a,.cv (stpR l)] (twoA (folV t a l)):=by
 refine ⟨ZF (fok61 true) (QC rfl) ?_,rfl⟩
 have hst:=ht.st
 have hw1:IntKind.i64.wrap ((t.st.length:Int)-1)=(t.st.length:Int)-1:=ZC (by omega)
 by_cases hlen:(l.length:Int)>1100
 ·have e:folV t a l=(0,3):=if_pos hlen
  simp only[ic61,hlen,e,evA,simprocAttr]
  exact frz
 have e:folV t a l=folF t a l:=if_neg hlen
 rw[e]
 simp only[ic61,hlen,evA,simprocAttr]
 refine ZW l.length (fun i s=>∃ b:Int,folF t a l=folF t b (l.drop i)∧∃ v4 v5 v8 v9 v10 v11 v12 v13 v14,s=⟨[twnA t,.i a,.cv (stpR l),.ptr 0 0,v4,v5,.i b,.i i,v8,v9,v10,v11,v12,v13,v14],[.cells [.cv (strR t.pl),.cv (strR t.sh),.cv (strR t.tm),.cv (sttR t.st)]]⟩) ?_ 0 (QF _) ⟨a,rfl,_,_,_,_,_,_,_,_,_,rfl⟩
 rintro i s hi ⟨b,hf,v4,v5,v8,v9,v10,v11,v12,v13,v14,rfl⟩
 by_cases h:i<l.length
 rotate_left
 ·have:i=l.length:=by omega
  subst this
  rw[hf,List.drop_length]
  simp only[ic61l0,QJ,h,evA,simprocAttr]
  exact frz
 rw[stp_drop h] at hf
 simp only[folF] at hf
 have hld0:=stp_0 h
 have hld1:=stp_1 h
 have hldN:=stp_ld h
 simp only[ic61l0,QJ,h,evA,simprocAttr]
 refine DW_s [9] [] hmix (by kernel_rfl) rfl ?_
 simp only[h,ia_stp h,hld0,hw1,evA,simprocAttr]
 generalize l[i]! = x at hf hld0 hld1 hldN ⊢
 refine YE ((t58 x.1 0 ((t.st.length:Int)-1)).call frz ⟨rfl,rfl⟩) rfl ?_
 cases h1:inB x.1 0 ((t.st.length:Int)-1)
 ·rw[if_pos h1] at hf
  rw[hf]
  simp only[evA,simprocAttr]
  exact frz
 rw[if_neg (by rw[h1];decide)] at hf
 have hx:=VB.1 h1
 obtain ⟨k,hk⟩:∃ k:Nat,x.1=(k:Int):=⟨x.1.toNat,by omega⟩
 have hkl:k<t.st.length:=by omega
 have h26:PC Tryz.prog 82 [twnA t,.agg [.i x.1,.b x.2]] (twoA (ends t x)):=t82 t x (by omega) (by omega) ht.st
 have hxk:x.1.toNat=k:=by omega
 rw[hxk] at hf
 cases hb2:x.2
 ·rw[if_neg (by rw[hb2];simp)] at hf
  simp only[evA,simprocAttr]
  refine DW_s [] [] hmix (by kernel_rfl) rfl ?_
  simp only[h,ia_stp h,hld1,hb2,evA,simprocAttr]
  refine DW_s [5] [] hmix (by kernel_rfl) rfl ?_
  simp only[h,ia_stp h,hldN,hb2,evA,simprocAttr]
  refine YE (h26.call frz ⟨rfl,rfl⟩) rfl ?_
  by_cases he:(ends t x).1=b
  ·rw[if_neg (by simpa using he)] at hf
   have hbe:((ends t x).1 != b)=false:=by simpa using he
   simp only[hbe,Q6 (show i+1<2 ^ 63 by omega),evA,simprocAttr]
   exact ZL (by first | trivial | omega) ⟨_,hf,_,_,_,_,_,_,_,_,_,rfl⟩
  ·rw[if_pos he] at hf
   have hbe:((ends t x).1 != b)=true:=bne_t he
   rw[hf]
   simp only[hbe,evA,simprocAttr]
   exact frz
 ·simp only[evA,simprocAttr]
  refine DW_s [] [] hmix (by kernel_rfl) rfl ?_
  simp only[h,ia_stp h,hld0,hld1,hb2,hk,ia_stt hkl,stt_5 hkl,evA,simprocAttr]
  cases hbo:(t.st[k]!).bo
  ·rw[if_pos ⟨hb2,hbo⟩] at hf
   rw[hf]
   simp only[evA,simprocAttr]
   exact frz
  ·rw[if_neg (by rw[hbo];simp)] at hf
   simp only[evA,simprocAttr]
   refine DW_s [5] [] hmix (by kernel_rfl) rfl ?_
   simp only[h,ia_stp h,hldN,hb2,evA,simprocAttr]
   refine YE (h26.call frz ⟨rfl,rfl⟩) rfl ?_
   by_cases he:(ends t x).1=b
   ·rw[if_neg (by simpa using he)] at hf
    have hbe:((ends t x).1 != b)=false:=by simpa using he
    simp only[hbe,Q6 (show i+1<2 ^ 63 by omega),evA,simprocAttr]
    exact ZL (by first | trivial | omega) ⟨_,hf,_,_,_,_,_,_,_,_,_,rfl⟩
   ·rw[if_pos he] at hf
    have hbe:((ends t x).1 != b)=true:=bne_t he
    rw[hf]
    simp only[hbe,evA,simprocAttr]
    exact frz
end Go.Proofs.YtogjcmnopidfpaaGreat.AM
namespace Go.Proofs.YtogjcmnopidfpaaGreat.Pl
theorem bit_div (a:Int) (h:0≤a) (k:Nat):((a.tdiv (2 ^ k)).tmod 2 == 1)=bit a k:=by
 obtain ⟨n,rfl⟩:∃ n:Nat,a=n:=⟨a.toNat,by omega⟩
 have e:((2:Int) ^ k)=((2 ^ k:Nat):Int):=by push_cast;rfl
 rw[e,← Int.ofNat_tdiv,show (2:Int)=((2:Nat):Int) from rfl,← Int.ofNat_tmod]
 unfold bit
 rw[Int.toNat_natCast,Nat.testBit_eq_decide_div_mod_eq,Q8]
 simp only[beq_iff_eq,decide_eq_true_eq]
 omega
end Go.Proofs.YtogjcmnopidfpaaGreat.Pl
namespace Go.Proofs.YtogjcmnopidfpaaGreat.AM
variable [Dr]
open Go Pl
theorem add_bit {c:Int} {k m:Nat} (h0:0≤c) (hc:c<2 ^ m) (hk:k<m) (hm:m≤8) (hb:bit c k=false):c+2 ^ k=orI c (2 ^ k):=by
 have hp:=HF hm
 have hpk:=HF (show k≤8 by omega)
 obtain ⟨n,rfl⟩:∃ n:Nat,c=n:=⟨c.toNat,by omega⟩
 have e:((2:Int) ^ k)=((2 ^ k:Nat):Int):=by push_cast;rfl
 have hk2:2 ^ k≤256:=by rw[e] at hpk;omega
 unfold bit at hb
 unfold orI
 rw[e,Int.toNat_natCast,Int.toNat_natCast]
 rw[Int.toNat_natCast] at hb
 have hn:n<256:=by omega
 have hor:n+2 ^ k=n ||| 2 ^ k:=by
  have h1:=BitVec.add_eq_or_of_and_eq_zero (BitVec.ofNat 64 n) (BitVec.ofNat 64 (2 ^ k)) (by
   apply BitVec.eq_of_toNat_eq
   rw[BitVec.toNat_and,BitVec.toNat_ofNat,BitVec.toNat_ofNat,Nat.mod_eq_of_lt (by omega),Nat.mod_eq_of_lt (by omega)]
   apply Nat.eq_of_testBit_eq
   intro j
   rw[Nat.testBit_and,Nat.testBit_two_pow]
   by_cases hj:k=j
   ·subst hj;simp[hb]
   ·simp[hj])
  have h2:=congrArg BitVec.toNat h1
  rw[BitVec.toNat_add,BitVec.toNat_or,BitVec.toNat_ofNat,BitVec.toNat_ofNat,Nat.mod_eq_of_lt (show n<2 ^ 64 by omega),Nat.mod_eq_of_lt (show 2 ^ k<2 ^ 64 by omega),Nat.mod_eq_of_lt (by omega)] at h2
  exact h2
 rw[← hor];push_cast;rfl
theorem bit_pow {k:Nat} (hk:k≤8) (j:Nat):bit (2 ^ k) j=decide (k=j):=by
 have e:((2:Int) ^ k)=((2 ^ k:Nat):Int):=by push_cast;rfl
 unfold bit
 rw[e,Int.toNat_natCast,Nat.testBit_two_pow]
theorem PartS.nil (p:Nat→Bool):PartS p 0 0:=⟨by decide,by decide,fun k=>by rw[OO];simp⟩
theorem PartS.skip {p:Nat→Bool} {i:Nat} {o:Int} (h:PartS p i o) (hi:i≤6) (hp:p i=false):PartS p (i+1) o:=by
 obtain ⟨h0,h1,h2⟩:=h
 refine ⟨h0,by rw[Int.pow_succ];omega,fun k=>?_⟩
 rw[h2 k]
 by_cases hk:k=i
 ·subst hk;simp[hp]
 ·have:decide (k<i+1)=decide (k<i):=by rw[decide_eq_decide];omega
  rw[this]
theorem PartS.add {p:Nat→Bool} {i:Nat} {o:Int} (h:PartS p i o) (hi:i≤6) (hp:p i=true):PartS p (i+1) (o+2 ^ i)∧IntKind.i64.wrap (o+2 ^ i)=o+2 ^ i:=by
 obtain ⟨h0,h1,h2⟩:=h
 have hb:=HF (show i≤8 by omega)
 have hbi:bit o i=false:=by rw[h2 i];simp
 have e:=add_bit (m:=i+1) h0 (by rw[Int.pow_succ];omega) (by omega) (by omega) hbi
 refine ⟨⟨by omega,by rw[Int.pow_succ];omega,fun k=>?_⟩,ZC (by omega)⟩
 rw[e,QbB,h2 k,bit_pow (by omega)]
 by_cases hk:k=i
 ·subst hk;simp[hp]
 ·have:decide (k<i+1)=decide (k<i):=by rw[decide_eq_decide];omega
  rw[this]
  have:decide (i=k)=false:=by simp;omega
  rw[this];simp
theorem t68 (a:Int) (h0:0≤a∧a<9223372036854775808) (k:Nat) (hk:k≤8):PC Tryz.prog 68 [.i a,.i k] (.b (bit a k)):=by
 refine ⟨ZF (fok68 true) (QC rfl) ?_,rfl⟩
 have hb:=HF hk
 have hq:IntKind.i64.wrap (a.tdiv (2 ^ k))=a.tdiv (2 ^ k):=by
  rw[Int.tdiv_eq_ediv_of_nonneg h0.1]
  have h1:0≤a / 2 ^ k:=Int.ediv_nonneg h0.1 (by omega)
  have h2:a / 2 ^ k≤a:=Int.ediv_le_self _ h0.1
  exact ZC (by omega)
 have hd:=bit_div a h0.1 k
 have hne:¬ ((2:Int) ^ k=0):=by omega
 simp only[ic68,evA,simprocAttr]
 refine (o49 k hk).call frz ?_
 generalize (2:Int) ^ k=p at *
 have hx:binI .quo .i64 a p=some (.cv (.int .i64 (a.tdiv p))):=by
  unfold binI;rw[if_neg hne,hq]
 simp only[hne,hq,hd,evA,simprocAttr]
 exact frz
set_option maxHeartbeats 1000000 in
theorem t67 (a b:Int) (ha:0≤a∧a<64) (hb:0≤b∧b<64):PC Tryz.prog 67 [.i a,.i b] (.i (orI a b)):=by
 refine ⟨ZF (fok67 true) (QC rfl) ?_,rfl⟩
 have hH1:=fun k (hk:k≤8)=>t68 a (by omega) k hk
 have hH2:=fun k (hk:k≤8)=>t68 b (by omega) k hk
 simp only[ic67,evA,simprocAttr]
 refine ZW 6 (fun i s=>∃ o,PartS (fun k=>bit a k||bit b k) i o∧∃ v2 v5 v6,s=⟨[.i a,.i b,v2,.i o,.i i,v5,v6],[]⟩) ?_ 0 (QF _) ⟨0,PartS.nil _,_,_,_,rfl⟩
 rintro i s hi ⟨o,ho,v2,v5,v6,rfl⟩
 by_cases h:(i:Int)<6
 rotate_left
 ·have:i=6:=by omega
  subst this
  have e:o=orI a b:=ho.fin (Qa9 a b) (QbB a b) fun k hk=>by rw[QbB,TY (m:=6) (by omega) hk,TY (m:=6) (by omega) hk];rfl
  rw[← e]
  simp only[ic67l0,h,evA,simprocAttr]
  exact frz
 have hws:=Q6 (show i+1<2 ^ 63 by omega)
 simp only[ic67l0,h,evA,simprocAttr]
 refine (hH1 i (by omega)).call frz ?_
 cases h1:bit a i
 ·simp only[evA,simprocAttr]
  refine (hH2 i (by omega)).call frz ?_
  cases h2:bit b i
  ·simp only[hws,evA,simprocAttr]
   exact ZL (by first | trivial | omega) ⟨o,ho.skip (by omega) (by simp[h1,h2]),_,_,_,rfl⟩
  ·obtain ⟨g1,g2⟩:=ho.add (by omega) (show (bit a i||bit b i)=true by simp[h1,h2])
   simp only[evA,simprocAttr]
   refine (o49 i (by omega)).call frz ?_
   simp only[g2,hws,evA,simprocAttr]
   exact ZL (by first | trivial | omega) ⟨_,g1,_,_,_,rfl⟩
 ·obtain ⟨g1,g2⟩:=ho.add (by omega) (show (bit a i||bit b i)=true by simp[h1])
  simp only[evA,simprocAttr]
  refine (o49 i (by omega)).call frz ?_
  simp only[g2,hws,evA,simprocAttr]
  exact ZL (by first | trivial | omega) ⟨_,g1,_,_,_,rfl⟩
set_option maxHeartbeats 1000000 in
theorem t44 (a b:Int) (ha:0≤a∧a<64) (hb:0≤b∧b<64):PC Tryz.prog 44 [.i a,.i b] (.i (subI a b)):=by
 refine ⟨ZF (fok44 true) (QC rfl) ?_,rfl⟩
 have hH1:=fun k (hk:k≤8)=>t68 a (by omega) k hk
 have hH2:=fun k (hk:k≤8)=>t68 b (by omega) k hk
 have hbs:=fun k=>M8 (a:=a) (b:=b) (by omega) k
 simp only[ic44,evA,simprocAttr]
 refine ZW 6 (fun i s=>∃ o,PartS (fun k=>bit a k && !bit b k) i o∧∃ v2 v5 v6,s=⟨[.i a,.i b,v2,.i o,.i i,v5,v6],[]⟩) ?_ 0 (QF _) ⟨0,PartS.nil _,_,_,_,rfl⟩
 rintro i s hi ⟨o,ho,v2,v5,v6,rfl⟩
 by_cases h:(i:Int)<6
 rotate_left
 ·have:i=6:=by omega
  subst this
  have e:o=subI a b:=ho.fin (MF a b) hbs fun k hk=>by rw[hbs,TY (m:=6) (by omega) hk];rfl
  rw[← e]
  simp only[ic44l0,h,evA,simprocAttr]
  exact frz
 have hws:=Q6 (show i+1<2 ^ 63 by omega)
 simp only[ic44l0,h,evA,simprocAttr]
 refine (hH1 i (by omega)).call frz ?_
 cases h1:bit a i
 ·simp only[hws,evA,simprocAttr]
  exact ZL (by first | trivial | omega) ⟨o,ho.skip (by omega) (by simp[h1]),_,_,_,rfl⟩
 ·simp only[evA,simprocAttr]
  refine (hH2 i (by omega)).call frz ?_
  cases h2:bit b i
  ·obtain ⟨g1,g2⟩:=ho.add (by omega) (show (bit a i && !bit b i)=true by simp[h1,h2])
   simp only[evA,simprocAttr]
   refine (o49 i (by omega)).call frz ?_
   simp only[g2,hws,evA,simprocAttr]
   exact ZL (by first | trivial | omega) ⟨_,g1,_,_,_,rfl⟩
  ·simp only[hws,evA,simprocAttr]
   exact ZL (by first | trivial | omega) ⟨o,ho.skip (by omega) (by simp[h1,h2]),_,_,_,rfl⟩
set_option maxHeartbeats 2000000 in
theorem t43 (t:Twn) (ht:TSz t) (from_ time:Int) (l:List Stp) (h0:0<l.length) (hl:l.length<2 ^ 63) (hE:drvE t from_ time l=0) :
  PA Tryz.prog 43 [twnA t,.i from_,.i time,.cv (stpR l)] (.tup [torA (.cv (stpR l)) (torF t time l),.i (folV t from_ l).1,.i 0]):=by
 have hp1:(2:Nat) ^ 44=17592186044416:=by decide
 unfold drvE at hE
 split at hE
 ·contradiction
 rename_i h1
 have h1:opnE t [from_]=0:=by simpa using h1
 obtain ⟨hw,hfr⟩:=opnE_ok h1
 split at hE
 ·simp at hE
 rename_i h2
 have h2:inB time 0 ((t.tm.length:Int)-1)=true:=by simpa using h2
 have hfr:inB from_ 0 ((t.pl.length:Int)-1)=true:=by rw[FW] at hfr;simpa using hfr
 have hle:=(folV_ok hE).1
 have hok:=torOk_of hw h2 hE
 have hsh:=shOk_of hw h2 hE
 have hin:=torF_sh hsh
 have hpl:=ht.pl
 have htm:=ht.tm
 have hw1:IntKind.i64.wrap ((t.tm.length:Int)-1)=(t.tm.length:Int)-1:=ZC (by omega)
 have hw2:IntKind.i64.wrap ((t.pl.length:Int)-1)=(t.pl.length:Int)-1:=ZC (by omega)
 have hE2:(twnV t).2.2=0:=hw
 refine ⟨ZF (fok43 true) (QC rfl) ?_,rfl,rfl⟩
 simp only[ic43,evA,simprocAttr]
 refine (t29 t ht).call frz ?_
 simp only[hE2,hw2,evA,simprocAttr]
 refine (t58 from_ 0 ((t.pl.length:Int)-1)).call frz ?_
 rw[hfr]
 simp only[hw1,evA,simprocAttr]
 refine (t58 time 0 ((t.tm.length:Int)-1)).call frz ?_
 rw[h2]
 simp only[evA,simprocAttr]
 refine (t61 t ht from_ l hl).call frz ?_
 have hfl:(l.flatMap stpC).length=l.length*2:=UG stpC_len l
 have ha:=stp_app (l:=l) (by omega) [AObj.cells [AV.cv (strR t.pl),AV.cv (strR t.sh),AV.cv (strR t.tm),AV.cv (sttR t.st)],.cells [AV.cv .nils,.i 0,.i 0,.i 0,.i 0]]
 simp only[List.length_cons,List.length_nil,List.cons_append,List.nil_append,ZV,Nat.reduceAdd] at ha
 simp only[hE,ha,evA,simprocAttr]
 generalize hrow:(l.flatMap stpC).map AV.cv=row
 have hob:∀ a:Tor,∀ o∈[AObj.cells [.cv (strR t.pl),.cv (strR t.sh),.cv (strR t.tm),.cv (sttR t.st)],.cells [.cv .nils,.i 0,.i 0,.i 0,.i 0],.dead,.cells row,.cells [.sl 3 0 l.length 2,.i a.1,.i a.2.1,.i a.2.2.1,.i a.2.2.2]],Z3 5 o=true:=by
  intro a o ho;simp only[ZD,WZ,WK,or_false] at ho
  rcases ho with rfl | rfl | rfl | rfl | rfl
  ·rfl
  ·rfl
  ·rfl
  ·subst hrow;simp only[Z3];rw[Z8];intro v hv;obtain ⟨z,_,rfl⟩:=ZP.1 hv;rfl
  ·rfl
 refine ZW l.length (fun i s=>∃ v12 v13 v14 v15 v16,s=⟨[twnA t,.i from_,.i time,.cv (stpR l),.ptr 0 0,.ptr 1 0,.i 0,.i 0,.i 0,.i (folV t from_ l).1,.ptr 4 0,.i i,v12,v13,v14,v15,v16],[AObj.cells [.cv (strR t.pl),.cv (strR t.sh),.cv (strR t.tm),.cv (sttR t.st)],.cells [.cv .nils,.i 0,.i 0,.i 0,.i 0],.dead,.cells row,.cells [.sl 3 0 l.length 2,.i (torF t time (l.take i)).1,.i (torF t time (l.take i)).2.1,.i (torF t time (l.take i)).2.2.1,.i (torF t time (l.take i)).2.2.2]]⟩) ?_ 0 (QF _) ⟨_,_,_,_,_,rfl⟩
 rintro i s hi ⟨v12,v13,v14,v15,v16,rfl⟩
 by_cases h:i<l.length
 rotate_left
 ·have e:l.take i=l:=Q5 (by omega)
  rw[e]
  simp only[ic43l0,QJ,h,evA,simprocAttr]
  subst hrow
  refine .tup (.cons (.agg (.cons ?_ (KW (k:=0) _ rfl))) (KW (k:=0) _ rfl))
  exact sl_frz (rest:=[]) (by rw[ZU];rfl) hfl fun c _=>trivial
 obtain ⟨⟨hx1,hx2⟩,ht1,ht2⟩:=hok i h
 obtain ⟨k,hk⟩:∃ k:Nat,(l[i]!).1=(k:Int):=⟨(l[i]!).1.toNat,by omega⟩
 obtain ⟨q,hq⟩:∃ q:Nat,time=(q:Int):=⟨time.toNat,by omega⟩
 have hkl:k<t.st.length:=by omega
 have hkn:(l[i]!).1.toNat=k:=by omega
 rw[hkn] at ht2
 have hql:q<(t.st[k]!).sh.length:=by omega
 have hqn:time.toNat=q:=by omega
 have hS:torF t time (l.take (i+1))=torS t time (torF t time (l.take i)) l[i]! := foldl_take_succ _ _ h
 have hsi:=hsh i h
 rw[hkn,hqn] at hsi
 have hin1:=hin i (by omega)
 have ho:orW (torF t time (l.take i)).2.2.2 ((t.st[k]!).sh[q]?.getD 0)=orI (torF t time (l.take i)).2.2.2 ((t.st[k]!).sh[q]?.getD 0):=or_wrap (by omega) (by omega)
 have hS2:torF t time (l.take (i+1))=(IntKind.i64.wrap ((torF t time (l.take i)).1+(t.st[k]!).me),IntKind.i64.wrap ((torF t time (l.take i)).2.1+(t.st[k]!).lo),IntKind.i64.wrap ((torF t time (l.take i)).2.2.1+(t.st[k]!).hi),orI (torF t time (l.take i)).2.2.2 ((t.st[k]!).sh[q]?.getD 0)):=by
  rw[hS];unfold torS;rw[hkn,hqn,← ho]
 clear hS ho
 generalize torF t time (l.take (i+1))=T2₀ at hS2
 generalize torF t time (l.take i)=T1₀ at hS2 hin1 ⊢
 subst hS2
 simp only[ic43l0,QJ,h,evA,simprocAttr]
 refine DW_s [] [(1,9),(6,9),(8,9)] hmix (by kernel_rfl) rfl ?_
 simp only[h,ia_stp h,stp_0 h,hk,ia_stt hkl,stt_ld hkl,evA,simprocAttr]
 refine DW_s [7] [] hmix (by kernel_rfl) rfl ?_
 simp only[hq,hql,evA,simprocAttr]
 refine YE ((t67 T1₀.2.2.2 ((t.st[k]!).sh[q]?.getD 0) hin1 hsi).call frz ⟨rfl,rfl⟩) rfl ?_
 simp only[Q6 (show i+1<2 ^ 63 by omega),evA,simprocAttr]
 exact W1 [AObj.cells [.cv (strR t.pl),.cv (strR t.sh),.cv (strR t.tm),.cv (sttR t.st)],.cells [.cv .nils,.i 0,.i 0,.i 0,.i 0],.dead,.cells row,_] _ rfl (by first | trivial | omega) (QF _) (hob (_,_,_,_)) ⟨_,_,_,_,_,by rw[hq];rfl⟩
section
variable {l:List Hrd} {k:Nat}
theorem hrd_ld2 (h:k<l.length) (σ:List AObj):YF 2 [.cv (.rp (l.flatMap hrdC) (k*4+2))] σ=some (.agg [.i (l[k]!).lo,.i (l[k]!).hi],σ):=by
 have h1:k*4+2+2≤(l.flatMap hrdC).length:=by rw[UG hrdC_len];omega
 have h2:=G3 hrdC_len h
 have h3:((l.flatMap hrdC).drop (k*4+2)).take 2=((((l.flatMap hrdC).drop (k*4)).take 4).drop 2).take 2:=by
  rw[List.drop_take,List.drop_drop,List.take_take];rfl
 simp only[YF,h1,if_true]
 rw[h3,h2];rfl
end
theorem k31 (h:Hrd):PC Tryz.prog 31 [hrdA h] (.i (hrdE h)):=by
 refine ⟨ZF (fok31 true) (QC rfl) ?_,rfl⟩
 have hd:hrdE h=if (!inB h.ba 0 1000)||((!inB h.pe 0 100)||((!inB h.lo 0 100)||(!inB h.hi 0 100))) then 7 else if h.lo>h.hi then 2 else 0:=by
  unfold hrdE;rw[FW,FW,outF_two]
 rw[hd]
 simp only[ic31,evA,simprocAttr]
 refine (t30 h.ba 0 1000).call frz ?_
 cases h1:inB h.ba 0 1000
 ·simp only[evA,simprocAttr]
  exact frz
 simp only[evA,simprocAttr]
 refine (t30 h.pe 0 100).call frz ?_
 cases h2:inB h.pe 0 100
 ·simp only[evA,simprocAttr]
  exact frz
 simp only[evA,simprocAttr]
 refine (t30 h.lo 0 100).call frz ?_
 cases h3:inB h.lo 0 100
 ·simp only[evA,simprocAttr]
  exact frz
 simp only[evA,simprocAttr]
 refine (t30 h.hi 0 100).call frz ?_
 cases h4:inB h.hi 0 100
 ·simp only[evA,simprocAttr]
  exact frz
 by_cases h4:h.lo>h.hi
 ·simp only[h4,evA,simprocAttr]
  exact frz
 ·simp only[h4,evA,simprocAttr]
  exact frz
theorem k32 (c:Crs) (hc:CSz c) (l:List Stp) (hl:l.length<2 ^ 63):PC Tryz.prog 32 [crsA c,.cv (stpR l)] (.i (rtE c.tw c.ce l)):=by
 refine ⟨ZF (fok32 true) (QC rfl) ?_,rfl⟩
 simp only[ic32,evA,simprocAttr]
 refine (t30 (l.length:Int) 1 60).call frz ?_
 cases h1:inB (l.length:Int) 1 60
 ·have e:rtE c.tw c.ce l=3:=by unfold rtE;rw[if_pos h1]
  rw[e]
  simp only[evA,simprocAttr]
  exact frz
 have e0:rtE c.tw c.ce l=if (folV c.tw c.ce l).2≠0 then (folV c.tw c.ce l).2 else if (folV c.tw c.ce l).1≠c.ce then 9 else 0:=by
  unfold rtE;rw[if_neg (by rw[h1];decide)]
 simp only[evA,simprocAttr]
 refine (t61 c.tw hc.tw c.ce l hl).call frz ?_
 generalize folV c.tw c.ce l=x at e0
 generalize rtE c.tw c.ce l=y at e0
 by_cases h2:x.2=0
 rotate_left
 ·have hb:(x.2 == 0)=false:=beq_f h2
  rw[if_pos h2] at e0
  subst e0
  simp only[hb,evA,simprocAttr]
  exact frz
 rw[if_neg (by simpa using h2)] at e0
 by_cases h3:x.1=c.ce
 ·have hb:(x.1 != c.ce)=false:=by simpa using h3
  rw[if_neg (by simpa using h3)] at e0
  subst e0
  simp only[h2,hb,evA,simprocAttr]
  exact frz
 ·have hb:(x.1 != c.ce)=true:=bne_t h3
  rw[if_pos h3] at e0
  subst e0
  simp only[h2,hb,evA,simprocAttr]
  exact frz
def sumF (ha:List Hrd) (l:List Stp) (tr:List Int):Nat→Int
 | 0=>0
 | i+1=>sumF ha l tr i+cntS l i*hrdF ha[i]! (tr[i]?.getD 0)
theorem cnt_bd {n x:Int} (hn:0≤n∧n≤60) (hx:0≤x∧x≤11000):0≤n*x∧n*x≤660000:=by
 have:=mul_bd (n:=n) (x:=x) (by omega) hx
 exact ⟨Int.mul_nonneg hn.1 hx.1,this.2⟩
theorem sumF_bd {ha:List Hrd} {l:List Stp} {tr:List Int} (hh:∀ i,i<ha.length→HrdOk ha[i]!) (hl:l.length≤60) (ht:∀ i,i<ha.length→ha[i]!.lo≤tr[i]?.getD 0∧tr[i]?.getD 0≤ha[i]!.hi):∀ i,i≤ha.length→0≤sumF ha l tr i∧sumF ha l tr i≤660000*(i:Int)
 | 0,_=>by simp[sumF]
 | i+1,h=>by
  have ih:=sumF_bd hh hl ht i (by omega)
  have hk:=hh i (by omega)
  have h1:=ht i (by omega)
  have h2:=hk.lo
  have h3:=hk.hi
  have h4:=cntS_le l i
  have:=cnt_bd (n:=cntS l i) (by omega) (hrdF_bd hk (t:=tr[i]?.getD 0) (by omega))
  simp only[sumF]
  push_cast
  omega
set_option maxHeartbeats 2000000 in
theorem k11 (c:Crs) (hc:CSz c) (hk:CrsOk c) (a:Nat) (ha:a<c.ro.length) (tr:List Int) (hl:tr.length=c.ha.length) (ht:∀ i,i<c.ha.length→c.ha[i]!.lo≤tr[i]?.getD 0∧tr[i]?.getD 0≤c.ha[i]!.hi) :
  PC Tryz.prog 11 [crsA c,.i a,ints tr] (.tup [.i (sumF c.ha c.ro[a]! tr c.ha.length),.i 0]):=by
 refine ⟨ZF (fok11 true) (QC rfl) ?_,rfl⟩
 have hra:=(rtE_ok (hk.rt a ha)).1
 have h40:=hk.h40
 have hro:=hk.rl
 have hz:(crsV c).2.2=0:=crsV_ok.2 hk
 have hlk:lokV c [(a:Int)]=.tup [.cv (opnP c),.i 0]:=by
  unfold lokV lokE
  rw[if_pos hz,if_neg (by simpa using hz),FW,VB.2 (by omega)];rfl
 simp only[ic11,evA,simprocAttr]
 refine (k33 c hc [(a:Int)] (by simp) (.sl 1 0 1 1) rfl (fun J=>frz_one (fun _=>trivial) rfl)).run ?_
 rw[hlk]
 have hb:((tr.length:Int) != c.ha.length)=false:=by simp[hl]
 simp only[hb,evA,simprocAttr]
 refine ZW c.ha.length (fun i s=>∃ v7 v8 v14 v15 T,s=⟨[crsA c,.i a,ints tr,.ptr 0 0,.i (sumF c.ha c.ro[a]! tr i),.i 0,.cv (opnP c),v7,v8,.b false,.b false,.cv (hrdR c.ha),.i c.ha.length,.i i,v14,v15],T⟩) ?_ 0 (QF _) ⟨_,_,_,_,_,rfl⟩
 rintro i s hi ⟨v7,v8,v14,v15,T,rfl⟩
 by_cases h:i<c.ha.length
 rotate_left
 ·have:i=c.ha.length:=by omega
  subst this
  simp only[ic11l0,QJ,h,evA,simprocAttr]
  exact frz
 have hh:=hk.hrd i h
 have h1:=ht i h
 have hlo:=hh.lo
 have hhi:=hh.hi
 have hi40:i<40:=by omega
 have hil:i<tr.length:=by omega
 have hcn:=cntS_le c.ro[a]! i
 have hbd:=sumF_bd hk.hrd hra.2 ht i (by omega)
 have hm:=cnt_bd (n:=cntS c.ro[a]! i) (by omega) (hrdF_bd hh (t:=tr[i]?.getD 0) (by omega))
 have hS:sumF c.ha c.ro[a]! tr (i+1)=sumF c.ha c.ro[a]! tr i+cntS c.ro[a]! i*hrdF c.ha[i]! (tr[i]?.getD 0):=rfl
 have w1:IntKind.i64.wrap (cntS c.ro[a]! i*hrdF c.ha[i]! (tr[i]?.getD 0))=cntS c.ro[a]! i*hrdF c.ha[i]! (tr[i]?.getD 0):=ZC (by omega)
 have w2:IntKind.i64.wrap (sumF c.ha c.ro[a]! tr i+cntS c.ro[a]! i*hrdF c.ha[i]! (tr[i]?.getD 0))=sumF c.ha c.ro[a]! tr (i+1):=by rw[hS];exact ZC (by omega)
 have hws:=Q6 (show i+1<2 ^ 63 by omega)
 simp only[ic11l0,QJ,h,ia_hrd h,hrd_ld h,evA,simprocAttr,QW,QM,WW,X9,VW,EZ,Qau,CH,get_nz,get_ns]
 refine DW_s [11] [(2,10),(5,10)] hmix (by kernel_rfl) rfl ?_
 simp only[hil,evA,simprocAttr,QW,QM,WW,X9,VW,EZ,Qau,CH,get_nz,get_ns]
 have hof:outF c.ha[i]!.lo c.ha[i]!.hi [tr[i]?.getD 0]=false:=by rw[FW,VB.2 h1];rfl
 refine YE ((o56_34 c.ha[i]!.lo c.ha[i]!.hi [tr[i]?.getD 0] (by simp)).call (.cons (.c (.c _ trivial)) (.cons (.c (.c _ trivial)) (.cons (frz_one (fun _=>trivial) (by rw[X9];rfl)) .nil))) ⟨rfl,rfl⟩) rfl ?_
 rw[hof]
 simp only[evA,simprocAttr,QW,QM,WW,X9,VW,EZ,Qau,CH,get_nz,get_ns]
 refine DW_s [16] [] hmix (by kernel_rfl) rfl ?_
 simp only[hil,ia_drv ha,ia_arp hi40,drv_ld ha hi40,evA,simprocAttr,QW,QM,WW,X9,VW,EZ,Qau,CH,get_nz,get_ns]
 refine YE ((k42 c.ha[i]! hh (tr[i]?.getD 0) (by omega)).call frz ⟨rfl,rfl⟩) rfl ?_
 simp only[w1,w2,hws,evA,simprocAttr,QW,QM,WW,X9,VW,EZ,Qau,CH,get_nz,get_ns]
 exact ZL (by first | trivial | omega) ⟨_,_,_,_,_,rfl⟩
theorem k6 (c:Crs) (hc:CSz c):PC Tryz.prog 6 [crsA c] (triA (crsV c)):=by
 refine ⟨ZF (fok6 true) (QC rfl) ?_,rfl⟩
 have hpl:=hc.tw.pl
 have hw1:IntKind.i64.wrap ((c.tw.pl.length:Int)-1)=(c.tw.pl.length:Int)-1:=ZC (by omega)
 have ht:(twnV c.tw).2.2=twnE c.tw:=rfl
 simp only[ic6,evA,simprocAttr]
 refine (t29 c.tw hc.tw).call frz ?_
 by_cases h1:twnE c.tw=0
 rotate_left
 ·have e:crsV c=(1,0,twnE c.tw):=by unfold crsV;rw[if_pos h1]
  have hb:(twnE c.tw != 0)=true:=bne_t h1
  have hb2:(twnE c.tw == 0)=false:=beq_f h1
  rw[e]
  simp only[ht,hb,hb2,evA,simprocAttr]
  exact frz
 have e1:crsV c=if inB c.ce 0 ((c.tw.pl.length:Int)-1)=false then (1,0,4)
  else if c.ha.length≠c.tw.st.length∨c.ro.length>10 then (1,0,3)
  else if (XZ (fun i=>hrdE c.ha[i]!) 0 c.ha.length).2≠0 then (2,XZ (fun i=>hrdE c.ha[i]!) 0 c.ha.length)
  else if (XZ (fun i=>rtE c.tw c.ce c.ro[i]!) 0 c.ro.length).2≠0 then (3,XZ (fun i=>rtE c.tw c.ce c.ro[i]!) 0 c.ro.length) else (0,0,0):=by
  unfold crsV;rw[if_neg (by simpa using h1)]
 simp only[ht,h1,hw1,evA,simprocAttr]
 refine (t30 c.ce 0 ((c.tw.pl.length:Int)-1)).call frz ?_
 cases h2:inB c.ce 0 ((c.tw.pl.length:Int)-1)
 ·rw[if_pos h2] at e1
  rw[e1]
  simp only[evA,simprocAttr]
  exact frz
 rw[if_neg (by rw[h2];decide)] at e1
 by_cases h3:c.ha.length=c.tw.st.length
 rotate_left
 ·rw[if_pos (.inl h3)] at e1
  have hb3:((c.ha.length:Int) != c.tw.st.length)=true:=bne_t (by omega)
  rw[e1]
  simp only[hb3,evA,simprocAttr]
  exact frz
 have hb3:((c.ha.length:Int) != c.tw.st.length)=false:=by simp[h3]
 by_cases h4:(c.ro.length:Int)>10
 ·rw[if_pos (.inr (by omega))] at e1
  rw[e1]
  simp only[hb3,h4,evA,simprocAttr]
  exact frz
 rw[if_neg (by rintro (h | h);exact h h3;omega)] at e1
 simp only[hb3,h4,evA,simprocAttr]
 have hf:=fun i:Nat=>k31 c.ha[i]!
 have hl:=hc.ha
 generalize hg:(fun i:Nat=>hrdE c.ha[i]!)=g at e1
 have hg':∀ i,hrdE c.ha[i]! = g i:=fun i=>by rw[← hg]
 refine ZW c.ha.length (fun i s=>(∀ j,j<i→g j=0)∧∃ v2 v3 v4 v5 v7 v8 v9 v10 v11 v12 v13 v14,s=⟨[crsA c,.ptr 0 0,v2,v3,v4,v5,.i i,v7,v8,v9,v10,v11,v12,v13,v14],[.cells (crsX c)]⟩) ?_ 0 (QF _) ⟨by omega,_,_,_,_,_,_,_,_,_,_,_,_,rfl⟩
 rintro i s hi ⟨hall,v2,v3,v4,v5,v7,v8,v9,v10,v11,v12,v13,v14,rfl⟩
 by_cases h:i<c.ha.length
 ·simp only[ic6l1,QJ,h,ia_hrd h,hrd_ld h,evA,simprocAttr]
  refine (hf i).call frz ?_
  rw[hg']
  by_cases hgi:g i=0
  ·simp only[hgi,Q6 (show i+1<2 ^ 63 by omega),evA,simprocAttr]
   refine ZL (by first | trivial | omega) ⟨fun j hj=>?_,_,_,_,_,_,_,_,_,_,_,_,_,rfl⟩
   rcases QQ.1 hj with hj | rfl
   ·exact hall j hj
   ·exact hgi
  ·have hb:(g i != 0)=true:=by simpa using hgi
   rw[VF c.ha.length 0 i (QF _) (by omega) (fun j _ hj=>hall j hj) hgi,if_pos hgi] at e1
   rw[e1]
   simp only[hb,evA,simprocAttr]
   exact frz
 have:i=c.ha.length:=by omega
 subst this
 rw[JY c.ha.length 0 fun j _ hj=>hall j (by omega),if_neg (by simp)] at e1
 simp only[ic6l1,QJ,h,evA,simprocAttr]
 clear hf hg' hg hall
 have hf:=fun i (h:i<c.ro.length)=>k32 c hc c.ro[i]! (hc.rol i h)
 have hl:=hc.ro
 generalize hg:(fun i:Nat=>rtE c.tw c.ce c.ro[i]!)=g2 at e1
 have hg':∀ i,rtE c.tw c.ce c.ro[i]! = g2 i:=fun i=>by rw[← hg]
 refine ZW c.ro.length (fun i s=>(∀ j,j<i→g2 j=0)∧∃ v2 v3 v4 v5 v6 v8 v9 v10 v11 v12 v13 v14,s=⟨[crsA c,.ptr 0 0,v2,v3,v4,v5,v6,.i i,v8,v9,v10,v11,v12,v13,v14],[.cells (crsX c)]⟩) ?_ 0 (QF _) ⟨by omega,_,_,_,_,_,_,_,_,_,_,_,_,rfl⟩
 rintro i s hi ⟨hall,v2,v3,v4,v5,v6,v8,v9,v10,v11,v12,v13,v14,rfl⟩
 by_cases h:i<c.ro.length
 ·simp only[ic6l0,QJ,h,evA,simprocAttr]
  refine DW_s [6] [] hmix (by kernel_rfl) rfl ?_
  simp only[XP h,ro_ld h,evA,simprocAttr]
  refine YE ((hf i h).call frz ⟨rfl,rfl⟩) rfl ?_
  rw[hg']
  by_cases hgi:g2 i=0
  ·simp only[hgi,Q6 (show i+1<2 ^ 63 by omega),evA,simprocAttr]
   refine ZL (by first | trivial | omega) ⟨fun j hj=>?_,_,_,_,_,_,_,_,_,_,_,_,_,rfl⟩
   rcases QQ.1 hj with hj | rfl
   ·exact hall j hj
   ·exact hgi
  ·have hb:(g2 i != 0)=true:=by simpa using hgi
   rw[VF c.ro.length 0 i (QF _) (by omega) (fun j _ hj=>hall j hj) hgi,if_pos hgi] at e1
   rw[e1]
   simp only[hb,evA,simprocAttr]
   exact frz
 have:i=c.ro.length:=by omega
 subst this
 rw[JY c.ro.length 0 fun j _ hj=>hall j (by omega),if_neg (by simp)] at e1
 rw[e1]
 simp only[ic6l0,QJ,h,evA,simprocAttr]
 exact frz
set_option maxHeartbeats 1000000 in
theorem k8 (c:Crs) (hc:CSz c) (hm:c.tw.sh.length≤8) (w:Wsh):PC Tryz.prog 8 [crsA c,wshA w] (.i (wshE c w)):=by
 refine ⟨ZF (fok8 true) (QC rfl) ?_,rfl⟩
 have hb:=HF hm
 have htm:=hc.tw.tm
 have hw1:IntKind.i64.wrap ((c.tw.tm.length:Int)-1)=(c.tw.tm.length:Int)-1:=ZC (by omega)
 have hw2:IntKind.i64.wrap ((2:Int) ^ c.tw.sh.length-1)=2 ^ c.tw.sh.length-1:=ZC (by omega)
 have e0:wshE c w=if !inB w.ma 1 10||(!inB w.di 0 40 || !inB w.sh 0 (2 ^ c.tw.sh.length-1)) then 7 else if inB w.ti 0 ((c.tw.tm.length:Int)-1)=false then 4 else 0:=rfl
 generalize wshE c w=y at e0
 simp only[ic8,evA,simprocAttr]
 refine DW_s [2,7,17,19] [] hmix (by kernel_rfl) rfl ?_
 simp only[evA,simprocAttr]
 refine YE ((t30 w.ma 1 10).call frz ⟨rfl,rfl⟩) rfl ?_
 cases h1:inB w.ma 1 10
 ·rw[h1] at e0
  simp only[evA,simprocAttr] at e0 ⊢
  rw[e0]
  exact frz
 rw[h1] at e0
 simp only[evA,simprocAttr]
 refine YE ((t30 w.di 0 40).call frz ⟨rfl,rfl⟩) rfl ?_
 cases h2:inB w.di 0 40
 ·rw[h2] at e0
  simp only[evA,simprocAttr] at e0 ⊢
  rw[e0]
  exact frz
 rw[h2] at e0
 simp only[evA,simprocAttr]
 refine YE ((o49 c.tw.sh.length hm).call frz ⟨rfl,rfl⟩) rfl ?_
 simp only[hw2,evA,simprocAttr]
 refine YE ((t30 w.sh 0 (2 ^ c.tw.sh.length-1)).call frz ⟨rfl,rfl⟩) rfl ?_
 cases h3:inB w.sh 0 (2 ^ c.tw.sh.length-1)
 ·rw[h3] at e0
  simp only[evA,simprocAttr] at e0 ⊢
  rw[e0]
  exact frz
 rw[h3] at e0
 simp only[hw1,evA,simprocAttr] at e0 ⊢
 refine (t30 w.ti 0 ((c.tw.tm.length:Int)-1)).call frz ?_
 cases h4:inB w.ti 0 ((c.tw.tm.length:Int)-1)
 ·rw[h4] at e0
  simp only[evA,simprocAttr] at e0 ⊢
  rw[e0]
  exact frz
 ·rw[h4] at e0
  simp only[evA,simprocAttr] at e0 ⊢
  rw[e0]
  exact frz
set_option maxHeartbeats 1000000 in
theorem k12 (c:Crs) (hc:CSz c) (hk:CrsOk c) (sh ti:Int) (hsh:0≤sh∧sh<64) (hti:inB ti 0 ((c.tw.tm.length:Int)-1)=true) (a:Nat) (ha:a<c.ro.length) :
  PC Tryz.prog 12 [crsA c,.agg [.i 1,.i 0,.i sh,.i ti],ints [(a:Int)]] (.b (subI sh (torF c.tw ti c.ro[a]!).2.2.2 == 0)):=by
 refine ⟨ZF (fok12 true) (QC rfl) ?_,rfl⟩
 have hr:=rtE_ok (hk.rt a ha)
 have hE:drvE c.tw c.ce ti c.ro[a]! = 0:=by
  unfold drvE
  have h1:opnE c.tw [c.ce]=0:=by unfold opnE;rw[if_neg (by simpa using hk.tw),FW,hk.ce];rfl
  rw[if_neg (by simpa using h1),if_neg (by rw[hti];decide)]
  exact hr.2.1
 have hd:=t43 c.tw hc.tw c.ce ti c.ro[a]! (by omega) (hc.rol a ha) hE
 have hs:=torF_sh (shOk_of hk.tw hti hr.2.1) c.ro[a]!.length (QG _)
 rw[X7] at hs
 generalize torF c.tw ti c.ro[a]! = T at hd hs ⊢
 simp only[ic12,evA,simprocAttr]
 refine J1 ?_
 simp only[ic12l1,evA,simprocAttr]
 refine DW_s [14] [(1,19),(3,19),(5,19),(7,19),(11,19),(13,19),(14,19)] hmix (by kernel_rfl) rfl ?_
 have hi0:∀ σ,VP 1 [ints [(a:Int)],.cv (.int .i64 0)] σ=some (.cv (.rp [.int .i64 a] 0),σ):=fun σ=>rfl
 simp only[hi0,XP ha,ro_ld ha,evA,simprocAttr]
 refine YE (v:=.tup [torA (.cv (stpR c.ro[a]!)) T,.i (folV c.tw c.ce c.ro[a]!).1,.i 0]) ?hcall rfl ?hnext
 case hcall=>exact hd.call ⟨rfl,rfl⟩
 simp only[evA,simprocAttr]
 refine (t44 sh T.2.2.2 hsh hs).call frz ?_
 by_cases hz:subI sh T.2.2.2=0
 rotate_left
 ·have hb:(subI sh T.2.2.2 != 0)=true:=bne_t hz
  have hb2:(subI sh T.2.2.2 == 0)=false:=beq_f hz
  rw[hb2]
  simp only[hb,evA,simprocAttr]
  exact frz
 rw[hz]
 simp only[evA,simprocAttr]
 refine J1 ?_
 simp only[ic12l0,evA,simprocAttr]
 refine J1 ?_
 simp only[ic12l1,evA,simprocAttr]
 exact frz
def trV (ha:List Hrd) (xs:List Int) (i:Nat):Int:=ha[i]!.lo+(if xs.length=0 then 0 else xs[i % xs.length]?.getD 0).tmod (ha[i]!.hi-ha[i]!.lo+1)
def trL (ha:List Hrd) (xs:List Int) (n:Nat):List Int:=(List.range n).map (trV ha xs)
theorem trL_len (ha:List Hrd) (xs:List Int) (n:Nat):(trL ha xs n).length=n:=by simp[trL]
theorem trL_succ (ha:List Hrd) (xs:List Int) (n:Nat):trL ha xs (n+1)=trL ha xs n++[trV ha xs n]:=by simp[trL,WM]
theorem trL_get {ha:List Hrd} {xs:List Int} {n i:Nat} (h:i<n):(trL ha xs n)[i]?.getD 0=trV ha xs i:=by simp[trL,h]
theorem trV_in {ha:List Hrd} {xs:List Int} {i:Nat} (hh:HrdOk ha[i]!) (hx:∀ j:Nat,0≤xs[j]?.getD 0):ha[i]!.lo≤trV ha xs i∧trV ha xs i≤ha[i]!.hi:=by
 have h1:=hh.lo
 unfold trV
 have h0:0≤(if xs.length=0 then 0 else xs[i % xs.length]?.getD 0):=by split;omega;exact hx _
 generalize (if xs.length=0 then 0 else xs[i % xs.length]?.getD 0)=z at h0
 rw[Int.tmod_eq_emod_of_nonneg h0]
 have h2:=Int.emod_nonneg z (b:=ha[i]!.hi-ha[i]!.lo+1) (by omega)
 have h3:=Int.emod_lt_of_pos z (b:=ha[i]!.hi-ha[i]!.lo+1) (by omega)
 omega
set_option maxHeartbeats 1000000 in
theorem k10 (c:Crs) (hk:CrsOk c) (xs:List Int) (hxl:xs.length<2 ^ 63) (hx:∀ j:Nat,0≤xs[j]?.getD 0∧xs[j]?.getD 0≤255) :
  PC Tryz.prog 10 [crsA c,.cv (.rsl (xs.map (.int .u8)) xs.length)] (ints (trL c.ha xs c.ha.length)):=by
 refine ⟨ZF (fok10 true) (QC rfl) ?_,rfl⟩
 have h40:=hk.h40
 simp only[ic10,evA,simprocAttr]
 refine ZW c.ha.length (fun i s=>∃ v3 l v6 v7 v8 v9 T,AccE [0] 1 (.cells (crsX c)::T) l i ((trL c.ha xs i).map (.int .i64))∧s=⟨[crsA c,.cv (.rsl (xs.map (.int .u8)) xs.length),.ptr 0 0,v3,l,.i i,v6,v7,v8,v9],.cells (crsX c)::T⟩) ?_ 0 (QF _) ⟨_,_,_,_,_,_,_,AccE.nil _ _ _,rfl⟩
 rintro i s hi ⟨v3,l,v6,v7,v8,v9,T,hacc,rfl⟩
 by_cases h:i<c.ha.length
 rotate_left
 ·have:i=c.ha.length:=by omega
  subst this
  simp only[ic10l0,QJ,h,hacc.nu.1,evA,simprocAttr]
  have:=accE_frz (p:=scl) hacc (fun x hx=>by obtain ⟨z,_,rfl⟩:=ZP.1 hx;trivial)
  unfold ints
  rw[trL_len]
  exact this
 have hh:=hk.hrd i h
 have hlo:=hh.lo
 have hhi:=hh.hi
 have hin:=trV_in hh (fun j=>(hx j).1)
 have w1:IntKind.i64.wrap (c.ha[i]!.hi-c.ha[i]!.lo)=c.ha[i]!.hi-c.ha[i]!.lo:=ZC (by omega)
 have w2:IntKind.i64.wrap (c.ha[i]!.hi-c.ha[i]!.lo+1)=c.ha[i]!.hi-c.ha[i]!.lo+1:=ZC (by omega)
 have hnz:¬ (c.ha[i]!.hi-c.ha[i]!.lo+1=0):=by omega
 have w3:IntKind.i64.wrap (trV c.ha xs i)=trV c.ha xs i:=ZC (by omega)
 have hws:=Q6 (show i+1<2 ^ 63 by omega)
 have hS:(trL c.ha xs (i+1)).map (CV.int .i64)=(trL c.ha xs i).map (.int .i64)++[.int .i64 (trV c.ha xs i)]:=by rw[trL_succ,ZS];rfl
 obtain ⟨hu,_,_⟩:=hacc.nu
 have fin:∀ (o:AObj),∃ l' T',ZX 1 8 [l,.sl (T.length+1+1) 0 1 1] (.cells (crsX c)::(T++[o,.cells [.i (trV c.ha xs i)]]))=some (l',.cells (crsX c)::T')∧AccE [0] 1 (.cells (crsX c)::T') l' (i+1) ((trL c.ha xs (i+1)).map (.int .i64)):=by
  intro o
  obtain ⟨l',H',e1,a1,k1,n1,_⟩:=accE_append (by_:=8) (x:=[.int .i64 (trV c.ha xs i)]) (H:=.cells (crsX c)::(T++[o])) (E:=[0]) (fun x hx=>by simp at hx;subst hx;simp) (hacc.app [o]) rfl (by omega) (by omega)
  have h0:=k1 0 (by simp)
  cases H' with
  | nil=>simp at h0
  | cons y T' =>
   simp only[List.getElem?_cons_zero,Option.some.injEq] at h0
   subst h0
   refine ⟨l',T',?_,by rw[hS];exact a1⟩
   simpa using e1
 by_cases h0:xs.length=0
 ·have htr:trV c.ha xs i=c.ha[i]!.lo+Int.tmod 0 (c.ha[i]!.hi-c.ha[i]!.lo+1):=by unfold trV;rw[if_pos h0]
  rw[htr] at fin w3
  obtain ⟨l',T',e1,a1⟩:=fin (.cells [.i c.ha[i]!.lo,.i c.ha[i]!.hi])
  have hx0:¬ ((xs.length:Int)>0):=by omega
  simp only[ic10l0,QJ,h,hx0,ia_hrd h,hrd_ld2 h,evA,simprocAttr,QW,QM,WW,X9,VW,EZ,Qau,CH,get_nz,get_ns]
  refine DW_s [] [] hmix (by kernel_rfl) rfl ?_
  simp only[w1,w2,hnz,w3,e1,hws,evA,simprocAttr,QW,QM,WW,X9,VW,EZ,Qau,CH,get_nz,get_ns]
  exact ZL (by first | trivial | omega) ⟨_,_,_,_,_,_,_,a1,rfl⟩
 ·have htr:trV c.ha xs i=c.ha[i]!.lo+Int.tmod (xs[i % xs.length]?.getD 0) (c.ha[i]!.hi-c.ha[i]!.lo+1):=by unfold trV;rw[if_neg h0]
  rw[htr] at fin w3
  obtain ⟨l',T',e1,a1⟩:=fin (.cells [.i c.ha[i]!.lo,.i c.ha[i]!.hi])
  have hx0:(xs.length:Int)>0:=by omega
  have hnl:¬ ((xs.length:Int)=0):=by omega
  have hrem:(i:Int).tmod (xs.length:Int)=((i % xs.length:Nat):Int):=rfl
  have hml:i % xs.length<xs.length:=Nat.mod_lt _ (by omega)
  have hxi:=hx (i % xs.length)
  have w4:IntKind.i64.wrap (xs[i % xs.length]?.getD 0)=xs[i % xs.length]?.getD 0:=ZC (by omega)
  have hld:(xs.map (CV.int .u8))[i % xs.length]? = some (.int .u8 (xs[i % xs.length]?.getD 0)):=by rw[J4 hml];simp
  have hia:∀ σ,VP 1 [.cv (.rsl (xs.map (.int .u8)) xs.length),.cv (.int .i64 ((i % xs.length:Nat):Int))] σ=some (.cv (.rp (xs.map (.int .u8)) (i % xs.length)),σ):=fun σ=>J5 hml σ
  simp only[ic10l0,QJ,h,hx0,hnl,hrem,hia,hld,w4,ia_hrd h,hrd_ld2 h,evA,simprocAttr,QW,QM,WW,X9,VW,EZ,Qau,CH,get_nz,get_ns]
  refine DW_s [] [] hmix (by kernel_rfl) rfl ?_
  simp only[w1,w2,hnz,w3,e1,hws,evA,simprocAttr,QW,QM,WW,X9,VW,EZ,Qau,CH,get_nz,get_ns]
  exact ZL (by first | trivial | omega) ⟨_,_,_,_,_,_,_,a1,rfl⟩
end Go.Proofs.YtogjcmnopidfpaaGreat.AM
namespace Go.Proofs.YtogjcmnopidfpaaGreat.AM
variable [Dr]
open Go Go.ChangeShapes Go.WideShapes Go.ChangeAt Go.RowKit
inductive Typed (P:Program):TypeId→List CV→Prop
 | bool {t:TypeId} (ht:P.underlying t=some .bool) (b:Bool):Typed P t [.bool b]
 | int {t:TypeId} {k:IntKind} (ht:P.underlying t=some (.int k)) (n:Int) (hw:(Lit.int k n).wf=true):Typed P t [.int k n]
 | str {t:TypeId} (ht:P.underlying t=some .string) (s:ByteArray) (hs:s.size≤maxLen):Typed P t [.str s]
 | slc {t e:TypeId} (ht:P.underlying t=some (.slice e)) (L:List (List CV)) (hn:L.length≤maxLen) (hl:∀ l∈L,l.length=P.cellsOf e) (h:∀ l∈L,Typed P e l):Typed P t [.rsl L.flatten L.length]
 | arr {t e:TypeId} {n:Nat} (ht:P.underlying t=some (.array n e)) (L:List (List CV)) (hn:L.length=n) (hl:∀ l∈L,l.length=P.cellsOf e) (h:∀ l∈L,Typed P e l):Typed P t L.flatten
 | struct {t:TypeId} {fs:Array Field} (ht:P.underlying t=some (.struct fs)) (L:List (List CV)) (hn:L.length=fs.size)
   (hl:∀ (i:Nat) (f:Field) (l:List CV),fs[i]? = some f→L[i]? = some l→l.length=P.cellsOf f.type)
   (h:∀ (i:Nat) (f:Field) (l:List CV),fs[i]? = some f→L[i]? = some l→Typed P f.type l):Typed P t L.flatten
def TG (P:Program):Nat→TypeId→Bool
 | 0,_=>false
 | n+1,t =>
  match P.underlying t with
  | some .bool | some (.int _) | some .string=>true
  | some (.slice e)=>TG P n e
  | some (.array k e)=>TG P n e&&decide (P.cellsOf t=k*P.cellsOf e)
  | some (.struct fs)=>fs.toList.all (fun f=>TG P n f.type)&&decide (J8 P fs.toList 0=some (P.cellsOf t))
  | _=>false
abbrev noO:Nat→Prop:=Own (fun _=>none) (fun _=>False)
theorem not_noO (b:Nat):¬ noO b:=by rintro (h | ⟨l,hl⟩);exact h;cases hl
theorem DG {α:Type} {Q:Nat→α→Prop}:∀ (n:Nat),(∀ i,i<n→∃ l,Q i l)→∃ L:List α,L.length=n∧∀ (i:Nat) (l:α),L[i]? = some l→Q i l
 | 0,_=>⟨[],rfl,by simp⟩
 | n+1,h=>by
  obtain ⟨L,h1,h2⟩:=DG n (fun i hi=>h i (by omega))
  obtain ⟨l,hl⟩:=h n (by omega)
  refine ⟨L++[l],by simp[h1],fun i l' hi=>?_⟩
  rcases ZB i n with hlt | hge
  ·rw[QE (by omega)] at hi;exact h2 i l' hi
  ·rw[QS (by omega),h1] at hi
   have:i=n:=by
    rcases ZB n i with h' | h'
    ·rw[QN (by simp;omega)] at hi;cases hi
    ·omega
   subst this
   simp at hi;subst hi;exact hl
theorem CJ {R:Nat→CV→Prop} {esz:Nat}:∀ (L:List (List CV)) (n:Nat),(∀ (i:Nat) (l:List CV),L[i]? = some l→l.length=esz∧∀ (j:Nat) (c:CV),l[j]? = some c→R (n+i*esz+j) c) →
  L.flatten.length=L.length*esz∧∀ (k:Nat) (c:CV),L.flatten[k]? = some c→R (n+k) c
 | [],n,_=>by simp
 | l::L,n,h=>by
  obtain ⟨h1,h2⟩:=h 0 l (by simp)
  have ih:=CJ L (n+esz) (fun i l' hi=>by
   obtain ⟨g1,g2⟩:=h (i+1) l' (by simpa using hi)
   refine ⟨g1,fun j c hj=>?_⟩
   have:=g2 j c hj
   rwa [WP,Nat.one_mul,← Nat.add_assoc,Nat.add_right_comm n] at this)
  refine ⟨by simp[h1,ih.1,WP,Nat.add_comm],fun k c hk=>?_⟩
  rw[List.flatten_cons] at hk
  rcases ZB k l.length with hlt | hge
  ·rw[QE hlt] at hk
   have:=h2 k c hk
   simpa using this
  ·rw[QS hge] at hk
   have:=ih.2 (k-l.length) c hk
   rwa [show n+esz+(k-l.length)=n+k by omega] at this
theorem A4 {P:Program} {R:Nat→CV→Prop} {N:Nat}:∀ (fs:List Field) (L:List (List CV)) (n:Nat),J8 P fs n=some N→L.length=fs.length →
  (∀ (i:Nat) (f:Field) (l:List CV),fs[i]? = some f→L[i]? = some l→l.length=P.cellsOf f.type∧∀ (j:Nat) (c:CV),l[j]? = some c→R (f.offset+j) c) →
  n+L.flatten.length=N∧∀ (k:Nat) (c:CV),L.flatten[k]? = some c→R (n+k) c
 | [],L,n,he,hl,_=>by
  have:L=[]:=ZT (by simpa using hl)
  subst this
  simp only[J8,Option.some.injEq] at he
  simp[he]
 | f::fs,[],n,_,hl,_=>by simp at hl
 | f::fs,l::L,n,he,hl,h=>by
  simp only[J8] at he
  split at he
  ·rename_i hoff
   obtain ⟨h1,h2⟩:=h 0 f l (by simp) (by simp)
   have ih:=A4 fs L (n+P.cellsOf f.type) he (by simpa using hl) (fun i f' l' hf hl'=>h (i+1) f' l' (by simpa using hf) (by simpa using hl'))
   refine ⟨by rw[← ih.1];simp[h1];omega,fun k c hk=>?_⟩
   rw[List.flatten_cons] at hk
   rcases ZB k l.length with hlt | hge
   ·rw[QE hlt] at hk
    have:=h2 k c hk
    rwa [hoff] at this
   ·rw[QS hge] at hk
    have:=ih.2 (k-l.length) c hk
    rwa [show n+P.cellsOf f.type+(k-l.length)=n+k by omega] at this
  ·cases he
theorem NT {W:World} {a:Addr}:∀ (cs:List CV) (i:Nat),(∀ (j:Nat) (c:CV),cs[j]? = some c→∃ v,W.cell? (a.add (i+j))=some v∧c.rep W noO v)→CV.reps W noO cs a i
 | [],_,_=>by simp[CV.reps]
 | c::cs,i,h=>by
  simp only[CV.reps]
  refine ⟨not_noO _,by simpa using h 0 c (by simp),NT cs (i+1) fun j c' hj=>?_⟩
  have:=h (j+1) c' (by simpa using hj)
  rwa [show i+(j+1)=i+1+j by omega] at this
section
variable {H:Type} {enc:TypeId × Value→H} {P:Program} {W:World}
theorem EW:∀ (n:Nat) (t:TypeId) (cs:List Value) (x:DataW H × List MemPlace) (fuel:Nat),TG P n t=true→DataW.trod enc P W 0 (fun _=>true) true fuel t cs=some x →
  ∃ cvs:List CV,Typed P t cvs∧cvs.length=cs.length∧∀ (i:Nat) (c:CV) (v:Value),cvs[i]? = some c→cs[i]? = some v→c.rep W noO v
 | 0,t,cs,x,fuel,ho,_=>by simp[TG] at ho
 | n + 1,t,cs,x,fuel,ho,h=>by
  simp only[TG] at ho
  split at ho
  ·rename_i ht
   obtain ⟨b,rfl,_⟩:=DataW.trod_bool ht h
   refine ⟨[.bool b],.bool ht b,rfl,fun i c v h1 h2=>?_⟩
   cases i with
   | zero=>simp at h1 h2;subst h1 h2;simp[CV.rep]
   | succ i=>simp at h1
  ·rename_i k ht
   obtain ⟨b,rfl,_,hw⟩:=DataW.trod_int ht h
   refine ⟨[.int k b],.int ht b hw,rfl,fun i c v h1 h2=>?_⟩
   cases i with
   | zero=>simp at h1 h2;subst h1 h2;simp[CV.rep]
   | succ i=>simp at h1
  ·rename_i ht
   obtain ⟨s,rfl,_,hw⟩:=DataW.trod_string ht h
   refine ⟨[.str s],.str ht s hw,rfl,fun i c v h1 h2=>?_⟩
   cases i with
   | zero=>simp at h1 h2;subst h1 h2;simp[CV.rep]
   | succ i=>simp at h1
  ·rename_i e ht
   rcases DataW.trod_slice ht h with ⟨rfl,_⟩ | ⟨a,len,cap,elems,rest,m,_,rfl,_,_,hlc,hcm,hel,hget,_⟩
   ·refine ⟨[.rsl [] 0],by simpa using Typed.slc ht [] (by simp) (by simp) (by simp),rfl,fun i c v h1 h2=>?_⟩
    cases i with
    | zero=>simp at h1 h2;subst h1 h2;simp[CV.rep]
    | succ i=>simp at h1
   ·obtain ⟨L,hL,hQ⟩:=DG (Q:=fun i l=>Typed P e l∧l.length=P.cellsOf e∧∀ (j:Nat) (c:CV),l[j]? = some c→∃ v,W.cell? (a.add (i*P.cellsOf e+j))=some v∧c.rep W noO v) len (fun i hi=>by
     have hg:=hget i hi
     rw[QI (by omega)] at hg
     obtain ⟨ci,h1,h2⟩:=QB.1 hg
     obtain ⟨_,hlen,hcell⟩:=World.cells?_some h1
     obtain ⟨cvs,g1,g2,g3⟩:=EW n e ci _ _ ho h2
     refine ⟨cvs,g1,by omega,fun j c hj=>?_⟩
     have hjl:j<cvs.length:=(QH.1 hj).1
     have hc:=hcell j (by omega)
     rw[QI (by omega)] at hc
     exact ⟨_,by rw[← Addr.add_add];exact hc,g3 j c _ hj (QI _)⟩)
    have hmem:∀ l∈L,∃ i:Nat,L[i]? = some l:=fun l hl=>List.mem_iff_getElem?.1 hl
    have hfl:=CJ (R:=fun k c=>∃ v,W.cell? (a.add k)=some v∧c.rep W noO v) (esz:=P.cellsOf e) L 0 (fun i l hi=>⟨(hQ i l hi).2.1,fun j c hj=>by simpa using (hQ i l hi).2.2 j c hj⟩)
    refine ⟨[.rsl L.flatten L.length],Typed.slc ht L (by omega) (fun l hl=>let ⟨i,hi⟩:=hmem l hl;(hQ i l hi).2.1) (fun l hl=>let ⟨i,hi⟩:=hmem l hl;(hQ i l hi).1),rfl,fun i c v h1 h2=>?_⟩
    cases i with
    | zero =>
     simp at h1 h2;subst h1 h2
     simp only[CV.rep]
     exact .inr ⟨a,cap,by rw[hL],by omega,NT _ 0 (fun j c hj=>hfl.2 j c hj)⟩
    | succ i=>simp at h1
  ·rename_i k e ht
   simp only[QD,decide_eq_true_eq] at ho
   obtain ⟨xs,m,_,_,hlen,hxs,hget⟩:=DataW.trod_array ht h
   obtain ⟨L,hL,hQ⟩:=DG (Q:=fun i l=>Typed P e l∧l.length=P.cellsOf e∧∀ (j:Nat) (c:CV),l[j]? = some c→∀ v,cs[i*P.cellsOf e+j]? = some v→c.rep W noO v) k (fun i hi=>by
     have hg:=hget i hi
     rw[QI (by omega)] at hg
     obtain ⟨cvs,g1,g2,g3⟩:=EW n e _ _ _ ho.1 hg
     have hik:i*P.cellsOf e+P.cellsOf e≤k*P.cellsOf e:=by
      have:=YQ (P.cellsOf e) (show i+1≤k by omega)
      rwa [WP,Nat.one_mul] at this
     have hl2:cvs.length=P.cellsOf e:=by rw[g2];simp;omega
     refine ⟨cvs,g1,hl2,fun j c hj v hv=>?_⟩
     have hjl:j<cvs.length:=(QH.1 hj).1
     exact g3 j c v hj (by rw[Z7,if_pos (by omega),X4];exact hv))
   have hmem:∀ l∈L,∃ i:Nat,L[i]? = some l:=fun l hl=>List.mem_iff_getElem?.1 hl
   have hfl:=CJ (R:=fun k c=>∀ v,cs[k]? = some v→c.rep W noO v) (esz:=P.cellsOf e) L 0 (fun i l hi=>⟨(hQ i l hi).2.1,fun j c hj=>by simpa using (hQ i l hi).2.2 j c hj⟩)
   exact ⟨L.flatten,Typed.arr ht L hL (fun l hl=>let ⟨i,hi⟩:=hmem l hl;(hQ i l hi).2.1) (fun l hl=>let ⟨i,hi⟩:=hmem l hl;(hQ i l hi).1),by rw[hfl.1,hlen,ho.2,hL],fun i c v h1 h2=>hfl.2 i c h1 v (by simpa using h2)⟩
  ·rename_i fs ht
   simp only[QD,decide_eq_true_eq,Q1] at ho
   obtain ⟨xs,m,_,_,hlen,hxs,hget⟩:=DataW.trod_struct ht h
   obtain ⟨L,hL,hQ⟩:=DG (Q:=fun i l=>∀ f,fs[i]? = some f→Typed P f.type l∧l.length=min (P.cellsOf f.type) (cs.length-f.offset)∧∀ (j:Nat) (c:CV),l[j]? = some c→∀ v,cs[f.offset+j]? = some v→c.rep W noO v) fs.size (fun i hi=>by
     have hfi:fs[i]? = some fs[i]:=Q7 hi
     have hg:=hget i fs[i] hfi
     rw[QI (by omega)] at hg
     obtain ⟨cvs,g1,g2,g3⟩:=EW n _ _ _ _ (ho.1 fs[i] (by simp)) hg
     have hl2:cvs.length=min (P.cellsOf fs[i].type) (cs.length-fs[i].offset):=by rw[g2];simp
     refine ⟨cvs,fun f hf=>?_⟩
     rw[hfi] at hf;cases hf
     refine ⟨g1,hl2,fun j c hj v hv=>?_⟩
     have hjl:j<cvs.length:=(QH.1 hj).1
     exact g3 j c v hj (by rw[Z7,if_pos (by omega),X4];exact hv))
   have hoff:∀ (fs:List Field) (n N:Nat),J8 P fs n=some N→n≤N∧∀ (i:Nat) (f:Field),fs[i]? = some f→f.offset+P.cellsOf f.type≤N:=by
    intro fs
    induction fs with
    | nil=>intro n N h;simp only[J8,Option.some.injEq] at h;simp[h]
    | cons f fs ih =>
     intro n N h
     simp only[J8] at h
     split at h
     ·rename_i ho
      obtain ⟨h1,h2⟩:=ih _ _ h
      refine ⟨by omega,fun i f' hi=>?_⟩
      cases i with
      | zero=>simp at hi;subst hi;omega
      | succ i=>exact h2 i f' (by simpa using hi)
     ·cases h
   have hin:=(hoff _ _ _ ho.2).2
   have hl:∀ (i:Nat) (f:Field) (l:List CV),fs[i]? = some f→L[i]? = some l→l.length=P.cellsOf f.type:=by
    intro i f l hf hl
    obtain ⟨_,h2,_⟩:=hQ i l hl f hf
    have:=hin i f (by simpa using hf)
    omega
   have hfl:=A4 (P:=P) (R:=fun k c=>∀ v,cs[k]? = some v→c.rep W noO v) fs.toList L 0 ho.2 (by simpa using hL) (fun i f l hf hl' =>
    ⟨hl i f l (by simpa using hf) hl',fun j c hj=>(hQ i l hl' f (by simpa using hf)).2.2 j c hj⟩)
   exact ⟨L.flatten,Typed.struct ht L hL hl (fun i f l hf hl'=>(hQ i l hl' f hf).1),by have:=hfl.1;omega,fun i c v h1 h2=>hfl.2 i c h1 v (by simpa using h2)⟩
  ·cases ho
def avOf (P:Program) (t:TypeId) (cs:List CV):AV :=
 match P.underlying t with
 | some (.struct _) | some (.array _ _)=>.agg (cs.map .cv)
 | _=>.cv (cs.headD .nilp)
theorem DV:∀ (cvs:List CV) (vs:List Value),cvs.length=vs.length→(∀ (i:Nat) (c:CV) (v:Value),cvs[i]? = some c→vs[i]? = some v→c.rep W noO v)→QK nom noX W (cvs.map .cv) vs
 | [],[],_,_=>by simp[QK]
 | c::cvs,v::vs,hl,h=>by
  simp only[Q0,QK,VRel]
  exact ⟨h 0 c v rfl rfl,DV cvs vs (by simpa using hl) fun i c v h1 h2=>h (i+1) c v (by simpa using h1) (by simpa using h2)⟩
 | [],_::_,hl,_=>by simp at hl
 | _::_,[],hl,_=>by simp at hl
theorem QfB {n:Nat} {t:TypeId} {v:Value} {d:DataW H} {ps:List MemPlace} {r:Reach} {base:Nat} (ho:TG P n t=true) (hval:Value.okWide P W r base t v) (h:DataW.Trod enc P W 0 (fun _=>true) true t v d ps) :
  ∃ cs,Typed P t cs∧VRel nom noX W (avOf P t cs) v:=by
 obtain ⟨fuel,h⟩:=h
 obtain ⟨cvs,h1,h2,h3⟩:=EW n t _ _ _ ho h
 refine ⟨cvs,h1,?_⟩
 unfold avOf
 have one:(v.cells.toList=[v])→VRel nom noX W (.cv (cvs.headD .nilp)) v:=by
  intro hv
  rw[hv] at h2 h3
  match cvs,h2 with
  | [c],_=>simp only[List.headD_cons,VRel];exact h3 0 c v rfl rfl
 cases n with
 | zero=>simp[TG] at ho
 | succ n =>
  simp only[TG] at ho
  split at ho
  ·rename_i ht;rw[ht];obtain ⟨b,rfl⟩:=okWide_bool ht hval;exact one rfl
  ·rename_i ht;rw[ht];obtain ⟨b,rfl⟩:=okWide_int ht hval;exact one rfl
  ·rename_i ht;rw[ht];obtain ⟨b,rfl⟩:=okWide_string ht hval;exact one rfl
  ·rename_i ht;rw[ht];obtain ⟨_,_,_,rfl⟩:=okWide_slice ht hval;exact one rfl
  ·rename_i ht;rw[ht]
   simp only[Value.okWide,ht] at hval
   obtain ⟨arr,rfl,_⟩:=hval
   simp only[VRel]
   exact ⟨arr.toList,by simp,DV _ _ h2 h3⟩
  ·rename_i ht;rw[ht]
   simp only[Value.okWide,ht] at hval
   obtain ⟨arr,rfl,_⟩:=hval
   simp only[VRel]
   exact ⟨arr.toList,by simp,DV _ _ h2 h3⟩
  ·cases ho
inductive Args (P:Program):List TypeId→List AV→Prop
 | nil:Args P [] []
 | cons {t:TypeId} {ts:List TypeId} {cs:List CV} {avs:List AV} (h:Typed P t cs) (hs:Args P ts avs):Args P (t::ts) (avOf P t cs::avs)
theorem C1 {n:Nat} {r:Reach} {base:Nat}:∀ {ts:List TypeId} {vs:List Value} {ds:List (DataW H)} {ps:List MemPlace},(ts.all (TG P n))=true →
  (∀ (j:Nat) (t:TypeId) (v:Value),ts[j]? = some t→vs[j]? = some v→Value.okWide P W r base t v)→DataW.TrodAll enc P W 0 (fun _=>true) true ts vs ds ps →
  ds.length=ts.length∧∃ avs,Args P ts avs∧QK nom noX W avs vs
 | [],_,_,_,_,_,h=>by
  obtain ⟨rfl,rfl,rfl⟩:=trodAll_nil h
  exact ⟨rfl,[],.nil,by simp[QK]⟩
 | t::ts,_,_,_,ho,hval,h=>by
  obtain ⟨v,vs1,d,ds1,a,b,rfl,rfl,rfl,h1,h2⟩:=trodAll_cons h
  simp only[List.all_cons,QD] at ho
  obtain ⟨cs,g1,g2⟩:=QfB ho.1 (hval 0 t v rfl rfl) h1
  obtain ⟨hl,avs,g3,g4⟩:=C1 ho.2 (fun j t v h1 h2=>hval (j+1) t v (by simpa using h1) (by simpa using h2)) h2
  exact ⟨by simp[hl],_,.cons g1 g3,by simp only[QK];exact ⟨g2,g4⟩⟩
theorem LU (hl:laidOutB P=true) {W':World} (hb:Below W.heap.size W W'):∀ {ts:List TypeId} {vs:List Value} {ds:List (DataW H)} {ps:List MemPlace},(ts.all fun t=>P.readableRec t&&decide (t<P.types.size))=true →
  DataW.TrodAll enc P W 0 (fun _=>true) true ts vs ds ps→(∀ x∈ps,x.block<W.heap.size)→DataW.TrodAll enc P W' 0 (fun b=>decide (b<W.heap.size)) true ts vs ds ps
 | [],_,_,_,_,h,_=>by
  obtain ⟨rfl,rfl,rfl⟩:=trodAll_nil h
  exact trodAll_mk0
 | t::ts,_,_,_,ho,h,hlt=>by
  obtain ⟨v,vs1,d,ds1,a,b,rfl,rfl,rfl,h1,h2⟩:=trodAll_cons h
  simp only[List.all_cons,QD,decide_eq_true_eq] at ho
  refine trodAll_cons_mk (Below.trod hl ho.1.1 ho.1.2 h1 hb fun x hx=>hlt x (by simp[hx])) (LU hl hb ?_ h2 fun x hx=>hlt x (by simp[hx]))
  simpa using ho.2
theorem law_of_AC {f:FuncId} {fn:Func} {s:ChangeSpec} {n:Nat} {t:TypeId} {base:Nat} {args:Array Value} {ds gs:List (DataW H)} {before:List MemPlace}
  (hl:laidOutB P=true) (hpar:(fn.params.toList.all fun t=>P.readableRec t&&decide (t<P.types.size))=true) (ho:fn.params.toList.all (TG P n)=true)
  (hres:fn.resultTypes = #[t]) (htb:P.underlying t=some .bool) (hsv:s.vars=[]) (hs:∀ ds:List (DataW H),ds.length=fn.params.toList.length→s.fn H ds = { results:=[.lit (.bool true)],args:=ds })
  (hAC:∀ avs,Args P fn.params.toList avs→AC P f avs [] fun r _=>r=.b true)
  (hval:∀ (j:Nat) t v,fn.params[j]? = some t→args[j]? = some v→Value.okWide P W .any base t v) (hgl:GlOk nom noX W)
  (hW:DataW.Whole enc P fn.params.toList s.vars false W args.toList ds gs before) :
  Calls P f args W fun e W'=>∃ v,e=.returned v∧s.post enc P fn false true false false W args v W':=by
 have hW':=hW
 obtain ⟨p,q,hA,hV,rfl,hfz,hnd⟩:=hW
 rw[hsv] at hV
 obtain ⟨rfl,rfl⟩:=trodVars_none hV
 have hlt:∀ x∈p,x.block<W.heap.size:=fun x hx=>hW'.lt x (by simp[hx])
 obtain ⟨hlen,avs,hav,hrel⟩:=C1 ho (fun j t v h1 h2=>hval j t v (by simpa using h1) (by simpa using h2)) hA
 have hcall:=(hAC avs hav).2 nom noX W args.toList hrel ⟨by simp,by simp,by simp,by simp,by simp,hgl⟩
 have hcall:=callsIn_wide.1 hcall
 simp only[Array.toArray_toList] at hcall
 refine hcall.mono fun e W' ⟨c,r,σ',m',he,hq,hr,_,hst,_⟩=>?_
 subst he hq
 simp only[VRel,CV.rep] at hr
 subst hr
 have hb:Below W.heap.size W W':=⟨hst.os,hst.tape,hst.output,hst.size,fun k hk=>hst.fr k hk (.inr (by simp))⟩
 have hsf:s.fn H (ds++[]) = { results:=[.lit (.bool true)],args:=ds }:=by rw[ZU];exact hs ds hlen
 refine ⟨_,rfl,ds,[],p++[],[],p,[],hW',?_,?_,?_,hb.frame _,fun h=>by simp at h⟩
 ·rw[hsf,hres]
  exact trodAll_mk1 (shut_bool htb true)
 ·rw[hsf]
  exact LU hl hb hpar hA hlt
 ·rw[hsf,hsv]
  rfl
end
end Go.Proofs.YtogjcmnopidfpaaGreat.AM
namespace Go.Proofs.YtogjcmnopidfpaaGreat.AM
variable [Dr]
open Go
theorem QeV {P:Program} {t:TypeId} {k:IntKind} {cs:List CV} (ht:P.underlying t=some (.int k)) (h:Typed P t cs):∃ n,cs=[.int k n]∧(Lit.int k n).wf=true:=by
 cases h with
 | int ht' n hw=>rw[ht] at ht';cases ht';exact ⟨n,rfl,hw⟩
 | bool ht'=>rw[ht] at ht';cases ht'
 | str ht'=>rw[ht] at ht';cases ht'
 | slc ht'=>rw[ht] at ht';cases ht'
 | arr ht'=>rw[ht] at ht';cases ht'
 | struct ht'=>rw[ht] at ht';cases ht'
theorem typed_str {P:Program} {t:TypeId} {cs:List CV} (ht:P.underlying t=some .string) (h:Typed P t cs):∃ s:ByteArray,cs=[.str s]∧s.size≤maxLen:=by
 cases h with
 | str ht' s hs=>exact ⟨s,rfl,hs⟩
 | bool ht'=>rw[ht] at ht';cases ht'
 | int ht'=>rw[ht] at ht';cases ht'
 | slc ht'=>rw[ht] at ht';cases ht'
 | arr ht'=>rw[ht] at ht';cases ht'
 | struct ht'=>rw[ht] at ht';cases ht'
theorem QeU {P:Program} {t e:TypeId} {cs:List CV} (ht:P.underlying t=some (.slice e)) (h:Typed P t cs):∃ L:List (List CV),cs=[.rsl L.flatten L.length]∧L.length≤maxLen∧(∀ l∈L,l.length=P.cellsOf e)∧∀ l∈L,Typed P e l:=by
 cases h with
 | slc ht' L hn hl h=>rw[ht] at ht';cases ht';exact ⟨L,rfl,hn,hl,h⟩
 | bool ht'=>rw[ht] at ht';cases ht'
 | int ht'=>rw[ht] at ht';cases ht'
 | str ht'=>rw[ht] at ht';cases ht'
 | arr ht'=>rw[ht] at ht';cases ht'
 | struct ht'=>rw[ht] at ht';cases ht'
theorem typed_arr {P:Program} {t e:TypeId} {n:Nat} {cs:List CV} (ht:P.underlying t=some (.array n e)) (h:Typed P t cs):∃ L:List (List CV),cs=L.flatten∧L.length=n∧(∀ l∈L,l.length=P.cellsOf e)∧∀ l∈L,Typed P e l:=by
 cases h with
 | arr ht' L hn hl h=>rw[ht] at ht';cases ht';exact ⟨L,rfl,hn,hl,h⟩
 | bool ht'=>rw[ht] at ht';cases ht'
 | int ht'=>rw[ht] at ht';cases ht'
 | str ht'=>rw[ht] at ht';cases ht'
 | slc ht'=>rw[ht] at ht';cases ht'
 | struct ht'=>rw[ht] at ht';cases ht'
theorem typed_struct {P:Program} {t:TypeId} {fs:Array Field} {cs:List CV} (ht:P.underlying t=some (.struct fs)) (h:Typed P t cs):∃ L:List (List CV),cs=L.flatten∧L.length=fs.size∧∀ (i:Nat) (f:Field) (l:List CV),fs[i]? = some f→L[i]? = some l→Typed P f.type l:=by
 cases h with
 | struct ht' L hn hl h=>rw[ht] at ht';cases ht';exact ⟨L,rfl,hn,h⟩
 | bool ht'=>rw[ht] at ht';cases ht'
 | int ht'=>rw[ht] at ht';cases ht'
 | str ht'=>rw[ht] at ht';cases ht'
 | slc ht'=>rw[ht] at ht';cases ht'
 | arr ht'=>rw[ht] at ht';cases ht'
theorem Qdi {P:Program} {e:TypeId} {k:IntKind} (he:P.underlying e=some (.int k)):∀ L:List (List CV),(∀ l∈L,Typed P e l)→∃ zs:List Int,L.flatten=zs.map (.int k)∧L.length=zs.length∧∀ z∈zs,(Lit.int k z).wf=true
 | [],_=>⟨[],rfl,rfl,by simp⟩
 | l::L,h=>by
  obtain ⟨n,rfl,hn⟩:=QeV he (h l (by simp))
  obtain ⟨zs,h1,h2,h3⟩:=Qdi he L fun l hl=>h l (by simp[hl])
  exact ⟨n::zs,by simp[h1],by simp[h2],by simpa using ⟨hn,h3⟩⟩
theorem typed_ints {P:Program} {t e:TypeId} {k:IntKind} {cs:List CV} (ht:P.underlying t=some (.slice e)) (he:P.underlying e=some (.int k)) (h:Typed P t cs):∃ zs:List Int,cs=[.rsl (zs.map (.int k)) zs.length]∧zs.length<2 ^ 63∧∀ z∈zs,(Lit.int k z).wf=true:=by
 obtain ⟨L,rfl,hn,_,hl⟩:=QeU ht h
 obtain ⟨zs,h1,h2,h3⟩:=Qdi he L hl
 refine ⟨zs,by rw[h1,h2],?_,h3⟩
 rw[← h2];unfold maxLen at hn;omega
theorem wf_u8 {n:Int} (h:(Lit.int .u8 n).wf=true):0≤n∧n≤255:=by
 simp only[Lit.wf,QD,decide_eq_true_eq,IntKind.min,IntKind.max,IntKind.bits,IntKind.signed] at h
 simp at h;omega
theorem args_cons {P:Program} {t:TypeId} {ts:List TypeId} {avs:List AV} (h:Args P (t::ts) avs):∃ cs avs',avs=avOf P t cs::avs'∧Typed P t cs∧Args P ts avs':=by
 generalize hts:t::ts=u at h
 cases h with
 | nil=>cases hts
 | cons h1 h2=>cases hts;exact ⟨_,_,rfl,h1,h2⟩
theorem args_nil {P:Program} {avs:List AV} (h:Args P [] avs):avs=[]:=by
 generalize hts:([]:List TypeId)=u at h
 cases h with
 | nil=>rfl
 | cons h1 h2=>cases hts
end Go.Proofs.YtogjcmnopidfpaaGreat.AM
namespace Go.Proofs.YtogjcmnopidfpaaGreat.AM
variable [Dr]
open Go Pl
theorem hrdF_mono {h:Hrd} (hk:HrdOk h) {s t:Int} (hst:s≤t):hrdF h s≤hrdF h t:=by
 unfold hrdF
 have:=Int.mul_le_mul_of_nonneg_left hst hk.pe.1
 omega
theorem hrdF_pe {h:Hrd} (hp:h.pe=0) (s t:Int):hrdF h s=hrdF h t:=by unfold hrdF;rw[hp,Int.zero_mul,Int.zero_mul]
theorem lsT_le {h:Hrd} (hk:HrdOk h) {t:Int} (ht:h.lo≤t∧t≤h.hi) (n:Int):n*hrdF h (lsT h n)≤n*hrdF h t:=by
 unfold lsT
 split
 ·rename_i hp;rw[hrdF_pe hp h.lo t];omega
 ·split
  ·rename_i hn;exact Int.mul_le_mul_of_nonneg_left (hrdF_mono hk ht.1) (by omega)
  ·split
   ·rename_i hn;exact Int.mul_le_mul_of_nonpos_left (by omega) (hrdF_mono hk ht.2)
   ·have:n=0:=by omega
    rw[this,Int.zero_mul,Int.zero_mul];exact Int.le_refl _
theorem grT_ge {h:Hrd} (hk:HrdOk h) {t:Int} (ht:h.lo≤t∧t≤h.hi) (n:Int):n*hrdF h t≤n*hrdF h (grT h n):=by
 unfold grT
 split
 ·rename_i hp;rw[hrdF_pe hp h.lo t];omega
 ·split
  ·rename_i hn;exact Int.mul_le_mul_of_nonneg_left (hrdF_mono hk ht.2) (by omega)
  ·rename_i hn;exact Int.mul_le_mul_of_nonpos_left (by omega) (hrdF_mono hk ht.1)
theorem apF_sum {ha:List Hrd} {a b:List Stp} {tr:List Int} (hh:∀ i,i<ha.length→HrdOk ha[i]!) (ht:∀ i,i<ha.length→ha[i]!.lo≤tr[i]?.getD 0∧tr[i]?.getD 0≤ha[i]!.hi) :
  ∀ i,i≤ha.length→(apF ha a b i).1≤sumF ha a tr i-sumF ha b tr i∧sumF ha a tr i-sumF ha b tr i≤(apF ha a b i).2
 | 0,_=>by simp[apF,sumF]
 | i+1,h=>by
  have ih:=apF_sum hh ht i (by omega) (a:=a) (b:=b)
  have h1:=lsT_le (hh i (by omega)) (ht i (by omega)) (dfN a b i)
  have h2:=grT_ge (hh i (by omega)) (ht i (by omega)) (dfN a b i)
  have e:dfN a b i*hrdF ha[i]! (tr[i]?.getD 0)=cntS a i*hrdF ha[i]! (tr[i]?.getD 0)-cntS b i*hrdF ha[i]! (tr[i]?.getD 0):=by unfold dfN;rw[Int.sub_mul]
  simp only[apF,sumF]
  omega
theorem moF_sum {ha:List Hrd} {a b:List Stp} {tr:List Int} (hh:∀ i,i<ha.length→HrdOk ha[i]!) (ht:∀ i,i<ha.length→ha[i]!.lo≤tr[i]?.getD 0∧tr[i]?.getD 0≤ha[i]!.hi) :
  sumF ha a tr ha.length-sumF ha b tr ha.length≤moF ha a b∧sumF ha b tr ha.length-sumF ha a tr ha.length≤moF ha a b:=by
 have h:=apF_sum hh ht ha.length (QG _) (a:=a) (b:=b)
 unfold moF
 omega
theorem PreOk.two {c:Crs} {can ys:List Nat} {bd:Int} (h:PreOk c can ys bd) {tr:List Int} (hh:∀ i,i<c.ha.length→HrdOk c.ha[i]!) (ht:∀ i,i<c.ha.length→c.ha[i]!.lo≤tr[i]?.getD 0∧tr[i]?.getD 0≤c.ha[i]!.hi) {i j:Nat} (hi:i<ys.length) (hj:j<ys.length) :
  max (sumF c.ha c.ro[ys[i]!]! tr c.ha.length-sumF c.ha c.ro[ys[j]!]! tr c.ha.length) (sumF c.ha c.ro[ys[j]!]! tr c.ha.length-sumF c.ha c.ro[ys[i]!]! tr c.ha.length)≤bd:=by
 have hp:=List.pairwise_iff_getElem.1 h.pair
 have hnn:=h.nn
 rw[getElem!_pos ys i hi,getElem!_pos ys j hj]
 rcases Nat.lt_trichotomy i j with hlt | heq | hlt
 ·have h1:=hp i j hi hj hlt
  have h2:=moF_sum hh ht (a:=c.ro[ys[j]]!) (b:=c.ro[ys[i]]!)
  unfold mo at h1
  omega
 ·subst heq;omega
 ·have h1:=hp j i hj hi hlt
  have h2:=moF_sum hh ht (a:=c.ro[ys[i]]!) (b:=c.ro[ys[j]]!)
  unfold mo at h1
  omega
structure Tst where
 n0:List Int
 n1:List Int
 tr:List Int
 w:Wsh
 cl:List Int
abbrev u8R (l:List Int):CV:=.rsl (l.map (.int .u8)) l.length
abbrev u64R (l:List Int):CV:=.rsl (l.map (.int .u64)) l.length
abbrev tstX (x:Tst):List AV:=[ints x.n0,ints x.n1,.cv (u8R x.tr),.i x.w.ma,.i x.w.di,.i x.w.sh,.i x.w.ti,.cv (u64R x.cl)]
abbrev tstA (x:Tst):AV:=.agg (tstX x)
structure TstOk (x:Tst):Prop where
 n0:x.n0.length<2 ^ 63
 n1:x.n1.length<2 ^ 63
 trl:x.tr.length<2 ^ 63
 tr:∀ j:Nat,0≤x.tr[j]?.getD 0∧x.tr[j]?.getD 0≤255
 cll:x.cl.length<2 ^ 63
 cl:∀ j,j<x.cl.length→0≤x.cl[j]!∧x.cl[j]! < 2 ^ 64
abbrev crX (c:Crs) (lv:AV):List AV:=[.cv (strR c.tw.pl),.cv (strR c.tw.sh),.cv (strR c.tw.tm),.cv (sttR c.tw.st),.i c.ce,.cv (hrdR c.ha),lv]
structure L3H (c:Crs) (x:Tst) (ls:List (List Stp)) (H:List AObj) (lv:AV):Prop where
 r0:rowOf H 0=some (crX c lv)
 r1:rowOf H 1=some (tstX x)
 acc:AccE [0,1] 1 H lv ls.length (ls.map stpR)
abbrev v3L (c:Crs) (x:Tst) (v4 v5 v6 v7 v8 v9 v10 v11 v12 v13 v14 v15 v16 v17 v18 v19 v20 v21 v22 v23 v24 v25 v26 v27 v28 v29 v30:AV):List AV :=
 [crsA c,tstA x,.ptr 0 0,.ptr 1 0,v4,v5,v6,v7,v8,v9,v10,v11,v12,v13,v14,v15,v16,v17,v18,v19,v20,v21,v22,v23,v24,v25,v26,v27,v28,v29,v30]
structure L3I (c:Crs) (x:Tst) (ls:List (List Stp)) (p6:Nat) (H:List AObj) (lv cv:AV) (zs:List Int):Prop where
 h:L3H c x ls H lv
 r6:rowOf H p6=some [.i c.ce,.i c.ce,.i x.w.sh,.i x.w.ti,cv]
 np:p6∉locs1 lv∧p6≠0∧p6≠1
 acc:AccE ([0,1,p6]++locs1 lv) 1 H cv zs.length (zs.map (.int .i64))
set_option maxHeartbeats 4000000 in
theorem l3_0 (c:Crs) (x:Tst) (hx:TstOk x) (hst:c.tw.st.length<2 ^ 63) {i p6 n0:Nat} (hi:i<x.cl.length) {ls:List (List Stp)} {Q:Exit→St→Prop} {v4 v8 v9 v10 v11 v12 v13 v14 v15 v16 v17 v18 v19 v20 v21 v22 v23 v24 v25 v26 v27 v28 v29 v30:AV} {H:List AObj} {lv cv:AV} {zs:List Int} (hI:L3I c x ls p6 H lv cv zs) (hz:zs.length=0)
  (hQ:∀ H cv zs v7 v23 v24,L3I c x ls p6 H lv cv zs→zs.length≤64→Q (.exit 2) ⟨v3L c x v4 (.i i) (.ptr p6 0) v7 v8 v9 v10 v11 v12 v13 v14 v15 v16 v17 v18 v19 v20 v21 v22 v23 v24 v25 v26 v27 v28 v29 v30,H⟩) :
  IL Tryz.prog ⟨vs3,273,none,n0⟩ ic3l0 ⟨v3L c x v4 (.i i) (.ptr p6 0) (.i 0) v8 v9 v10 v11 v12 v13 v14 v15 v16 v17 v18 v19 v20 v21 v22 v23 v24 v25 v26 v27 v28 v29 v30,H⟩ Q:=by
 refine ZW c.tw.st.length (fun s st=>∃ H cv zs v23 v24,L3I c x ls p6 H lv cv zs∧zs.length≤min s 64∧st=⟨v3L c x v4 (.i i) (.ptr p6 0) (.i s) v8 v9 v10 v11 v12 v13 v14 v15 v16 v17 v18 v19 v20 v21 v22 v23 v24 v25 v26 v27 v28 v29 v30,H⟩) ?_ 0 (QF _) ⟨_,_,zs,_,_,hI,by omega,rfl⟩
 clear hI
 rintro s st hs ⟨H,cv,zs,v23,v24,hI,hzl,rfl⟩
 have h0:=hI.h.r0
 have h1:=hI.h.r1
 have h6:=hI.r6
 by_cases hlt:s<c.tw.st.length
 rotate_left
 ·simp only[ic3l0,h0,QJ,hlt,evA,simprocAttr,QW,QM,WW,X9,VW,EZ,Qau,CH,get_nz,get_ns]
  exact hQ H cv zs _ _ _ hI (by omega)
 have hcl:=hx.cl i hi
 have hgz:(x.cl.map (CV.int .u64))[i]? = some (.int .u64 x.cl[i]!):=by simp[hi]
 have wr:=Q6 (show s+1<2 ^ 63 by omega)
 have hsh:VK .shr .u64 x.cl[i]! s=some (.cv (.int .u64 ((x.cl[i]!).fdiv (2 ^ min s 64)))):=by
  unfold VK
  rw[if_neg (by omega),Int.toNat_natCast];rfl
 have h64:64≤s→(x.cl[i]!).fdiv (2 ^ min s 64)=0:=fun h=>by
  rw[show min s 64=64 by omega]
  have:(2:Int) ^ 64=18446744073709551616:=by decide
  rw[this] at hcl ⊢
  rw[Int.fdiv_eq_ediv_of_nonneg _ (by omega)]
  exact Int.ediv_eq_zero_of_lt hcl.1 hcl.2
 simp only[ic3l0,h0,h1,QJ,hlt,XP hi,hgz,hsh,evA,simprocAttr,QW,QM,WW,X9,VW,EZ,Qau,CH,get_nz,get_ns]
 cases hcb:(x.cl[i]!.fdiv (2 ^ min s 64)).tmod 2 == 1
 ·simp only[wr,evA,simprocAttr,QW,QM,WW,X9,VW,EZ,Qau,CH,get_nz,get_ns]
  exact ZL (by first | trivial | omega) ⟨_,_,zs,_,_,hI,by omega,rfl⟩
 have hs64:s<64:=Nat.lt_of_not_le fun h=>by
  rw[h64 h] at hcb
  cases hcb
 have hE:∀ y∈[0,1,p6]++locs1 lv,y<H.length:=fun y hy=>by
  have hr:∀ {q cs},rowOf H q=some cs→q<H.length:=fun h=>(QH.1 (WO h)).1
  have q0:=hr h0
  have q1:=hr h1
  have q6:=hr h6
  rcases YV.1 hy with hy | hy
  ·simp only[ZD,WK,or_false] at hy;omega
  ·exact locs_lt hI.h.acc y hy
 obtain ⟨cv',H',a1,a2,a3,a4,a5⟩:=accE_append (by_:=8) (x:=[.int .i64 (s:Int)]) hE hI.acc rfl (by omega) (by omega)
 have a1':ZX 1 8 [cv,.sl H.length 0 1 1] (H++[AObj.cells [.i s]])=some (cv',H'):=a1
 have h6J:=fun J=>ZH h6 J
 have keep:∀ {q cs},q∈[0,1,p6]++locs1 lv→rowOf H q=some cs→rowOf H' q=some cs:=fun {q cs} hq hr=>by
  unfold rowOf at hr ⊢
  rw[a3 q hq];exact hr
 have h6':=keep (by simp) h6
 have nu:=hI.acc.nu
 have nu':=a2.nu
 have hall:[cv'].all AV.isSc=true:=by simp[nu'.2.1]
 have hc1:[cv'].length=1:=rfl
 have hnew:L3I c x ls p6 (H'.set p6 (.cells [.i c.ce,.i c.ce,.i x.w.sh,.i x.w.ti,cv'])) lv cv' (zs++[(s:Int)]):=by
  refine ⟨⟨?_,?_,?_⟩,W0 h6',hI.np,?_⟩
  ·rw[QX hI.np.2.1];exact keep (by simp) h0
  ·rw[QX hI.np.2.2];exact keep (by simp) h1
  ·refine hI.h.acc.own fun y hy=>?_
   rw[QU (fun e:p6=y=>hI.np.1 (by rw[e];exact hy)),a3 y (by simp[hy])]
  ·have h2:=a2.set (X:=p6) (by simp) (.cells [.i c.ce,.i c.ce,.i x.w.sh,.i x.w.ti,cv'])
   simp only[QM,List.length_cons,List.length_nil,ZS,Q0,WS]
   exact h2
 have hzl2:(zs++[(s:Int)]).length≤min (s+1) 64:=by simp;omega
 simp only[h6,h6J,nu.1,a1',h6',nu'.2.2,hall,hc1,wr,evA,simprocAttr,QW,QM,WW,X9,VW,EZ,Qau,CH,get_nz,get_ns]
 exact ZL (by first | trivial | omega) ⟨_,cv',zs++[(s:Int)],_,_,hnew,hzl2,rfl⟩
theorem f5n (t:Twn) (ht:TSz t) (k:Tsk) (hk:k.cl.length<2 ^ 62) {args:List AV} {σ:List AObj} (hf:KS anyC σ args [twnA t,tskA k]):AC Tryz.prog 5 args σ fun r τ=>FindR r∧τ=σ :=
 AC.pureN (R:=FindR) (f5 t ht k hk) (fun r τ h=>h) hf
structure RoOk (ls:List (List Stp)):Prop where
 n:ls.length≤10
 l:∀ l∈ls,l.length≤60
set_option maxHeartbeats 4000000 in
theorem l3_1 (c:Crs) (hc:TSz c.tw) (x:Tst) (hx:TstOk x) {Q:Exit→St→Prop} {v4 v6 v7 v8 v9 v10 v11 v12 v13 v14 v15 v16 v17 v18 v19 v20 v21 v22 v23 v24 v25 v26 v27 v28 v29 v30:AV} {H:List AObj} {lv:AV} (hI:L3H c x [] H lv)
  (hQ:∀ H lv ls v5 v6 v7 v8 v9 v22 v23 v24 v25,L3H c x ls H lv→RoOk ls→Q (.exit 0) ⟨v3L c x v4 v5 v6 v7 v8 v9 v10 v11 v12 v13 v14 v15 v16 v17 v18 v19 v20 v21 v22 v23 v24 v25 v26 v27 v28 v29 v30,H⟩) :
  IL Tryz.prog ⟨vs3,273,none,0⟩ ic3l1 ⟨v3L c x v4 (.i 0) v6 v7 v8 v9 v10 v11 v12 v13 v14 v15 v16 v17 v18 v19 v20 v21 v22 v23 v24 v25 v26 v27 v28 v29 v30,H⟩ Q:=by
 refine ZW x.cl.length (fun i st=>∃ H lv ls v6 v7 v8 v9 v22 v23 v24 v25,L3H c x ls H lv∧RoOk ls∧st=⟨v3L c x v4 (.i i) v6 v7 v8 v9 v10 v11 v12 v13 v14 v15 v16 v17 v18 v19 v20 v21 v22 v23 v24 v25 v26 v27 v28 v29 v30,H⟩) ?_ 0 (QF _) ⟨H,lv,[],_,_,_,_,_,_,_,_,hI,⟨by simp,by simp⟩,rfl⟩
 clear hI
 rintro i st hi ⟨H,lv,ls,v6,v7,v8,v9,v22,v23,v24,v25,hI,hR,rfl⟩
 have h0:=hI.r0
 have h1:=hI.r1
 have hlen:=acc_len hI.acc
 have nu:=hI.acc.nu
 have hxl:=hx.cll
 by_cases hlt:i<x.cl.length
 rotate_left
 ·simp only[ic3l1,h1,QJ,hlt,evA,simprocAttr,QW,QM,WW,X9,VW,EZ,Qau,CH,get_nz,get_ns]
  exact hQ H lv ls _ v6 v7 v8 v9 _ v23 v24 v25 hI hR
 by_cases h10:(ls.length:Int)<10
 rotate_left
 ·simp only[ic3l1,h0,h1,QJ,hlt,nu.1,hlen,h10,evA,simprocAttr,QW,QM,WW,X9,VW,EZ,Qau,CH,get_nz,get_ns]
  exact hQ H lv ls _ v6 v7 v8 v9 _ v23 v24 v25 hI hR
 have h0J:=fun J=>ZH h0 J
 have h1J:=fun J=>ZH h1 J
 simp only[ic3l1,h0,h1,h0J,h1J,QJ,hlt,nu.1,hlen,h10,evA,simprocAttr,QW,QM,WW,X9,VW,EZ,Qau,CH,get_nz,get_ns]
 have wr:=Q6 (show i+1<2 ^ 63 by omega)
 have hl0:=(QH.1 (WO h0)).1
 have hl1:=(QH.1 (WO h1)).1
 have hI0:L3I c x ls H.length (H++[AObj.cells [.i c.ce,.i c.ce,.i x.w.sh,.i x.w.ti,.cv .nils]]) lv (.cv .nils) [] :=
  ⟨⟨h0J _,h1J _,hI.acc.app _⟩,XH _ _,⟨fun hm=>by have:=locs_lt hI.acc _ hm;omega,by omega,by omega⟩,AccE.nil _ _ _⟩
 refine l3_0 c x hx hc.st hlt hI0 rfl ?_
 intro H2 cv zs w7 w23 w24 hI2 hzl
 have g0:=hI2.h.r0
 have g1:=hI2.h.r1
 have g6:=hI2.r6
 have g0J:=fun J=>ZH g0 J
 have g1J:=fun J=>ZH g1 J
 have nuc:=hI2.acc.nu
 simp only[g0,g6,nuc.1,evA,simprocAttr,QW,QM,WW,X9,VW,EZ,Qau,CH,get_nz,get_ns]
 refine AC.mono (f5n c.tw hc ⟨c.ce,c.ce,x.w.sh,x.w.ti,zs⟩ (by show zs.length<2 ^ 62;omega) (.cons (.agg (.cons (.c (.c _ trivial)) (.cons (.c (.c _ trivial)) (.cons (.c (.c _ trivial)) (.cons (.c (.c _ trivial)) .nil))))) (.cons (.agg (.cons (.c (.c _ trivial)) (.cons (.c (.c _ trivial)) (.cons (.c (.c _ trivial)) (.cons (.c (.c _ trivial)) (.cons (accE_frz hI2.acc fun _ _=>trivial) .nil)))))) .nil))) ?_
 rintro r τ ⟨⟨sv,T,e,rfl,hsv⟩,rfl⟩
 have hsvn:sv.isUndef=false:=by rcases hsv with rfl | ⟨l,rfl⟩ <;> rfl
 obtain ⟨n,hsl,hsc⟩:∃ n:Nat,(∀ τ,RZ false [sv] τ=some (.i n,τ))∧(0<n→∃ l:List Stp,sv=.cv (stpR l)∧l.length=n):=by
  rcases hsv with rfl | ⟨l,rfl⟩
  ·exact ⟨0,fun τ=>rfl,fun h=>by omega⟩
  ·exact ⟨l.length,fun τ=>rfl,fun _=>⟨l,rfl,rfl⟩⟩
 have hsd:sv.isSc=true∧cellsOf sv=[sv]:=by rcases hsv with rfl | ⟨l,rfl⟩ <;> exact ⟨rfl,rfl⟩
 have hskip:∀ o,L3H c x ls (τ++[o]) lv:=fun o=>⟨g0J _,g1J _,hI2.h.acc.app _⟩
 simp only[hsvn,hsd.1,evA,simprocAttr,QW,QM,WW,X9,VW,EZ,Qau,CH,get_nz,get_ns]
 cases he:e == 0
 ·simp only[he,wr,evA,simprocAttr,QW,QM,WW,X9,VW,EZ,Qau,CH,get_nz,get_ns]
  exact ZL (by first | trivial | omega) ⟨_,lv,ls,_,_,_,_,_,_,_,_,hskip _,hR,rfl⟩
 simp only[he,hsvn,hsl,evA,simprocAttr,QW,QM,WW,X9,VW,EZ,Qau,CH,get_nz,get_ns]
 by_cases hn0:(n:Int)>0
 rotate_left
 ·simp only[hn0,wr,evA,simprocAttr,QW,QM,WW,X9,VW,EZ,Qau,CH,get_nz,get_ns]
  exact ZL (by first | trivial | omega) ⟨_,lv,ls,_,_,_,_,_,_,_,_,hskip _,hR,rfl⟩
 simp only[hn0,hsvn,hsl,evA,simprocAttr,QW,QM,WW,X9,VW,EZ,Qau,CH,get_nz,get_ns]
 by_cases hn60:(n:Int)≤60
 rotate_left
 ·simp only[hn60,wr,evA,simprocAttr,QW,QM,WW,X9,VW,EZ,Qau,CH,get_nz,get_ns]
  exact ZL (by first | trivial | omega) ⟨_,lv,ls,_,_,_,_,_,_,_,_,hskip _,hR,rfl⟩
 obtain ⟨l,rfl,hll⟩:=hsc (by omega)
 have hR2:RoOk (ls++[l]):=⟨by simp;omega,fun y hy=>by
  rcases YV.1 hy with hy | hy
  ·exact hR.l y hy
  ·rw[WZ] at hy;subst hy;omega⟩
 generalize hX:τ++[AObj.cells [.cv (stpR l),.i T.1,.i T.2.1,.i T.2.2.1,.i T.2.2.2]]=X
 have hX0:rowOf X 0=some (crX c lv):=by rw[← hX];exact g0J _
 have hX1:rowOf X 1=some (tstX x):=by rw[← hX];exact g1J _
 have hX8:rowOf X τ.length=some [.cv (stpR l),.i T.1,.i T.2.1,.i T.2.2.1,.i T.2.2.2]:=by rw[← hX,WW];rfl
 have hXa:AccE [0,1] 1 X lv ls.length (ls.map stpR):=by rw[← hX];exact hI2.h.acc.app _
 obtain ⟨lv',H',a1,a2,a3,a4,a5⟩:=accE_append (by_:=24) (x:=[stpR l]) (fun y hy=>by
  have q0:=(QH.1 (WO hX0)).1
  have q1:=(QH.1 (WO hX1)).1
  simp only[ZD,WK,or_false] at hy;omega) hXa rfl (by omega) (by omega)
 have a1':ZX 1 24 [lv,.sl X.length 0 1 1] (X++[AObj.cells [.cv (stpR l)]])=some (lv',H'):=a1
 have keep:∀ {q cs},q∈[0,1]→rowOf X q=some cs→rowOf H' q=some cs:=fun {q cs} hq hr=>by
  unfold rowOf at hr ⊢
  rw[a3 q hq];exact hr
 have k0:=keep (by simp) hX0
 have k1:=keep (by simp) hX1
 have nu':=a2.nu
 have hall:[lv'].all AV.isSc=true:=by simp[nu'.2.1]
 have hc1:[lv'].length=1:=rfl
 have hnew:L3H c x (ls++[l]) (H'.set 0 (.cells (crX c lv'))) lv':=by
  refine ⟨W0 k0,by rw[QX (by omega)];exact k1,?_⟩
  have h2:=a2.set (X:=0) (by simp) (.cells (crX c lv'))
  simp only[QM,List.length_cons,List.length_nil,ZS,Q0,WS]
  exact h2
 simp only[hn60,hX0,hX8,nu.1,a1',k0,nu'.2.2,hall,hc1,wr,evA,simprocAttr,QW,QM,WW,X9,VW,EZ,Qau,CH,get_nz,get_ns]
 exact ZL (by first | trivial | omega) ⟨_,lv',ls++[l],_,_,_,_,_,_,_,_,hnew,hR2,rfl⟩
end Go.Proofs.YtogjcmnopidfpaaGreat.AM
namespace Go.Proofs.YtogjcmnopidfpaaGreat.AM
variable [Dr]
open Go
def trTab (b17:Code):List (Nat × FE) :=
 [(4,⟨ic4,vs4,114,rs4,true⟩),
 (7,⟨ic7,vs7,113,rs7,true⟩),
 (11,⟨ic11,vs11,76,rs11,true⟩),
 (13,⟨ic13,vs13,70,rs13,true⟩),
 (14,⟨ic14,vs14,24,rs14,true⟩),
 (15,⟨ic15,vs15,26,rs15,true⟩),
 (16,⟨ic16,vs16,25,rs16,true⟩),
 (17,⟨ic17 b17,vs17,78,rs17,false⟩),
 (18,⟨ic18,vs18,8,rs18,true⟩),
 (19,⟨ic19,vs19,24,rs19,true⟩),
 (20,⟨ic20,vs20,26,rs20,true⟩),
 (21,⟨ic21,vs21,17,rs21,true⟩),
 (22,⟨ic22,vs22,24,rs22,true⟩),
 (26,⟨ic26,vs26,24,rs26,true⟩),
 (28,⟨ic28,vs28,62,rs28,true⟩),
 (33,⟨ic33,vs33,32,rs33,true⟩),
 (34,⟨ic34,vs34,10,rs34,true⟩),
 (35,⟨ic35,vs35,50,rs35,true⟩),
 (36,⟨ic36,vs36,77,rs36,true⟩),
 (37,⟨ic37,vs37,8,rs37,true⟩),
 (38,⟨ic38,vs38,54,rs38,true⟩),
 (39,⟨ic39,vs39,20,rs39,true⟩),
 (42,⟨ic42,vs42,14,rs42,true⟩),
 (46,⟨ic46,vs46,18,rs46,true⟩),
 (47,⟨ic47,vs47,102,rs47,false⟩),
 (48,⟨ic48,vs48,4,rs48,true⟩),
 (49,⟨ic49,vs49,31,rs49,true⟩),
 (50,⟨ic50,vs50,10,rs50,true⟩),
 (51,⟨ic51,vs51,8,rs51,true⟩),
 (57,⟨ic57,vs57,8,rs57,true⟩),
 (62,⟨ic62,vs62,67,rs62,true⟩),
 (63,⟨ic63,vs63,9,rs63,true⟩),
 (64,⟨ic64,vs64,13,rs64,true⟩),
 (65,⟨ic65,vs65,55,rs65,true⟩),
 (70,⟨ic70,vs70,8,rs70,true⟩),
 (71,⟨ic71,vs71,30,rs71,true⟩),
 (72,⟨ic72,vs72,80,rs72,true⟩),
 (73,⟨ic73,vs73,13,rs73,true⟩),
 (83,⟨ic83,vs83,23,rs83,true⟩),
 (84,⟨ic84,vs84,6,rs84,true⟩),
 (85,⟨ic85,vs85,38,rs85,true⟩),
 (86,⟨ic86,vs86,23,rs86,true⟩),
 (87,⟨ic87,vs87,59,rs87,true⟩),
 (88,⟨ic88,vs88,19,rs88,true⟩),
 (90,⟨ic90,vs90,24,rs90,true⟩),
 (91,⟨ic91,vs91,16,rs91,true⟩),
 (92,⟨ic92,vs92,34,rs92,true⟩),
 (93,⟨ic93,vs93,9,rs93,true⟩),
 (94,⟨ic94,vs94,24,rs94,true⟩),
 (95,⟨ic95,vs95,65,rs95,true⟩),
 (108,⟨ic108,vs108,10,rs108,true⟩),
 (109,⟨ic109,vs109,19,rs109,true⟩),
 (115,⟨ic115,vs115,13,rs115,true⟩)]
theorem trTab_ok:TOk Tryz.prog (trTab (Tryz.f17.body.getD .skip)) :=
 ⟨fok4 _,fok7 _,fok11 _,fok13 _,fok14 _,fok15 _,fok16 _,fok17 _,fok18 _,fok19 _,fok20 _,fok21 _,fok22 _,fok26 _,fok28 _,fok33 _,fok34 _,fok35 _,fok36 _,fok37 _,fok38 _,fok39 _,fok42 _,fok46 _,fok47 _,fok48 _,fok49 _,fok50 _,fok51 _,fok57 _,fok62 _,fok63 _,fok64 _,fok65 _,fok70 _,fok71 _,fok72 _,fok73 _,fok83 _,fok84 _,fok85 _,fok86 _,fok87 _,fok88 _,fok90 _,fok91 _,fok92 _,fok93 _,fok94 _,fok95 _,fok108 _,fok109 _,fok115 _,trivial⟩
end Go.Proofs.YtogjcmnopidfpaaGreat.AM
namespace Go.Proofs.YtogjcmnopidfpaaGreat.AM
variable [Dr]
open Go Pl
set_option maxRecDepth 100000
abbrev T4 (b17:Code):Tb:=⟨tget (trTab b17),[]⟩
theorem T4_ok:TbOk Tryz.prog (T4 (Tryz.f17.body.getD .skip)):=⟨fun _ _ h=>TOk.get trTab_ok _ _ h,trivial⟩
abbrev run4 (b17:Code) (f:Nat) (as_:List AV) (σ:List AObj):Option (Bool × AV × List AObj):=JL (T4 b17) (UI (T4 b17) 1000000 40) 1000000 [] f as_ σ
theorem kn_of {f:Nat} {args:List AV} {v:AV} (h:∀ b17,run4 b17 f args []=some (true,v,[])) (hv:QO 0 args=true) (σ:List AObj):AC Tryz.prog f args σ fun r τ=>r=v∧τ=σ :=
 AC_run (Checked.mixed Tryz.checked) T4_ok 1000000 40 (h _) hv σ
theorem pc_kn {f:Nat} {args:List AV} {v:AV} (h:∀ σ,AC Tryz.prog f args σ fun r τ=>r=v∧τ=σ) (hf:∀ τ,FrzV scl τ v v) (hl:QR 0 v=true):PC Tryz.prog f args v:=⟨(h []).mono fun r τ ⟨h1,_⟩=>by rw[h1];exact hf τ,hl⟩
def tw0:Twn where
 pl:=[bts [104,111,109,101],bts [104,105,108,108],bts [114,105,110,103],bts [100,101,112,111,116]]
 sh:=[bts [116,114,97,109],bts [98,101,110,100]]
 tm:=[bts [97,109],bts [112,109]]
 st:=[⟨0,1,300,1,2,true,[2,2]⟩,⟨1,2,500,2,3,true,[0,1]⟩,⟨0,2,400,1,4,false,[0,0]⟩,⟨2,0,600,2,2,false,[1,1]⟩]
def cr0:Crs:=⟨tw0,0,[⟨10,1,0,5⟩,⟨20,2,1,3⟩,⟨30,0,0,0⟩,⟨5,10,0,9⟩],[[(2,false),(3,false)],[(0,false),(1,false),(3,false)],[(0,false),(0,true),(2,false),(3,false)]]⟩
theorem knCrs (σ:List AObj):AC Tryz.prog 14 [] σ fun r τ=>r=crsA cr0∧τ=σ:=kn_of (fun b17=>by kernel_rfl) rfl σ
theorem knSp1 (σ:List AObj):AC Tryz.prog 18 [.i 37,.i 136] σ fun r τ=>r=.agg [.i 37,.i 136]∧τ=σ:=kn_of (fun b17=>by kernel_rfl) rfl σ
theorem knSp2 (σ:List AObj):AC Tryz.prog 18 [.i (-11),.i (-2)] σ fun r τ=>r=.agg [.i (-11),.i (-2)]∧τ=σ:=kn_of (fun b17=>by kernel_rfl) rfl σ
theorem knAps (σ:List AObj):AC Tryz.prog 19 [.agg [.i (-11),.i (-2),ints [5,3,0,0],ints [0,1,0,0]],.agg [.i (-11),.i (-2),ints [5,3,0,0],ints [0,1,0,0]]] σ fun r τ=>r=.b true∧τ=σ:=kn_of (fun b17=>by kernel_rfl) rfl σ
theorem knInt (σ:List AObj):AC Tryz.prog 20 [ints [0,1,2],ints [0,1,2]] σ fun r τ=>r=.b true∧τ=σ:=kn_of (fun b17=>by kernel_rfl) rfl σ
theorem knCho (σ:List AObj):AC Tryz.prog 21 [.agg [ints [0,1],.i 11],.agg [ints [0,1],.i 11]] σ fun r τ=>r=.b true∧τ=σ:=kn_of (fun b17=>by kernel_rfl) rfl σ
theorem knDbs (σ:List AObj):AC Tryz.prog 22 [.agg [.i 0,.i 2,ints [5,1,0,0]],.agg [.i 0,.i 2,ints [5,1,0,0]]] σ fun r τ=>r=.b true∧τ=σ:=kn_of (fun b17=>by kernel_rfl) rfl σ
theorem knHrd (σ:List AObj):AC Tryz.prog 13 [crsA cr0,.i 1] σ fun r τ=>r=.tup [.agg [.i 37,.i 136],.i 0]∧τ=σ:=kn_of (fun b17=>by kernel_rfl) rfl σ
theorem knAt (σ:List AObj):AC Tryz.prog 11 [crsA cr0,.i 1,ints [5,3,0,9]] σ fun r τ=>r=.tup [.i 136,.i 0]∧τ=σ:=kn_of (fun b17=>by kernel_rfl) rfl σ
theorem knApa (σ:List AObj):AC Tryz.prog 15 [crsA cr0,.i 0,.i 1] σ fun r τ=>r=.tup [.agg [.i (-11),.i (-2),ints [5,3,0,0],ints [0,1,0,0]],.i 0]∧τ=σ:=kn_of (fun b17=>by kernel_rfl) rfl σ
theorem knDif (σ:List AObj):AC Tryz.prog 16 [crsA cr0,.i 0,.i 1] σ fun r τ=>r=.tup [ints [0,1,2],.i 0]∧τ=σ:=kn_of (fun b17=>by kernel_rfl) rfl σ
theorem runDou (b17:Code):(run4 b17 17 [crsA cr0,ints [0,1,2],.i 20] []).map (fun r=>(r.2.1,rowOf r.2.2 49))=some (.tup [.agg [.i 0,.i 2,.sl 49 0 4 1],.i 0],some [.i 5,.i 1,.i 0,.i 0]):=by kernel_rfl
theorem pcDou:PC Tryz.prog 17 [crsA cr0,ints [0,1,2],.i 20] (.tup [.agg [.i 0,.i 2,ints [5,1,0,0]],.i 0]):=by
 have h:=runDou (Tryz.f17.body.getD .skip)
 rw[QA] at h
 obtain ⟨⟨kb,v,τ⟩,h2,h3⟩:=h
 simp only[Prod.mk.injEq] at h3
 obtain ⟨rfl,h4⟩:=h3
 obtain ⟨g1,_,_⟩:=R7 (Checked.mixed Tryz.checked) T4_ok (N2 (Checked.mixed Tryz.checked) T4_ok 1000000 40) 1000000 (.nil _) h2
 refine ⟨g1.mono ?_,rfl⟩
 rintro r τ' ⟨rfl,rfl⟩
 exact .tup (.cons (.agg (.cons (.c (.c _ trivial)) (.cons (.c (.c _ trivial)) (.cons (U4 (zs:=[5,1,0,0]) (fun _=>trivial) rfl h4) .nil)))) (.cons (.c (.c _ trivial)) .nil))
theorem cr0_sz:CSz cr0:=by
 refine ⟨⟨by decide,by decide,by decide,by decide,?_,?_,?_,?_⟩,by decide,by decide,?_⟩
 ·intro i hi
  match i,hi with
  | 0,_=>decide
  | 1,_=>decide
  | 2,_=>decide
  | 3,_=>decide
  | i+4,hi=>exact absurd hi (by simp[cr0,tw0])
 ·intro i hi
  match i,hi with
  | 0,_=>decide
  | 1,_=>decide
  | i+2,hi=>exact absurd hi (by simp[cr0,tw0])
 ·intro i hi
  match i,hi with
  | 0,_=>decide
  | 1,_=>decide
  | i+2,hi=>exact absurd hi (by simp[cr0,tw0])
 ·intro i hi
  match i,hi with
  | 0,_=>decide
  | 1,_=>decide
  | 2,_=>decide
  | 3,_=>decide
  | i+4,hi=>exact absurd hi (by simp[cr0,tw0])
 ·intro i hi
  match i,hi with
  | 0,_=>decide
  | 1,_=>decide
  | 2,_=>decide
  | i+3,hi=>exact absurd hi (by simp[cr0])
theorem cr0_ok:CrsOk cr0:=crsV_ok.1 (by kernel_rfl)
theorem ch_1:chF cr0 ⟨2,1,0,0⟩ (canL cr0 ⟨2,1,0,0⟩ cr0.ro.length) (canL cr0 ⟨2,1,0,0⟩ cr0.ro.length).length [] 0 0 none=some ([0,1],11):=by kernel_rfl
theorem ch_2:chF cr0 ⟨2,4,0,0⟩ (canL cr0 ⟨2,4,0,0⟩ cr0.ro.length) (canL cr0 ⟨2,4,0,0⟩ cr0.ro.length).length [] 0 0 none=none:=by kernel_rfl
theorem pk_1 (σ:List AObj):AC Tryz.prog 7 [crsA cr0,wshA ⟨2,1,0,0⟩] σ fun r τ=>r=.tup [.agg [ints [0,1],.i 11],.i 0]∧τ=σ:=by
 refine (k7 cr0 cr0_sz ⟨2,1,0,0⟩ (KW (k:=0) _ rfl)).mono ?_
 rintro r τ ⟨⟨ys,b,e,rfl,_,hX⟩,rfl⟩
 have h:=hX cr0_ok (by kernel_rfl)
 rw[ch_1] at h
 obtain ⟨rfl,rfl,rfl⟩:=h
 exact ⟨rfl,rfl⟩
theorem pk_2 (σ:List AObj):AC Tryz.prog 7 [crsA cr0,wshA ⟨2,4,0,0⟩] σ fun r τ=>(∃ (ys:List Nat) (b:Int),r=.tup [.agg [ints (nI ys),.i b],.i 9])∧τ=σ:=by
 refine (k7 cr0 cr0_sz ⟨2,4,0,0⟩ (KW (k:=0) _ rfl)).mono ?_
 rintro r τ ⟨⟨ys,b,e,rfl,_,hX⟩,rfl⟩
 have h:=hX cr0_ok (by kernel_rfl)
 rw[ch_2] at h
 have h:e=9:=h
 subst h
 exact ⟨⟨ys,b,rfl⟩,rfl⟩
theorem pcAt:PC Tryz.prog 11 [crsA cr0,.i 1,ints [5,3,0,9]] (.tup [.i 136,.i 0]):=pc_kn knAt (fun τ=>.tup (.cons (.c (.c _ trivial)) (.cons (.c (.c _ trivial)) .nil))) rfl
theorem pcB {f:Nat} {args:List AV} (h:∀ σ,AC Tryz.prog f args σ fun r τ=>r=.b true∧τ=σ):PC Tryz.prog f args (.b true):=pc_kn h (fun τ=>.c (.c _ trivial)) rfl
theorem pcSp1:PC Tryz.prog 18 [.i 37,.i 136] (.agg [.i 37,.i 136]):=pc_kn knSp1 (fun τ=>.agg (.cons (.c (.c _ trivial)) (.cons (.c (.c _ trivial)) .nil))) rfl
theorem pcSp2:PC Tryz.prog 18 [.i (-11),.i (-2)] (.agg [.i (-11),.i (-2)]):=pc_kn knSp2 (fun τ=>.agg (.cons (.c (.c _ trivial)) (.cons (.c (.c _ trivial)) .nil))) rfl
set_option maxHeartbeats 4000000 in
theorem ak4:PC Tryz.prog 4 [] (.b true):=by
 refine ⟨ZF (fok4 true) (QC rfl) ?_,rfl⟩
 simp only[ic4,V4,cellsOf,QW,QM,WW,X9,VW,EZ,Qau,CH,get_nz,get_ns,evA,simprocAttr]
 refine (knCrs _).run ?_
 simp only[QW,QM,WW,X9,VW,EZ,Qau,CH,get_nz,get_ns,evA,simprocAttr]
 refine (knHrd _).run ?_
 simp only[QW,QM,WW,X9,VW,EZ,Qau,CH,get_nz,get_ns,evA,simprocAttr]
 refine (knCrs _).run ?_
 simp only[QW,QM,WW,X9,VW,EZ,Qau,CH,get_nz,get_ns,evA,simprocAttr]
 refine pcAt.call (.cons (GE (k:=0) _ rfl) (.cons (.c (.c _ trivial)) (.cons (U4 (zs:=[5,3,0,9]) (fun _=>trivial) rfl rfl) .nil))) ?_
 simp only[QW,QM,WW,X9,VW,EZ,Qau,CH,get_nz,get_ns,evA,simprocAttr]
 refine (knCrs _).run ?_
 simp only[QW,QM,WW,X9,VW,EZ,Qau,CH,get_nz,get_ns,evA,simprocAttr]
 refine (knApa _).run ?_
 simp only[QW,QM,WW,X9,VW,EZ,Qau,CH,get_nz,get_ns,evA,simprocAttr]
 refine (knCrs _).run ?_
 simp only[QW,QM,WW,X9,VW,EZ,Qau,CH,get_nz,get_ns,evA,simprocAttr]
 refine (knDif _).run ?_
 simp only[QW,QM,WW,X9,VW,EZ,Qau,CH,get_nz,get_ns,evA,simprocAttr]
 refine (knCrs _).run ?_
 simp only[QW,QM,WW,X9,VW,EZ,Qau,CH,get_nz,get_ns,evA,simprocAttr]
 refine (pk_1 _).run ?_
 simp only[QW,QM,WW,X9,VW,EZ,Qau,CH,get_nz,get_ns,evA,simprocAttr]
 refine (knCrs _).run ?_
 simp only[QW,QM,WW,X9,VW,EZ,Qau,CH,get_nz,get_ns,evA,simprocAttr]
 refine pcDou.call (.cons (GE (k:=0) _ rfl) (.cons (U4 (zs:=[0,1,2]) (fun _=>trivial) rfl rfl) (.cons (.c (.c _ trivial)) .nil))) ?_
 simp only[QW,QM,WW,X9,VW,EZ,Qau,CH,get_nz,get_ns,evA,simprocAttr]
 refine (knCrs _).run ?_
 simp only[QW,QM,WW,X9,VW,EZ,Qau,CH,get_nz,get_ns,evA,simprocAttr]
 refine AC.mono (pk_2 _) ?_
 rintro r τ ⟨⟨ys,b,rfl⟩,rfl⟩
 simp only[QW,QM,WW,X9,VW,EZ,Qau,CH,get_nz,get_ns,evA,simprocAttr]
 refine DW_s [28,37,41,46,52,58] [(36,38),(36,39),(37,38),(37,39),(38,39),(39,38),(49,50),(55,56)] hmix (by kernel_rfl) rfl ?_
 simp only[QW,QM,WW,X9,VW,EZ,Qau,CH,get_nz,get_ns,evA,simprocAttr]
 have hkq:JW (true,[KK.int IntKind.i64,KK.int IntKind.i64]) (.agg [.i 37,.i 136]) (.agg [.i 37,.i 136])=some true:=rfl
 refine YE (pcSp1.call frz ⟨rfl,rfl⟩) rfl ?_
 simp only[hkq,QW,QM,WW,X9,VW,EZ,Qau,CH,get_nz,get_ns,evA,simprocAttr]
 refine YE (pcSp2.call frz ⟨rfl,rfl⟩) rfl ?_
 simp only[QW,QM,WW,X9,VW,EZ,Qau,CH,get_nz,get_ns,evA,simprocAttr]
 refine YE ((pcB knAps).call (.cons (GE (k:=0) _ rfl) (.cons (.agg (.cons (.c (.c _ trivial)) (.cons (.c (.c _ trivial)) (.cons (U4 (zs:=[5,3,0,0]) (fun _=>trivial) rfl rfl) (.cons (U4 (zs:=[0,1,0,0]) (fun _=>trivial) rfl rfl) .nil))))) .nil)) ⟨rfl,rfl⟩) rfl ?_
 simp only[QW,QM,WW,X9,VW,EZ,Qau,CH,get_nz,get_ns,evA,simprocAttr]
 refine YE ((pcB knInt).call (.cons (GE (k:=0) _ rfl) (.cons (U4 (zs:=[0,1,2]) (fun _=>trivial) rfl rfl) .nil)) ⟨rfl,rfl⟩) rfl ?_
 simp only[QW,QM,WW,X9,VW,EZ,Qau,CH,get_nz,get_ns,evA,simprocAttr]
 refine YE ((pcB knCho).call (.cons (GE (k:=0) _ rfl) (.cons (.agg (.cons (U4 (zs:=[0,1]) (fun _=>trivial) rfl rfl) (.cons (.c (.c _ trivial)) .nil))) .nil)) ⟨rfl,rfl⟩) rfl ?_
 simp only[QW,QM,WW,X9,VW,EZ,Qau,CH,get_nz,get_ns,evA,simprocAttr]
 refine YE ((pcB knDbs).call (.cons (GE (k:=0) _ rfl) (.cons (.agg (.cons (.c (.c _ trivial)) (.cons (.c (.c _ trivial)) (.cons (U4 (zs:=[5,1,0,0]) (fun _=>trivial) rfl rfl) .nil)))) .nil)) ⟨rfl,rfl⟩) rfl ?_
 simp only[QW,QM,WW,X9,VW,EZ,Qau,CH,get_nz,get_ns,evA,simprocAttr]
 exact frz
end Go.Proofs.YtogjcmnopidfpaaGreat.AM
namespace Go.Proofs.YtogjcmnopidfpaaGreat.AM
variable [Dr]
open Go
def numErr (zs:List Int):Int:=if inB zs.length 1 8 then (if outF 0 1000000000 zs then 7 else 0) else 3
theorem o50 (zs:List Int) (hz:zs.length<2 ^ 63):PC Tryz.prog 41 [ints zs] (.i (numErr zs)):=by
 refine ⟨ZF (fok41 true) (QC rfl) ?_,rfl⟩
 simp only[ic41,evA,simprocAttr]
 refine (o56_66 1 8 [zs.length] (by simp)).call frz ?_
 rw[FW]
 cases h1:inB zs.length 1 8
 ·have:numErr zs=3:=by simp[numErr,h1]
  simp only[evA,simprocAttr,this]
  exact frz
 ·simp only[evA,simprocAttr]
  refine (o56_66 0 1000000000 zs hz).call frz ?_
  cases h2:outF 0 1000000000 zs
  ·have:numErr zs=0:=by simp[numErr,h1,h2]
   simp only[evA,simprocAttr,this]
   exact frz
  ·have:numErr zs=7:=by simp[numErr,h1,h2]
   simp only[evA,simprocAttr,this]
   exact frz
theorem numErr_cases (zs:List Int):numErr zs=0∨numErr zs=3∨numErr zs=7:=by
 unfold numErr;split <;> (try split) <;> simp
structure NumsOk (zs:List Int):Prop where
 len:1≤zs.length∧zs.length≤8
 rng:∀ j,j<zs.length→0≤zs[j]?.getD 0∧zs[j]?.getD 0≤1000000000
theorem numErr_ok {zs:List Int} (h:numErr zs=0):NumsOk zs:=by
 unfold numErr at h
 split at h
 ·rename_i h1
  split at h
  ·cases h
  ·rename_i h2
   have h1:=VB.1 h1
   exact ⟨by omega,fun j hj=>VB.1 (PW.1 (by simpa using h2) j hj)⟩
 ·cases h
def lotF (zs:List Int):Nat→Int
 | 0=>0
 | i+1=>(lotF zs i*1000003+zs[i]?.getD 0+1) % 2147483647
theorem lotF_bounds (zs:List Int):∀ i,0≤lotF zs i∧lotF zs i<2147483647
 | 0=>by simp[lotF]
 | i+1=>by simp only[lotF];omega
theorem lotF_wrap {zs:List Int} {i:Nat} (h:0≤zs[i]?.getD 0∧zs[i]?.getD 0≤1000000000) :
  (IntKind.i64.wrap (IntKind.i64.wrap (IntKind.i64.wrap (lotF zs i*1000003)+zs[i]?.getD 0)+1)).tmod 2147483647=lotF zs (i+1):=by
 have:=lotF_bounds zs i
 rw[ZC (n:=lotF zs i*1000003) (by omega),ZC (n:=lotF zs i*1000003+_) (by omega),ZC (by omega),Int.tmod_eq_emod_of_nonneg (by omega)]
 rfl
def lotV (zs:List Int):AV:=if numErr zs=0 then .tup [.i (lotF zs zs.length),.i 0] else .tup [.i 0,.i (numErr zs)]
theorem lotV_cl (zs:List Int):QR 0 (lotV zs)=true:=by unfold lotV;split <;> rfl
theorem o21_l (zs:List Int) (hz:zs.length<2 ^ 63):PC Tryz.prog 9 [ints zs] (lotV zs):=by
 refine ⟨ZF (fok9 true) (QC rfl) ?_,lotV_cl zs⟩
 simp only[ic9,evA,simprocAttr]
 refine (o50 zs hz).call frz ?_
 rcases numErr_cases zs with h0 | h0 | h0
 ·have hv:lotV zs=.tup [.i (lotF zs zs.length),.i 0]:=by simp[lotV,h0]
  have hok:=numErr_ok h0
  have h8:=hok.len
  simp only[h0,hv,evA,simprocAttr]
  have hinit:lotF zs 0=0:=rfl
  have hstep:=fun i (h:i<zs.length)=>lotF_wrap (hok.rng i h)
  generalize lotF zs=L at hinit hstep ⊢
  refine ZW zs.length (fun i s=>∃ v3 v8,s=⟨[ints zs,.i (L i),.i 0,v3,.b false,ints zs,.i zs.length,.i i,v8],[]⟩) ?_ 0 (QF _) ⟨_,_,by rw[hinit];rfl⟩
  rintro i s hi ⟨v3,v8,rfl⟩
  by_cases h:i<zs.length
  ·simp only[ic9l0,QJ,h,evA,simprocAttr]
   exact ZL (by first | trivial | omega) ⟨_,_,by rw[hstep i h,ZC (n:=(i:Int)+1) (by omega)];rfl⟩
  ·have:i=zs.length:=by omega
   subst this
   simp only[ic9l0,QJ,h,evA,simprocAttr]
   exact frz
 ·have hv:lotV zs=.tup [.i 0,.i 3]:=by simp[lotV,h0]
  simp only[h0,hv,evA,simprocAttr]
  exact frz
 ·have hv:lotV zs=.tup [.i 0,.i 7]:=by simp[lotV,h0]
  simp only[h0,hv,evA,simprocAttr]
  exact frz
end Go.Proofs.YtogjcmnopidfpaaGreat.AM
namespace Go.Proofs.YtogjcmnopidfpaaGreat.AM
variable [Dr]
open Go Pl
theorem RoOk.csz {c:Crs} (hc:TSz c.tw) (hh:c.ha.length<2 ^ 63) {ls:List (List Stp)} (h:RoOk ls):CSz { c with ro:=ls } :=
 ⟨hc,hh,by have:=h.n;show ls.length<2 ^ 63;omega,fun i hi=>by
  have hi':i<ls.length:=hi
  have:=h.l ls[i]! (by rw[getElem!_pos ls i hi'];exact Q2 hi')
  show (ls[i]!).length<2 ^ 63
  omega⟩
theorem wsh_in {c:Crs} {w:Wsh} (h:wshE c w=0):inB w.ma 1 10=true∧inB w.sh 0 (2 ^ c.tw.sh.length-1)=true∧inB w.ti 0 ((c.tw.tm.length:Int)-1)=true:=by
 unfold wshE at h
 cases g1:inB w.ma 1 10 <;> cases g2:inB w.di 0 40 <;> cases g3:inB w.sh 0 (2 ^ c.tw.sh.length-1) <;> cases g4:inB w.ti 0 ((c.tw.tm.length:Int)-1) <;> simp[g1,g2,g3,g4] at h ⊢
theorem lotV_some (zs:List Int):∃ (o:Nat) (e:Int),lotV zs=.tup [.i o,.i e]:=by
 unfold lotV
 split
 ·refine ⟨(lotF zs zs.length).toNat,0,?_⟩
  have:=(lotF_bounds zs zs.length).1
  rw[VI this]
 ·exact ⟨0,_,rfl⟩
set_option maxHeartbeats 8000000 in
theorem law_TopRoutes (c:Crs) (hc:TSz c.tw) (hh:c.ha.length<2 ^ 63) (x:Tst) (hx:TstOk x):AC Tryz.prog 3 [crsA c,tstA x] [] fun r τ=>r=.b true:=by
 refine ZF (fok3 true) (QC rfl) ?_
 simp only[ic3,WI,cellsOf,evA,simprocAttr,QW,QM,WW,X9,VW,EZ,Qau,CH,get_nz,get_ns]
 by_cases h0:(c.ha.length:Int)=c.tw.st.length
 rotate_left
 ·have hb:((c.ha.length:Int) != c.tw.st.length)=true:=bne_t h0
  simp only[hb,evA,simprocAttr,QW,QM,WW,X9,VW,EZ,Qau,CH,get_nz,get_ns]
  refine ak4.call .nil ?_
  simp only[evA,simprocAttr,QW,QM,WW,X9,VW,EZ,Qau,CH,get_nz,get_ns]
 have hb:((c.ha.length:Int) != c.tw.st.length)=false:=by simpa using h0
 simp only[hb,evA,simprocAttr,QW,QM,WW,X9,VW,EZ,Qau,CH,get_nz,get_ns]
 refine l3_1 c hc x hx (lv:=.cv .nils) ⟨rfl,rfl,AccE.nil _ _ _⟩ ?_
 intro H lv ls v5 v6 v7 v8 v9 v22 v23 v24 v25 hI hR
 have r0:=hI.r0
 have r1:=hI.r1
 have nu:=hI.acc.nu
 have hcs:=hR.csz hc hh (c:=c)
 have hfz:∀ J,FrzV anyC (H++J) (.agg (crX c lv)) (crsA { c with ro:=ls }):=fun J =>
  .agg (.cons (.c (.c _ trivial)) (.cons (.c (.c _ trivial)) (.cons (.c (.c _ trivial)) (.cons (.c (.c _ trivial)) (.cons (.c (.c _ trivial)) (.cons (.c (.c _ trivial)) (.cons (accE_frz (hI.acc.app J) fun _ _=>trivial) .nil)))))))
 have hfz0:=hfz []
 rw[ZU] at hfz0
 obtain ⟨c',hce⟩:∃ c',c' = { c with ro:=ls }:=⟨_,rfl⟩
 have htw:c'.tw=c.tw:=by rw[hce]
 have hha:c'.ha=c.ha:=by rw[hce]
 have hro:c'.ro=ls:=by rw[hce]
 rw[← hce] at hfz hfz0 hcs
 simp only[r0,nu.1,evA,simprocAttr,QW,QM,WW,X9,VW,EZ,Qau,CH,get_nz,get_ns]
 refine (k6 c' hcs).call (.cons hfz0 .nil) ?_
 simp only[r0,r1,nu.1,evA,simprocAttr,QW,QM,WW,X9,VW,EZ,Qau,CH,get_nz,get_ns]
 refine AC.mono (k7 c' hcs x.w (.cons hfz0 (.cons (.agg (.cons (.c (.c _ trivial)) (.cons (.c (.c _ trivial)) (.cons (.c (.c _ trivial)) (.cons (.c (.c _ trivial)) .nil))))) .nil))) ?_
 rintro r τ ⟨⟨ys,bd,f,rfl,hok,_⟩,rfl⟩
 have q0:=fun J=>ZH r0 J
 have q1:=fun J=>ZH r1 J
 simp only[evA,simprocAttr,QW,QM,WW,X9,VW,EZ,Qau,CH,get_nz,get_ns]
 by_cases hf:f=0
 rotate_left
 ·have hbf:(f != 0)=true:=bne_t hf
  cases he:(crsV c').2.2 != 0
  ·simp only[hbf,evA,simprocAttr,QW,QM,WW,X9,VW,EZ,Qau,CH,get_nz,get_ns]
   refine ak4.call .nil ?_
   simp only[evA,simprocAttr,QW,QM,WW,X9,VW,EZ,Qau,CH,get_nz,get_ns]
  ·simp only[hbf,evA,simprocAttr,QW,QM,WW,X9,VW,EZ,Qau,CH,get_nz,get_ns]
   refine ak4.call .nil ?_
   simp only[evA,simprocAttr,QW,QM,WW,X9,VW,EZ,Qau,CH,get_nz,get_ns]
 obtain ⟨hk,hwE,hym,hpr⟩:=hok hf
 have he0:((crsV c').2.2 != 0)=false:=by rw[crsV_ok.2 hk];rfl
 have hbf:(f != 0)=false:=by rw[hf];rfl
 have hk8:=k8 c' hcs (by have:=(twnE_ok hk.tw).2.1;omega) x.w
 rw[hwE] at hk8
 simp only[he0,hbf,q0,q1,nu.1,evA,simprocAttr,QW,QM,WW,X9,VW,EZ,Qau,CH,get_nz,get_ns]
 refine hk8.call (.cons (hfz _) (.cons (.agg (.cons (.c (.c _ trivial)) (.cons (.c (.c _ trivial)) (.cons (.c (.c _ trivial)) (.cons (.c (.c _ trivial)) .nil))))) .nil)) ?_
 simp only[q0,q1,nu.1,evA,simprocAttr,QW,QM,WW,X9,VW,EZ,Qau,CH,get_nz,get_ns]
 have hia0:∀ σ,PD 2 1 [.ptr 1 0,.cv (.int .i64 0)] σ=some (.ptr 1 0,σ):=fun σ=>rfl
 have hia1:∀ σ,PD 2 1 [.ptr 1 0,.cv (.int .i64 1)] σ=some (.ptr 1 1,σ):=fun σ=>rfl
 obtain ⟨o1,e1,hv1⟩:=lotV_some x.n0
 obtain ⟨o2,e2,hv2⟩:=lotV_some x.n1
 have hl1:=o21_l x.n0 hx.n0
 have hl2:=o21_l x.n1 hx.n1
 rw[hv1] at hl1
 rw[hv2] at hl2
 simp only[hia0,q1,evA,simprocAttr,QW,QM,WW,X9,VW,EZ,Qau,CH,get_nz,get_ns]
 refine hl1.call frz ?_
 simp only[hia1,q1,evA,simprocAttr,QW,QM,WW,X9,VW,EZ,Qau,CH,get_nz,get_ns]
 refine hl2.call frz ?_
 simp only[evA,simprocAttr,QW,QM,WW,X9,VW,EZ,Qau,CH,get_nz,get_ns]
 cases g1:e1 != 0
 rotate_left
 ·simp only[evA,simprocAttr,QW,QM,WW,X9,VW,EZ,Qau,CH,get_nz,get_ns]
  refine ak4.call .nil ?_
  simp only[evA,simprocAttr,QW,QM,WW,X9,VW,EZ,Qau,CH,get_nz,get_ns]
 cases g2:e2 != 0
 rotate_left
 ·simp only[g2,evA,simprocAttr,QW,QM,WW,X9,VW,EZ,Qau,CH,get_nz,get_ns]
  refine ak4.call .nil ?_
  simp only[evA,simprocAttr,QW,QM,WW,X9,VW,EZ,Qau,CH,get_nz,get_ns]
 obtain ⟨gma,gsh,gti⟩:=wsh_in hwE
 have hma:0<ys.length:=by
  have:=VB.1 gma
  omega
 have hd0:((ys.length:Int) == 0)=false:=by
  rw[beq_eq_false_iff_ne];omega
 have hd1:decide ((o1:Int)<0)=false:=decide_eq_false (by omega)
 have hd2:decide ((o2:Int)<0)=false:=decide_eq_false (by omega)
 have hnz:¬ ((ys.length:Int)=0):=by omega
 have hrem1:(o1:Int).tmod (ys.length:Int)=((o1 % ys.length:Nat):Int):=rfl
 have hrem2:(o2:Int).tmod (ys.length:Int)=((o2 % ys.length:Nat):Int):=rfl
 have hi1:o1 % ys.length<ys.length:=Nat.mod_lt _ hma
 have hi2:o2 % ys.length<ys.length:=Nat.mod_lt _ hma
 generalize o1 % ys.length=i1 at hrem1 hi1
 generalize o2 % ys.length=i2 at hrem2 hi2
 have hia:∀ {k:Nat},k<ys.length→∀ σ,VP 1 [ints (nI ys),.cv (.int .i64 k)] σ=some (.cv (.rp ((nI ys).map (.int .i64)) (k*1)),σ):=fun {k} h σ=>XP (by simpa using h) σ
 have hia1:=hia hi1
 have hia2:=hia hi2
 have hnl:(nI ys).length=ys.length:=by simp
 have hlg:∀ {k:Nat},k<ys.length→((nI ys).map (CV.int .i64))[k]? = some (.int .i64 (ys[k]! : Nat)):=fun {k} h=>by simp[h]
 have hlg1:=hlg hi1
 have hlg2:=hlg hi2
 simp only[g2,hnl,hd0,hd1,hd2,evA,simprocAttr,QW,QM,WW,X9,VW,EZ,Qau,CH,get_nz,get_ns]
 refine DW_s [] [] hmix (by kernel_rfl) rfl ?_
 simp only[hnl,hnz,hrem1,hrem2,hia1,hia2,W3,hlg1,hlg2,evA,simprocAttr,QW,QM,WW,X9,VW,EZ,Qau,CH,get_nz,get_ns]
 have hA:ys[i1]! < c'.ro.length∧shP c' x.w ys[i1]! = true:=canL_mem (hpr.can _ (by rw[getElem!_pos ys i1 hi1];exact Q2 hi1))
 have hB:ys[i2]! < c'.ro.length∧shP c' x.w ys[i2]! = true:=canL_mem (hpr.can _ (by rw[getElem!_pos ys i2 hi2];exact Q2 hi2))
 have htwo:=fun tr h=>hpr.two (tr:=tr) hk.hrd h hi1 hi2
 generalize ys[i1]! = A at hA htwo ⊢
 generalize ys[i2]! = B at hB htwo ⊢
 have hlen:=acc_len hI.acc
 have hAl:=hA.1
 have hBl:=hB.1
 rw[hro] at hAl hBl
 have ha1:decide ((A:Int)<0)=false:=decide_eq_false (by omega)
 have ha2:decide ((A:Int)≥(ls.length:Int))=false:=decide_eq_false (by omega)
 have hb1:decide ((B:Int)<0)=false:=decide_eq_false (by omega)
 have hb2:decide ((B:Int)≥(ls.length:Int))=false:=decide_eq_false (by omega)
 have hk10:=k10 c' hk x.tr hx.trl hx.tr
 have htr:∀ i,i<c'.ha.length→c'.ha[i]!.lo≤(trL c'.ha x.tr c'.ha.length)[i]?.getD 0∧(trL c'.ha x.tr c'.ha.length)[i]?.getD 0≤c'.ha[i]!.hi:=fun i hi=>by
  rw[trL_get hi];exact trV_in (hk.hrd i hi) fun j=>(hx.tr j).1
 have hk11a:=k11 c' hcs hk A hA.1 (trL c'.ha x.tr c'.ha.length) (trL_len _ _ _) htr
 have hk11b:=k11 c' hcs hk B hB.1 (trL c'.ha x.tr c'.ha.length) (trL_len _ _ _) htr
 have hab:=htwo _ htr
 have hnb:=sumF_bd hk.hrd (rtE_ok (hk.rt A hA.1)).1.2 htr c'.ha.length (QG _)
 have hmb:=sumF_bd hk.hrd (rtE_ok (hk.rt B hB.1)).1.2 htr c'.ha.length (QG _)
 have h40:=hk.h40
 generalize trL c'.ha x.tr c'.ha.length=tl at *
 simp only[q0,q1,nu.1,hlen,ha1,ha2,hb1,hb2,evA,simprocAttr,QW,QM,WW,X9,VW,EZ,Qau,CH,get_nz,get_ns]
 refine hk10.call (.cons (hfz _) (.cons (.c (.c _ trivial)) .nil)) ?_
 simp only[q0,q1,nu.1,evA,simprocAttr,QW,QM,WW,X9,VW,EZ,Qau,CH,get_nz,get_ns]
 refine hk11a.call (.cons (hfz _) (.cons (.c (.c _ trivial)) (.cons (.c (.c _ trivial)) .nil))) ?_
 simp only[q0,q1,nu.1,evA,simprocAttr,QW,QM,WW,X9,VW,EZ,Qau,CH,get_nz,get_ns]
 refine hk11b.call (.cons (hfz _) (.cons (.c (.c _ trivial)) (.cons (.c (.c _ trivial)) .nil))) ?_
 generalize sumF c'.ha c'.ro[A]! tl c'.ha.length=n at hab hnb ⊢
 generalize sumF c'.ha c'.ro[B]! tl c'.ha.length=m at hab hmb ⊢
 have hw1:IntKind.i64.wrap (m-n)=m-n:=ZC (by omega)
 have hw2:IntKind.i64.wrap (n-m)=n-m:=ZC (by omega)
 have hgt:decide ((if m-n>n-m then m-n else n-m)>bd)=false:=decide_eq_false (by split <;> omega)
 have hsh6:0≤x.w.sh∧x.w.sh<64:=by
  have h1:=VB.1 gsh
  have h2:=pow6 (twnE_ok hk.tw).2.1
  omega
 have hk12a:=k12 c' hcs hk x.w.sh x.w.ti hsh6 gti A hA.1
 have hk12b:=k12 c' hcs hk x.w.sh x.w.ti hsh6 gti B hB.1
 have hAs:(subI x.w.sh (torF c'.tw x.w.ti c'.ro[A]!).2.2.2 == 0)=true:=hA.2
 have hBs:(subI x.w.sh (torF c'.tw x.w.ti c'.ro[B]!).2.2.2 == 0)=true:=hB.2
 rw[hAs] at hk12a
 rw[hBs] at hk12b
 simp only[q0,q1,nu.1,hw1,hw2,hgt,evA,simprocAttr,QW,QM,WW,X9,VW,EZ,Qau,CH,get_nz,get_ns]
 refine hk12a.call (.cons (hfz _) (.cons (.agg (.cons (.c (.c _ trivial)) (.cons (.c (.c _ trivial)) (.cons (.c (.c _ trivial)) (.cons (.c (.c _ trivial)) .nil))))) (.cons (U4 (zs:=[(A:Int)]) (fun _=>trivial) rfl (by rw[X9];rfl)) .nil))) ?_
 simp only[q0,q1,nu.1,evA,simprocAttr,QW,QM,WW,X9,VW,EZ,Qau,CH,get_nz,get_ns]
 refine hk12b.call (.cons (hfz _) (.cons (.agg (.cons (.c (.c _ trivial)) (.cons (.c (.c _ trivial)) (.cons (.c (.c _ trivial)) (.cons (.c (.c _ trivial)) .nil))))) (.cons (U4 (zs:=[(B:Int)]) (fun _=>trivial) rfl (by rw[X9];rfl)) .nil))) ?_
 simp only[evA,simprocAttr,QW,QM,WW,X9,VW,EZ,Qau,CH,get_nz,get_ns]
 refine ak4.call .nil ?_
 simp only[evA,simprocAttr,QW,QM,WW,X9,VW,EZ,Qau,CH,get_nz,get_ns]
theorem typed_list {α:Type} {f:α→List CV} {p:α→Prop} {t:TypeId} (h:∀ cs,Typed Tryz.prog t cs→∃ x,cs=f x∧p x):∀ L:List (List CV),(∀ l∈L,Typed Tryz.prog t l)→∃ xs:List α,L.flatten=xs.flatMap f∧L.length=xs.length∧∀ x∈xs,p x
 | [],_=>⟨[],rfl,rfl,by simp⟩
 | l::L,hl=>by
  obtain ⟨x,h1,h2⟩:=h l (hl l (by simp))
  obtain ⟨xs,g1,g2,g3⟩:=typed_list h L fun l hh=>hl l (by simp[hh])
  exact ⟨x::xs,by simp[h1,g1],by simp[g2],by simpa using ⟨h2,g3⟩⟩
theorem get_of {α:Type} [Inhabited α] {p:α→Prop} {l:List α} (h:∀ x∈l,p x) (i:Nat) (hi:i<l.length):p l[i]! := by
 rw[getElem!_pos l i hi]
 exact h _ (Q2 hi)
theorem typed_bool {P:Program} {t:TypeId} {cs:List CV} (ht:P.underlying t=some .bool) (h:Typed P t cs):∃ b:Bool,cs=[.bool b]:=by
 cases h with
 | bool ht' b=>exact ⟨b,rfl⟩
 | int ht'=>rw[ht] at ht';cases ht'
 | str ht'=>rw[ht] at ht';cases ht'
 | slc ht'=>rw[ht] at ht';cases ht'
 | arr ht'=>rw[ht] at ht';cases ht'
 | struct ht'=>rw[ht] at ht';cases ht'
theorem typed_i {cs:List CV} (h:Typed Tryz.prog 3 cs):∃ x:Int,cs=[.int .i64 x]:=by
 obtain ⟨n,rfl,_⟩:=QeV Tryz.underlying3 h
 exact ⟨n,rfl⟩
theorem typed_row {cs:List CV} (h:Typed Tryz.prog 30 cs):∃ zs:List Int,cs=[.rsl (zs.map (.int .i64)) zs.length]∧zs.length<2 ^ 63:=by
 obtain ⟨zs,h1,h2,_⟩:=typed_ints Tryz.underlying30 Tryz.underlying3 h
 exact ⟨zs,h1,h2⟩
theorem typed_two {cs:List CV} (h:Typed Tryz.prog 44 cs):∃ x y:Int,cs=[.int .i64 x,.int .i64 y]:=by
 obtain ⟨L,rfl,hn,hf⟩:=typed_struct Tryz.underlying44 h
 match L,hn with
 | [a,b],_ =>
  obtain ⟨n1,rfl⟩:=typed_i (hf 0 _ a rfl rfl)
  obtain ⟨n2,rfl⟩:=typed_i (hf 1 _ b rfl rfl)
  exact ⟨n1,n2,rfl⟩
theorem typed_stt {cs:List CV} (h:Typed Tryz.prog 103 cs):∃ s:Stt,cs=sttC s∧s.sh.length<2 ^ 63:=by
 obtain ⟨L,rfl,hn,hf⟩:=typed_struct Tryz.underlying103 h
 match L,hn with
 | [a,b,c,d,e,f],_ =>
  obtain ⟨n1,rfl⟩:=typed_i (hf 0 _ a rfl rfl)
  obtain ⟨n2,rfl⟩:=typed_i (hf 1 _ b rfl rfl)
  obtain ⟨n3,rfl⟩:=typed_i (hf 2 _ c rfl rfl)
  obtain ⟨n4,n5,rfl⟩:=typed_two (hf 3 _ d rfl rfl)
  obtain ⟨b1,rfl⟩:=typed_bool Tryz.underlying4 (hf 4 _ e rfl rfl)
  obtain ⟨zs,rfl,hz⟩:=typed_row (hf 5 _ f rfl rfl)
  exact ⟨⟨n1,n2,n3,n4,n5,b1,zs⟩,rfl,hz⟩
theorem typed_strs {cs:List CV} (h:Typed Tryz.prog 22 cs):∃ l:List ByteArray,cs=[strR l]∧l.length<2 ^ 63∧∀ i,i<l.length→(l[i]!).size<2 ^ 63:=by
 obtain ⟨L,rfl,n,_,h1⟩:=QeU Tryz.underlying22 h
 have hm:maxLen<2 ^ 63:=by decide
 obtain ⟨co,b1,b2,b3⟩:=typed_list (f:=fun x:ByteArray=>[CV.str x]) (p:=fun x=>x.size<2 ^ 63) (fun cs h=>by
  obtain ⟨x,rfl,hx⟩:=typed_str Tryz.underlying9 h
  exact ⟨x,rfl,by omega⟩) L h1
 refine ⟨co,?_,by omega,fun i hi=>?_⟩
 ·simp only[strR,b1,b2,List.map_eq_flatMap]
 ·rw[getElem!_pos co i hi];exact b3 _ (Q2 hi)
theorem typed_twn {cs:List CV} (h:Typed Tryz.prog 25 cs):∃ t:Twn,cs=twnC t∧TSz t:=by
 obtain ⟨L,rfl,hn,hf⟩:=typed_struct Tryz.underlying25 h
 have hm:maxLen<2 ^ 63:=by decide
 match L,hn with
 | [a,b,c,d],_ =>
  obtain ⟨l1,rfl,n1,s1⟩:=typed_strs (hf 0 _ a rfl rfl)
  obtain ⟨l2,rfl,n2,s2⟩:=typed_strs (hf 1 _ b rfl rfl)
  obtain ⟨l3,rfl,n3,s3⟩:=typed_strs (hf 2 _ c rfl rfl)
  obtain ⟨L4₀,rfl,n4,_,h4⟩:=QeU Tryz.underlying23 (hf 3 _ d rfl rfl)
  obtain ⟨l4,a4,b4,c4⟩:=typed_list (fun cs h=>typed_stt h) L4₀ h4
  refine ⟨⟨l1,l2,l3,l4⟩,?_,⟨n1,n2,n3,by show l4.length<_;omega,s1,s2,s3,get_of c4⟩⟩
  simp only[twnC,sttR,sttCs,a4,b4,List.flatten_cons,List.flatten_nil,ZU,List.cons_append,List.nil_append]
theorem typed_hrd {cs:List CV} (h:Typed Tryz.prog 109 cs):∃ x:Hrd,cs=hrdC x∧True:=by
 obtain ⟨L,rfl,hn,hf⟩:=typed_struct Tryz.underlying109 h
 match L,hn with
 | [a,b,c],_ =>
  obtain ⟨n1,rfl⟩:=typed_i (hf 0 _ a rfl rfl)
  obtain ⟨n2,rfl⟩:=typed_i (hf 1 _ b rfl rfl)
  obtain ⟨n4,n5,rfl⟩:=typed_two (hf 2 _ c rfl rfl)
  exact ⟨⟨n1,n2,n4,n5⟩,rfl,trivial⟩
theorem typed_stp {cs:List CV} (h:Typed Tryz.prog 98 cs):∃ x:Stp,cs=stpC x∧True:=by
 obtain ⟨L,rfl,hn,hf⟩:=typed_struct Tryz.underlying98 h
 match L,hn with
 | [a,b],_ =>
  obtain ⟨n1,rfl⟩:=typed_i (hf 0 _ a rfl rfl)
  obtain ⟨b1,rfl⟩:=typed_bool Tryz.underlying4 (hf 1 _ b rfl rfl)
  exact ⟨(n1,b1),rfl,trivial⟩
theorem typed_stps {cs:List CV} (h:Typed Tryz.prog 42 cs):∃ l:List Stp,cs=[stpR l]∧True:=by
 obtain ⟨L,rfl,n,_,h1⟩:=QeU Tryz.underlying42 h
 obtain ⟨l,a1,a2,_⟩:=typed_list (fun cs h=>typed_stp h) L h1
 exact ⟨l,by rw[a1,a2],trivial⟩
theorem typed_crs {cs:List CV} (h:Typed Tryz.prog 29 cs):∃ c:Crs,avOf Tryz.prog 29 cs=crsA c∧TSz c.tw∧c.ha.length<2 ^ 63:=by
 obtain ⟨L,rfl,hn,hf⟩:=typed_struct Tryz.underlying29 h
 have hm:maxLen<2 ^ 63:=by decide
 match L,hn with
 | [a,b,c,d],_ =>
  obtain ⟨t,rfl,ht⟩:=typed_twn (hf 0 _ a rfl rfl)
  obtain ⟨ce,rfl⟩:=typed_i (hf 1 _ b rfl rfl)
  obtain ⟨L3₀,rfl,n3,_,h3⟩:=QeU Tryz.underlying26 (hf 2 _ c rfl rfl)
  obtain ⟨L4₀,rfl,n4,_,h4⟩:=QeU Tryz.underlying27 (hf 3 _ d rfl rfl)
  obtain ⟨ha,a3,b3,_⟩:=typed_list (fun cs h=>typed_hrd h) L3₀ h3
  obtain ⟨ro,a4,b4,_⟩:=typed_list (f:=fun l:List Stp=>[stpR l]) (p:=fun _=>True) (fun cs h=>typed_stps h) L4₀ h4
  refine ⟨⟨t,ce,ha,ro⟩,?_,ht,by show ha.length<_;omega⟩
  have e:ro.flatMap (fun l:List Stp=>[stpR l])=ro.map stpR:=by rw[List.map_eq_flatMap]
  rw[e] at a4
  simp only[avOf,Tryz.underlying29,a3,b3,a4,b4]
  rfl
theorem wf_u64 {n:Int} (h:(Lit.int .u64 n).wf=true):0≤n∧n≤18446744073709551615:=by
 simp only[Lit.wf,QD,decide_eq_true_eq,IntKind.min,IntKind.max,IntKind.bits,IntKind.signed] at h
 simp at h;omega
theorem typed_tst {cs:List CV} (h:Typed Tryz.prog 37 cs):∃ x:Tst,avOf Tryz.prog 37 cs=tstA x∧TstOk x:=by
 obtain ⟨L,rfl,hn,hf⟩:=typed_struct Tryz.underlying37 h
 have hm:maxLen<2 ^ 63:=by decide
 match L,hn with
 | [a,b,c,d],_ =>
  obtain ⟨L1,rfl,hn1,_,h1⟩:=typed_arr Tryz.underlying31 (hf 0 _ a rfl rfl)
  obtain ⟨tr,rfl,t1,t2⟩:=typed_ints Tryz.underlying32 Tryz.underlying5 (hf 1 _ b rfl rfl)
  obtain ⟨L3₀,rfl,hn3,h3⟩:=typed_struct Tryz.underlying34 (hf 2 _ c rfl rfl)
  obtain ⟨cl,rfl,c1,c2⟩:=typed_ints Tryz.underlying35 Tryz.underlying41 (hf 3 _ d rfl rfl)
  match L1,hn1,L3₀,hn3 with
  | [p,q],_,[w1,w2,w3,w4],_ =>
   obtain ⟨z0,rfl,y0⟩:=typed_row (h1 p (by simp))
   obtain ⟨z1,rfl,y1⟩:=typed_row (h1 q (by simp))
   obtain ⟨m1,rfl⟩:=typed_i (h3 0 _ w1 rfl rfl)
   obtain ⟨m2,rfl⟩:=typed_i (h3 1 _ w2 rfl rfl)
   obtain ⟨m3,rfl⟩:=typed_i (h3 2 _ w3 rfl rfl)
   obtain ⟨m4,rfl⟩:=typed_i (h3 3 _ w4 rfl rfl)
   refine ⟨⟨z0,z1,tr,⟨m1,m2,m3,m4⟩,cl⟩,by simp only[avOf,Tryz.underlying37];rfl,⟨y0,y1,t1,fun j=>?_,c1,fun j hj=>?_⟩⟩
   ·show 0≤tr[j]?.getD 0∧tr[j]?.getD 0≤255
    rcases ZB j tr.length with hj | hj
    ·rw[QI hj]
     exact wf_u8 (t2 _ (Q2 hj))
    ·rw[QN hj];simp
   ·have hj:j<cl.length:=hj
    show 0≤cl[j]!∧cl[j]! < 2 ^ 64
    rw[getElem!_pos cl j hj]
    have h64:=wf_u64 (c2 _ (Q2 hj))
    have:(2:Int) ^ 64=18446744073709551616:=by decide
    omega
theorem law_TopRoutesU (avs:List AV) (h:Args Tryz.prog Tryz.f3.params.toList avs):AC Tryz.prog 3 avs [] fun r _=>r=.b true:=by
 have h:Args Tryz.prog [29,37] avs:=h
 obtain ⟨cs1,avs,rfl,h1,h⟩:=args_cons h
 obtain ⟨cs2,avs,rfl,h2,h⟩:=args_cons h
 cases args_nil h
 obtain ⟨c,e,hc,hh⟩:=typed_crs h1
 obtain ⟨x,e2,hx⟩:=typed_tst h2
 rw[e,e2]
 exact law_TopRoutes c hc hh x hx
end Go.Proofs.YtogjcmnopidfpaaGreat.AM

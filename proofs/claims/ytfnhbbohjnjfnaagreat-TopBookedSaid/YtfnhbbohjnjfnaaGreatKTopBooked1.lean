/- Parts of the proof of TopBooked. -/
import Derived.RangeFuncNested
import Derived.Test.YtfnhbbohjnjfnaaGreatProg
import Derived.Maps.RangeRun
import Derived.RecoverIn
import Derived.Test.YtfnhbbohjnjfnaaGreatRows
import Derived.WalkKit
import Derived.ProofKit
import Derived.OpenShut
import Derived.Carry
import Derived.Test.YtfnhbbohjnjfnaaGreatChecked
import Derived.Test.YtfnhbbohjnjfnaaGreatZ22
set_option linter.unusedVariables false
set_option linter.unusedSimpArgs false
set_option linter.unusedSectionVars false
namespace Go.Proofs.YtfnhbbohjnjfnaaGreat.AM
variable [Dr]
open Go
variable {P:Program} {fx:Fx} {m:LM} {X:Nat→Prop} {en:En} {w:World} {s:St} {Q:Exit→St→Prop}
abbrev noX:Nat→Prop:=fun _=>False
end Go.Proofs.YtfnhbbohjnjfnaaGreat.AM
namespace Go.Proofs.YtfnhbbohjnjfnaaGreat.AM
variable [Dr]
open Go
abbrev vs5:List Nat:=[0,1,2,3,4,5,6,7,8,9,11,12,14]
def ic5:IC:=(.seq (.region [jw 0 .mv [jB false]])
 (.seq (.region [jk 16 [],jk 15 [.t 0,jn 2,jn 28],jt 1,jx 0 2,jx 1 2,jm 1 3,jm 2 4])
 (.seq (.region [jk 16 [],jk 17 [],jk 10 [.t 0,.t 1],jt 2,jx 0 3,jx 1 3,jx 2 3,jw 4 (.alloc [(.cv .nils),(.cv .nils),(.cv .nils),(.cv .nils)]) [],jm 3 4,jq (.store 4) [.v 4,.t 5],jm 5 6])
 (.seq (.region [jk 16 [],jk 19 [],jk 18 [.t 0,.t 1],jt 2,jx 0 3,jx 1 3,jm 6 4,jm 7 5])
 (.seq (.region [jk 16 [],jk 19 [],jk 20 [.t 0,.t 1,jn 1,jn 0,jn 43,jn 2],jt 2,jx 0 3,jx 1 3,jm 8 4,jm 9 5])
 (.seq (.region [jk 16 [],jk 21 [],jk 10 [.t 0,.t 1],jt 2,jx 0 3,jx 1 3,jx 2 3,jw 10 (.alloc [(.cv .nils),(.cv .nils),(.cv .nils),(.cv .nils)]) [],jt 4,jq (.store 4) [.v 10,.t 5],jm 11 6])
 (.seq (.region [jq (.build [(.cv .nils),(.cv .nils),(.cv (.int .i64 0)),(.cv (.int .i64 0)),(.cv (.int .i64 0)),(.cv (.int .i64 0)),(.cv .nils)] []) [],jk 15 [.t 0,jn 1,jn 1],jt 1,jx 0 2,jx 1 2,jt 3,jm 12 4])
 (.seq (.dr [[],[0],[1],[2],[3,2],[2,4],[5,2],[6],[7,6],[6,8],[9,6],[10],[11,10],[10,12],[13,10],[14],[15,14],[14,16],[17,14],[18],[19,18],[18,20],[21,18],[22],[23,22],[22,24],[25,22],[26],[27,26],[26,28],[29,26],[30],[30],[31,32,30,30],[30,33],[34,33],[35],[35],[35],[37,38,35],[35],[35],[35],[39,40,41,42,35],[36,43,35,35],[35,44],[45,44],[46],[46],[48,46],[47,49,46,46],[46,50],[51,50],[52],[53,52],[54,52],[55,52],[52,56],[57,52],[58],[59,58],[60,58],[61,58],[58],[62,63,58],[58,64],[65,58],[66],[67,66],[66],[68,69,66,66],[66,70],[71,70,0,1,2,3,4,5,6,7,8,9,10,11,12,13,14,15,16,17,18,19,20,21,22,23,24,25,26,27,28,29,30,31,32,33,34,35,36,37,38,39,40,41,42,43,44,45,46,47,48,49,50,51,52,53,54,55,56,57,58,59,60,61,62,63,64,65,66,67,68,69,70,71]] [jv 2,jq (.bin .eql .int) [.t 0,jn 0],jt 1,jh 2 true 5,jg 2 true (.bin .eql .int) [.t 3,jn 0],jq .pick [.t 2,.t 4,jB false],jt 5,jh 6 true 7,jg 6 true (.bin .eql .int) [.t 7,jn 0],jq .pick [.t 6,.t 8,jB false],jt 9,jh 10 true 9,jg 10 true (.bin .eql .int) [.t 11,jn 0],jq .pick [.t 10,.t 12,jB false],jt 13,jh 14 true 11,jg 14 true (.bin .eql .int) [.t 15,jn 0],jq .pick [.t 14,.t 16,jB false],jt 17,jh 18 true 12,jg 18 true (.bin .eql .int) [.t 19,jn 3],jq .pick [.t 18,.t 20,jB false],jt 21,jh 22 true 1,jg 22 true (.bin .eql .int) [.t 23,jn 4000],jq .pick [.t 22,.t 24,jB false],jt 25,jh 26 true 8,jg 26 true (.bin .eql .int) [.t 27,jn 56],jq .pick [.t 26,.t 28,jB false],jt 29,jh 30 true 3,jg 30 true (.bslice 1 6 [(.cv (.int .i64 0)),(.cv (.int .i64 0)),(.cv (.int .i64 0)),(.cv (.int .i64 0)),(.cv (.int .i64 0)),(.cv (.int .i64 0))] [(0,1),(1,1),(2,1),(3,1),(4,1),(5,1)]) [jn 0,jn 5,jn 0,jn 0,jn 0,jn 0],jf 30 true 22 [.t 31,.t 32],jq .pick [.t 30,.t 33,jB false],jt 34,jg 35 true (.loadN 4) [.v 4],jg 35 true (.build [(.cv (.int .i64 0)),(.cv (.int .i64 0)),(.cv (.int .i64 0)),(.cv (.int .i64 0)),(.cv (.int .i64 0))] [(2,1),(3,1),(4,1)]) [jn 33,jn 2,jn 1],jg 35 true (.build [(.cv (.int .i64 0)),(.cv (.int .i64 0)),(.cv (.int .i64 0)),(.cv (.int .i64 0)),(.cv (.int .i64 0))] [(0,1),(1,1),(2,1),(3,1),(4,1)]) [jn 1,jn 1,jn 34,jn 1,jn 3],jg 35 true (.bslice 5 2 [(.cv (.int .i64 0)),(.cv (.int .i64 0)),(.cv (.int .i64 0)),(.cv (.int .i64 0)),(.cv (.int .i64 0)),(.cv (.int .i64 0)),(.cv (.int .i64 0)),(.cv (.int .i64 0)),(.cv (.int .i64 0)),(.cv (.int .i64 0))] [(0,5),(5,5)]) [.t 37,.t 38],jg 35 true (.bslice 1 2 [(.cv (.int .i64 0)),(.cv (.int .i64 0))] [(0,1),(1,1)]) [jn 0,jn 650],jg 35 true (.bslice 1 2 [(.cv (.int .i64 0)),(.cv (.int .i64 0))] [(0,1),(1,1)]) [jn 0,jn 150],jg 35 true (.bslice 1 6 [(.cv (.int .i64 0)),(.cv (.int .i64 0)),(.cv (.int .i64 0)),(.cv (.int .i64 0)),(.cv (.int .i64 0)),(.cv (.int .i64 0))] [(0,1),(1,1),(2,1),(3,1),(4,1),(5,1)]) [jn (-4000),jn (-4000),jn (-22000),jn 50000,jn (-20000),jn 0],jg 35 true (.build [(.cv .nils),(.cv .nils),(.cv .nils),(.cv .nils)] [(0,1),(1,1),(2,1),(3,1)]) [.t 39,.t 40,.t 41,.t 42],jf 35 true 23 [.t 36,.t 43],jq .pick [.t 35,.t 44,jB false],jt 45,jh 46 true 6,jg 46 true (.build [(.cv (.int .i64 0)),(.cv (.int .i64 0)),(.cv (.int .i64 0)),(.cv (.int .i64 0))] [(0,1),(1,1),(2,1),(3,1)]) [jn 3,jn 0,jn 2,jn 4000],jg 46 true (.bslice 4 1 [(.cv (.int .i64 0)),(.cv (.int .i64 0)),(.cv (.int .i64 0)),(.cv (.int .i64 0))] [(0,4)]) [.t 48],jf 46 true 24 [.t 47,.t 49],jq .pick [.t 46,.t 50,jB false],jt 51,jg 52 true (.fadd 0) [.v 10],ji 52 true 53,jg 52 true (.len false) [.t 54],jg 52 true (.bin .eql .int) [.t 55,jn 2],jq .pick [.t 52,.t 56,jB false],jt 57,jg 58 true (.fadd 0) [.v 10],ji 58 true 59,jg 58 true (.iaS 5) [.t 60,jn 0],jg 58 true (.loadN 5) [.t 61],jg 58 true (.build [(.cv (.int .i64 0)),(.cv (.int .i64 0)),(.cv (.int .i64 0)),(.cv (.int .i64 0)),(.cv (.int .i64 0))] [(2,1),(3,1),(4,1)]) [jn 57,jn 2,jn 1],jg 58 true (.eqS false (true,[(.int .i64),(.int .i64),(.int .i64),(.int .i64),(.int .i64)])) [.t 62,.t 63],jq .pick [.t 58,.t 64,jB false],jt 65,jg 66 true (.fadd 3) [.v 10],ji 66 true 67,jg 66 true (.mkslice 1 8 [(.cv (.int .i64 0))]) [jn 6,jn 6],jf 66 true 25 [.t 68,.t 69],jq .pick [.t 66,.t 70,jB false],jm 0 71])
 .ret))))))))
abbrev rs5:List RC:=[(.v 0)]
theorem fok5 (p:Bool):FnOk Tryz.prog 5 ⟨ic5,vs5,123,rs5,p⟩:=.mk2 Tryz.func5 (by kernel_rfl) (by kernel_rfl) (by kernel_rfl) (by kernel_rfl) (by kernel_rfl)
abbrev vs9:List Nat:=[0,1,2,3,4,5,12,30]
def ic9l0:IC:=(.seq (.seq (.region [jv 5,jF 0 1,jl 1,je 2,jw 7 (.bin .lss .int) [.t 0,.t 3]])
 (.cond 7 .skip
 (.exit 2)))
 (.seq (.block 3 (.dr [[],[0],[],[2],[],[3,4],[5],[6],[7],[8],[1,9],[0,1,2,3,4,5,6,7,8,9,10],[11,10,10,0,1,2,3,4,5,6,7,8,9,10]] [jF 1 3,jl 0,jF 0 1,jl 2,jv 5,ja 3 3 4,jG 0 5,jl 6,jq (.build [(.cv (.str (bts []))),(.cv (.int .i64 0)),(.cv (.int .i64 0)),(.cv (.int .i64 0))] [(0,1),(2,1)]) [.t 7,jn 1],jq (.bslice 4 1 [(.cv (.str (bts []))),(.cv (.int .i64 0)),(.cv (.int .i64 0)),(.cv (.int .i64 0))] [(0,4)]) [.t 8],jq (.append 4 40) [.t 1,.t 9],jF 1 3,jq (.store 1) [.t 11,.t 10]]))
 (.region [jv 5,jq (.bin .add .int) [.t 0,jn 1],jm 5 1])))
def ic9l1:IC:=(.seq (.seq (.region [jv 4,jF 1 1,jl 1,je 2,jw 6 (.bin .lss .int) [.t 0,.t 3]])
 (.cond 6 .skip
 (.exit 0)))
 (.seq (.block 1 (.dr [[],[0],[],[2],[],[3,4],[5],[6],[7],[1,8],[0,1,2,3,4,5,6,7,8,9],[10,9,9,0,1,2,3,4,5,6,7,8,9]] [jF 0 3,jl 0,jF 1 1,jl 2,jv 4,ja 5 3 4,jG 0 5,jl 6,jq (.bslice 1 1 [(.cv (.str (bts [])))] [(0,1)]) [.t 7],jq (.append 1 16) [.t 1,.t 8],jF 0 3,jq (.store 1) [.t 10,.t 9]]))
 (.region [jv 4,jq (.bin .add .int) [.t 0,jn 1],jm 4 1])))
def ic9:IC:=(.seq (.region [jb 1 0,jw 2 (.alloc [(.cv .nils),(.cv .nils),(.cv (.int .i64 0)),(.cv (.int .i64 0)),(.cv (.int .i64 0)),(.cv (.int .i64 0)),(.cv .nils)]) []])
 (.seq (.region [jq (.build [(.cv (.int .i64 0)),(.cv (.int .i64 0))] [(0,1),(1,1)]) [jn 8,jn 20],jq (.build [(.cv .nils),(.cv .nils),(.cv (.int .i64 0)),(.cv (.int .i64 0)),(.cv (.int .i64 0)),(.cv (.int .i64 0)),(.cv .nils)] [(2,1),(4,2)]) [jn 100,.t 0],jw 3 (.alloc [(.cv .nils),(.cv .nils),(.cv (.int .i64 0)),(.cv (.int .i64 0)),(.cv (.int .i64 0)),(.cv (.int .i64 0)),(.cv .nils)]) [],jq (.store 7) [.v 3,.t 1]])
 (.seq (.seq (.region [jz 4 0])
 (.block 0 (.loop ic9l1)))
 (.seq (.seq (.region [jz 5 0])
 (.block 2 (.loop ic9l0)))
 (.seq (.region [jN 7 3,jq (.store 7) [.v 2,.t 0]])
 .ret)))))
abbrev rs9:List RC:=[(.lN 2 7)]
theorem fok9 (p:Bool):FnOk Tryz.prog 9 ⟨ic9,vs9,46,rs9,p⟩:=.mk2 Tryz.func9 (by kernel_rfl) (by kernel_rfl) (by kernel_rfl) (by kernel_rfl) (by kernel_rfl)
abbrev vs16:List Nat:=[0]
def ic16:IC:=(.seq (.region [jw 0 (.alloc [(.cv .nils),(.cv .nils),(.cv (.int .i64 0)),(.cv (.int .i64 0)),(.cv (.int .i64 0)),(.cv (.int .i64 0)),(.cv .nils)]) []])
 (.seq (.region [jq (.bslice 1 2 [(.cv (.str (bts []))),(.cv (.str (bts [])))] [(0,1),(1,1)]) [.c (.cv (.str (bts [97,110,110]))),.c (.cv (.str (bts [98,101,110])))],jq (.build [(.cv (.str (bts []))),(.cv (.int .i64 0)),(.cv (.int .i64 0)),(.cv (.int .i64 0))] [(0,1),(2,1),(3,1)]) [.c (.cv (.str (bts [109,105,110,105]))),jn 100,jn 2],jq (.build [(.cv (.str (bts []))),(.cv (.int .i64 0)),(.cv (.int .i64 0)),(.cv (.int .i64 0))] [(0,1),(1,1),(2,1)]) [.c (.cv (.str (bts [118,97,110]))),jn 500,jn 200],jq (.bslice 4 2 [(.cv (.str (bts []))),(.cv (.int .i64 0)),(.cv (.int .i64 0)),(.cv (.int .i64 0)),(.cv (.str (bts []))),(.cv (.int .i64 0)),(.cv (.int .i64 0)),(.cv (.int .i64 0))] [(0,4),(4,4)]) [.t 1,.t 2],jq (.build [(.cv (.int .i64 0)),(.cv (.int .i64 0))] [(0,1),(1,1)]) [jn 8,jn 20],jq (.build [(.cv (.int .i64 0)),(.cv (.int .i64 0))] [(0,1)]) [jn 48],jq (.build [(.cv (.int .i64 0)),(.cv (.int .i64 0))] [(0,1),(1,1)]) [jn 24,jn 500],jq (.bslice 2 2 [(.cv (.int .i64 0)),(.cv (.int .i64 0)),(.cv (.int .i64 0)),(.cv (.int .i64 0))] [(0,2),(2,2)]) [.t 5,.t 6],jq (.build [(.cv .nils),(.cv .nils),(.cv (.int .i64 0)),(.cv (.int .i64 0)),(.cv (.int .i64 0)),(.cv (.int .i64 0)),(.cv .nils)] [(0,1),(1,1),(2,1),(3,1),(4,2),(6,1)]) [.t 0,.t 3,jn 4000,jn 30000,.t 4,.t 7],jq (.store 7) [.v 0,.t 8]])
 .ret))
abbrev rs16:List RC:=[(.lN 0 7)]
theorem fok16 (p:Bool):FnOk Tryz.prog 16 ⟨ic16,vs16,10,rs16,p⟩:=.mk2 Tryz.func16 (by kernel_rfl) (by kernel_rfl) (by kernel_rfl) (by kernel_rfl) (by kernel_rfl)
abbrev vs17:List Nat:=[0]
def ic17:IC:=(.seq (.region [jw 0 .mv [jS]])
 (.seq (.region [jk 19 [],jq (.build [(.cv (.int .i64 0)),(.cv (.int .i64 0)),(.cv (.int .i64 0)),(.cv (.int .i64 0)),(.cv (.int .i64 0)),(.cv (.int .i64 0)),(.cv (.int .i64 0)),(.cv (.int .i64 0)),(.cv (.int .i64 0)),(.cv (.int .i64 0)),(.cv (.int .i64 0))] [(0,1),(1,1),(4,1),(9,1)]) [jn 3,jn 35,jn 1,jn 150],jq (.build [(.cv (.int .i64 0)),(.cv (.int .i64 0)),(.cv (.int .i64 0)),(.cv (.int .i64 0)),(.cv (.int .i64 0)),(.cv (.int .i64 0)),(.cv (.int .i64 0)),(.cv (.int .i64 0)),(.cv (.int .i64 0)),(.cv (.int .i64 0)),(.cv (.int .i64 0))] [(0,1),(1,1),(4,1),(10,1)]) [jn 5,jn 36,jn 1,jn 50000],jq (.bslice 11 2 [(.cv (.int .i64 0)),(.cv (.int .i64 0)),(.cv (.int .i64 0)),(.cv (.int .i64 0)),(.cv (.int .i64 0)),(.cv (.int .i64 0)),(.cv (.int .i64 0)),(.cv (.int .i64 0)),(.cv (.int .i64 0)),(.cv (.int .i64 0)),(.cv (.int .i64 0)),(.cv (.int .i64 0)),(.cv (.int .i64 0)),(.cv (.int .i64 0)),(.cv (.int .i64 0)),(.cv (.int .i64 0)),(.cv (.int .i64 0)),(.cv (.int .i64 0)),(.cv (.int .i64 0)),(.cv (.int .i64 0)),(.cv (.int .i64 0)),(.cv (.int .i64 0))] [(0,11),(11,11)]) [.t 1,.t 2],jq (.append 11 88) [.t 0,.t 3],jm 0 4])
 .ret))
abbrev rs17:List RC:=[(.v 0)]
theorem fok17 (p:Bool):FnOk Tryz.prog 17 ⟨ic17,vs17,6,rs17,p⟩:=.mk2 Tryz.func17 (by kernel_rfl) (by kernel_rfl) (by kernel_rfl) (by kernel_rfl) (by kernel_rfl)
abbrev vs19:List Nat:=[0]
def ic19:IC:=(.seq (.region [jw 0 .mv [jS]])
 (.seq (.region [jq (.build [(.cv (.int .i64 0)),(.cv (.int .i64 0)),(.cv (.int .i64 0)),(.cv (.int .i64 0)),(.cv (.int .i64 0)),(.cv (.int .i64 0)),(.cv (.int .i64 0)),(.cv (.int .i64 0)),(.cv (.int .i64 0)),(.cv (.int .i64 0)),(.cv (.int .i64 0))] [(5,1),(6,1)]) [jn 33,jn 2],jq (.build [(.cv (.int .i64 0)),(.cv (.int .i64 0)),(.cv (.int .i64 0)),(.cv (.int .i64 0)),(.cv (.int .i64 0)),(.cv (.int .i64 0)),(.cv (.int .i64 0)),(.cv (.int .i64 0)),(.cv (.int .i64 0)),(.cv (.int .i64 0)),(.cv (.int .i64 0))] [(2,1),(5,1),(6,1)]) [jn 1,jn 34,jn 1],jq (.build [(.cv (.int .i64 0)),(.cv (.int .i64 0)),(.cv (.int .i64 0)),(.cv (.int .i64 0)),(.cv (.int .i64 0)),(.cv (.int .i64 0)),(.cv (.int .i64 0)),(.cv (.int .i64 0)),(.cv (.int .i64 0)),(.cv (.int .i64 0)),(.cv (.int .i64 0))] [(2,1),(3,1),(5,1),(6,1)]) [jn 1,jn 1,jn 34,jn 1],jq (.build [(.cv (.int .i64 0)),(.cv (.int .i64 0)),(.cv (.int .i64 0)),(.cv (.int .i64 0)),(.cv (.int .i64 0)),(.cv (.int .i64 0)),(.cv (.int .i64 0)),(.cv (.int .i64 0)),(.cv (.int .i64 0)),(.cv (.int .i64 0)),(.cv (.int .i64 0))] [(0,1),(1,1)]) [jn 1,jn 5],jq (.bslice 11 4 [(.cv (.int .i64 0)),(.cv (.int .i64 0)),(.cv (.int .i64 0)),(.cv (.int .i64 0)),(.cv (.int .i64 0)),(.cv (.int .i64 0)),(.cv (.int .i64 0)),(.cv (.int .i64 0)),(.cv (.int .i64 0)),(.cv (.int .i64 0)),(.cv (.int .i64 0)),(.cv (.int .i64 0)),(.cv (.int .i64 0)),(.cv (.int .i64 0)),(.cv (.int .i64 0)),(.cv (.int .i64 0)),(.cv (.int .i64 0)),(.cv (.int .i64 0)),(.cv (.int .i64 0)),(.cv (.int .i64 0)),(.cv (.int .i64 0)),(.cv (.int .i64 0)),(.cv (.int .i64 0)),(.cv (.int .i64 0)),(.cv (.int .i64 0)),(.cv (.int .i64 0)),(.cv (.int .i64 0)),(.cv (.int .i64 0)),(.cv (.int .i64 0)),(.cv (.int .i64 0)),(.cv (.int .i64 0)),(.cv (.int .i64 0)),(.cv (.int .i64 0)),(.cv (.int .i64 0)),(.cv (.int .i64 0)),(.cv (.int .i64 0)),(.cv (.int .i64 0)),(.cv (.int .i64 0)),(.cv (.int .i64 0)),(.cv (.int .i64 0)),(.cv (.int .i64 0)),(.cv (.int .i64 0)),(.cv (.int .i64 0)),(.cv (.int .i64 0))] [(0,11),(11,11),(22,11),(33,11)]) [.t 0,.t 1,.t 2,.t 3],jm 0 4])
 .ret))
abbrev rs19:List RC:=[(.v 0)]
theorem fok19 (p:Bool):FnOk Tryz.prog 19 ⟨ic19,vs19,6,rs19,p⟩:=.mk2 Tryz.func19 (by kernel_rfl) (by kernel_rfl) (by kernel_rfl) (by kernel_rfl) (by kernel_rfl)
abbrev vs20:List Nat:=[0,1,2,3,4,5,6,12,13,14,16,17,25,29,46,62,69,72]
def ic20l0:IC:=(.seq (.seq (.region [jF 2 11,jl 0,jw 15 (.bin .leq .int) [.t 1,jn 4800]])
 (.cond 15 .skip
 (.exit 1)))
 (.seq (.block 2 (.seq (.region [jq (.mkfn (.func 48)) [.v 9,.v 11],jk 47 [.t 0],jw 16 (.bin .eql .int) [.t 1,jn 0]])
 (.cond 16 (.seq (.region [jF 2 11,jl 0,jm 7 1,jz 8 0])
 .ret)
 .skip)))
 (.seq (.seq (.region [jw 17 (.loadN 5) [.v 11]])
 (.region [jw 11 (.alloc [(.cv (.int .i64 0)),(.cv (.int .i64 0)),(.cv (.int .i64 0)),(.cv (.int .i64 0)),(.cv (.int .i64 0))]) [],jq (.store 5) [.v 11,.v 17]]))
 (.region [jF 2 11,jl 0,jq (.bin .add .int) [.t 1,jn 1],jF 2 11,jq (.store 1) [.t 3,.t 2]]))))
def ic20:IC:=(.seq (.region [jb 6 0,jz 7 0,jz 8 0])
 (.seq (.region [jN 7 6,jv 1,jk 41 [.t 0,.t 1],jt 2,jx 0 3,jx 1 3,jx 2 3,jw 9 (.alloc [(.cv .nilp)]) [],jq (.store 1) [.v 9,.t 4],jt 5,jm 10 6])
 (.seq (.block 0 (.seq (.region [jv 10,jq (.bin .neq .int) [.t 0,jn 0],jm 12 1])
 (.cond 12 (.seq (.region [jv 10,jz 7 0,jm 8 0])
 .ret)
 (.seq (.region [jF 0 6,jl 0,je 1,jq (.bin .sub .int) [.t 2,jn 1],jv 2,jq (.bslice 1 1 [(.cv (.int .i64 0))] [(0,1)]) [.t 4],jk 45 [jn 0,.t 3,.t 5],jt 6,jg 7 false (.fadd 1) [.v 6],ji 7 false 8,jg 7 false (.len false) [.t 9],jg 7 false (.bin .sub .int) [.t 10,jn 1],jh 7 false 3,jg 7 false (.bslice 1 1 [(.cv (.int .i64 0))] [(0,1)]) [.t 12],jf 7 false 45 [jn 0,.t 11,.t 13],jq .pick [.t 7,jB true,.t 14],jm 13 15])
 (.cond 13 (.seq (.region [jz 7 0,jz 8 4])
 .ret)
 (.seq (.region [jv 4,jq (.bslice 1 1 [(.cv (.int .i64 0))] [(0,1)]) [.t 0],jk 45 [jn 0,jn 4800,.t 1],jt 2,jh 3 false 5,jg 3 false (.bslice 1 1 [(.cv (.int .i64 0))] [(0,1)]) [.t 4],jf 3 false 45 [jn 1,jn 4,.t 5],jq .pick [.t 3,jB true,.t 6],jm 14 7])
 (.cond 14 (.seq (.region [jz 7 0,jz 8 7])
 .ret)
 .skip)))))))
 (.seq (.seq (.region [jv 2,jv 3,jv 4,jv 5,jq (.build [(.cv (.int .i64 0)),(.cv (.int .i64 0)),(.cv (.int .i64 0)),(.cv (.int .i64 0)),(.cv (.int .i64 0))] [(0,1),(1,1),(2,1),(3,1)]) [.t 0,.t 1,.t 2,.t 3],jw 11 (.alloc [(.cv (.int .i64 0)),(.cv (.int .i64 0)),(.cv (.int .i64 0)),(.cv (.int .i64 0)),(.cv (.int .i64 0))]) [],jq (.store 5) [.v 11,.t 4]])
 (.block 1 (.loop ic20l0)))
 (.seq (.region [jz 7 0,jz 8 9])
 .ret)))))
abbrev rs20:List RC:=[(.v 7),(.v 8)]
theorem fok20 (p:Bool):FnOk Tryz.prog 20 ⟨ic20,vs20,73,rs20,p⟩:=.mk2 Tryz.func20 (by kernel_rfl) (by kernel_rfl) (by kernel_rfl) (by kernel_rfl) (by kernel_rfl)
abbrev vs22:List Nat:=[0,1,4,5,10,14,25]
def ic22l0:IC:=(.seq (.seq (.region [jv 3,jv 0,je 1,jw 5 (.bin .lss .int) [.t 0,.t 2]])
 (.cond 5 .skip
 (.exit 0)))
 (.seq (.block 1 (.seq (.dr [[],[],[0,1],[2],[],[],[4,5],[6],[3,7]] [jv 0,jv 3,ja 1 0 1,jl 2,jv 1,jv 3,ja 1 4 5,jl 6,jw 6 (.bin .neq .int) [.t 3,.t 7]])
 (.cond 6 (.seq (.region [jw 2 .mv [jB false]])
 .ret)
 .skip)))
 (.region [jv 3,jq (.bin .add .int) [.t 0,jn 1],jm 3 1])))
def ic22:IC:=(.seq (.region [jw 2 .mv [jB false]])
 (.seq (.seq (.region [jv 0,je 0,jv 1,je 2,jw 4 (.bin .neq .int) [.t 1,.t 3]])
 (.cond 4 (.seq (.region [jw 2 .mv [jB false]])
 .ret)
 .skip))
 (.seq (.seq (.region [jz 3 0])
 (.block 0 (.loop ic22l0)))
 (.seq (.region [jw 2 .mv [jB true]])
 .ret))))
abbrev rs22:List RC:=[(.v 2)]
theorem fok22 (p:Bool):FnOk Tryz.prog 22 ⟨ic22,vs22,26,rs22,p⟩:=.mk2 Tryz.func22 (by kernel_rfl) (by kernel_rfl) (by kernel_rfl) (by kernel_rfl) (by kernel_rfl)
abbrev vs23:List Nat:=[0,1,2,3,4]
def ic23:IC:=(.seq (.region [jb 2 0,jb 3 1,jw 4 .mv [jB false]])
 (.seq (.region [jF 0 2,jl 0,jF 0 3,jl 2,jk 50 [.t 1,.t 3],jt 4,jg 5 true (.fadd 1) [.v 2],ji 5 true 6,jg 5 true (.fadd 1) [.v 3],ji 5 true 8,jf 5 true 25 [.t 7,.t 9],jq .pick [.t 5,.t 10,jB false],jt 11,jg 12 true (.fadd 2) [.v 2],ji 12 true 13,jg 12 true (.fadd 2) [.v 3],ji 12 true 15,jf 12 true 25 [.t 14,.t 16],jq .pick [.t 12,.t 17,jB false],jt 18,jg 19 true (.fadd 3) [.v 2],ji 19 true 20,jg 19 true (.fadd 3) [.v 3],ji 19 true 22,jf 19 true 25 [.t 21,.t 23],jq .pick [.t 19,.t 24,jB false],jm 4 25])
 .ret))
abbrev rs23:List RC:=[(.v 4)]
theorem fok23 (p:Bool):FnOk Tryz.prog 23 ⟨ic23,vs23,31,rs23,p⟩:=.mk2 Tryz.func23 (by kernel_rfl) (by kernel_rfl) (by kernel_rfl) (by kernel_rfl) (by kernel_rfl)
abbrev vs24:List Nat:=[0,1,4,5,10,14,25]
def ic24l0:IC:=(.seq (.seq (.region [jv 3,jv 0,je 1,jw 5 (.bin .lss .int) [.t 0,.t 2]])
 (.cond 5 .skip
 (.exit 0)))
 (.seq (.block 1 (.seq (.dr [[],[],[0,1],[2],[],[],[4,5],[6],[3,7]] [jv 0,jv 3,ja 4 0 1,jq (.loadN 4) [.t 2],jv 1,jv 3,ja 4 4 5,jq (.loadN 4) [.t 6],jw 6 (.eqS true (true,[(.int .i64),(.int .i64),(.int .i64),(.int .i64)])) [.t 3,.t 7]])
 (.cond 6 (.seq (.region [jw 2 .mv [jB false]])
 .ret)
 .skip)))
 (.region [jv 3,jq (.bin .add .int) [.t 0,jn 1],jm 3 1])))
def ic24:IC:=(.seq (.region [jw 2 .mv [jB false]])
 (.seq (.seq (.region [jv 0,je 0,jv 1,je 2,jw 4 (.bin .neq .int) [.t 1,.t 3]])
 (.cond 4 (.seq (.region [jw 2 .mv [jB false]])
 .ret)
 .skip))
 (.seq (.seq (.region [jz 3 0])
 (.block 0 (.loop ic24l0)))
 (.seq (.region [jw 2 .mv [jB true]])
 .ret))))
abbrev rs24:List RC:=[(.v 2)]
theorem fok24 (p:Bool):FnOk Tryz.prog 24 ⟨ic24,vs24,26,rs24,p⟩:=.mk2 Tryz.func24 (by kernel_rfl) (by kernel_rfl) (by kernel_rfl) (by kernel_rfl) (by kernel_rfl)
abbrev vs25:List Nat:=[0,1,4,5,10,14,25]
def ic25l0:IC:=(.seq (.seq (.region [jv 3,jv 0,je 1,jw 5 (.bin .lss .int) [.t 0,.t 2]])
 (.cond 5 .skip
 (.exit 0)))
 (.seq (.block 1 (.seq (.dr [[],[],[0,1],[2],[],[],[4,5],[6],[3,7]] [jv 0,jv 3,ja 1 0 1,jl 2,jv 1,jv 3,ja 1 4 5,jl 6,jw 6 (.bin .neq .int) [.t 3,.t 7]])
 (.cond 6 (.seq (.region [jw 2 .mv [jB false]])
 .ret)
 .skip)))
 (.region [jv 3,jq (.bin .add .int) [.t 0,jn 1],jm 3 1])))
def ic25:IC:=(.seq (.region [jw 2 .mv [jB false]])
 (.seq (.seq (.region [jv 0,je 0,jv 1,je 2,jw 4 (.bin .neq .int) [.t 1,.t 3]])
 (.cond 4 (.seq (.region [jw 2 .mv [jB false]])
 .ret)
 .skip))
 (.seq (.seq (.region [jz 3 0])
 (.block 0 (.loop ic25l0)))
 (.seq (.region [jw 2 .mv [jB true]])
 .ret))))
abbrev rs25:List RC:=[(.v 2)]
theorem fok25 (p:Bool):FnOk Tryz.prog 25 ⟨ic25,vs25,26,rs25,p⟩:=.mk2 Tryz.func25 (by kernel_rfl) (by kernel_rfl) (by kernel_rfl) (by kernel_rfl) (by kernel_rfl)
abbrev vs44:List Nat:=[0,1,2,3,4,5,6,7,8,9,10,29,50,60,61,62,71,76,77,78,79,90,108,112,113,114,115,119,131]
def ic44l0:IC:=(.seq (.region [jw 26 (.bin .lss .int) [.v 25,.v 24]])
 (.seq (.cond 26 .skip
 (.exit 5))
 (.seq (.block 6 (.seq (.region [jv 25,jq (.iaS 2) [.v 23,.v 25],jq (.loadN 2) [.t 1],jw 9 (.alloc [(.cv (.int .i64 0)),(.cv (.int .i64 0))]) [],jm 8 0,jq (.store 2) [.v 9,.t 2]])
 (.block 7 (.seq (.region [jF 0 9,jl 0,jq (.bslice 1 1 [(.cv (.int .i64 0))] [(0,1)]) [.t 1],jk 45 [jn 0,jn 240,.t 2],jt 3,jg 4 false (.fadd 1) [.v 9],ji 4 false 5,jg 4 false (.bslice 1 1 [(.cv (.int .i64 0))] [(0,1)]) [.t 6],jf 4 false 45 [jn 0,jn 1000,.t 7],jq .pick [.t 4,jB true,.t 8],jm 27 9])
 (.cond 27 (.seq (.region [jv 8,jz 2 4,jm 3 0,jz 4 7])
 .ret)
 (.seq (.dr [[],[0],[1],[2],[3,2],[2],[5,2],[2],[7,2],[6,8,2],[9,2],[10,2],[4,11,2],[12,2,2],[13],[14,13],[13],[16,13],[13],[18,13],[17,19,13],[20,13],[21,13],[15,22,13],[13,23,2],[2,24],[25,13]] [jv 8,jq (.bin .gtr .int) [.t 0,jn 0],jt 1,jg 2 true (.fadd 0) [.v 9],ji 2 true 3,jg 2 true (.fadd 6) [.v 1],ji 2 true 5,jh 2 true 8,jg 2 true (.bin .sub .int) [.t 7,jn 1],jg 2 true (.iaS 2) [.t 6,.t 8],jg 2 true (.fadd 0) [.t 9],ji 2 true 10,jg 2 true (.bin .geq .int) [.t 4,.t 11],jg 2 true .mv [.t 12],jg 13 false (.fadd 1) [.v 9],ji 13 false 14,jg 13 false (.fadd 6) [.v 1],ji 13 false 16,jh 13 false 8,jg 13 false (.bin .sub .int) [.t 18,jn 1],jg 13 false (.iaS 2) [.t 17,.t 19],jg 13 false (.fadd 1) [.t 20],ji 13 false 21,jg 13 false (.bin .lss .int) [.t 15,.t 22],jg 2 true .pick [.t 13,jB true,.t 23],jq .pick [.t 2,.t 24,jB false],jm 28 25])
 (.cond 28 (.seq (.region [jv 8,jz 2 4,jm 3 0,jz 4 2])
 .ret)
 .skip)))))))
 (.region [jq (.bin .add .int) [.v 25,jn 1],jm 25 0]))))
def ic44l1:IC:=(.seq (.region [jw 20 (.bin .lss .int) [.v 19,.v 18]])
 (.seq (.cond 20 .skip
 (.exit 3))
 (.seq (.block 4 (.seq (.region [jv 19,jq (.iaS 4) [.v 17,.v 19],jq (.loadN 4) [.t 1],jw 7 (.alloc [(.cv (.str (bts []))),(.cv (.int .i64 0)),(.cv (.int .i64 0)),(.cv (.int .i64 0))]) [],jm 6 0,jq (.store 4) [.v 7,.t 2]])
 (.seq (.seq (.region [jF 1 1,jl 0,jv 6,jq (.bin .add .int) [.t 2,jn 1],jq (.slS 4 false true) [.t 1,.t 3],jk 73 [.t 4,.c (.fn (.func 74) [])],jm 4 5])
 (.seq (.region [jv 4,jw 21 (.bin .neq .int) [.t 0,jn 0]])
 (.cond 21 (.seq (.region [jv 6,jv 4,jz 2 3,jm 3 0,jm 4 1])
 .ret)
 .skip)))
 (.seq (.region [jF 1 7,jl 0,jq (.bslice 1 1 [(.cv (.int .i64 0))] [(0,1)]) [.t 1],jk 45 [jn 0,jn 1000000,.t 2],jt 3,jg 4 false (.fadd 2) [.v 7],ji 4 false 5,jg 4 false (.bslice 1 1 [(.cv (.int .i64 0))] [(0,1)]) [.t 6],jf 4 false 45 [jn 1,jn 1000000,.t 7],jq .pick [.t 4,jB true,.t 8],jt 9,jg 10 false (.fadd 3) [.v 7],ji 10 false 11,jg 10 false (.bslice 1 1 [(.cv (.int .i64 0))] [(0,1)]) [.t 12],jf 10 false 45 [jn 0,jn 255,.t 13],jw 22 .pick [.t 10,jB true,.t 14]])
 (.cond 22 (.seq (.region [jv 6,jz 2 3,jm 3 0,jz 4 7])
 .ret)
 .skip)))))
 (.region [jq (.bin .add .int) [.v 19,jn 1],jm 19 0]))))
def ic44l2:IC:=(.seq (.region [jw 15 (.bin .lss .int) [.v 14,.v 13]])
 (.seq (.cond 15 .skip
 (.exit 1))
 (.seq (.block 2 (.seq (.region [jv 14,jm 5 0])
 (.seq (.region [jF 0 1,jl 0,jv 5,jq (.bin .add .int) [.t 2,jn 1],jq (.slS 1 false true) [.t 1,.t 3],jk 71 [.t 4,.c (.fn (.func 72) [])],jm 4 5])
 (.seq (.region [jv 4,jw 16 (.bin .neq .int) [.t 0,jn 0]])
 (.cond 16 (.seq (.region [jv 5,jv 4,jz 2 2,jm 3 0,jm 4 1])
 .ret)
 .skip)))))
 (.region [jq (.bin .add .int) [.v 14,jn 1],jm 14 0]))))
def ic44:IC:=(.seq (.region [jb 1 0,jz 2 0,jz 3 0,jz 4 0])
 (.seq (.block 0 (.seq (.region [jF 0 1,jl 0,je 1,jq (.bslice 1 1 [(.cv (.int .i64 0))] [(0,1)]) [.t 2],jk 45 [jn 1,jn 8,.t 3],jt 4,jg 5 false (.fadd 1) [.v 1],ji 5 false 6,jg 5 false (.len false) [.t 7],jg 5 false (.bslice 1 1 [(.cv (.int .i64 0))] [(0,1)]) [.t 8],jf 5 false 45 [jn 1,jn 5,.t 9],jq .pick [.t 5,jB true,.t 10],jt 11,jg 12 false (.fadd 6) [.v 1],ji 12 false 13,jg 12 false (.len false) [.t 14],jg 12 false (.bin .gtr .int) [.t 15,jn 4],jq .pick [.t 12,jB true,.t 16],jm 10 17])
 (.cond 10 (.seq (.region [jz 2 1,jz 3 0,jz 4 3])
 .ret)
 (.seq (.region [jF 2 1,jl 0,jq (.bslice 1 1 [(.cv (.int .i64 0))] [(0,1)]) [.t 1],jk 45 [jn 1,jn 10000,.t 2],jt 3,jg 4 false (.fadd 3) [.v 1],ji 4 false 5,jg 4 false (.bslice 1 1 [(.cv (.int .i64 0))] [(0,1)]) [.t 6],jf 4 false 45 [jn 0,jn 10000000,.t 7],jq .pick [.t 4,jB true,.t 8],jt 9,jg 10 false (.fadd 4) [.v 1],jg 10 false (.fadd 0) [.t 11],ji 10 false 12,jg 10 false (.fadd 4) [.v 1],jg 10 false (.fadd 1) [.t 14],ji 10 false 15,jg 10 false (.bslice 1 2 [(.cv (.int .i64 0)),(.cv (.int .i64 0))] [(0,1),(1,1)]) [.t 13,.t 16],jf 10 false 45 [jn 0,jn 24,.t 17],jq .pick [.t 10,jB true,.t 18],jm 11 19])
 (.cond 11 (.seq (.region [jz 2 1,jz 3 0,jz 4 7])
 .ret)
 (.seq (.region [jF 4 1,jG 0 0,jl 1,jF 4 1,jG 1 3,jl 4,jq (.bin .geq .int) [.t 2,.t 5],jm 12 6])
 (.cond 12 (.seq (.region [jz 2 1,jz 3 0,jz 4 2])
 .ret)
 .skip)))))))
 (.seq (.seq (.region [jF 0 1,jl 0,jw 13 (.len false) [.t 1],jz 14 0])
 (.block 1 (.loop ic44l2)))
 (.seq (.seq (.region [jF 1 1,jw 17 .load1 [.t 0],jw 18 (.len false) [.v 17],jz 19 0])
 (.block 3 (.loop ic44l1)))
 (.seq (.seq (.region [jF 6 1,jw 23 .load1 [.t 0],jw 24 (.len false) [.v 23],jz 25 0])
 (.block 5 (.loop ic44l0)))
 (.seq (.region [jz 2 0,jz 3 0,jz 4 0])
 .ret))))))
abbrev rs44:List RC:=[(.v 2),(.v 3),(.v 4)]
theorem fok44 (p:Bool):FnOk Tryz.prog 44 ⟨ic44,vs44,160,rs44,p⟩:=.mk2 Tryz.func44 (by kernel_rfl) (by kernel_rfl) (by kernel_rfl) (by kernel_rfl) (by kernel_rfl)
abbrev vs48:List Nat:=[0,1]
def ic48:IC:=(.dr [[],[],[],[2],[3],[4],[0,1,5]] [jL 0,jN 5 1,jL 0,jc 2,jG 13 3,jl 4,jk 49 [.t 0,.t 1,.t 5]])
abbrev rs48:List RC:=[]
theorem fok48 (p:Bool):FnOk Tryz.prog 48 ⟨ic48,vs48,9,rs48,p⟩:=.mk2 Tryz.func48 (by kernel_rfl) (by kernel_rfl) (by kernel_rfl) (by kernel_rfl) (by kernel_rfl)
abbrev vs49:List Nat:=[0,1,2,4]
def ic49:IC:=(.seq (.region [jb 3 1])
 (.seq (.dr [[],[0],[1],[2],[3],[4],[5],[],[7],[8],[6,9],[10],[11,10],[12],[13,12],[14,12],[15,12],[16,12],[17,12],[18,12],[12],[20,12],[21,12],[19,22,12,12],[23,12],[12,24],[25,23]] [jv 0,jc 0,jG 0 1,jG 0 2,jl 3,je 4,jq (.bin .sub .int) [.t 5,jn 1],jF 0 3,jl 7,jq (.bslice 1 1 [(.cv (.int .i64 0))] [(0,1)]) [.t 8],jk 45 [jn 0,.t 6,.t 9],jq .not [.t 10],jt 11,jh 12 true 0,jg 12 true .nilck [.t 13],jg 12 true (.fadd 0) [.t 14],jg 12 true (.fadd 1) [.t 15],ji 12 true 16,jg 12 true (.len false) [.t 17],jg 12 true (.bin .sub .int) [.t 18,jn 1],jg 12 true (.fadd 1) [.v 3],ji 12 true 20,jg 12 true (.bslice 1 1 [(.cv (.int .i64 0))] [(0,1)]) [.t 21],jf 12 true 45 [jn 0,.t 19,.t 22],jg 12 true .not [.t 23],jq .pick [.t 12,.t 24,jB false],jk 79 [.t 25,jn 4]])
 (.seq (.region [jF 3 3,jl 0,jq (.bslice 1 1 [(.cv (.int .i64 0))] [(0,1)]) [.t 1],jk 45 [jn 1,jn 4,.t 2],jq .not [.t 3],jt 4,jg 5 true (.fadd 2) [.v 3],ji 5 true 6,jg 5 true (.bslice 1 1 [(.cv (.int .i64 0))] [(0,1)]) [.t 7],jf 5 true 45 [jn 0,jn 4800,.t 8],jg 5 true .not [.t 9],jq .pick [.t 5,.t 10,jB false],jk 79 [.t 11,jn 7]])
 (.seq (.dr [[],[0],[],[1,2],[3],[4],[5,4],[6,4],[4],[8,4],[9,4],[10,4],[11,4],[12,4],[7,13,4],[4,14],[15,4],[16],[17,16],[18,16],[16],[20,16],[19,21,16],[16],[23,16],[24,16],[25,16],[26,16],[27,16],[22,28,16],[16,29],[30,16]] [jF 2 3,jl 0,jv 2,jq (.bin .gtr .int) [.t 1,.t 2],jt 3,jg 4 true (.fadd 2) [.v 3],ji 4 true 5,jg 4 true (.bin .rem .int) [.t 6,jn 24],jh 4 true 0,jg 4 true .nilck [.t 8],jg 4 true (.fadd 0) [.t 9],jg 4 true (.fadd 4) [.t 10],jg 4 true (.fadd 0) [.t 11],ji 4 true 12,jg 4 true (.bin .geq .int) [.t 7,.t 13],jq .pick [.t 4,.t 14,jB false],jt 15,jg 16 true (.fadd 2) [.v 3],ji 16 true 17,jg 16 true (.bin .rem .int) [.t 18,jn 24],jg 16 true (.fadd 3) [.v 3],ji 16 true 20,jg 16 true (.bin .add .int) [.t 19,.t 21],jh 16 true 0,jg 16 true .nilck [.t 23],jg 16 true (.fadd 0) [.t 24],jg 16 true (.fadd 4) [.t 25],jg 16 true (.fadd 1) [.t 26],ji 16 true 27,jg 16 true (.bin .leq .int) [.t 22,.t 28],jq .pick [.t 16,.t 29,jB false],jk 79 [.t 30,jn 2]])
 (.seq (.region [jv 0,jF 1 3,jl 1,jF 2 3,jl 3,jk 80 [.t 0,.t 2,.t 4],jk 79 [.t 5,jn 9]])
 (.region [jv 0,jN 5 3,jk 81 [.t 0,.t 1,jn (-1)],jk 79 [.t 2,jn 5]]))))))
abbrev rs49:List RC:=[]
theorem fok49 (p:Bool):FnOk Tryz.prog 49 ⟨ic49,vs49,89,rs49,p⟩:=.mk2 Tryz.func49 (by kernel_rfl) (by kernel_rfl) (by kernel_rfl) (by kernel_rfl) (by kernel_rfl)
abbrev vs50:List Nat:=[0,1,4,5,10,14,25]
def ic50l0:IC:=(.seq (.seq (.region [jv 3,jv 0,je 1,jw 5 (.bin .lss .int) [.t 0,.t 2]])
 (.cond 5 .skip
 (.exit 0)))
 (.seq (.block 1 (.seq (.dr [[],[],[0,1],[2],[],[],[4,5],[6],[3,7]] [jv 0,jv 3,ja 5 0 1,jq (.loadN 5) [.t 2],jv 1,jv 3,ja 5 4 5,jq (.loadN 5) [.t 6],jw 6 (.eqS true (true,[(.int .i64),(.int .i64),(.int .i64),(.int .i64),(.int .i64)])) [.t 3,.t 7]])
 (.cond 6 (.seq (.region [jw 2 .mv [jB false]])
 .ret)
 .skip)))
 (.region [jv 3,jq (.bin .add .int) [.t 0,jn 1],jm 3 1])))
def ic50:IC:=(.seq (.region [jw 2 .mv [jB false]])
 (.seq (.seq (.region [jv 0,je 0,jv 1,je 2,jw 4 (.bin .neq .int) [.t 1,.t 3]])
 (.cond 4 (.seq (.region [jw 2 .mv [jB false]])
 .ret)
 .skip))
 (.seq (.seq (.region [jz 3 0])
 (.block 0 (.loop ic50l0)))
 (.seq (.region [jw 2 .mv [jB true]])
 .ret))))
abbrev rs50:List RC:=[(.v 2)]
theorem fok50 (p:Bool):FnOk Tryz.prog 50 ⟨ic50,vs50,26,rs50,p⟩:=.mk2 Tryz.func50 (by kernel_rfl) (by kernel_rfl) (by kernel_rfl) (by kernel_rfl) (by kernel_rfl)
abbrev vs69:List Nat:=[0,1,2,3,4,5,6]
def ic69:IC:=(.seq (.region [jb 3 0,jb 4 1,jb 5 2,jz 6 0])
 (.seq (.region [jq (.mkfn (.func 98)) [.v 5,.v 3,.v 4],jk 47 [.t 0],jm 6 1])
 .ret))
abbrev rs69:List RC:=[(.v 6)]
theorem fok69 (p:Bool):FnOk Tryz.prog 69 ⟨ic69,vs69,9,rs69,p⟩:=.mk2 Tryz.func69 (by kernel_rfl) (by kernel_rfl) (by kernel_rfl) (by kernel_rfl) (by kernel_rfl)
abbrev vs71:List Nat:=[0,1,3,4,5,14,18]
def ic71:IC:=(.seq (.region [jb 2 1,jz 3 0])
 (.seq (.dr [[],[],[],[2],[3],[1,4],[5],[0,6],[],[8,7,7,0,1,2,3,4,5,6,7,8]] [jL 2,jv 0,jv 0,je 2,jq (.bin .sub .int) [.t 3,jn 1],ja 1 1 4,jl 5,⟨none,none,.call,[(.t 0),(.t 6)]⟩,jw 4 (.alloc [(.cv (.str (bts [])))]) [],jq (.store 1) [.v 4,.t 7]])
 (.seq (.block 0 (.seq (.region [jL 4,jk 100 [.t 0],jq .not [.t 1],jm 5 2])
 (.cond 5 (.seq (.region [jz 3 6])
 .ret)
 (.seq (.region [jv 0,jv 0,je 1,jq (.bin .sub .int) [.t 2,jn 1],jq (.slS 1 false true) [.t 0,.t 3],jq (.mkfn (.func 102)) [.v 2,.v 4],jk 101 [.t 4,.t 5],jm 6 6])
 (.cond 6 (.seq (.region [jz 3 5])
 .ret)
 .skip)))))
 (.seq (.region [jz 3 0])
 .ret))))
abbrev rs71:List RC:=[(.v 3)]
theorem fok71 (p:Bool):FnOk Tryz.prog 71 ⟨ic71,vs71,26,rs71,p⟩:=.mk2 Tryz.func71 (by kernel_rfl) (by kernel_rfl) (by kernel_rfl) (by kernel_rfl) (by kernel_rfl)
abbrev vs72:List Nat:=[0,2]
def ic72:IC:=(.seq (.region [jw 1 .mv [.c (.cv (.str (bts [])))]])
 (.seq (.region [jv 0,jm 1 0])
 .ret))
abbrev rs72:List RC:=[(.v 1)]
theorem fok72 (p:Bool):FnOk Tryz.prog 72 ⟨ic72,vs72,4,rs72,p⟩:=.mk2 Tryz.func72 (by kernel_rfl) (by kernel_rfl) (by kernel_rfl) (by kernel_rfl) (by kernel_rfl)
abbrev vs73:List Nat:=[0,1,3,4,5,14,18]
def ic73:IC:=(.seq (.region [jb 2 1,jz 3 0])
 (.seq (.dr [[],[],[],[2],[3],[1,4],[5],[0,6],[],[8,7,7,0,1,2,3,4,5,6,7,8]] [jL 2,jv 0,jv 0,je 2,jq (.bin .sub .int) [.t 3,jn 1],ja 4 1 4,jq (.loadN 4) [.t 5],⟨none,none,.call,[(.t 0),(.t 6)]⟩,jw 4 (.alloc [(.cv (.str (bts [])))]) [],jq (.store 1) [.v 4,.t 7]])
 (.seq (.block 0 (.seq (.region [jL 4,jk 100 [.t 0],jq .not [.t 1],jm 5 2])
 (.cond 5 (.seq (.region [jz 3 6])
 .ret)
 (.seq (.region [jv 0,jv 0,je 1,jq (.bin .sub .int) [.t 2,jn 1],jq (.slS 4 false true) [.t 0,.t 3],jq (.mkfn (.func 104)) [.v 2,.v 4],jk 103 [.t 4,.t 5],jm 6 6])
 (.cond 6 (.seq (.region [jz 3 5])
 .ret)
 .skip)))))
 (.seq (.region [jz 3 0])
 .ret))))
abbrev rs73:List RC:=[(.v 3)]
theorem fok73 (p:Bool):FnOk Tryz.prog 73 ⟨ic73,vs73,26,rs73,p⟩:=.mk2 Tryz.func73 (by kernel_rfl) (by kernel_rfl) (by kernel_rfl) (by kernel_rfl) (by kernel_rfl)
abbrev vs74:List Nat:=[0,1,2]
def ic74:IC:=(.seq (.region [jb 1 0,jw 2 .mv [.c (.cv (.str (bts [])))]])
 (.seq (.region [jF 0 1,jl 0,jm 2 1])
 .ret))
abbrev rs74:List RC:=[(.v 2)]
theorem fok74 (p:Bool):FnOk Tryz.prog 74 ⟨ic74,vs74,5,rs74,p⟩:=.mk2 Tryz.func74 (by kernel_rfl) (by kernel_rfl) (by kernel_rfl) (by kernel_rfl) (by kernel_rfl)
abbrev vs79:List Nat:=[0,1,5]
def ic79:IC:=(.seq (.region [jv 0,jw 2 .not [.t 0]])
 (.cond 2 (.region [jv 1,jq .stuck [],jq .stuck []])
 .skip))
abbrev rs79:List RC:=[]
theorem fok79 (p:Bool):FnOk Tryz.prog 79 ⟨ic79,vs79,8,rs79,p⟩:=.mk2 Tryz.func79 (by kernel_rfl) (by kernel_rfl) (by kernel_rfl) (by kernel_rfl) (by kernel_rfl)
abbrev vs80:List Nat:=[0,1,2,6]
def ic80:IC:=(.seq (.region [jw 3 .mv [jB false]])
 (.seq (.dr [[],[0],[1],[2],[3],[],[4,5],[6],[7],[],[9],[10],[11],[],[13],[12,14],[8,15],[16],[17,0,1,2,3,4,5,6,7,8,9,10,11,12,13,14,15,16,17]] [jv 0,jc 0,jG 0 1,jG 1 2,jl 3,jv 1,ja 4 4 5,jG 3 6,jl 7,jv 0,jc 9,jG 11 10,jl 11,jv 2,jq (.bin .quo .int) [.t 13,jn 24],jq (.lookup (false,[(.int .i64)]) (.cv (.int .i64 0)) false) [.t 12,.t 14],jq (.bin .and .int) [.t 8,.t 15],jq (.bin .eql .int) [.t 16,jn 0],jm 3 17])
 .ret))
abbrev rs80:List RC:=[(.v 3)]
theorem fok80 (p:Bool):FnOk Tryz.prog 80 ⟨ic80,vs80,25,rs80,p⟩:=.mk2 Tryz.func80 (by kernel_rfl) (by kernel_rfl) (by kernel_rfl) (by kernel_rfl) (by kernel_rfl)
theorem hb81:Tryz.f81.body=some (Tryz.f81.body.getD .skip):=by kernel_rfl
abbrev vs81:List Nat:=[0,1,2,3,4,5,6,7,8,11,12,27]
def ic81 (b81:Code):IC:=(.seq (.region [jb 3 0,jb 4 1,jb 5 2,jw 6 (.alloc [(.cv (.bool false))]) []])
 (.seq (.region [jq (.mkfn (.func 105)) [.v 4],jw 7 (.alloc [(.cv .nilf)]) [],jq (.store 1) [.v 7,.t 0]])
 (.seq (.seq (.region [jL 3,jd 9 106 [.t 0]])
 (.block 0 (.rangef (.v 9) #[12] (nav [1,1,0,1,0,2] b81) (nav [1,1,0,1,0,3] b81) (.region [jw 8 .mv [.v 10]])
 (.block 1 (.seq (.dr [[],[],[0,1],[2],[3],[3],[5,3],[6,3],[7,3],[8,3],[3],[9,10,3],[11,3],[4,12,3,3],[3,13]] [jv 8,jL 5,jq (.bin .neq .int) [.t 0,.t 1],jt 2,jg 3 true .load1 [.v 7],jg 3 true .load1 [.v 3],jg 3 true .nilck [.t 5],jg 3 true (.fadd 7) [.t 6],jg 3 true (.fadd 0) [.t 7],ji 3 true 8,jh 3 true 8,jg 3 true (.iaS 5) [.t 9,.t 10],jg 3 true (.loadN 5) [.t 11],⟨none,(.some (3,true)),.call,[(.t 4),(.t 12)]⟩,jw 11 .pick [.t 3,.t 13,jB false]])
 (.cond 11 (.seq (.region [jq (.store 1) [.v 6,jB false]])
 .ret)
 .skip))))))
 (.seq (.region [jq (.store 1) [.v 6,jB true]])
 .ret))))
theorem cc81:QL Tryz.prog vs81 Tryz.f81.ntmps (Tryz.f81.body.getD .skip)=some (ic81 (Tryz.f81.body.getD .skip)):=by kernel_rfl
abbrev rs81:List RC:=[(.l1 6)]
theorem fok81 (p:Bool):FnOk Tryz.prog 81 ⟨ic81 (Tryz.f81.body.getD .skip),vs81,28,rs81,p⟩:=FnOk.mk' Tryz.func81 hb81 (by kernel_rfl) cc81 (by kernel_rfl) (by kernel_rfl)
abbrev vs98:List Nat:=[0,1,2]
def ic98:IC:=(.seq (.region [jF 0 0,jl 0,jq (.bslice 1 1 [(.cv (.int .i64 0))] [(0,1)]) [.t 1],jk 45 [jn 0,jn 6,.t 2],jq .not [.t 3],jk 79 [.t 4,jn 2]])
 (.seq (.dr [[],[0],[1],[2],[],[4],[5],[3,6],[7],[8,7]] [jL 1,jc 0,jG 13 1,jl 2,jF 1 0,jl 4,jq (.bslice 1 1 [(.cv (.int .i64 0))] [(0,1)]) [.t 5],jk 45 [.t 3,jn 4800,.t 6],jq .not [.t 7],jk 79 [.t 8,jn 7]])
 (.seq (.region [jL 1,jL 2,jc 0,jG 14 2,jq (.store 1) [.t 3,.t 1]])
 (.seq (.dr [[],[],[1],[0,2],[],[],[3,4,5,0]] [jk 99 [],jF 0 0,jl 1,jq (.ixA 7 1 1 false) [.t 0,.t 2],jL 1,jN 11 0,⟨none,none,.call,[(.t 3),(.t 4),(.t 5)]⟩])
 (.region [jL 1,jF 1 0,jl 1,jc 0,jG 13 3,jq (.store 1) [.t 4,.t 2]])))))
abbrev rs98:List RC:=[]
theorem fok98 (p:Bool):FnOk Tryz.prog 98 ⟨ic98,vs98,35,rs98,p⟩:=.mk2 Tryz.func98 (by kernel_rfl) (by kernel_rfl) (by kernel_rfl) (by kernel_rfl) (by kernel_rfl)
abbrev vs99:List Nat:=[0]
def ic99:IC:=(.seq (.region [jw 0 (.alloc [(.cv .nilf),(.cv .nilf),(.cv .nilf),(.cv .nilf),(.cv .nilf),(.cv .nilf),(.cv .nilf)]) []])
 (.seq (.region [jq (.build [(.cv .nilf),(.cv .nilf),(.cv .nilf),(.cv .nilf),(.cv .nilf),(.cv .nilf),(.cv .nilf)] [(0,1),(1,1),(2,1),(3,1),(4,1),(5,1),(6,1)]) [.c (.fn (.func 115) []),.c (.fn (.func 116) []),.c (.fn (.func 117) []),.c (.fn (.func 118) []),.c (.fn (.func 119) []),.c (.fn (.func 120) []),.c (.fn (.func 121) [])],jq (.store 7) [.v 0,.t 0]])
 .ret))
abbrev rs99:List RC:=[(.lN 0 7)]
theorem fok99 (p:Bool):FnOk Tryz.prog 99 ⟨ic99,vs99,2,rs99,p⟩:=.mk2 Tryz.func99 (by kernel_rfl) (by kernel_rfl) (by kernel_rfl) (by kernel_rfl) (by kernel_rfl)
abbrev vs101:List Nat:=[0,1,4]
def ic101:IC:=(.seq (.region [jw 2 .mv [jB false]])
 (.seq (.region [jv 0,jv 1,jk 123 [.t 0,.t 1],jq (.bin .geq .int) [.t 2,jn 0],jm 2 3])
 .ret))
abbrev rs101:List RC:=[(.v 2)]
theorem fok101 (p:Bool):FnOk Tryz.prog 101 ⟨ic101,vs101,9,rs101,p⟩:=.mk2 Tryz.func101 (by kernel_rfl) (by kernel_rfl) (by kernel_rfl) (by kernel_rfl) (by kernel_rfl)
abbrev vs102:List Nat:=[0,1,2,4]
def ic102:IC:=(.seq (.region [jw 3 .mv [jB false]])
 (.seq (.dr [[],[],[0,1],[],[2,3],[4,2,0,1,2,3,4]] [jL 1,jv 0,⟨none,none,.call,[(.t 0),(.t 1)]⟩,jL 2,jq (.bin .eql .str) [.t 2,.t 3],jm 3 4])
 .ret))
abbrev rs102:List RC:=[(.v 3)]
theorem fok102 (p:Bool):FnOk Tryz.prog 102 ⟨ic102,vs102,10,rs102,p⟩:=.mk2 Tryz.func102 (by kernel_rfl) (by kernel_rfl) (by kernel_rfl) (by kernel_rfl) (by kernel_rfl)
abbrev vs103:List Nat:=[0,1,4]
def ic103:IC:=(.seq (.region [jw 2 .mv [jB false]])
 (.seq (.region [jv 0,jv 1,jk 124 [.t 0,.t 1],jq (.bin .geq .int) [.t 2,jn 0],jm 2 3])
 .ret))
abbrev rs103:List RC:=[(.v 2)]
theorem fok103 (p:Bool):FnOk Tryz.prog 103 ⟨ic103,vs103,9,rs103,p⟩:=.mk2 Tryz.func103 (by kernel_rfl) (by kernel_rfl) (by kernel_rfl) (by kernel_rfl) (by kernel_rfl)
abbrev vs104:List Nat:=[0,1,2,3,4]
def ic104:IC:=(.seq (.region [jb 3 0,jw 4 .mv [jB false]])
 (.seq (.dr [[],[],[0,1],[],[2,3],[4,2,0,1,2,3,4]] [jL 1,jN 4 3,⟨none,none,.call,[(.t 0),(.t 1)]⟩,jL 2,jq (.bin .eql .str) [.t 2,.t 3],jm 4 4])
 .ret))
abbrev rs104:List RC:=[(.v 4)]
theorem fok104 (p:Bool):FnOk Tryz.prog 104 ⟨ic104,vs104,10,rs104,p⟩:=.mk2 Tryz.func104 (by kernel_rfl) (by kernel_rfl) (by kernel_rfl) (by kernel_rfl) (by kernel_rfl)
abbrev vs105:List Nat:=[0,1,2,3]
def ic105:IC:=(.seq (.region [jb 2 0,jw 3 .mv [jB false]])
 (.seq (.region [jF 0 2,jl 0,jF 0 1,jl 2,jq (.bin .eql .int) [.t 1,.t 3],jt 4,jg 5 false (.fadd 1) [.v 2],ji 5 false 6,jg 5 false (.fadd 1) [.v 1],ji 5 false 8,jg 5 false (.bin .eql .int) [.t 7,.t 9],jq .pick [.t 5,jB true,.t 10],jt 11,jg 12 true (.fadd 2) [.v 2],ji 12 true 13,jg 12 true (.fadd 2) [.v 1],ji 12 true 15,jg 12 true (.fadd 3) [.v 1],ji 12 true 17,jg 12 true (.bin .add .int) [.t 16,.t 18],jg 12 true (.bin .lss .int) [.t 14,.t 19],jq .pick [.t 12,.t 20,jB false],jt 21,jg 22 true (.fadd 2) [.v 1],ji 22 true 23,jg 22 true (.fadd 2) [.v 2],ji 22 true 25,jg 22 true (.fadd 3) [.v 2],ji 22 true 27,jg 22 true (.bin .add .int) [.t 26,.t 28],jg 22 true (.bin .lss .int) [.t 24,.t 29],jq .pick [.t 22,.t 30,jB false],jm 3 31])
 .ret))
abbrev rs105:List RC:=[(.v 3)]
theorem fok105 (p:Bool):FnOk Tryz.prog 105 ⟨ic105,vs105,36,rs105,p⟩:=.mk2 Tryz.func105 (by kernel_rfl) (by kernel_rfl) (by kernel_rfl) (by kernel_rfl) (by kernel_rfl)
abbrev vs106:List Nat:=[0,1,2]
def ic106:IC:=(.seq (.region [jb 1 0,jw 2 .mv [.c (.cv .nilf)]])
 (.seq (.region [jq (.mkfn (.func 125)) [.v 1],jm 2 0])
 .ret))
abbrev rs106:List RC:=[(.v 2)]
theorem fok106 (p:Bool):FnOk Tryz.prog 106 ⟨ic106,vs106,4,rs106,p⟩:=.mk2 Tryz.func106 (by kernel_rfl) (by kernel_rfl) (by kernel_rfl) (by kernel_rfl) (by kernel_rfl)
abbrev vs115:List Nat:=[0,1,3,4]
def ic115:IC:=(.seq (.region [jb 2 1])
 (.seq (.region [jF 2 2,jl 0,jF 3 2,jl 2,jF 5 2,jl 4,jF 6 2,jl 6,jq (.build [(.cv (.int .i64 0)),(.cv (.int .i64 0)),(.cv (.int .i64 0)),(.cv (.int .i64 0)),(.cv (.int .i64 0))] [(0,1),(1,1),(2,1),(3,1)]) [.t 1,.t 3,.t 5,.t 7],jw 3 (.alloc [(.cv (.int .i64 0)),(.cv (.int .i64 0)),(.cv (.int .i64 0)),(.cv (.int .i64 0)),(.cv (.int .i64 0))]) [],jq (.store 5) [.v 3,.t 8]])
 (.seq (.region [jv 0,jN 5 3,jF 1 2,jl 2,jk 49 [.t 0,.t 1,.t 3]])
 (.dr [[],[],[1],[2],[3],[4],[],[6],[5,7],[0,0,1,2,3,4,5,6,7,8],[9,0,1,2,3,4,5,6,7,8],[10,0,1,2,3,4,5,6,7,8],[11,8,8,0,1,2,3,4,5,6,7,8]] [jv 0,jv 0,jc 1,jG 7 2,jG 0 3,jl 4,jN 5 3,jq (.bslice 5 1 [(.cv (.int .i64 0)),(.cv (.int .i64 0)),(.cv (.int .i64 0)),(.cv (.int .i64 0)),(.cv (.int .i64 0))] [(0,5)]) [.t 6],jq (.append 5 40) [.t 5,.t 7],jc 0,jG 7 9,jG 0 10,jq (.store 1) [.t 11,.t 8]]))))
abbrev rs115:List RC:=[]
theorem fok115 (p:Bool):FnOk Tryz.prog 115 ⟨ic115,vs115,31,rs115,p⟩:=.mk2 Tryz.func115 (by kernel_rfl) (by kernel_rfl) (by kernel_rfl) (by kernel_rfl) (by kernel_rfl)
abbrev vs116:List Nat:=[0,1,3,4]
def ic116:IC:=(.seq (.region [jb 2 1])
 (.seq (.region [jv 0,jF 4 2,jl 1,jk 138 [.t 0,.t 2,jn 0],jm 3 3])
 (.seq (.dr [[],[0],[],[2],[3],[4],[1,5],[6]] [jF 1 2,jl 0,jv 3,jc 2,jG 2 3,jl 4,jq (.bin .lss .int) [.t 1,.t 5],jk 79 [.t 6,jn 2]])
 (.seq (.region [jv 3,jc 0,jG 4 1,jq (.store 1) [.t 2,jn 1]])
 (.dr [[],[],[1],[2],[3],[],[5],[],[7],[8],[9],[],[11],[12],[13],[],[15],[16],[17],[],[19],[18,20],[10,14,21,6],[0,4,6,22,22]] [jv 0,jv 3,jc 1,jG 0 2,jl 3,jv 0,jk 140 [.t 5],jv 0,jc 7,jG 0 8,jq (.loadN 7) [.t 9],jv 3,jc 11,jG 3 12,jl 13,jv 3,jc 15,jG 2 16,jl 17,jF 1 2,jl 19,jq (.bin .sub .int) [.t 18,.t 20],jk 46 [.t 10,.t 14,.t 21],jk 139 [.t 0,.t 4,.t 6,.t 22]])))))
abbrev rs116:List RC:=[]
theorem fok116 (p:Bool):FnOk Tryz.prog 116 ⟨ic116,vs116,44,rs116,p⟩:=.mk2 Tryz.func116 (by kernel_rfl) (by kernel_rfl) (by kernel_rfl) (by kernel_rfl) (by kernel_rfl)
theorem hb117:Tryz.f117.body=some (Tryz.f117.body.getD .skip):=by kernel_rfl
abbrev vs117:List Nat:=[0,1,2,3,4,5,31,32,70]
def ic117 (b117:Code):IC:=(.seq (.region [jb 2 0,jb 3 1])
 (.seq (.region [jF 7 3,jl 0,jq (.bslice 1 1 [(.cv (.int .i64 0))] [(0,1)]) [.t 1],jk 45 [jn 0,jn 200,.t 2],jq .not [.t 3],jt 4,jg 5 true (.fadd 8) [.v 3],ji 5 true 6,jg 5 true (.bslice 1 1 [(.cv (.int .i64 0))] [(0,1)]) [.t 7],jf 5 true 45 [jn 0,jn 7,.t 8],jg 5 true .not [.t 9],jq .pick [.t 5,.t 10,jB false],jk 79 [.t 11,jn 7]])
 (.seq (.dr [[],[0],[1],[2],[],[4],[3,5],[],[7],[8],[6,9],[3,5,10,0,1,2,3,4,5,6,7,8,9,10]] [jL 2,jc 0,jG 11 1,jl 2,jF 7 3,jl 4,jq (.lookup (false,[(.int .i64)]) (.cv (.int .i64 0)) false) [.t 3,.t 5],jF 8 3,jl 7,jq (.bin .shl .int) [jn 1,.t 8],jq (.bin .or .int) [.t 6,.t 9],jq (.mapset (false,[(.int .i64)])) [.t 3,.t 5,.t 10]])
 (.seq (.region [jL 2,jd 6 106 [.t 0]])
 (.block 0 (.rangef (.v 6) #[32] (nav [1,1,1,1,0,2] b117) (nav [1,1,1,1,0,3] b117) (.region [jw 4 .mv [.v 7]])
 (.block 1 (.seq (.region [jL 2,jc 0,jG 7 1,jG 0 2,jl 3,jv 4,ja 5 4 5,jq (.loadN 5) [.t 6],jw 5 (.alloc [(.cv (.int .i64 0)),(.cv (.int .i64 0)),(.cv (.int .i64 0)),(.cv (.int .i64 0)),(.cv (.int .i64 0))]) [],jq (.store 5) [.v 5,.t 7]])
 (.seq (.dr [[],[0],[1],[],[3],[2,4],[5],[6],[7,6],[6],[9,6],[8,10,6],[6,11],[12,6],[13],[14,13],[15,13],[16,13],[17,13],[13],[19,13],[18,20,13],[21,13],[22,13],[13],[24,13],[23,25,13],[26,13],[27,13],[13,28]] [jF 2 5,jl 0,jq (.bin .quo .int) [.t 1,jn 24],jF 7 3,jl 3,jq (.bin .eql .int) [.t 2,.t 4],jt 5,jg 6 true (.fadd 2) [.v 5],ji 6 true 7,jg 6 true (.fadd 1) [.v 3],ji 6 true 9,jg 6 true (.bin .gtr .int) [.t 8,.t 10],jq .pick [.t 6,.t 11,jB false],jt 12,jg 13 true .load1 [.v 2],jg 13 true .nilck [.t 14],jg 13 true (.fadd 0) [.t 15],jg 13 true (.fadd 1) [.t 16],ji 13 true 17,jg 13 true (.fadd 1) [.v 5],ji 13 true 19,jg 13 true (.iaS 4) [.t 18,.t 20],jg 13 true (.fadd 3) [.t 21],ji 13 true 22,jg 13 true (.fadd 8) [.v 3],ji 13 true 24,jg 13 true (.bin .shr .int) [.t 23,.t 25],jg 13 true (.bin .and .int) [.t 26,jn 1],jg 13 true (.bin .eql .int) [.t 27,jn 1],jw 8 .pick [.t 13,.t 28,jB false]])
 (.cond 8 (.region [jL 2,jv 4,jk 141 [.t 0,.t 1]])
 .skip))))))))))
theorem cc117:QL Tryz.prog vs117 Tryz.f117.ntmps (Tryz.f117.body.getD .skip)=some (ic117 (Tryz.f117.body.getD .skip)):=by kernel_rfl
abbrev rs117:List RC:=[]
theorem fok117 (p:Bool):FnOk Tryz.prog 117 ⟨ic117 (Tryz.f117.body.getD .skip),vs117,74,rs117,p⟩:=FnOk.mk' Tryz.func117 hb117 (by kernel_rfl) cc117 (by kernel_rfl) (by kernel_rfl)
abbrev vs118:List Nat:=[0,1,3,4]
def ic118:IC:=(.seq (.region [jb 2 1])
 (.seq (.region [jv 0,jF 4 2,jl 1,jk 138 [.t 0,.t 2,jn 0],jm 3 3])
 (.seq (.dr [[],[0],[],[2],[3],[4],[],[6],[7],[8],[5,9],[1,10],[11]] [jF 1 2,jl 0,jv 3,jc 2,jG 2 3,jl 4,jv 3,jc 6,jG 3 7,jl 8,jq (.bin .add .int) [.t 5,.t 9],jq (.bin .geq .int) [.t 1,.t 10],jk 79 [.t 11,jn 2]])
 (.seq (.region [jF 9 2,jl 0,jq (.bslice 1 1 [(.cv (.int .i64 0))] [(0,1)]) [.t 1],jk 45 [jn 0,jn 400,.t 2],jq .not [.t 3],jk 79 [.t 4,jn 7]])
 (.seq (.dr [[],[0],[1],[2],[3],[],[5],[6],[7],[4,8],[9],[],[11],[12],[13],[14],[],[16],[17],[18],[15,19],[20],[21],[10,22],[23]] [jv 0,jc 0,jG 7 1,jG 2 2,jl 3,jv 3,jc 5,jG 1 6,jl 7,ja 1 4 8,jl 9,jv 0,jc 11,jG 0 12,jG 1 13,jl 14,jv 3,jc 16,jG 1 17,jl 18,ja 4 15 19,jG 2 20,jl 21,jq (.bin .leq .int) [.t 10,.t 22],jk 79 [.t 23,jn 9]])
 (.seq (.region [jv 3,jc 0,jG 4 1,jq (.store 1) [.t 2,jn 2]])
 (.seq (.dr [[],[0],[1],[2],[3],[],[5],[6],[7],[4,8],[9],[],[11],[10,12],[4,8,0,1,2,3,4,5,6,7,8,9,10,11,12,13],[14,13,0,1,2,3,4,5,6,7,8,9,10,11,12,13]] [jv 0,jc 0,jG 7 1,jG 1 2,jl 3,jv 3,jc 5,jG 1 6,jl 7,ja 1 4 8,jl 9,jF 9 2,jl 11,jq (.bin .add .int) [.t 10,.t 12],ja 1 4 8,jq (.store 1) [.t 14,.t 13]])
 (.seq (.dr [[],[0],[1],[2],[3],[],[5],[6],[7],[4,8],[9],[],[11],[10,12],[4,8,0,1,2,3,4,5,6,7,8,9,10,11,12,13],[14,13,0,1,2,3,4,5,6,7,8,9,10,11,12,13]] [jv 0,jc 0,jG 7 1,jG 2 2,jl 3,jv 3,jc 5,jG 1 6,jl 7,ja 1 4 8,jl 9,jF 9 2,jl 11,jq (.bin .add .int) [.t 10,.t 12],ja 1 4 8,jq (.store 1) [.t 14,.t 13]])
 (.dr [[],[],[1],[2],[3],[],[5],[],[7],[8],[9],[],[11],[12],[13],[14],[10,15],[0,4,6,16,6]] [jv 0,jv 3,jc 1,jG 0 2,jl 3,jv 0,jk 140 [.t 5],jv 3,jc 7,jG 3 8,jl 9,jv 0,jc 11,jG 0 12,jG 2 13,jl 14,jq (.bin .mul .int) [.t 10,.t 15],jk 139 [.t 0,.t 4,.t 6,.t 16]])))))))))
abbrev rs118:List RC:=[]
theorem fok118 (p:Bool):FnOk Tryz.prog 118 ⟨ic118,vs118,104,rs118,p⟩:=.mk2 Tryz.func118 (by kernel_rfl) (by kernel_rfl) (by kernel_rfl) (by kernel_rfl) (by kernel_rfl)
abbrev vs120:List Nat:=[0,1,3,4,5]
def ic120:IC:=(.seq (.region [jb 2 1])
 (.seq (.region [jv 0,jF 4 2,jl 1,jk 138 [.t 0,.t 2,jn 2],jm 3 3])
 (.seq (.region [jF 10 2,jl 0,jk 142 [.t 1]])
 (.seq (.region [jv 3,jc 0,jG 4 1,jq (.store 1) [.t 2,jn 3]])
 (.seq (.dr [[],[0],[],[2],[3],[4],[5],[1,6],[7,0,1,2,3,4,5,6,7]] [jF 10 2,jl 0,jv 0,jc 2,jG 0 3,jG 3 4,jl 5,jq .min2 [.t 1,.t 6],jm 4 7])
 (.seq (.region [jv 0,jv 0,jk 140 [.t 1],jv 0,jk 143 [.t 3],jv 4,jk 139 [.t 0,.t 2,.t 4,.t 5]])
 (.dr [[],[],[1],[],[3,2],[],[5],[],[6,7],[0,2,4,8,4]] [jv 0,jv 0,jk 144 [.t 1],jv 0,jk 143 [.t 3],jF 10 2,jl 5,jv 4,jq (.bin .sub .int) [.t 6,.t 7],jk 139 [.t 0,.t 2,.t 4,.t 8]])))))))
abbrev rs120:List RC:=[]
theorem fok120 (p:Bool):FnOk Tryz.prog 120 ⟨ic120,vs120,41,rs120,p⟩:=.mk2 Tryz.func120 (by kernel_rfl) (by kernel_rfl) (by kernel_rfl) (by kernel_rfl) (by kernel_rfl)
abbrev vs123:List Nat:=[0,1,4,5,7,8,9,16]
def ic123l0:IC:=(.seq (.region [jw 6 (.bin .lss .int) [.v 5,.v 4]])
 (.seq (.cond 6 .skip
 (.exit 0))
 (.seq (.block 1 (.seq (.region [jv 5,jm 3 0])
 (.seq (.region [jv 1,jv 0,jv 3,ja 1 1 2,jl 3,⟨(.some 7),none,.call,[(.t 0),(.t 4)]⟩])
 (.cond 7 (.seq (.region [jv 3,jm 2 0])
 .ret)
 .skip))))
 (.region [jq (.bin .add .int) [.v 5,jn 1],jm 5 0]))))
def ic123:IC:=(.seq (.region [jz 2 0])
 (.seq (.seq (.region [jv 0,jw 4 (.len false) [.t 0],jz 5 0])
 (.block 0 (.loop ic123l0)))
 (.seq (.region [jz 2 (-1)])
 .ret)))
abbrev rs123:List RC:=[(.v 2)]
theorem fok123 (p:Bool):FnOk Tryz.prog 123 ⟨ic123,vs123,19,rs123,p⟩:=.mk2 Tryz.func123 (by kernel_rfl) (by kernel_rfl) (by kernel_rfl) (by kernel_rfl) (by kernel_rfl)
abbrev vs124:List Nat:=[0,1,4,5,7,8,9,16]
def ic124l0:IC:=(.seq (.region [jw 6 (.bin .lss .int) [.v 5,.v 4]])
 (.seq (.cond 6 .skip
 (.exit 0))
 (.seq (.block 1 (.seq (.region [jv 5,jm 3 0])
 (.seq (.region [jv 1,jv 0,jv 3,ja 4 1 2,jq (.loadN 4) [.t 3],⟨(.some 7),none,.call,[(.t 0),(.t 4)]⟩])
 (.cond 7 (.seq (.region [jv 3,jm 2 0])
 .ret)
 .skip))))
 (.region [jq (.bin .add .int) [.v 5,jn 1],jm 5 0]))))
def ic124:IC:=(.seq (.region [jz 2 0])
 (.seq (.seq (.region [jv 0,jw 4 (.len false) [.t 0],jz 5 0])
 (.block 0 (.loop ic124l0)))
 (.seq (.region [jz 2 (-1)])
 .ret)))
abbrev rs124:List RC:=[(.v 2)]
theorem fok124 (p:Bool):FnOk Tryz.prog 124 ⟨ic124,vs124,19,rs124,p⟩:=.mk2 Tryz.func124 (by kernel_rfl) (by kernel_rfl) (by kernel_rfl) (by kernel_rfl) (by kernel_rfl)
abbrev vs125:List Nat:=[0,1,3,4,9,10,11,12,24]
def ic125l0:IC:=(.seq (.region [jw 7 (.bin .lss .int) [.v 6,.v 5]])
 (.seq (.cond 7 .skip
 (.exit 0))
 (.seq (.block 1 (.seq (.region [jv 6,jq (.iaS 5) [.v 4,.v 6],jq (.loadN 5) [.t 1],jw 3 (.alloc [(.cv (.int .i64 0)),(.cv (.int .i64 0)),(.cv (.int .i64 0)),(.cv (.int .i64 0)),(.cv (.int .i64 0))]) [],jm 2 0,jq (.store 5) [.v 3,.t 2]])
 (.seq (.region [jF 4 3,jl 0,jq (.bin .eql .int) [.t 1,jn 0],jt 2,jh 3 true 0,jh 3 true 2,⟨none,(.some (3,true)),.call,[(.t 4),(.t 5)]⟩,jg 3 true .not [.t 6],jw 8 .pick [.t 3,.t 7,jB false]])
 (.cond 8 .ret
 .skip))))
 (.region [jq (.bin .add .int) [.v 6,jn 1],jm 6 0]))))
def ic125:IC:=(.seq (.region [jL 1,jc 0,jG 7 1,jG 0 2,jw 4 .load1 [.t 3],jw 5 (.len false) [.v 4],jz 6 0])
 (.block 0 (.loop ic125l0)))
abbrev rs125:List RC:=[]
theorem fok125 (p:Bool):FnOk Tryz.prog 125 ⟨ic125,vs125,26,rs125,p⟩:=.mk2 Tryz.func125 (by kernel_rfl) (by kernel_rfl) (by kernel_rfl) (by kernel_rfl) (by kernel_rfl)
abbrev vs138:List Nat:=[0,1,2,6]
def ic138:IC:=(.seq (.region [jw 3 .mv [.c (.cv .nilp)]])
 (.seq (.region [jv 0,jc 0,jG 7 1,jG 0 2,jl 3,je 4,jq (.bin .sub .int) [.t 5,jn 1],jv 1,jq (.bslice 1 1 [(.cv (.int .i64 0))] [(0,1)]) [.t 7],jk 45 [jn 0,.t 6,.t 8],jq .not [.t 9],jt 10,jh 11 true 0,jg 11 true .nilck [.t 12],jg 11 true (.fadd 7) [.t 13],jg 11 true (.fadd 0) [.t 14],ji 11 true 15,jh 11 true 1,jg 11 true (.iaS 5) [.t 16,.t 17],jg 11 true (.fadd 4) [.t 18],ji 11 true 19,jh 11 true 2,jg 11 true (.bin .eql .int) [.t 20,.t 21],jq .pick [.t 11,.t 22,jB false],jk 79 [.t 23,jn 4]])
 (.seq (.region [jv 0,jc 0,jG 7 1,jG 0 2,jl 3,jv 1,ja 5 4 5,jm 3 6])
 .ret)))
abbrev rs138:List RC:=[(.v 3)]
theorem fok138 (p:Bool):FnOk Tryz.prog 138 ⟨ic138,vs138,39,rs138,p⟩:=.mk2 Tryz.func138 (by kernel_rfl) (by kernel_rfl) (by kernel_rfl) (by kernel_rfl) (by kernel_rfl)
abbrev vs139:List Nat:=[0,1,2,3,9]
def ic139:IC:=(.seq (.seq (.region [jv 3,jw 4 (.bin .eql .int) [.t 0,jn 0]])
 (.cond 4 .ret
 .skip))
 (.seq (.dr [[],[],[1],[2],[3],[],[5],[6],[7],[],[],[],[8,9,10,11],[12],[4,13],[0,0,1,2,3,4,5,6,7,8,9,10,11,12,13,14],[15,0,1,2,3,4,5,6,7,8,9,10,11,12,13,14],[16,14,14,0,1,2,3,4,5,6,7,8,9,10,11,12,13,14]] [jv 0,jv 0,jc 1,jG 12 2,jl 3,jv 0,jc 5,jG 14 6,jl 7,jv 1,jv 2,jv 3,jq (.build [(.cv (.int .i64 0)),(.cv (.int .i64 0)),(.cv (.int .i64 0)),(.cv (.int .i64 0))] [(0,1),(1,1),(2,1),(3,1)]) [.t 8,.t 9,.t 10,.t 11],jq (.bslice 4 1 [(.cv (.int .i64 0)),(.cv (.int .i64 0)),(.cv (.int .i64 0)),(.cv (.int .i64 0))] [(0,4)]) [.t 12],jq (.append 4 32) [.t 4,.t 13],jc 0,jG 12 15,jq (.store 1) [.t 16,.t 14]])
 (.seq (.region [jv 0,jc 0,jG 7 1,jG 3 2,jl 3,jv 1,ja 1 4 5,jl 6,jv 3,jq (.bin .sub .int) [.t 7,.t 8],ja 1 4 5,jq (.store 1) [.t 10,.t 9]])
 (.region [jv 0,jc 0,jG 7 1,jG 3 2,jl 3,jv 2,ja 1 4 5,jl 6,jv 3,jq (.bin .add .int) [.t 7,.t 8],ja 1 4 5,jq (.store 1) [.t 10,.t 9]]))))
abbrev rs139:List RC:=[]
theorem fok139 (p:Bool):FnOk Tryz.prog 139 ⟨ic139,vs139,49,rs139,p⟩:=.mk2 Tryz.func139 (by kernel_rfl) (by kernel_rfl) (by kernel_rfl) (by kernel_rfl) (by kernel_rfl)
abbrev vs141:List Nat:=[0,1,4,22,38]
def ic141l0:IC:=(.seq (.seq (.region [jF 2 2,jl 0,jF 3 2,jl 2,jq (.bin .add .int) [.t 1,.t 3],jw 3 (.bin .leq .int) [.t 4,jn 4800]])
 (.cond 3 .skip
 (.exit 0)))
 (.seq (.block 1 (.seq (.region [jv 0,jF 1 2,jl 1,jF 2 2,jl 3,jk 80 [.t 0,.t 2,.t 4],jt 5,jh 6 true 0,jg 6 true (.loadN 5) [.v 2],jh 6 true 1,jf 6 true 81 [.t 7,.t 8,.t 9],jw 4 .pick [.t 6,.t 10,jB false]])
 (.cond 4 (.seq (.dr [[],[0],[1],[2],[3],[],[],[4,5,0,1,2,3,4,5,6],[7,6,0,1,2,3,4,5,6]] [jv 0,jc 0,jG 7 1,jG 0 2,jl 3,jv 1,jN 5 2,ja 5 4 5,jq (.store 5) [.t 7,.t 6]])
 .ret)
 .skip)))
 (.region [jF 2 2,jl 0,jq (.bin .add .int) [.t 1,jn 24],jF 2 2,jq (.store 1) [.t 3,.t 2]])))
def ic141:IC:=(.seq (.region [jv 0,jc 0,jG 7 1,jG 0 2,jl 3,jv 1,ja 5 4 5,jq (.loadN 5) [.t 6],jw 2 (.alloc [(.cv (.int .i64 0)),(.cv (.int .i64 0)),(.cv (.int .i64 0)),(.cv (.int .i64 0)),(.cv (.int .i64 0))]) [],jq (.store 5) [.v 2,.t 7]])
 (.seq (.seq (.region [jF 2 2,jl 0,jq (.bin .add .int) [.t 1,jn 24],jF 2 2,jq (.store 1) [.t 3,.t 2]])
 (.block 0 (.loop ic141l0)))
 (.region [jv 0,jc 0,jG 7 1,jG 0 2,jl 3,jv 1,ja 5 4 5,jG 4 6,jq (.store 1) [.t 7,jn 1]])))
abbrev rs141:List RC:=[]
theorem fok141 (p:Bool):FnOk Tryz.prog 141 ⟨ic141,vs141,55,rs141,p⟩:=.mk2 Tryz.func141 (by kernel_rfl) (by kernel_rfl) (by kernel_rfl) (by kernel_rfl) (by kernel_rfl)
abbrev vs142:List Nat:=[0]
def ic142:IC:=(.region [jv 0,jq (.bslice 1 1 [(.cv (.int .i64 0))] [(0,1)]) [.t 0],jk 45 [jn 0,jn 10000000,.t 1],jq .not [.t 2],jk 79 [.t 3,jn 7]])
abbrev rs142:List RC:=[]
theorem fok142 (p:Bool):FnOk Tryz.prog 142 ⟨ic142,vs142,7,rs142,p⟩:=.mk2 Tryz.func142 (by kernel_rfl) (by kernel_rfl) (by kernel_rfl) (by kernel_rfl) (by kernel_rfl)
abbrev vs143:List Nat:=[0,2]
def ic143:IC:=(.seq (.region [jz 1 0])
 (.seq (.region [jv 0,jc 0,jG 0 1,jG 0 2,jl 3,je 4,jq (.bin .add .int) [.t 5,jn 1],jm 1 6])
 .ret))
abbrev rs143:List RC:=[(.v 1)]
theorem fok143 (p:Bool):FnOk Tryz.prog 143 ⟨ic143,vs143,10,rs143,p⟩:=.mk2 Tryz.func143 (by kernel_rfl) (by kernel_rfl) (by kernel_rfl) (by kernel_rfl) (by kernel_rfl)
abbrev vs144:List Nat:=[0,2]
def ic144:IC:=(.seq (.region [jz 1 0])
 (.seq (.region [jv 0,jc 0,jG 0 1,jG 0 2,jl 3,je 4,jq (.bin .add .int) [.t 5,jn 2],jm 1 6])
 .ret))
abbrev rs144:List RC:=[(.v 1)]
theorem fok144 (p:Bool):FnOk Tryz.prog 144 ⟨ic144,vs144,10,rs144,p⟩:=.mk2 Tryz.func144 (by kernel_rfl) (by kernel_rfl) (by kernel_rfl) (by kernel_rfl) (by kernel_rfl)
abbrev vs4:List Nat:=[0,1,2,3,4,5,6,7,8,19,24,31,38,45]
def ic4l0:IC:=(.seq (.seq (.region [jv 7,jF 1 1,jl 1,je 2,jw 12 (.bin .lss .int) [.t 0,.t 3]])
 (.cond 12 .skip
 (.exit 2)))
 (.seq (.block 3 (.seq (.region [jN 2 1,jv 7,jk 14 [.t 0,.t 1],jm 8 2])
 (.seq (.region [jv 8,jw 13 (.bin .neq .int) [.t 0,jn 0]])
 (.cond 13 (.seq (.region [jv 7,jv 8,jz 2 3,jm 3 0,jm 4 1])
 .ret)
 .skip))))
 (.region [jv 7,jq (.bin .add .int) [.t 0,jn 1],jm 7 1])))
def ic4l1:IC:=(.seq (.seq (.region [jv 5,jF 0 1,jl 1,je 2,jw 10 (.bin .lss .int) [.t 0,.t 3]])
 (.cond 10 .skip
 (.exit 0)))
 (.seq (.block 1 (.seq (.region [jN 2 1,jv 5,jk 13 [.t 0,.t 1],jm 6 2])
 (.seq (.region [jv 6,jw 11 (.bin .neq .int) [.t 0,jn 0]])
 (.cond 11 (.seq (.region [jv 5,jv 6,jz 2 2,jm 3 0,jm 4 1])
 .ret)
 .skip))))
 (.region [jv 5,jq (.bin .add .int) [.t 0,jn 1],jm 5 1])))
def ic4:IC:=(.seq (.region [jb 1 0,jz 2 0,jz 3 0,jz 4 0])
 (.seq (.seq (.region [jF 0 1,jl 0,je 1,jk 12 [.t 2,jn 1,jn 5],jq .not [.t 3],jt 4,jg 5 false (.fadd 1) [.v 1],ji 5 false 6,jg 5 false (.len false) [.t 7],jg 5 false (.bin .gtr .int) [.t 8,jn 8],jw 9 .pick [.t 5,jB true,.t 9]])
 (.cond 9 (.seq (.region [jz 2 1,jz 3 0,jz 4 3])
 .ret)
 .skip))
 (.seq (.seq (.region [jz 5 0])
 (.block 0 (.loop ic4l1)))
 (.seq (.seq (.region [jz 7 0])
 (.block 2 (.loop ic4l0)))
 (.seq (.region [jz 2 0,jz 3 0,jz 4 0])
 .ret)))))
abbrev rs4:List RC:=[(.v 2),(.v 3),(.v 4)]
theorem fok4 (p:Bool):FnOk Tryz.prog 4 ⟨ic4,vs4,48,rs4,p⟩:=.mk2 Tryz.func4 (by kernel_rfl) (by kernel_rfl) (by kernel_rfl) (by kernel_rfl) (by kernel_rfl)
abbrev vs13:List Nat:=[0,1,2,4,5,6,15,18,29,33]
def ic13l0:IC:=(.seq (.seq (.region [jv 5,jv 1,jw 7 (.bin .lss .int) [.t 0,.t 1]])
 (.cond 7 .skip
 (.exit 0)))
 (.seq (.block 1 (.seq (.dr [[],[0],[],[1,2],[3],[4],[],[6],[5,7]] [jF 0 2,jl 0,jv 5,ja 3 1 2,jG 0 3,jl 4,jF 0 4,jl 6,jw 8 (.bin .eql .str) [.t 5,.t 7]])
 (.cond 8 (.seq (.region [jz 3 5])
 .ret)
 .skip)))
 (.region [jv 5,jq (.bin .add .int) [.t 0,jn 1],jm 5 1])))
def ic13:IC:=(.seq (.region [jb 2 0,jz 3 0])
 (.seq (.region [jF 0 2,jl 0,jv 1,ja 3 1 2,jq (.loadN 3) [.t 3],jw 4 (.alloc [(.cv (.str (bts []))),(.cv (.int .i64 0)),(.cv .nils)]) [],jq (.store 3) [.v 4,.t 4]])
 (.seq (.seq (.region [jF 0 4,jl 0,jk 42 [.t 1],jw 6 .not [.t 2]])
 (.cond 6 (.seq (.region [jz 3 6])
 .ret)
 .skip))
 (.seq (.seq (.region [jz 5 0])
 (.block 0 (.loop ic13l0)))
 (.seq (.seq (.region [jF 1 4,jl 0,jk 12 [.t 1,jn 0,jn 6],jw 9 .not [.t 2]])
 (.cond 9 (.seq (.region [jz 3 7])
 .ret)
 .skip))
 (.seq (.region [jF 2 4,jl 0,jk 43 [.t 1,jn 3],jm 3 2])
 .ret))))))
abbrev rs13:List RC:=[(.v 3)]
theorem fok13 (p:Bool):FnOk Tryz.prog 13 ⟨ic13,vs13,37,rs13,p⟩:=.mk2 Tryz.func13 (by kernel_rfl) (by kernel_rfl) (by kernel_rfl) (by kernel_rfl) (by kernel_rfl)
abbrev vs14:List Nat:=[0,1,2,4,5,6,15,18,29,39,47]
def ic14l0:IC:=(.seq (.seq (.region [jv 5,jv 1,jw 7 (.bin .lss .int) [.t 0,.t 1]])
 (.cond 7 .skip
 (.exit 0)))
 (.seq (.block 1 (.seq (.dr [[],[0],[],[1,2],[3],[4],[],[6],[5,7]] [jF 1 2,jl 0,jv 5,ja 5 1 2,jG 0 3,jl 4,jF 0 4,jl 6,jw 8 (.bin .eql .str) [.t 5,.t 7]])
 (.cond 8 (.seq (.region [jz 3 5])
 .ret)
 .skip)))
 (.region [jv 5,jq (.bin .add .int) [.t 0,jn 1],jm 5 1])))
def ic14:IC:=(.seq (.region [jb 2 0,jz 3 0])
 (.seq (.region [jF 1 2,jl 0,jv 1,ja 5 1 2,jq (.loadN 5) [.t 3],jw 4 (.alloc [(.cv (.str (bts []))),(.cv (.int .i64 0)),(.cv (.int .i64 0)),(.cv (.int .i64 0)),(.cv .nils)]) [],jq (.store 5) [.v 4,.t 4]])
 (.seq (.seq (.region [jF 0 4,jl 0,jk 42 [.t 1],jw 6 .not [.t 2]])
 (.cond 6 (.seq (.region [jz 3 6])
 .ret)
 .skip))
 (.seq (.seq (.region [jz 5 0])
 (.block 0 (.loop ic14l0)))
 (.seq (.seq (.region [jF 1 4,jl 0,jk 12 [.t 1,jn 0,jn 40000],jq .not [.t 2],jt 3,jg 4 false (.fadd 3) [.v 4],ji 4 false 5,jf 4 false 12 [.t 6,jn 0,jn 20],jg 4 false .not [.t 7],jw 9 .pick [.t 4,jB true,.t 8]])
 (.cond 9 (.seq (.region [jz 3 7])
 .ret)
 .skip))
 (.seq (.seq (.region [jF 2 4,jl 0,jF 0 2,jl 2,je 3,jq (.bin .sub .int) [.t 4,jn 1],jk 12 [.t 1,jn (-1),.t 5],jw 10 .not [.t 6]])
 (.cond 10 (.seq (.region [jz 3 4])
 .ret)
 .skip))
 (.seq (.region [jF 4 4,jl 0,jF 0 2,jl 2,je 3,jk 43 [.t 1,.t 4],jm 3 5])
 .ret)))))))
abbrev rs14:List RC:=[(.v 3)]
theorem fok14 (p:Bool):FnOk Tryz.prog 14 ⟨ic14,vs14,54,rs14,p⟩:=.mk2 Tryz.func14 (by kernel_rfl) (by kernel_rfl) (by kernel_rfl) (by kernel_rfl) (by kernel_rfl)
abbrev vs43:List Nat:=[0,1,4,5,6,10,20,23,34]
def ic43l0:IC:=(.seq (.seq (.region [jv 4,jv 3,jw 7 (.bin .lss .int) [.t 0,.t 1]])
 (.cond 7 .skip
 (.exit 2)))
 (.seq (.block 3 (.seq (.dr [[],[],[0,1],[2],[],[],[4,5],[6],[3,7]] [jv 0,jv 4,ja 1 0 1,jl 2,jv 0,jv 3,ja 1 4 5,jl 6,jw 8 (.bin .eql .int) [.t 3,.t 7]])
 (.cond 8 (.seq (.region [jz 2 5])
 .ret)
 .skip)))
 (.region [jv 4,jq (.bin .add .int) [.t 0,jn 1],jm 4 1])))
def ic43l1:IC:=(.seq (.seq (.region [jv 3,jv 0,je 1,jw 5 (.bin .lss .int) [.t 0,.t 2]])
 (.cond 5 .skip
 (.exit 0)))
 (.seq (.block 1 (.seq (.seq (.region [jv 0,jv 3,ja 1 0 1,jl 2,jv 1,jq (.bin .sub .int) [.t 4,jn 1],jk 12 [.t 3,jn 0,.t 5],jw 6 .not [.t 6]])
 (.cond 6 (.seq (.region [jz 2 4])
 .ret)
 .skip))
 (.seq (.region [jz 4 0])
 (.block 2 (.loop ic43l0)))))
 (.region [jv 3,jq (.bin .add .int) [.t 0,jn 1],jm 3 1])))
def ic43:IC:=(.seq (.region [jz 2 0])
 (.seq (.seq (.region [jz 3 0])
 (.block 0 (.loop ic43l1)))
 (.seq (.region [jz 2 0])
 .ret)))
abbrev rs43:List RC:=[(.v 2)]
theorem fok43 (p:Bool):FnOk Tryz.prog 43 ⟨ic43,vs43,35,rs43,p⟩:=.mk2 Tryz.func43 (by kernel_rfl) (by kernel_rfl) (by kernel_rfl) (by kernel_rfl) (by kernel_rfl)
end Go.Proofs.YtfnhbbohjnjfnaaGreat.AM
namespace Go.Proofs.YtfnhbbohjnjfnaaGreat.Pl
theorem cnt_inj {n1 n:Nat} {σ:Nat→Nat} (h1:∀ k,k<n1→σ k<n) (h2:∀ k k',k<n1→k'<n1→σ k=σ k'→k=k') (P:Nat→Bool):cnt n1 (fun k=>P (σ k))≤cnt n P:=by
 induction n1 generalizing P with
 | zero=>exact QF _
 | succ n1 ih =>
  have h3:=ih (fun k hk=>h1 k (by omega)) (fun k k' hk hk'=>h2 k k' (by omega) (by omega)) (fun x=>P x && !(x == σ n1))
  have h4:cnt n1 (fun k=>P (σ k))≤cnt n1 (fun k=>P (σ k) && !(σ k == σ n1)):=by
   apply cnt_mono
   intro k hk hp
   have:¬ σ k=σ n1:=fun e=>by have:=h2 k n1 (by omega) (by omega) e;omega
   simp[hp,this]
  simp only[cnt]
  by_cases hp:P (σ n1)=true
  ·have:=cnt_lt (P:=fun x=>P x && !(x == σ n1)) (Q:=P) (n:=n) (fun i _ h=>by simp only[QD] at h;exact h.1) (h1 n1 (by omega)) (by simp) hp
   simp only[hp,if_true];omega
  ·have:cnt n (fun x=>P x && !(x == σ n1))≤cnt n P:=cnt_mono (fun i _ h=>by simp only[QD] at h;exact h.1)
   rw[if_neg hp];omega
end Go.Proofs.YtfnhbbohjnjfnaaGreat.Pl
namespace Go.Proofs.YtfnhbbohjnjfnaaGreat.Qu
open Pl
namespace Mk
theorem sub {M M1:Mk} {σ:Nat→Nat} (h1:∀ k,k<M1.n→σ k<M.n) (h2:∀ k k',k<M1.n→k'<M1.n→σ k=σ k'→k=k') (hw:∀ k,k<M1.n→M1.w k=M.w (σ k)) (hq:∀ c,M.q c≤M1.q c)
  (hr:∀ c k k',k<M1.n→k'<M1.n→M.rk c (σ k)<M.rk c (σ k')→M1.rk c k<M1.rk c k') {p p1:Nat→Nat} (hp:M.Cap p) (hpc:M.Calm p) (hp1:M1.Best p1):∀ k,k<M1.n→p1 k≤p (σ k):=by
 have hs:∀ k,k<M1.n→M1.has (fun k=>p (σ k)) k=M.has p (σ k):=fun k hk=>by simp[has,hw k hk]
 refine hp1.best (fun k=>p (σ k)) ?_ ?_
 ·intro c
  have e:M1.num (fun k=>p (σ k)) c=cnt M1.n (fun k=>M.has p (σ k) == some c):=K1 fun k hk=>by rw[hs k hk]
  have:=cnt_inj h1 h2 (fun k=>M.has p k == some c)
  have:=hp c
  have:=hq c
  unfold num at *
  omega
 ·intro i k c j hi hk hj hc hg
  rw[hs k hk] at hg
  rw[hw i hi] at hc
  exact hr c k i hk hi (hpc (σ i) (σ k) c j (h1 i hi) (h1 k hk) hj hc hg)
end Mk
end Go.Proofs.YtfnhbbohjnjfnaaGreat.Qu
namespace Go.Proofs.YtfnhbbohjnjfnaaGreat.Qu
open Go Pl
theorem list_range (g:List Int):g=(List.range g.length).map fun i=>g[i]! := by
 apply Y1
 ·simp
 ·intro i h1 h2;simp[h1]
theorem count_cnt (g:List Int) (c:Int):g.count c=cnt g.length fun i=>g[i]! == c:=by
 rw[cnt_range]
 conv=>lhs;rw[list_range g]
 rw[List.count,List.countP_map];rfl
theorem place_none {w:List Int} {c:Int} (h:c∉w):place w c=w.length:=by
 unfold place
 rw[List.findIdx_eq_length]
 intro x hx
 have:x≠c:=fun e=>h (e ▸ hx)
 simpa using this
theorem place_mem {w:List Int} {c:Int} (h:c∈w):place w c<w.length:=by
 unfold place
 rw[List.findIdx_lt_length]
 exact ⟨c,h,by simp⟩
theorem place_idx {w:List Int} (hn:w.Nodup) {j:Nat} {c:Int} (h:w[j]? = some c):place w c=j:=by
 have hc:c∈w:=QZ h
 have h1:=place_get (place_mem hc)
 obtain ⟨a1,a2⟩:=QH.1 h
 obtain ⟨b1,b2⟩:=QH.1 h1
 have hp:=List.pairwise_iff_getElem.1 hn
 rcases Nat.lt_trichotomy (place w c) j with e | e | e
 ·exact absurd (b2.trans a2.symm) (hp _ _ b1 a1 e)
 ·exact e
 ·exact absurd (a2.trans b2.symm) (hp _ _ a1 b1 e)
theorem toNat_get {w:List Int} (h:∀ x∈w,0≤x) (j:Nat):numOf ((w.map Int.toNat)[j]?)=(match w[j]? with | some c=>c | none=>-1):=by
 rw[ZR]
 cases hj:w[j]? with
 | none=>rfl
 | some c =>
  have:=h c (QZ hj)
  simp[numOf,VI this]
theorem place_num {w:List Int} (hn:w.Nodup) (h0:∀ x∈w,0≤x) {j:Nat} (hj:j≤w.length):place w (numOf ((w.map Int.toNat)[j]?))=j:=by
 rw[toNat_get h0]
 cases hw:w[j]? with
 | some c=>exact place_idx hn hw
 | none =>
  have:w.length≤j:=by simpa using hw
  show place w (-1)=j
  rw[place_none (fun h=>by have:=h0 _ h;omega)]
  omega
section
variable {q:QL₀} (hL:∀ i,i<q.ls.length→LeaOk q i)
include hL
theorem wi_pos {i:Nat} (hi:i<q.ls.length):∀ x∈(q.ls[i]!).wi,0≤x:=fun x hx=>((hL i hi).wi x hx).1
def rOf (q:QL₀) (g:List Int) (i:Nat):Nat:=place (q.ls[i]!).wi (g[i]!)
theorem has_rOf {g:List Int} (h:OkG q g) {i:Nat} (hi:i<q.ls.length):numOf ((mk q).has (rOf q g) i)=g[i]! := by
 have e:(mk q).has (rOf q g) i=((q.ls[i]!).wi.map Int.toNat)[place (q.ls[i]!).wi (g[i]!)]? := rfl
 rw[e,toNat_get (wi_pos hL hi)]
 rcases h.2 i hi with h1 | h1
 ·have:g[i]!∉(q.ls[i]!).wi:=fun hm=>by have:=wi_pos hL hi _ hm;omega
  rw[place_none this,QN (QG _),h1]
 ·rw[place_get (place_mem h1)]
theorem has_some {g:List Int} (h:OkG q g) {i:Nat} (hi:i<q.ls.length) (c:Nat):(mk q).has (rOf q g) i=some c↔g[i]! = (c:Int):=by
 rw[← has_rOf hL h hi]
 cases (mk q).has (rOf q g) i with
 | none=>simp[numOf]
 | some d=>simp[numOf];omega
theorem num_count {g:List Int} (h:OkG q g) (c:Nat):(mk q).num (rOf q g) c=g.count (c:Int):=by
 rw[count_cnt,h.1]
 apply K1
 intro i hi
 have:=has_some hL h hi c
 rw[Q8]
 simpa using this
theorem fair_accepts (hC:∀ c,c<q.cs.length→CenOk q c) {g:List Int} (ho:OkG q g) (h:(mk q).Fair (rOf q g)):Accepts q g:=by
 refine ⟨ho,?_,?_⟩
 ·intro c hc
  have h1:=h.cap c
  rw[num_count hL ho] at h1
  have:=(hC c hc).pl
  have h2:g.count (c:Int)≤((q.cs[c]!).pl).toNat:=h1
  omega
 ·intro i hi j c hj hc
  obtain ⟨h0,h1⟩:=(hL i hi).wi c (QZ hc)
  obtain ⟨d,rfl⟩:∃ d:Nat,c=(d:Int):=⟨c.toNat,by omega⟩
  have hc':((mk q).w i)[j]? = some d:=by
   show ((q.ls[i]!).wi.map Int.toNat)[j]? = some d
   rw[ZR,hc];simp
  have a1:=h.full i d j hi hj hc'
  rw[num_count hL ho] at a1
  have a1:((q.cs[d]!).pl).toNat≤g.count (d:Int):=a1
  have:=(hC d (by omega)).pl
  refine ⟨?_,fun k hk hg=>?_⟩
  ·simp only[Int.toNat_natCast];omega
  ·have a2:=h.calm i k d j hi hk hj hc' ((has_some hL ho hk d).2 hg)
   simp only[Int.toNat_natCast]
   rw[mk_lt hL hk hi]
   simp only[decide_eq_false_iff_not]
   omega
omit hL in
theorem give_len:(giveQ q).length=q.ls.length:=by simp[giveQ]
theorem give_place {i:Nat} (hi:i<q.ls.length):rOf q (giveQ q) i=bestP q i:=by
 have h1:=(bestP_best hL).fair.len i hi
 have h1:bestP q i≤((q.ls[i]!).wi.map Int.toNat).length:=h1
 unfold rOf
 rw[give_get hi]
 exact place_num (hL i hi).nd (wi_pos hL hi) (by simpa using h1)
theorem give_ok:OkG q (giveQ q):=by
 refine ⟨give_len,fun i hi=>?_⟩
 rw[give_get hi]
 have e:(mk q).has (bestP q) i=((q.ls[i]!).wi.map Int.toNat)[bestP q i]? := rfl
 rw[e,toNat_get (wi_pos hL hi)]
 cases hw:(q.ls[i]!).wi[bestP q i]? with
 | none=>exact Or.inl rfl
 | some c=>exact Or.inr (QZ hw)
omit hL in
theorem fair_congr {M:Mk} {p r:Nat→Nat} (h:∀ i,i<M.n→p i=r i) (hp:M.Fair p):M.Fair r:=by
 have hs:∀ i,i<M.n→M.has r i=M.has p i:=fun i hi=>by simp only[Mk.has,h i hi]
 have hn:∀ c,M.num r c=M.num p c:=fun c=>K1 fun i hi=>by rw[hs i hi]
 refine ⟨fun i hi=>by rw[← h i hi];exact hp.len i hi,fun c=>by rw[hn];exact hp.cap c,?_,?_⟩
 ·intro i k c j hi hk hj hc hh
  rw[hs k hk] at hh
  exact hp.calm i k c j hi hk (by rw[h i hi];exact hj) hc hh
 ·intro i c j hi hj hc
  rw[hn]
  exact hp.full i c j hi (by rw[h i hi];exact hj) hc
theorem give_accepts (hC:∀ c,c<q.cs.length→CenOk q c):Accepts q (giveQ q) :=
 fair_accepts hL hC (give_ok hL) (fair_congr (fun _ hi=>(give_place hL hi).symm) (bestP_best hL).fair)
end
section
variable {q:QL₀} (hL:∀ i,i<q.ls.length→LeaOk q i)
include hL
theorem give_sub {q':QL₀} (hL':∀ i,i<q'.ls.length→LeaOk q' i) {σ:Nat→Nat} (h1:∀ k,k<q'.ls.length→σ k<q.ls.length) (h2:∀ k k',k<q'.ls.length→k'<q'.ls.length→σ k=σ k'→k=k')
  (hw:∀ k,k<q'.ls.length→q'.ls[k]! = q.ls[σ k]!) (hq:∀ c:Nat,(q.cs[c]!).pl.toNat≤(q'.cs[c]!).pl.toNat) (hr:∀ c:Nat,(q'.cs[c]!).ru=(q.cs[c]!).ru) {k:Nat} (hk:k<q'.ls.length) :
  place (q.ls[σ k]!).wi ((giveQ q')[k]!)≤place (q.ls[σ k]!).wi ((giveQ q)[σ k]!):=by
 have h:=Mk.sub (M:=mk q) (M1:=mk q') (σ:=σ) h1 h2 (fun k hk=>by show _=_;simp only[mk,hw k hk]) hq (fun c k k' hk hk' hlt=>by
  have e:bef q' c k k'=bef q c (σ k) (σ k'):=by simp only[bef,hw k hk,hw k' hk',hr]
  have:=(Mk.rank_lt (bef_strict hL c) (h1 k' hk') (h1 k hk)).2 hlt
  rw[← e] at this
  exact (Mk.rank_lt (bef_strict hL' c) hk' hk).1 this) (bestP_best hL).fair.cap (bestP_best hL).fair.calm (bestP_best hL') k hk
 have g1:=give_place hL (h1 k hk)
 have g2:=give_place hL' hk
 unfold rOf at g1 g2
 rw[hw k hk] at g2
 omega
end
end Go.Proofs.YtfnhbbohjnjfnaaGreat.Qu
namespace Go.Proofs.YtfnhbbohjnjfnaaGreat.AM
variable [Dr]
open Go Go.Proofs.YtfnhbbohjnjfnaaGreat.Qu
section
variable {cs:List Cen} {ls:List Lea} {k:Nat}
theorem cen_0 (h:k<cs.length):(cenCs cs)[k*3]? = some (.str (cs[k]!).nm):=flat_get cenC_len h (j:=0) (by omega)
theorem lea_0 (h:k<ls.length):(leaCs ls)[k*5]? = some (.str (ls[k]!).nm):=flat_get leaC_len h (j:=0) (by omega)
end
theorem any_take {l:List Int} {i:Nat} (h:i≤l.length) {x:Int}:(l.take i).any (· == x)=true↔∃ k,k<i∧l[k]?.getD 0=x:=by
 rw[ZZ]
 constructor
 ·rintro ⟨y,hy,hxy⟩
  obtain ⟨k,hk,rfl⟩:=WN.1 hy
  simp only[List.length_take] at hk
  refine ⟨k,by omega,?_⟩
  rw[List.getElem_take] at hxy
  rw[QI (by omega)]
  simpa using hxy
 ·rintro ⟨k,hk,rfl⟩
  have hk':k<(l.take i).length:=by simp;omega
  refine ⟨(l.take i)[k],Q2 hk',?_⟩
  rw[List.getElem_take,QI (by omega)];simp
theorem c43 (l:List Int) (many:Nat) (hl:l.length<2 ^ 63) (hm:many<2 ^ 63):PC Tryz.prog 43 [ints l,.i many] (.i (unl many [] l)):=by
 refine ⟨ZF (fok43 true) (QC rfl) ?_,rfl⟩
 have hw:IntKind.i64.wrap ((many:Int)-1)=(many:Int)-1:=ZC (by omega)
 simp only[ic43,evA,simprocAttr]
 refine ZW l.length (fun i s=>unl many [] l=unl many (l.take i) (l.drop i)∧∃ v4 v5 v6 v7 v8,s=⟨[ints l,.i many,.i 0,.i i,v4,v5,v6,v7,v8],[]⟩) ?_ 0 (QF _) ⟨rfl,_,_,_,_,_,rfl⟩
 rintro i s hi ⟨heq,v4,v5,v6,v7,v8,rfl⟩
 by_cases h:i<l.length
 rotate_left
 ·rw[unl_end h] at heq
  simp only[ic43l1,QJ,h,heq,evA,simprocAttr]
  exact frz
 rw[unl_step h] at heq
 simp only[ic43l1,QJ,h,hw,evA,simprocAttr]
 refine (c12 _ _ _).call frz ?_
 cases h1:inB (l[i]?.getD 0) 0 ((many:Int)-1)
 ·rw[if_pos h1] at heq
  simp only[heq,evA,simprocAttr]
  exact frz
 rw[if_neg (by rw[h1];decide)] at heq
 simp only[evA,simprocAttr]
 refine ZW i (fun k s=>(∀ j,j<k→l[j]?.getD 0≠l[i]?.getD 0)∧∃ v5 v6 v7 v8,s=⟨[ints l,.i many,.i 0,.i i,.i k,v5,v6,v7,v8],[]⟩) ?_ 0 (QF _) ⟨by omega,_,_,_,_,rfl⟩
 rintro k s hk ⟨hall,v5,v6,v7,v8,rfl⟩
 by_cases hki:k<i
 ·have hkl:k<l.length:=by omega
  simp only[ic43l0,QJ,hki,evA,simprocAttr]
  refine DW_s [] [] hmix (by kernel_rfl) rfl ?_
  simp only[h,hkl,evA,simprocAttr]
  by_cases he:l[k]?.getD 0=l[i]?.getD 0
  ·rw[if_pos ((any_take (by omega)).2 ⟨k,hki,he⟩)] at heq
   have hb:(l[k]?.getD 0 == l[i]?.getD 0)=true:=by simp[he]
   simp only[hb,heq,evA,simprocAttr]
   exact frz
  ·have hb:(l[k]?.getD 0 == l[i]?.getD 0)=false:=by simp[he]
   simp only[hb,evA,simprocAttr]
   refine ZL (by first | trivial | omega) ⟨fun j hj=>?_,_,_,_,_,by rw[ZC (by omega)];rfl⟩
   rcases QQ.1 hj with hj | rfl
   ·exact hall j hj
   ·exact he
 ·have:k=i:=by omega
  subst this
  rw[if_neg (fun h=>by
   obtain ⟨j,hj,e⟩:=(any_take (by omega)).1 h
   exact hall j hj e)] at heq
  simp only[ic43l0,QJ,hki,evA,simprocAttr]
  exact ZL (by first | trivial | omega) ⟨heq,_,_,_,_,_,by rw[ZC (by omega)];rfl⟩
theorem c13 (q:QL₀) (hq:QSz q) (i:Nat) (hi:i<q.cs.length):PC Tryz.prog 13 [qV q,.i i] (.i (cenE q i)):=by
 refine ⟨ZF (fok13 true) (QC rfl) ?_,rfl⟩
 have hcs:=hq.cs
 simp only[ic13,XP hi,cen_ld hi,evA,simprocAttr]
 refine (c42 _ (hq.nm i hi)).call frz ?_
 cases h1:JH (q.cs[i]!).nm
 ·simp only[cenE_name h1,evA,simprocAttr]
  exact frz
 simp only[evA,simprocAttr]
 refine ZW i (fun k s=>(∀ j,j<k→(q.cs[j]!).nm≠(q.cs[i]!).nm)∧∃ v6 v7 v8 v9,s=⟨[qV q,.i i,.ptr 0 0,.i 0,.ptr 1 0,.i k,v6,v7,v8,v9],[.cells [cenL q.cs,leaL q.ls],.cells [.cv (.str (q.cs[i]!).nm),.i (q.cs[i]!).pl,ints (q.cs[i]!).ru]]⟩) ?_ 0 (QF _) ⟨by omega,_,_,_,_,rfl⟩
 rintro k s hk ⟨hall,v6,v7,v8,v9,rfl⟩
 by_cases hki:k<i
 ·have hkl:k<q.cs.length:=by omega
  simp only[ic13l0,QJ,hki,evA,simprocAttr]
  refine DW_s [] [] hmix (by kernel_rfl) rfl ?_
  simp only[XP hkl,cen_0 hkl,binS,str_eq,evA,simprocAttr]
  by_cases he:(q.cs[k]!).nm=(q.cs[i]!).nm
  ·simp only[he,cenE_twice h1 hki he,evA,simprocAttr]
   exact frz
  ·simp only[he,evA,simprocAttr]
   refine ZL (by first | trivial | omega) ⟨fun j hj=>?_,_,_,_,_,by rw[ZC (by omega)];rfl⟩
   rcases QQ.1 hj with hj | rfl
   ·exact hall j hj
   ·exact he
 ·have:k=i:=by omega
  subst this
  have hE:=cenE_rest h1 hall
  simp only[ic13l0,QJ,hki,evA,simprocAttr]
  refine (c12 _ _ _).call frz ?_
  cases h2:inB (q.cs[k]!).pl 0 6
  ·rw[if_pos h2] at hE
   simp only[hE,evA,simprocAttr]
   exact frz
  ·rw[if_neg (by rw[h2];decide)] at hE
   simp only[evA,simprocAttr]
   refine (c43 _ 3 (hq.ru k hi) (by omega)).call frz ?_
   simp only[hE,evA,simprocAttr]
   exact frz
end Go.Proofs.YtfnhbbohjnjfnaaGreat.AM
namespace Go.Proofs.YtfnhbbohjnjfnaaGreat.AM
variable [Dr]
open Go
variable {P:Program} {fx:Fx}
def YCp (P:Program) (l:Nat) (args:List AV) (σ:List AObj) (ch:List PanicEntry) (Q:List AObj→Prop):Prop :=
 ∀ m X w cargs b,m l=some b→QK m X w args cargs→HRel m X σ w→∃ L:Loop,w.heap[b]? = some (.loop L)∧cargs.length=L.params.size ∧
  RoundIn Fence.wide 0 P b L.fn ((L.params.zip cargs.toArray).foldl (fun tmps (t,a)=>tmps.setIfInBounds t a) L.tmps) L.assign L.body w (PPost m X w σ ch Q)
def CallVp (P:Program) (fv:AV) (args:List AV) (σ:List AObj) (ch:List PanicEntry) (Q:List AObj→Prop):Prop :=
 match fv with
 | .fn (.func f) cap=>ACp P f (args++cap) σ ch Q
 | .bm f first=>ACp P f (first++args) σ ch Q
 | .yld l=>YCp P l args σ ch Q
 | _=>False
def RGp (P:Program) (ch:List PanicEntry):List Ins→List AV→List AV→List AObj→(List AV→List AObj→Prop)→Prop
 | [],_,_,_,_=>False
 | i::is,vals,ρ,σ,K =>
  match gdOk ρ i.gd with
  | none=>False
  | some false=>RGp P ch is (setD i.dst vals (.tup [])) (ρ++[.tup []]) σ K
  | some true =>
   match i.op,i.args.map (WY vals ρ) with
   | .prim io,as_ =>
    match ZQ io as_ σ with
    | some (v,σ')=>RGp P ch is (setD i.dst vals v) (ρ++[v]) σ' K
    | none=>False
   | .call,fv::as_=>CallVp P fv as_ σ ch (fun σ'=>K vals σ')∨X0 P fv as_ σ fun v σ'=>RGp P ch is (setD i.dst vals v) (ρ++[v]) σ' K
   | .call,[]=>False
section
variable {X:Nat→Prop} {en:En}
theorem QaO {ro:Option Nat} {ops:Array Oper} (hok:GU fx.vars fx.N ops.toList=true) {ch:List PanicEntry} {Qc:Exit→Act→World→Prop} :
  ∀ (is:List Ins) (j:Nat) (m:LM) (w:World) (vals ρ:List AV) (σ:List AObj) (K:List AV→List AObj→Prop) (ac:Act),
  (ops.toList.drop j).mapM (JP P fx.vars (ops.toList.map (·.dst)))=some is→ρ.length=j →
  RGp P ch is vals ρ σ K→SRel fx m X en ⟨vals,σ⟩ ac w→TRel m X w fx.vars ops.toList ρ ac.tmps →
  (∀ m' ac' w' vals σ,K vals σ→SRel fx m' X en ⟨vals,σ⟩ ac' w'→Step fx.n0 m X w m' w'→Qc (.panic ch) ac' w') →
  wpOpsIn (wfen ro) 0 P ops Qc (List.range' j (ops.size-j)) ac w
 | [],j,m,w,vals,ρ,σ,K,ac,hc,hj,hrg,hs,ht,hk=>hrg.elim
 | i :: is,j,m,w,vals,ρ,σ,K,ac,hc,hj,hrg,hs,ht,hk=>by
  cases hd:ops.toList.drop j with
  | nil=>rw[hd] at hc;simp at hc
  | cons o os =>
   rw[hd] at hc
   simp only[WV,Option.bind_eq_bind,QB,Option.pure_def,Option.some.injEq,List.cons.injEq] at hc
   obtain ⟨i0,hi,is0,his,he1,he2⟩:=hc
   rw[he1] at hi;rw[he2] at his;clear he1 he2
   have hoj:ops.toList[j]? = some o:=by
    have:=congrArg List.head? hd;simpa using this
   have hlt:j<ops.size:=by
    have:=(QH.1 hoj).1;simpa using this
   have hoj':ops[j]? = some o:=by simpa using hoj
   have hos:ops.toList.drop (j+1)=os:=by rw[← List.tail_drop,hd];rfl
   rw[← hos] at his
   have hn:ops.size-j=(ops.size-(j+1))+1:=by omega
   rw[hn,List.range'_succ]
   simp only[wpOpsIn,hoj']
   obtain ⟨hdst,hgd⟩:=R1 hi
   have next:∀ (m':LM) (w':World) (σ':List AObj) (v:AV) (c:Value),HRel m' X σ' w'→Step σ.length m X w m' w'→σ.length≤σ'.length→VRel m' X w' v c →
     RGp P ch is (setD i.dst vals v) (ρ++[v]) σ' K→wpOpsIn (wfen ro) 0 P ops Qc (List.range' (j+1) (ops.size-(j+1))) (ac.put o.dst c) w':=by
    intro m' w' σ' v c hh hst hle hv hrg'
    have hs1:SRel fx m' X en ⟨vals,σ'⟩ ac w':=hs.of_heap hh hst hle
    have ht1:=ht.mono (hs.heap.mono_of_step hst (QG _))
    obtain ⟨hs2,ht2⟩:=Qd2 hok hoj hj hs1 ht1 hv
    rw[← hdst] at hs2
    refine QaO hok is (j+1) m' w' _ _ σ' K _ his (by simp[hj]) hrg' hs2 ht2 ?_
    intro m2 ac2 w2 vals2 σ2 hK hs3 hst2
    exact hk m2 ac2 w2 vals2 σ2 hK hs3 (Step.trans (hst.less hs.base) hst2)
   have fall:∀ (m':LM) (w':World) (σ':List AObj),HRel m' X σ' w'→Step σ.length m X w m' w'→σ.length≤σ'.length→K vals σ'→Qc (.panic ch) ac w':=by
    intro m' w' σ' hh hst hle hK
    exact hk m' ac w' vals σ' hK (hs.of_heap hh hst hle) (hst.less hs.base)
   simp only[RGp] at hrg
   split at hrg
   ·exact hrg.elim
   ·rename_i hg
    rw[hgd] at hg
    have:=Qav hok (QZ hoj) ht hs.size hg
    rw[this]
    simp only[QT,if_false]
    exact ⟨fun _ _=>trivial,next m w σ (.tup []) Go.undef hs.heap (Step.refl _ _ _ _) (QG _) (by simp[VRel,QK,Go.undef]) hrg⟩
   ·rename_i hg
    rw[hgd] at hg
    have:=Qav hok (QZ hoj) ht hs.size hg
    rw[this]
    simp only[if_true]
    refine ⟨fun _ _=>trivial,?_⟩
    generalize has:i.args.map (WY vals ρ)=as_ at hrg
    cases hop:i.op with
    | prim io =>
     rw[hop] at hrg
     dsimp only at hrg
     obtain ⟨os',hco,hargs,_,_⟩:=VC hi hop
     rw[hargs] at has
     have hrel:=UT hs.heap.gl hs.vars ht os'
     rw[has] at hrel
     split at hrg
     ·rename_i v σ' hsf
      obtain ⟨nx,w',m',hrun,hres,hh,hst⟩:=FV hco hs.heap hrel hsf
      rw[Oper.semAt_eq _ _ _ (YY hco),hrun]
      rcases hres with ⟨c,rfl,hv⟩ | ⟨rfl,rfl⟩
      ·exact next m' w' σ' v c hh hst (ED hsf) hv hrg
      ·exact next m' w' σ' .undef Go.undef hh hst (ED hsf) (by simp[VRel]) hrg
     ·exact hrg.elim
    | call =>
     rw[hop] at hrg
     cases as_ with
     | nil=>exact hrg.elim
     | cons fv as_ =>
     dsimp only at hrg
     obtain ⟨f,args,at_,hop',hargs,_,_⟩:=DR hi hop
     rw[hargs] at has
     have hrel:=UT hs.heap.gl hs.vars ht (f::args.toList)
     rw[has] at hrel
     obtain ⟨fc,us,he,hfv,hrest⟩:=hrel.cons
     simp only[Q0,List.cons.injEq] at he
     obtain ⟨rfl,rfl⟩:=he
     have hnd:∀ c,o.op≠.defer c:=by rw[hop'];simp
     rw[Oper.semAt_eq _ _ _ hnd]
     have hex:execOp ac.eval o=(do let d ← resolve ac.eval { callee:=.value f,args,argTypes:=at_ } o.type;invoke d.target d.args):=by
      simp only[execOp,hop']
     rw[hex]
     rcases hrg with hrg | hrg
     ·unfold CallVp at hrg
      split at hrg
      ·rename_i g cap
       simp only[VRel] at hfv
       obtain ⟨vs,hfe,hcap⟩:=hfv
       have hrun:(do let d ← resolve ac.eval { callee:=.value f,args,argTypes:=at_ } o.type;invoke d.target d.args:Sem Next).run P w=.ok (.enter g ((args.toList.map ac.eval)++vs).toArray) w:=by
        simp only[resolve,hfe,Deferred.ofValue,Sem.run_bind,Sem.run_pure,Result.andThen_ok,invoke]
        rw[hrg.1]
        congr 2
        apply Array.ext';simp
       rw[hrun]
       refine ⟨by simp[wfen,Fence.wide],?_⟩
       have hcall:=hrg.2 m X w _ (QK.append hrest hcap) hs.heap
       refine CallsIn.mono (F:=wfen ro) (n:=0) hcall ?_
       rintro e w' ⟨σ',m',rfl,hq,hh,hst,hle⟩
       exact fall m' w' σ' hh hst hle hq
      ·rename_i g first
       simp only[VRel] at hfv
       obtain ⟨vs,hfe,hcap⟩:=hfv
       have hrun:(do let d ← resolve ac.eval { callee:=.value f,args,argTypes:=at_ } o.type;invoke d.target d.args:Sem Next).run P w=.ok (.enter g (vs++(args.toList.map ac.eval)).toArray) w:=by
        simp only[resolve,hfe,Deferred.ofValue,Sem.run_bind,Sem.run_pure,Result.andThen_ok,invoke]
        rw[hrg.1]
        congr 2
        apply Array.ext';simp
       rw[hrun]
       refine ⟨by simp[wfen,Fence.wide],?_⟩
       have hcall:=hrg.2 m X w _ (QK.append hcap hrest) hs.heap
       refine CallsIn.mono (F:=wfen ro) (n:=0) hcall ?_
       rintro e w' ⟨σ',m',rfl,hq,hh,hst,hle⟩
       exact fall m' w' σ' hh hst hle hq
      ·rename_i l
       simp only[VRel] at hfv
       obtain ⟨b,hb,hfe⟩:=hfv
       obtain ⟨L,hL,hsz,hround⟩:=hrg m X w _ b hb hrest hs.heap
       have hrun:(do let d ← resolve ac.eval { callee:=.value f,args,argTypes:=at_ } o.type;invoke d.target d.args:Sem Next).run P w=.ok (.round b L.fn ((L.params.zip (args.toList.map ac.eval).toArray).foldl (fun tmps (t,a)=>tmps.setIfInBounds t a) L.tmps) L.assign L.body) w:=by
        simp only[resolve,hfe,Deferred.ofValue,Sem.run_bind,Sem.run_pure,Result.andThen_ok,invoke]
        have e:#[]++args.map ac.eval=(args.toList.map ac.eval).toArray:=by apply Array.ext';simp
        rw[e]
        exact run_yield hL (by simpa using hsz)
       rw[hrun]
       refine ⟨by simp[wfen,Fence.wide],?_⟩
       refine RoundIn.mono (F:=wfen ro) (n:=0) hround ?_
       rintro e w' ⟨σ',m',rfl,hq,hh,hst,hle⟩
       exact fall m' w' σ' hh hst hle hq
      ·exact hrg.elim
     ·unfold X0 at hrg
      split at hrg
      ·rename_i g cap
       simp only[VRel] at hfv
       obtain ⟨vs,hfe,hcap⟩:=hfv
       have hrun:(do let d ← resolve ac.eval { callee:=.value f,args,argTypes:=at_ } o.type;invoke d.target d.args:Sem Next).run P w=.ok (.enter g ((args.toList.map ac.eval)++vs).toArray) w:=by
        simp only[resolve,hfe,Deferred.ofValue,Sem.run_bind,Sem.run_pure,Result.andThen_ok,invoke]
        rw[hrg.1]
        congr 2
        apply Array.ext';simp
       rw[hrun]
       refine ⟨by simp[wfen,Fence.wide],?_⟩
       have hcall:=hrg.2 m X w _ (QK.append hrest hcap) hs.heap
       refine CallsIn.mono (F:=wfen ro) (n:=0) hcall ?_
       rintro e w' ⟨c,r,σ',m',rfl,hq,hv,hh,hst,hle⟩
       exact next m' w' σ' r c hh hst hle hv hq
      ·rename_i g first
       simp only[VRel] at hfv
       obtain ⟨vs,hfe,hcap⟩:=hfv
       have hrun:(do let d ← resolve ac.eval { callee:=.value f,args,argTypes:=at_ } o.type;invoke d.target d.args:Sem Next).run P w=.ok (.enter g (vs++(args.toList.map ac.eval)).toArray) w:=by
        simp only[resolve,hfe,Deferred.ofValue,Sem.run_bind,Sem.run_pure,Result.andThen_ok,invoke]
        rw[hrg.1]
        congr 2
        apply Array.ext';simp
       rw[hrun]
       refine ⟨by simp[wfen,Fence.wide],?_⟩
       have hcall:=hrg.2 m X w _ (QK.append hcap hrest) hs.heap
       refine CallsIn.mono (F:=wfen ro) (n:=0) hcall ?_
       rintro e w' ⟨c,r,σ',m',rfl,hq,hv,hh,hst,hle⟩
       exact next m' w' σ' r c hh hst hle hv hq
      ·rename_i l
       simp only[VRel] at hfv
       obtain ⟨b,hb,hfe⟩:=hfv
       obtain ⟨L,hL,hsz,hround⟩:=hrg m X w _ b hb hrest hs.heap
       have hrun:(do let d ← resolve ac.eval { callee:=.value f,args,argTypes:=at_ } o.type;invoke d.target d.args:Sem Next).run P w=.ok (.round b L.fn ((L.params.zip (args.toList.map ac.eval).toArray).foldl (fun tmps (t,a)=>tmps.setIfInBounds t a) L.tmps) L.assign L.body) w:=by
        simp only[resolve,hfe,Deferred.ofValue,Sem.run_bind,Sem.run_pure,Result.andThen_ok,invoke]
        have e:#[]++args.map ac.eval=(args.toList.map ac.eval).toArray:=by apply Array.ext';simp
        rw[e]
        exact run_yield hL (by simpa using hsz)
       rw[hrun]
       refine ⟨by simp[wfen,Fence.wide],?_⟩
       refine RoundIn.mono (F:=wfen ro) (n:=0) hround ?_
       rintro e w' ⟨c,r,σ',m',rfl,hq,hv,hh,hst,hle⟩
       exact next m' w' σ' r c hh hst hle hv hq
      ·exact hrg.elim
end
theorem QfF {id:Nat} {ops:Array Oper} {is:List Ins} {s:St} {Q:Exit→St→Prop} {ch:List PanicEntry} (hc:VY P fx.vars fx.N ops=some is) (h:RGp P ch is s.vals [] s.heap fun vals σ=>Q (.panic ch) ⟨vals,σ⟩):W P fx (.region id ops false) s Q:=by
 intro m X en ac w hs hr
 unfold VY at hc
 split at hc
 ·rename_i hok
  have:=QaO (ro:=fx.r.bind m) (Qc:=Lift fx m X en w Q) hok is 0 m w s.vals [] s.heap _ ac (by rw[← UV];simpa using hc) rfl h hs (fun j t _ _=>by simp[VRel]) ?_
  ·refine wpIn_region ?_
   rw[List.range_eq_range'];exact this
  ·intro m' ac' w' vals σ hK hs' hst
   exact ⟨_,m',hK,hs',hst⟩
 ·cases hc
theorem SW_regionP {is:List Ins} {s:St} {Q:Exit→St→Prop} {ch:List PanicEntry} (h:RGp P ch is s.vals [] s.heap fun vals σ=>Q (.panic ch) ⟨vals,σ⟩):SW P fx (.region is) s Q:=by
 intro c
 induction c with
 | region id ops dr =>
  intro hc
  cases dr with
  | true=>simp[QL] at hc
  | false =>
   simp only[QL,QA] at hc
   obtain ⟨is',his,he⟩:=hc
   cases he
   exact QfF his h
 | cond o x y ihx ihy =>
  intro hc
  cases o with
  | const v =>
   cases v <;> simp only[QL,reduceCtorEq] at hc
   rename_i t
   cases t with
   | true=>simp only[if_true] at hc;exact XD (ihx hc)
   | false=>simp only[QT,if_false] at hc;exact XD (ihy hc)
  | tmp t =>
   simp only[QL,QB,QA] at hc
   obtain ⟨_,_,_,_,_,_,he⟩:=hc
   cases he
  | global g=>simp[QL] at hc
  | func f=>simp[QL] at hc
 | seq x y _ _ =>
  intro hc
  simp only[QL,QB,QA] at hc
  obtain ⟨x',hx,y',hy,he⟩:=hc
  cases he
 | rangeFunc g ps assign body _ _ =>
  intro hc
  simp only[QL,QB,QA] at hc
  obtain ⟨_,_,_,_,he⟩:=hc
  cases he
 | skip=>intro hc;simp[QL] at hc
 | label l=>intro hc;simp[QL] at hc
 | exit i=>intro hc;simp[QL] at hc
 | ret=>intro hc;simp[QL] at hc
 | block i a _=>intro hc;simp[QL] at hc
 | loop a _=>intro hc;simp[QL] at hc
 | scope a _=>intro hc;simp[QL] at hc
 | goto l=>intro hc;simp[QL] at hc
 | refuse r=>intro hc;simp[QL] at hc
theorem EA {F:Fence} {n:Nat} {fn:Func} {tmps:Array Value} {R:Ending→World→Prop} {e:Nat} {w:World} {ch:List PanicEntry}:∀ (bs:List Nat) (w1:World),HA w w1 e→bs.Nodup→(∀ b∈bs,e≤b∧w1.heap[b]? = some (.deferred (some []))) →
  (∀ w2,HA w w2 e→R (.panicked ch) w2)→LeavesInM F n P fn tmps R (bs.map fun b=>{ target:=.collected b,args:=#[] }) (.panicking ch) w1
 | [],w1,ht,_,_,h=>by
  simp only[WS,LeavesInM,LeavesIn]
  exact h w1 ht
 | b::bs,w1,ht,hnd,hall,h=>by
  simp only[Q0,LeavesInM]
  obtain ⟨hb1,hb2⟩:=hall b (by simp)
  refine ⟨by simp,.inl ⟨b,w1.putObj b (.deferred none),rfl,run_takeDeferred hb2,?_⟩⟩
  refine EA bs _ (ht.put hb1 hb2 none) (WQ.1 hnd).2 ?_ h
  intro b' hb'
  have hne:b'≠b:=by rintro rfl;exact (WQ.1 hnd).1 hb'
  refine ⟨(hall b' (by simp[hb'])).1,?_⟩
  rw[World.putObj_heap_other hne];exact (hall b' (by simp[hb'])).2
theorem QcS {f:FuncId} {fn:Func} {c:Code} {args:List AV} {σ:List AObj} {vars:List Nat} {ch:List PanicEntry} {Q:List AObj→Prop} (hf:P.funcs[f]? = some fn) (hb:fn.body=some c) (hen:PI P f) (hargs:args.length≤fn.ntmps)
  (h:W P ⟨vars,fn.ntmps,none,σ.length⟩ c ⟨Y5 vars args,σ⟩ fun e s'=>match e with
   | .panic ch'=>ch'=ch∧Q s'.heap
   | _=>False):ACp P f args σ ch Q:=by
 refine ⟨hen,fun m X w cargs ha hh=>?_⟩
 refine callsIn_of_wp_marks hf hb trivial ?_
 have hlen:=ha.length
 have hs0:SRel ⟨vars,fn.ntmps,none,σ.length⟩ m X ⟨w.heap.size,[]⟩ ⟨Y5 vars args,σ⟩ { tmps:=cargs.toArray++Array.replicate (fn.ntmps-cargs.toArray.size) Go.undef,defers:=[] } w:=by
  refine ⟨by simp;omega,?_,⟨[],rfl,YU,by simp⟩,hh,QG _,QG _⟩
  intro i t hi
  have e1:(Y5 vars args).getD i .undef=args.getD t .undef:=by
   simp only[Y5,List.getD,ZR]
   rw[show vars[i]? = some t from hi];rfl
  rw[e1]
  rw[QV]
  by_cases ht:t<cargs.length
  ·have e2:(cargs.toArray++Array.replicate (fn.ntmps-cargs.toArray.size) Go.undef)[t]? = some cargs[t]:=by
    rw[JF (by simpa using ht)];simp[ht]
   rw[e2]
   have:=ha.getD t Go.undef
   simpa[List.getD,ht] using this
  ·have:args.getD t .undef=.undef:=by simp[List.getD,QN (show args.length≤t by omega)]
   rw[this];simp[VRel]
 have key:=h m X ⟨w.heap.size,[]⟩ _ w hs0 (by intro l hl;cases hl)
 refine wpIn_mono key ?_
 rintro e ac' w' ⟨s',m',hq,hs',hst⟩
 cases e with
 | panic ch' =>
  obtain ⟨rfl,hQ⟩:=hq
  obtain ⟨bs,hbs,hnd,hall⟩:=hs'.defs
  rw[ZU] at hbs
  show LeavesInM Fence.wide 0 P fn ac'.tmps _ ac'.defers (.panicking ch') w'
  rw[hbs]
  refine EA (e:=w.heap.size) (w:=w') bs w' (HA.refl _ _) hnd (fun b hb=>⟨(hall b hb).1,(hall b hb).2.2.1⟩) ?_
  intro w2 ht
  exact ⟨s'.heap,m',rfl,hQ,hs'.heap.taken ht,hst.taken ht (QG _),hs'.base⟩
 | normal=>exact hq.elim
 | ret=>exact hq.elim
 | exit i=>exact hq.elim
 | goto l=>exact hq.elim
 | outgrown=>exact hq.elim
def kEndP (ch:List PanicEntry) (Q:List AObj→Prop):Exit→St→Prop:=fun e s'=>match e with | .panic ch'=>ch'=ch∧Q s'.heap | _=>False
theorem ACp_SW {f:FuncId} {ic:IC} {vars:List Nat} {N:Nat} {res:List RC} {p:Bool} {args:List AV} {σ:List AObj} {ch:List PanicEntry} {Q:List AObj→Prop} (hf:FnOk P f ⟨ic,vars,N,res,p⟩) (hargs:args.length≤N)
  (h:SW P ⟨vars,N,none,σ.length⟩ ic ⟨Y5 vars args,σ⟩ (kEndP ch Q)):ACp P f args σ ch Q:=by
 obtain ⟨fn,c,h1,h2,h3,h4,h5,h6⟩:=hf.ok
 dsimp only at h4 h5 h6
 subst h4
 exact QcS h1 h2 (RE h1 h3 h2) hargs ((h c h5).mono fun e s' h'=>by cases e <;> exact h')
theorem SW_seqS {a b:IC} {s:St} {Q:Exit→St→Prop} (h:SW P fx a s (kSW P fx b Q)):SW P fx (.seq a b) s Q:=by
 intro c
 induction c with
 | seq x y _ _ =>
  intro hc
  simp only[QL,QB,QA] at hc
  obtain ⟨x',hx,y',hy,he⟩:=hc
  cases he
  refine QcO ((h x hx).mono ?_)
  intro e s' hq
  cases e with
  | normal=>exact hq y hy
  | _=>exact hq
 | cond o x y ihx ihy =>
  intro hc
  cases o with
  | const v =>
   cases v <;> simp only[QL,reduceCtorEq] at hc
   rename_i t
   cases t with
   | true=>simp only[if_true] at hc;exact XD (ihx hc)
   | false=>simp only[QT,if_false] at hc;exact XD (ihy hc)
  | tmp t =>
   simp only[QL,QB,QA] at hc
   obtain ⟨_,_,_,_,_,_,he⟩:=hc
   cases he
  | global g=>simp[QL] at hc
  | func f=>simp[QL] at hc
 | region id ops dr =>
  intro hc
  cases dr <;> simp[QL] at hc
 | rangeFunc g ps assign body _ _ =>
  intro hc
  simp only[QL,QB,QA] at hc
  obtain ⟨_,_,_,_,he⟩:=hc
  cases he
 | skip=>intro hc;simp[QL] at hc
 | label l=>intro hc;simp[QL] at hc
 | exit i=>intro hc;simp[QL] at hc
 | ret=>intro hc;simp[QL] at hc
 | block i a _=>intro hc;simp[QL] at hc
 | loop a _=>intro hc;simp[QL] at hc
 | scope a _=>intro hc;simp[QL] at hc
 | goto l=>intro hc;simp[QL] at hc
 | refuse r=>intro hc;simp[QL] at hc
end Go.Proofs.YtfnhbbohjnjfnaaGreat.AM
namespace Go.Proofs.YtfnhbbohjnjfnaaGreat.AM
variable [Dr]
open Go
variable {P:Program} {fx:Fx} {s:St} {Q:Exit→St→Prop} {f:FuncId}
theorem InF_seq {F:Fence} {n:Nat} {x y:Code} {Q:Exit→Act→World→Prop} {a:Act} {w:World} (h:InF f F n P x (Exit.then (InF f F n P y Q) Q) a w):InF f F n P (.seq x y) Q a w:=by
 intro b k cs hbf hro hb hr
 have h0:(lone (b.atR a (.code (.seq x y)::k)) cs w).fenced P F:=fenced_calm hb hr rfl
 obtain ⟨e,a₁,w₁,hq,harr⟩:=h b (.code y::k) cs hbf hro hb hr
 cases e with
 | normal =>
  obtain ⟨e₂,a₂,w₂,hq₂,harr₂⟩:=hq b k cs hbf hro hb hr
  exact ⟨e₂,a₂,w₂,hq₂,.of_steps (.head h0 stepR_seq harr) harr₂⟩
 | exit id=>exact ⟨_,a₁,w₁,hq,.of_steps (.one h0 stepR_seq) (.pass (x:=.code y) rfl (fun _ _=>.inl (by simp)) harr)⟩
 | goto l=>exact ⟨_,a₁,w₁,hq,.of_steps (.one h0 stepR_seq) (.pass (x:=.code y) rfl (fun _ _=>.inl (by simp)) harr)⟩
 | ret=>exact ⟨_,a₁,w₁,hq,.of_steps (.one h0 stepR_seq) (.pass (x:=.code y) rfl (fun _ _=>.inl (by simp)) harr)⟩
 | panic ch=>exact ⟨_,a₁,w₁,hq,.of_steps (.one h0 stepR_seq) (.pass (x:=.code y) rfl (fun _ _=>.inl (by simp)) harr)⟩
 | outgrown=>exact ⟨_,a₁,w₁,hq,.of_steps (.one h0 stepR_seq) (.pass (x:=.code y) rfl (fun _ _=>.inl (by simp)) harr)⟩
theorem WB.later {m:LM} {X:Nat→Prop} {en:En} {w:World} {c:Code} {s':St} {m':LM} {w':World} {ac':Act} (h:WB f P fx c s' Q) (hr:rok fx m) (hs':SRel fx m' X en s' ac' w') (hst:Step fx.n0 m X w m' w') :
  InF f (fen m fx.r) 0 P c (Lift fx m X en w Q) ac' w':=by
 rw[← EQ hr hst]
 exact InF.mono (h m' X en ac' w' hs' (EH hr hst)) fun e ac2 w2 ⟨s2,m2,h1,h2,h3⟩=>⟨s2,m2,h1,h2,hst.trans h3⟩
theorem WB_seq {x y:Code} (h:WB f P fx x s fun e s'=>match e with | .normal=>WB f P fx y s' Q | e=>Q e s'):WB f P fx (.seq x y) s Q:=by
 intro m X en ac w hs hr
 refine InF_seq (InF.mono (h m X en ac w hs hr) ?_)
 rintro e ac' w' ⟨s',m',hq,hs',hst⟩
 cases e with
 | normal=>exact WB.later hq hr hs' hst
 | _=>exact ⟨s',m',hq,hs',hst⟩
end Go.Proofs.YtfnhbbohjnjfnaaGreat.AM
namespace Go.Proofs.YtfnhbbohjnjfnaaGreat.AM
variable [Dr]
open Go
variable {P:Program} {fx:Fx}
theorem CY {F:Fence} {n:Nat} {f:FuncId} {fn:Func} {c:Code} {args:Array Value} {w:World} {R:Ending→World→Prop}
  (hf:P.funcs[f]? = some fn) (hb:fn.body=some c) (hF:F.fn f)
  (h:InF f F n P c (bodyPostM F n P fn R) { tmps:=args++Array.replicate (fn.ntmps-args.size) undef,defers:=[] } w) (hro:F.round=none:=by rfl):CallsIn F n P f args w R:=by
 refine ⟨hF,fun cs hr=>?_⟩
 let b:Frame:={ (default:Frame) with fn:=f,kind:=.normal,roundOf:=none }
 have henter:Frame.enter P f args .normal =
   b.atR { tmps:=args++Array.replicate (fn.ntmps-args.size) undef,defers:=[] } [.code c]:=by
  simp[Frame.enter,Frame.atR,hf,hb,b]
 obtain ⟨e,a',w',hq,harr⟩:=h b [] cs rfl hro.symm hF hr
 rw[← henter] at harr
 cases e with
 | normal =>
  obtain ⟨e',w'',fr',hR,hs,hfn,hl⟩:=leaves_stepsInM a'.defers .returning w' { b.atR a' [] with mode:=.returning } cs rfl rfl rfl hf rfl hF hr hq
  exact ⟨e',w'',fr',hR,ComesIn.of_steps (StepsIn.trans harr (.one (fenced_calm (fr:=b.atR a' []) hF hr rfl) (stepR_end rfl))) hs,hfn,hl⟩
 | ret =>
  obtain ⟨todo,hs₀⟩:=harr.1 rfl
  obtain ⟨e',w'',fr',hR,hs,hfn,hl⟩:=leaves_stepsInM a'.defers .returning w' { b.atR a' todo with mode:=.returning } cs rfl rfl rfl hf rfl hF hr hq
  exact ⟨e',w'',fr',hR,ComesIn.of_steps hs₀ hs,hfn,hl⟩
 | panic chain =>
  obtain ⟨todo,hs₀⟩:=harr
  obtain ⟨e',w'',fr',hR,hs,hfn,hl⟩:=leaves_stepsInM a'.defers (.panicking chain) w' { b.atR a' todo with mode:=.panicking chain } cs rfl rfl rfl hf rfl hF hr hq
  exact ⟨e',w'',fr',hR,ComesIn.of_steps hs₀ hs,hfn,hl⟩
 | exit id=>exact hq.elim
 | goto l=>exact hq.elim
 | outgrown=>exact ⟨.outgrown,w',b,hq,harr.resolve_left (by simp[b]),rfl,trivial⟩
theorem SL {F:Fence} {n:Nat} {fn:Func} {tmps:Array Value} {R:Ending→World→Prop} {e:Nat} {w:World} {u:FrameMode} {ds:List Deferred} (hu:u≠.run):∀ (bs:List Nat) (w1:World),HA w w1 e→bs.Nodup→(∀ b∈bs,e≤b∧w1.heap[b]? = some (.deferred (some []))) →
  (∀ w2,HA w w2 e→LeavesInM F n P fn tmps R ds u w2)→LeavesInM F n P fn tmps R ((bs.map fun b=>{ target:=.collected b,args:=#[] })++ds) u w1
 | [],w1,ht,_,_,h=>by
  simp only[WS,List.nil_append]
  exact h w1 ht
 | b::bs,w1,ht,hnd,hall,h=>by
  simp only[Q0,List.cons_append,LeavesInM]
  obtain ⟨hb1,hb2⟩:=hall b (by simp)
  refine ⟨hu,.inl ⟨b,w1.putObj b (.deferred none),rfl,run_takeDeferred hb2,?_⟩⟩
  refine SL hu bs _ (ht.put hb1 hb2 none) (WQ.1 hnd).2 ?_ h
  intro b' hb'
  have hne:b'≠b:=by rintro rfl;exact (WQ.1 hnd).1 hb'
  refine ⟨(hall b' (by simp[hb'])).1,?_⟩
  rw[World.putObj_heap_other hne];exact (hall b' (by simp[hb'])).2
theorem SZ {f:FuncId} {fn:Func} {args:List AV} {cargs:List Value} {σ:List AObj} {vars:List Nat} {m:LM} {X:Nat→Prop} {w:World} (ha:QK m X w args cargs) (hh:HRel m X σ w) (hargs:args.length≤fn.ntmps) :
  SRel ⟨vars,fn.ntmps,none,σ.length⟩ m X ⟨w.heap.size,[]⟩ ⟨Y5 vars args,σ⟩ { tmps:=cargs.toArray++Array.replicate (fn.ntmps-cargs.toArray.size) Go.undef,defers:=[] } w:=by
 have hlen:=ha.length
 refine ⟨by simp;omega,?_,⟨[],rfl,YU,by simp⟩,hh,QG _,QG _⟩
 intro i t hi
 have e1:(Y5 vars args).getD i .undef=args.getD t .undef:=by
  simp only[Y5,List.getD,ZR]
  rw[show vars[i]? = some t from hi];rfl
 rw[e1]
 rw[QV]
 by_cases ht:t<cargs.length
 ·have e2:(cargs.toArray++Array.replicate (fn.ntmps-cargs.toArray.size) Go.undef)[t]? = some cargs[t]:=by
   rw[JF (by simpa using ht)];simp[ht]
  rw[e2]
  have:=ha.getD t Go.undef
  simpa[List.getD,ht] using this
 ·have:args.getD t .undef=.undef:=by simp[List.getD,QN (show args.length≤t by omega)]
  rw[this];simp[VRel]
end Go.Proofs.YtfnhbbohjnjfnaaGreat.AM
namespace Go.Proofs.YtfnhbbohjnjfnaaGreat.AM
variable [Dr]
open Go
variable {P:Program} {fx:Fx} {m m':LM} {X X':Nat→Prop} {en:En} {w w':World} {s:St} {ac:Act}
theorem Mono.lessX (h:∀ b,X b→X' b):Mono m X' w m X w :=
 ⟨fun _ _ h=>h,fun b hb _=>⟨rfl,fun ho=>hb (ho.imp (h b) id)⟩,fun b c e h=>⟨c,h,rfl⟩⟩
theorem SRel.lessX (h:∀ b,X b→X' b) (hs:SRel fx m X' en s ac w):SRel fx m X en s ac w:=by
 refine ⟨hs.size,hs.vars.mono (Mono.lessX h),?_,?_,hs.base,hs.entry⟩
 ·obtain ⟨bs,h1,h2,h3⟩:=hs.defs
  exact ⟨bs,h1,h2,fun b hb=>let ⟨g1,g2,g3,g4⟩:=h3 b hb;⟨g1,g2,g3,fun ho=>g4 (ho.imp (h b) id)⟩⟩
 ·refine ⟨fun b hb=>hs.heap.xb b (h b hb),hs.heap.dom,fun l b o hl ho hv hx=>hs.heap.own l b o hl ho hv (h b hx),hs.heap.inj,fun l o ho=>?_,hs.heap.gl.mono (Mono.lessX h)⟩
  have:=hs.heap.obj l o ho
  cases hml:m l with
  | none=>rw[hml] at this;cases o <;> simp[ORel] at this ⊢
  | some b=>rw[hml] at this;exact ORel.mono (Mono.lessX h) rfl this
theorem Step.lessX {n0:Nat} (h:∀ b,X b→X' b) (hs:Step n0 m X' w m' w'):Step n0 m X w m' w':={ hs with fr:=fun b hb hno=>hs.fr b hb (hno.imp (h b) id) }
theorem SRel.put_other {t:Nat} {v:Value} (ht:t∉fx.vars) (hs:SRel fx m X en s ac w):SRel fx m X en s (ac.put (some t) v) w:=by
 refine ⟨by simpa[Act.put] using hs.size,fun i u hi=>?_,hs.defs,hs.heap,hs.base,hs.entry⟩
 have hne:u≠t:=by rintro rfl;exact ht (QZ hi)
 have:=hs.vars i u hi
 simp only[Act.put,QV] at this ⊢
 rw[W2 (fun h=>hne h.symm)];exact this
theorem PQ {ro:Option Nat} {ops:Array Oper} {Q:Exit→Act→World→Prop} {l:List Nat} {i:Nat} {o:Oper} {v:Value} (ho:ops[i]? = some o) (hg:o.guard=none) (hnd:∀ c,o.op≠.defer c)
  (hrun:(execOp ac.eval o).run P w=.ok (.value v) w') (h:wpOpsIn (wfen ro) 0 P ops Q l (ac.put o.dst v) w'):wpOpsIn (wfen ro) 0 P ops Q (i::l) ac w:=by
 have hw:Region.wanted o (yielded ops ac.tmps)=true:=by simp[Region.wanted,hg]
 simp only[wpOpsIn,ho,hw,if_true]
 refine ⟨fun _ _=>trivial,?_⟩
 rw[Oper.semAt_eq _ _ _ hnd,hrun]
 exact h
end Go.Proofs.YtfnhbbohjnjfnaaGreat.AM
namespace Go.Proofs.YtfnhbbohjnjfnaaGreat.AM
set_option linter.unusedSectionVars false
variable [Dr]
open Go
set_option linter.unusedVariables false
set_option linter.unusedSimpArgs false
variable {P:Program} {m m':LM} {X X':Nat→Prop} {w w':World}
def FW₀ (f:FuncId) (fn:Func) (P:Program) (vars:List Nat) (n0:Nat) (Q:AV→List AObj→Prop) (c:Code) (s:St):Prop :=
 ∀ (m0:LM) (X:Nat→Prop) (w0:World) (m:LM) (en:En) (ac:Act) (w:World) (σ0:List AObj),σ0.length=n0→en.ds=[]→en.n=w0.heap.size→SRel ⟨vars,fn.ntmps,none,n0⟩ m X en s ac w→Step n0 m0 X w0 m w →
  InF f Fence.wide 0 P c (bodyPostM Fence.wide 0 P fn (OT m0 X w0 σ0 Q)) ac w
variable {f:FuncId} {fn:Func} {vars:List Nat} {n0:Nat} {Q:AV→List AObj→Prop} {s:St}
theorem FW_fin {m0:LM} {w0:World} {en:En} {ac:Act} {σ0:List AObj} (hσ:σ0.length=n0) (hds:en.ds=[]) (hen:en.n=w0.heap.size) (hs:SRel ⟨vars,fn.ntmps,none,n0⟩ m X en s ac w) (hst:Step n0 m0 X w0 m w)
  (h:∃ r,UB P vars s.vals s.heap fn.results.toList=some r∧Q r s.heap):LeavesInM Fence.wide 0 P fn ac.tmps (OT m0 X w0 σ0 Q) ac.defers .returning w:=by
 obtain ⟨r,hr,hQ⟩:=h
 obtain ⟨bs,hbs,hnd,hall⟩:=hs.defs
 rw[hbs,hds,ZU]
 refine G1 (e:=w0.heap.size) (w:=w) bs w (HA.refl _ _) hnd (fun b hb=>⟨by rw[← hen];exact (hall b hb).1,(hall b hb).2.2.1⟩) ?_
 intro w2 ht
 have hh2:=hs.heap.taken ht
 have hs2:SRel ⟨vars,fn.ntmps,none,n0⟩ m X ⟨0,[]⟩ s { ac with defers:=[] } w2 :=
  ⟨hs.size,hs.vars.mono ht.mono,⟨[],rfl,YU,by simp⟩,hh2,hs.base,QF _⟩
 obtain ⟨v,h1,h2⟩:=O1 (fx:=⟨vars,fn.ntmps,none,n0⟩) (fn:=fn) hs2 hr
 exact ⟨v,h1,v,r,s.heap,m,rfl,hQ,h2,hh2,hσ ▸ hst.taken ht (QG _),by rw[hσ];exact hs.base⟩
theorem FW_of_WB {c:Code} (h:WB f P ⟨vars,fn.ntmps,none,n0⟩ c s fun e s'=>match e with
   | .normal | .ret=>∃ r,UB P vars s'.vals s'.heap fn.results.toList=some r∧Q r s'.heap
   | _=>False):FW₀ f fn P vars n0 Q c s:=by
 intro m0 X w0 m en ac w σ0 hσ hds hen hs hst
 have key:=h m X en ac w hs (by intro l hl;cases hl)
 refine InF.mono key ?_
 rintro e ac' w' ⟨s',m',hq,hs',hst'⟩
 cases e with
 | normal=>exact FW_fin hσ hds hen hs' (hst.trans hst') hq
 | ret=>exact FW_fin hσ hds hen hs' (hst.trans hst') hq
 | exit i=>exact hq.elim
 | goto l=>exact hq.elim
 | panic ch=>exact hq.elim
 | outgrown=>exact hq.elim
theorem FW_seq {a b:Code} (h:WB f P ⟨vars,fn.ntmps,none,n0⟩ a s fun e s'=>match e with
   | .normal=>FW₀ f fn P vars n0 Q b s'
   | .ret=>∃ r,UB P vars s'.vals s'.heap fn.results.toList=some r∧Q r s'.heap
   | _=>False):FW₀ f fn P vars n0 Q (.seq a b) s:=by
 intro m0 X w0 m en ac w σ0 hσ hds hen hs hst
 have key:=h m X en ac w hs (by intro l hl;cases hl)
 refine InF_seq (InF.mono key ?_)
 rintro e ac' w' ⟨s',m',hq,hs',hst'⟩
 cases e with
 | normal=>exact hq m0 X w0 m' en ac' w' σ0 hσ hds hen hs' (hst.trans hst')
 | ret=>exact FW_fin hσ hds hen hs' (hst.trans hst') hq
 | exit i=>exact hq.elim
 | goto l=>exact hq.elim
 | panic ch=>exact hq.elim
 | outgrown=>exact hq.elim
theorem AC_FW {c:Code} {args:List AV} {σ:List AObj} (hf:P.funcs[f]? = some fn) (hb:fn.body=some c) (hen:PI P f) (hargs:args.length≤fn.ntmps)
  (h:FW₀ f fn P vars σ.length Q c ⟨Y5 vars args,σ⟩):AC P f args σ Q:=by
 refine ⟨hen,fun m X w cargs ha hh=>?_⟩
 refine CY hf hb trivial ?_
 have hs0:=SZ (f:=f) (fn:=fn) (vars:=vars) ha hh hargs
 exact h m X w m ⟨w.heap.size,[]⟩ _ w σ rfl rfl rfl hs0 (Step.refl _ _ _ _)
theorem SRel.growX {fx:Fx} {en:En} {ac:Act} (B:Nat→Prop) (hB:∀ b,B b→b<w.heap.size∧¬ isC w b∧¬ Own m X b) (hs:SRel fx m X en s ac w) (en':En) {ac':Act} (htm:ac'.tmps=ac.tmps) (hd:ac'.defers=en'.ds) (he:en'.n≤w.heap.size) (n1:Nat) (hn:n1≤s.heap.length) :
  SRel { fx with n0:=n1 } m (fun b=>X b∨B b) en' s ac' w:=by
 have hm:Mono m X w m (fun b=>X b∨B b) w:=⟨fun _ _ h=>h,fun b hb hc=>⟨rfl,by
  rintro ((hx | hx) | h)
  ·exact hb (.inl hx)
  ·exact (hB b hx).2.1 hc
  ·exact hb (.inr h)⟩,fun b c e h=>⟨c,h,rfl⟩⟩
 refine ⟨by rw[htm];exact hs.size,by rw[htm];exact hs.vars.mono hm,⟨[],by simpa using hd,YU,by simp⟩,⟨?_,hs.heap.dom,?_,hs.heap.inj,?_,hs.heap.gl.mono hm⟩,hn,he⟩
 ·rintro b (hb | hb)
  ·exact hs.heap.xb b hb
  ·exact (hB b hb).1
 ·intro l b o hl ho hv
  rintro (hb | hb)
  ·exact hs.heap.own l b o hl ho hv hb
  ·exact (hB b hb).2.2 (.inr ⟨l,hl⟩)
 ·intro l o ho
  have:=hs.heap.obj l o ho
  cases hml:m l with
  | none=>rw[hml] at this;cases o <;> simp[ORel] at this ⊢
  | some b=>rw[hml] at this;exact ORel.mono hm rfl this
theorem FW_defer {id t:Nat} {o0 o1:Oper} {g:FuncId} {capt:Array Operand} {at_:Array TypeId} {B:Code}
  (h0:o0.op=.makeFunc (.func g) #[] capt∧o0.dst=some t∧o0.guard=none) (h1:o1.op=.defer { callee:=.value (.tmp t),args:=#[],argTypes:=at_ }∧o1.dst=none∧o1.guard=none) (ht:t∉vars) (htN:t<fn.ntmps)
  (hB:WB f P ⟨vars,fn.ntmps,none,s.heap.length⟩ B s fun e s'=>match e with
   | .normal | .ret=>ACd P g (capt.toList.map fun x=>WY s.vals [] (XA vars [] x)) .returning s'.heap fun σ'=>∃ r,UB P vars s'.vals σ' fn.results.toList=some r∧Q r σ'
   | .panic ch=>ACd P g (capt.toList.map fun x=>WY s.vals [] (XA vars [] x)) (.panicking ch) s'.heap fun σ'=>∃ r,UB P vars s'.vals σ' fn.results.toList=some r∧Q r σ'
   | _=>False):FW₀ f fn P vars n0 Q (.seq (.region id #[o0,o1] false) B) s:=by
 intro m0 X w0 m en ac w σ0 hσ hds hen hs hst
 have hsz:=hs.size
 have hcap:QK m X w (capt.toList.map fun x=>WY s.vals [] (XA vars [] x)) (capt.toList.map ac.eval):=by
  have:=UT (fx:=⟨vars,fn.ntmps,none,n0⟩) (ρ:=[]) (ops:=[]) (a:=ac) hs.heap.gl hs.vars (fun j t hj _=>by simp at hj) capt.toList
  simpa[XW,Function.comp_def] using this
 obtain ⟨bs,hbs,hnd,hall⟩:=hs.defs
 rw[hds,ZU] at hbs
 let X1:Nat→Prop:=fun b=>X b∨b∈bs
 let d:Deferred:={ target:=.fn (.func g) (capt.map ac.eval),args:=#[] }
 let ac1:Act:={ (ac.put (some t) (.func (.func g) #[] (capt.map ac.eval))) with defers:=d::(ac.put (some t) (.func (.func g) #[] (capt.map ac.eval))).defers }
 have hd1:ac1.defers=d::bs.map fun b=>{ target:=.collected b,args:=#[] }:=by show d::ac.defers=_;rw[hbs]
 have hs1:SRel ⟨vars,fn.ntmps,none,s.heap.length⟩ m X1 ⟨w.heap.size,d::bs.map fun b=>{ target:=.collected b,args:=#[] }⟩ s ac1 w:=by
  have a1:=SRel.put_other (t:=t) (v:=.func (.func g) #[] (capt.map ac.eval)) ht hs
  exact SRel.growX (fx:=⟨vars,fn.ntmps,none,n0⟩) (ac':=ac1) (fun b=>b∈bs) (fun b hb=>by
   obtain ⟨_,g2,g3,g4⟩:=hall b hb
   refine ⟨g2,?_,g4⟩
   rintro ⟨c,e,fr,hc⟩
   rw[g3] at hc;cases hc) a1 ⟨w.heap.size,d::bs.map fun b=>{ target:=.collected b,args:=#[] }⟩ rfl hd1 (QG _) s.heap.length (QG _)
 have hn0:n0≤s.heap.length:=hs.base
 have hcapX:QK m X1 w (capt.toList.map fun x=>WY s.vals [] (XA vars [] x)) (capt.toList.map ac.eval):=by
  have hm:Mono m X w m X1 w:=⟨fun _ _ h=>h,fun b hb hc=>⟨rfl,by
   rintro ((hx | hx) | h)
   ·exact hb (.inl hx)
   ·obtain ⟨_,g2,g3,g4⟩:=hall b hx
    obtain ⟨c,e,fr,hc⟩:=hc
    rw[g3] at hc;cases hc
   ·exact hb (.inr h)⟩,fun b c e h=>⟨c,h,rfl⟩⟩
  exact hcap.mono hm
 refine InF_seq ?_
 have hInD:InF f Fence.wide 0 P (.region id #[o0,o1] false) (fun e a w1=>e=.normal∧a=ac1∧w1=w) ac w:=by
  refine InF.of (wpIn_region ?_)
  show wpOpsIn (wfen none) 0 P #[o0,o1] _ [0,1] ac w
  refine PQ (o:=o0) (v:=.func (.func g) #[] (capt.map ac.eval)) (w':=w) rfl h0.2.2 (by rw[h0.1];simp) (by simp[execOp,h0.1,Instr.makeFunc]) ?_
  rw[h0.2.1]
  have hw:Region.wanted o1 (yielded #[o0,o1] (ac.put (some t) (.func (.func g) #[] (capt.map ac.eval))).tmps)=true:=by simp[Region.wanted,h1.2.2]
  have hev:(ac.put (some t) (.func (.func g) #[] (capt.map ac.eval))).eval (.tmp t)=.func (.func g) #[] (capt.map ac.eval):=by
   have hsz':ac.tmps.size=fn.ntmps:=hsz
   simp[Act.eval,Act.put,QV,hsz',htN]
  have ho1:(#[o0,o1]:Array Oper)[1]? = some o1:=rfl
  simp only[wpOpsIn,ho1,hw,if_true]
  refine ⟨fun _ _=>trivial,?_⟩
  have hrun:(o1.semAt (wfen none).round (ac.put (some t) (.func (.func g) #[] (capt.map ac.eval))).eval).run P w=.ok (.defer d) w:=by
   show (o1.semAt none _).run P w=_
   rw[Oper.semAt_none]
   simp only[execOp,h1.1,resolve,hev,Deferred.ofValue]
   simp[d]
  rw[hrun]
  have:({ (ac.put (some t) (.func (.func g) #[] (capt.map ac.eval))) with defers:=d::(ac.put (some t) (.func (.func g) #[] (capt.map ac.eval))).defers }:Act).put o1.dst Go.undef=ac1:=by rw[h1.2.1];rfl
  rw[Oper.uponIn_defer]
  exact ⟨trivial,this,rfl⟩
 refine InF.mono hInD ?_
 rintro e a w1 ⟨rfl,rfl,rfl⟩
 have key:=hB m X1 ⟨w1.heap.size,d::bs.map fun b=>{ target:=.collected b,args:=#[] }⟩ ac1 w1 hs1 (by intro l hl;cases hl)
 simp only[Exit.then]
 refine InF.mono key ?_
 rintro e ac2 w2 ⟨s2,m2,hq,hs2,hst2⟩
 have hst2:Step s.heap.length m X1 w1 m2 w2:=hst2
 have hbase2:s.heap.length≤s2.heap.length:=hs2.base
 obtain ⟨bs2,hbs2,hnd2,hall2⟩:=hs2.defs
 have hmono12:Mono m X1 w1 m2 X1 w2:=hs1.heap.mono_of_step hst2 (QG _)
 have hbsw:∀ b∈bs,b<w1.heap.size∧w2.heap[b]? = some (.deferred (some [])):=fun b hb=>by
  obtain ⟨g1,g2,g3,g4⟩:=hall b hb
  exact ⟨g2,by rw[hst2.fr b g2 (.inl (.inr hb))];exact g3⟩
 have fin:∀ u:FrameMode,u≠.run→ACd P g (capt.toList.map fun x=>WY s.vals [] (XA vars [] x)) u s2.heap (fun σ'=>∃ r,UB P vars s2.vals σ' fn.results.toList=some r∧Q r σ') →
   LeavesInM Fence.wide 0 P fn ac2.tmps (OT m0 X w0 σ0 Q) ac2.defers u w2:=by
  intro u hu hd
  rw[hbs2]
  refine SL (e:=w1.heap.size) (w:=w2) hu bs2 w2 (HA.refl _ _) hnd2 (fun b hb=>⟨(hall2 b hb).1,(hall2 b hb).2.2.1⟩) ?_
  intro w3 ht3
  have hh3:=hs2.heap.taken ht3
  have hcap3:QK m2 X1 w3 (capt.toList.map fun x=>WY s.vals [] (XA vars [] x)) (capt.toList.map ac.eval):=(hcapX.mono hmono12).mono ht3.mono
  simp only[LeavesInM]
  refine ⟨hu,.inr ⟨by simp[Fence.wide],.func g,capt.map ac.eval,g,(capt.toList.map ac.eval).toArray,rfl,?_,fun _ _=>trivial,?_⟩⟩
  ·show (invoke (.fn (.func g) (capt.map ac.eval)) #[]).run P w3=_
   simp only[invoke]
   rw[hd.1]
   congr 2
   apply Array.ext';simp
  ·have hcall:=hd.2 m2 X1 w3 _ hcap3 hh3
   refine CallsDIn.mono hcall ?_
   rintro e u' w4 ⟨⟨c,rfl⟩,hset,σ',m4,⟨r,hr,hQ⟩,hh4,hst4,hle4⟩
   dsimp only
   rw[hset]
   have hbs4:∀ b∈bs,w4.heap[b]? = some (.deferred (some [])):=fun b hb=>by
    obtain ⟨g1,g2⟩:=hbsw b hb
    have h3:w3.heap[b]? = some (.deferred (some [])):=by rw[ht3.old b g1];exact g2
    rw[hst4.fr b (Q3.1 h3).1 (.inl (.inr hb))];exact h3
   refine G1 (e:=w0.heap.size) (w:=w4) bs w4 (HA.refl _ _) hnd (fun b hb=>⟨by rw[← hen];exact (hall b hb).1,hbs4 b hb⟩) ?_
   intro w5 ht5
   have hstA:Step n0 m0 X w0 m2 w2:=hst.trans ((hst2.less hn0).lessX fun b h=>Or.inl h)
   have hstB:Step n0 m0 X w0 m2 w3:=hstA.taken ht3 hst.size
   have hstC:Step n0 m0 X w0 m4 w4:=hstB.trans ((hst4.less (YR hn0 hbase2)).lessX fun b h=>Or.inl h)
   have hmono34:Mono m2 X1 w3 m4 X1 w4:=hh3.mono_of_step hst4 (QG _)
   have hs5:SRel ⟨vars,fn.ntmps,none,n0⟩ m4 X1 ⟨0,[]⟩ ⟨s2.vals,σ'⟩ { ac2 with defers:=[] } w5 :=
    ⟨hs2.size,((hs2.vars.mono ht3.mono).mono hmono34).mono ht5.mono,⟨[],rfl,YU,by simp⟩,hh4.taken ht5,YR hn0 (YR hbase2 hle4),QF _⟩
   have hs6:=SRel.lessX (X:=X) (fun b h=>Or.inl h) hs5
   obtain ⟨v,k1,k2⟩:=O1 (fx:=⟨vars,fn.ntmps,none,n0⟩) (fn:=fn) hs6 hr
   exact ⟨v,k1,v,r,σ',m4,rfl,hQ,k2,hs6.heap,hσ ▸ hstC.taken ht5 (QG _),by rw[hσ];exact YR hn0 (YR hbase2 hle4)⟩
 cases e with
 | normal=>exact fin .returning (by simp) hq
 | ret=>exact fin .returning (by simp) hq
 | panic ch=>exact fin (.panicking ch) (by simp) hq
 | exit i=>exact hq.elim
 | goto l=>exact hq.elim
 | outgrown=>exact hq.elim
end Go.Proofs.YtfnhbbohjnjfnaaGreat.AM
namespace Go.Proofs.YtfnhbbohjnjfnaaGreat.AM
variable [Dr]
open Go
variable {P:Program} {fx:Fx} {m m':LM} {X X':Nat→Prop} {en:En} {w w':World} {s:St} {ac:Act}
theorem wp_op1 {ro:Option Nat} {ops:Array Oper} {Q:Exit→Act→World→Prop} {l:List Nat} {i:Nat} {o:Oper} {v:Value} (ho:ops[i]? = some o) (hg:o.guard=none) (hnd:∀ c,o.op≠.defer c)
  (hrun:(execOp ac.eval o).run P w=.ok (.value v) w'∨((execOp ac.eval o).run P w=.ok .skip w'∧v=Go.undef)) (h:wpOpsIn (wfen ro) 0 P ops Q l (ac.put o.dst v) w'):wpOpsIn (wfen ro) 0 P ops Q (i::l) ac w:=by
 have hw:Region.wanted o (yielded ops ac.tmps)=true:=by simp[Region.wanted,hg]
 simp only[wpOpsIn,ho,hw,if_true]
 refine ⟨fun _ _=>trivial,?_⟩
 rcases hrun with hrun | ⟨hrun,rfl⟩
 ·rw[Oper.semAt_eq _ _ _ hnd,hrun]
  exact h
 ·rw[Oper.semAt_eq _ _ _ hnd,hrun]
  exact h
theorem SRel.put_dst {dst:Option Nat} {v:Value} (hd:KA fx.vars dst=none) (hs:SRel fx m X en s ac w):SRel fx m X en s (ac.put dst v) w:=by
 cases dst with
 | none=>exact hs
 | some t=>exact hs.put_other (U3 hd)
end Go.Proofs.YtfnhbbohjnjfnaaGreat.AM
namespace Go.Proofs.YtfnhbbohjnjfnaaGreat.AM
variable [Dr]
open Go
section
variable {P:Program} {fx:Fx} {ops:Array Oper} {is:List Ins} {V:Nat→List AV} {r:Nat→AV} {S:Nat→List AObj} {pd:Nat→List Nat} {ch hd:Nat→Nat→Bool}
variable {m:LM} {X:Nat→Prop} {en:En} {w:World} {D:List Nat} {ac:Act} {j:Nat}
theorem comp_size (hc:HK P fx.vars (ops.toList.map (·.dst)) ops.toList=some is):is.length=ops.size∧∀ (j:Nat) o,ops[j]? = some o→∃ i,is[j]? = some i∧JP P fx.vars (ops.toList.map (·.dst)) o=some i:=by
 rw[UV] at hc
 have key:∀ (l:List Oper) (is:List Ins),l.mapM (JP P fx.vars (ops.toList.map (·.dst)))=some is→is.length=l.length∧∀ (j:Nat) o,l[j]? = some o→∃ i,is[j]? = some i∧JP P fx.vars (ops.toList.map (·.dst)) o=some i:=by
  intro l
  induction l with
  | nil=>intro is h;simp at h;subst h;simp
  | cons x l ih =>
   intro is h
   simp only[WV,Option.bind_eq_bind,QB,Option.pure_def,Option.some.injEq] at h
   obtain ⟨i,hi,is',his,rfl⟩:=h
   obtain ⟨h1,h2⟩:=ih _ his
   refine ⟨by simp[h1],fun j o hj=>?_⟩
   cases j with
   | zero=>simp at hj;subst hj;exact ⟨i,by simp,hi⟩
   | succ j=>simp at hj;simpa using h2 j o hj
 obtain ⟨h1,h2⟩:=key _ _ hc
 exact ⟨by simpa using h1,fun j o hj=>h2 j o (by simpa using hj)⟩
theorem RD_goP {ro:Option Nat} {js:List Ins} {lst:Nat} (hlst:lst+1=ops.size) (hlen:js.length=ops.size) (hjs:∀ (j:Nat),j≠lst→js[j]? = is[j]?) (hall:∀ k,k<lst→k∈pd lst) (h:Free P fx ops js V r S pd ch hd) (hlS:S (lst+1)=S lst) (hok:GU fx.vars fx.N ops.toList=true) (hc:HK P fx.vars (ops.toList.map (·.dst)) ops.toList=some is)
  (hcl0:∀ (l:Nat) o,(S 0)[l]? = some o→Z3 (S 0).length o=true) (hv0:QO (S 0).length (V 0)=true) (hn0:fx.n0≤(S 0).length) {Qc:Exit→Act→World→Prop} :
  ∀ (l:List Nat) (D:List Nat) (m:LM) (w:World) (ac:Act),C7 (V9 ops) ops.size D l→Inv fx ops js V r S pd ch X en D m ac w →
  lst∉D→(∀ m' ac' w',SRel fx m' X en ⟨V lst,S lst⟩ ac' w'→(∀ (j t:Nat),j<lst→(ops.toList[j]?).bind (·.dst)=some t→t∉fx.vars→VRel m' X w' (r j) (ac'.tmps.getD t Go.undef))→Step fx.n0 m X w m' w'→wpOpsIn (wfen ro) 0 P ops Qc [lst] ac' w')→wpOpsIn (wfen ro) 0 P ops Qc l ac w
 | [],D,m,w,ac,hs,inv,hD,hk=>by
  cases hs with
  | nil hall'=>exact absurd (hall' lst (by omega)) hD
 | j :: l,D,m,w,ac,hs,inv,hD,hk=>by
  cases hs with
  | cons hjn hjD hdir hs' =>
  have hcomp:=(comp_size hc).2
  by_cases hjl:j=lst
  ·have hpj:∀ e∈pd j,e∈D:=fun e he=>by
    rcases h.pddir j hjn e he with h1 | ⟨x,hx,h1⟩
    ·exact hdir e h1
    ·exact inv.clos x (hdir x hx) e h1
   subst hjl
   have hin:∀ k,k<ops.size→(decide (k∈D)=decide (k<j)):=fun k hk=>by
    by_cases e:k<j
    ·rw[decide_eq_true e,decide_eq_true (hpj k (hall k e))]
    ·have:k=j:=by omega
     subst this
     rw[decide_eq_false e,decide_eq_false hjD]
   have hl0:l=[]:=by
    cases l with
    | nil=>rfl
    | cons k l =>
     cases hs' with
     | cons h1 h2 h3 h4 =>
      exfalso
      apply h2
      by_cases e:k<j
      ·exact WU _ (hpj k (hall k e))
      ·have:k=j:=by omega
       subst this;exact List.mem_cons_self ..
   rw[hl0]
   refine hk m ac w ⟨inv.size,?_,inv.defs,?_,YR hn0 (h.le' (QF _) (by omega)),inv.entry⟩ (fun k t hkj hkt htv=>?_) (Step.refl _ _ _ _)
   ·intro i t hi
    have hv:=inv.vars i t hi
    have hil:i<fx.vars.length:=(QH.1 hi).1
    have e1:vAt js r (V 0) ops.size (fun k=>decide (k∈D)) i=vAt js r (V 0) ops.size (fun k=>decide (k<j)) i:=by
     have:lastOf (fun k=>decide (k∈D)&&dstI js k i) ops.size=lastOf (fun k=>decide (k<j)&&dstI js k i) ops.size:=JN fun k hk=>by rw[hin k hk]
     simp only[vAt,this]
    rw[e1,← (h.V_at hlen j (by omega)).2 i hil] at hv
    exact hv
   ·have hSn:(S ops.size).length=(S j).length:=by rw[← hlst,hlS]
    have e:(hAt S ch ops.size fun k=>decide (k∈D))=S j:=by
     apply Z1
     intro l
     by_cases hl:l<(S ops.size).length
     ·rw[LH hl]
      have:oAt S ch ops.size (fun k=>decide (k∈D)) l=oAt S ch ops.size (fun k=>decide (k<j)) l:=by
       have:lastOf (fun k=>decide (k∈D)&&ch k l) ops.size=lastOf (fun k=>decide (k<j)&&ch k l) ops.size:=JN fun k hk=>by rw[hin k hk]
       simp only[oAt,this]
      rw[this,← h.S_at j (by omega),QI (by omega)];rfl
     ·rw[QN (by simp[hAt];omega),QN (by omega)]
    rw[← e];exact inv.heap
   ·exact inv.tmps k (hpj k (hall k hkj)) t hkt htv
  have hoj:ops[j]? = some ops[j]:=Q7 hjn
  obtain ⟨i,hij,hi⟩:=hcomp j _ hoj
  rw[← hjs j hjl] at hij
  generalize ops[j]=o at hoj hi
  have hpj:∀ e∈pd j,e∈D:=fun e he=>by
   rcases h.pddir j hjn e he with h1 | ⟨x,hx,h1⟩
   ·exact hdir e h1
   ·exact inv.clos x (hdir x hx) e h1
  simp only[wpOpsIn,hoj]
  obtain ⟨hdst,hgd⟩:=R1 hi
  have hol:ops.toList[j]? = some o:=by simpa using hoj
  have hrj:=inv.restrict h hcl0 hjn hjD hpj
  have hgdr:∀ b,gdOk ((List.range j).map r) i.gd=some b→Region.wanted o (yielded ops ac.tmps)=b:=by
   intro b hb
   unfold Region.wanted
   rw[hgd] at hb
   cases hg:o.guard with
   | none=>rw[hg] at hb;simp[gdOk] at hb;simp[hb]
   | some kw =>
    obtain ⟨k,want⟩:=kw
    have hkp:=h.gds j i k want hij (by rw[hgd];exact hg)
    have hkD:=hpj k hkp
    have hkj:=h.pdlt j hjn k hkp
    rw[hg] at hb
    simp only[gdOk] at hb
    have e1:((List.range j).map r).getD k .undef=r k:=by simp[List.getD,hkj]
    rw[e1] at hb
    split at hb
    ·rename_i bb hbb
     cases hb
     have hok':=hok
     unfold GU at hok'
     simp only[QD,decide_eq_true_eq,Q1] at hok'
     obtain ⟨⟨⟨⟨_,_⟩,hlt⟩,_⟩,hgs⟩:=hok'
     have h1:=hgs o (QZ hol)
     rw[hg] at h1
     simp only at h1
     split at h1
     ·rename_i t htk
      have htv:t∉fx.vars:=by simpa using h1
      have hr:=inv.tmps k hkD t htk htv
      rw[hbb] at hr
      have hv:=hr.bool
      cases hok2:ops.toList[k]? with
      | none=>rw[hok2] at htk;simp at htk
      | some ok =>
       rw[hok2] at htk;simp at htk
       have htN:t<ac.tmps.size:=by
        rw[inv.size];have:=hlt t (X3.2 ⟨ok,QZ hok2,htk⟩);simpa using this
       have e2:ac.tmps[t]? = some (.bool bb):=by
        rw[QV,Q7 htN] at hv
        rw[Q7 htN];simpa using hv
       have e3:ops[k]? = some ok:=by simpa using hok2
       simp only[yielded,e3,Option.bind_some,htk,e2]
       cases bb <;> cases want <;> rfl
     ·cases h1
    ·rename_i us hbb
     cases hb
     have hok':=hok
     unfold GU at hok'
     simp only[QD,decide_eq_true_eq,Q1] at hok'
     obtain ⟨⟨⟨⟨_,_⟩,hlt⟩,_⟩,hgs⟩:=hok'
     have h1:=hgs o (QZ hol)
     rw[hg] at h1
     simp only at h1
     split at h1
     ·rename_i t htk
      have htv:t∉fx.vars:=by simpa using h1
      have hr:=inv.tmps k hkD t htk htv
      rw[hbb] at hr
      simp only[VRel] at hr
      obtain ⟨vs,hv,_⟩:=hr
      cases hok2:ops.toList[k]? with
      | none=>rw[hok2] at htk;simp at htk
      | some ok =>
       rw[hok2] at htk;simp at htk
       have htN:t<ac.tmps.size:=by
        rw[inv.size];have:=hlt t (X3.2 ⟨ok,QZ hok2,htk⟩);simpa using this
       have e2:ac.tmps[t]? = some (.tuple vs.toArray):=by
        rw[QV,Q7 htN] at hv
        rw[Q7 htN];simpa using hv
       have e3:ops[k]? = some ok:=by simpa using hok2
       simp only[yielded,e3,Option.bind_some,htk,e2]
       cases want <;> rfl
     ·cases h1
    ·cases hb
  have hargs:∀ (xs:List Operand),(∀ x∈xs.map (XA fx.vars (ops.toList.map (·.dst))),x∈i.args) →
    QK (mAt S j m) (xAt S ch hd ops.size D j m X) w ((xs.map (XA fx.vars (ops.toList.map (·.dst)))).map (WY (V j) ((List.range j).map r))) (xs.map ac.eval):=by
   intro xs
   induction xs with
   | nil=>intro _;simp[QK]
   | cons x xs ih =>
    intro hall
    simp only[Q0,QK]
    refine ⟨?_,ih fun y hy=>hall y (by simp only[Q0];exact WU _ hy)⟩
    have hx:=hall (XA fx.vars (ops.toList.map (·.dst)) x) (by simp)
    have less:∀ a v,QR (S j).length a=true→VRel m X w a v→VRel (mAt S j m) (xAt S ch hd ops.size D j m X) w a v :=
     fun a v=>VRel.less (fun l hl=>by simp[mAt,hl]) (fun b hb=>Qa7 hb) a v
    cases x with
    | tmp t =>
     simp only[XA,Act.eval] at hx ⊢
     split at hx
     ·rename_i x hxi
      simp only[WY]
      have h1:=Y9 hxi
      have h2:x<fx.vars.length:=(QH.1 h1).1
      rw[(h.V_at hlen j (by omega)).2 x h2]
      refine less _ _ ?_ ?_
      ·rw[← (h.V_at hlen j (by omega)).2 x h2]
       exact XO (h.V_locs hlen hv0 j (by omega)) x
      ·rw[← h.vEq hlen hij inv.clos hjD hpj (.inl hx)];exact inv.vars x t h1
     ·rename_i hxi
      split at hx
      ·rename_i k hki
       simp only[WY]
       have hkp:=h.rds j i hij k hx
       have hkj:=h.pdlt j hjn k hkp
       have e1:((List.range j).map r).getD k .undef=r k:=by simp[List.getD,hkj]
       rw[e1]
       refine less _ _ (Y8 (h.le' (show k+1≤j by omega) (by omega)) _ (h.rl k (by omega))) ?_
       have:=Y9 hki
       simp only[ZR,QA] at this
       obtain ⟨ok,hok2,hd2⟩:=this
       exact inv.tmps k (hpj k hkp) t (by rw[hok2];simpa using hd2) (U3 hxi)
      ·rename_i hki
       simp[WY,VRel]
    | const v=>simp only[XA,WY,Act.eval];exact UZ v
    | global g=>simp only[XA,WY,Act.eval];exact Qat g _ (inv.heap.gl.less fun b hb=>Qa7 hb)
    | func f=>simp only[XA,WY,Act.eval,VRel];exact ⟨[],rfl,by simp[QK]⟩
  have next:∀ (mj:LM) (w':World) (c:Value),HRel mj (xAt S ch hd ops.size D j m X) (VU (hd j) (S (j+1))) w'→Step (S j).length (mAt S j m) (xAt S ch hd ops.size D j m X) w mj w' →
    VRel mj (xAt S ch hd ops.size D j m X) w' (r j) c→wpOpsIn (wfen ro) 0 P ops Qc l (ac.put o.dst c) w':=by
   intro mj w' c hh hst hv
   obtain ⟨m',inv',hst'⟩:=inv.step h hlen hok hn0 hjn hjD hpj hoj hij hdst hh hst hv
   exact RD_goP hlst hlen hjs hall h hlS hok hc hcl0 hv0 hn0 l (j::D) m' w' _ hs' inv' (fun hm=>(ZD.1 hm).elim (fun e=>hjl e.symm) hD) fun m2 ac2 w2 h1 h3 h2=>hk m2 ac2 w2 h1 h3 (hst'.trans h2)
  have hop:=h.op j i hij
  split at hop
  ·exact hop.elim
  ·rename_i hg
   rw[hgdr _ hg]
   simp only[QT,if_false]
   refine ⟨fun _ _=>trivial,next _ w Go.undef ?_ (Step.refl _ _ _ _) ?_⟩
   ·rw[hop.2];exact hrj
   ·rw[hop.1];simp[VRel,QK,Go.undef]
  ·rename_i hg
   rw[hgdr _ hg]
   simp only[if_true]
   refine ⟨fun _ _=>trivial,?_⟩
   have hHl:(VU (hd j) (S j)).length=(S j).length:=YA _ _
   generalize has:i.args.map (WY (V j) ((List.range j).map r))=αs at hop
   cases hiop:i.op with
   | prim io =>
    rw[hiop] at hop
    dsimp only at hop
    obtain ⟨os',hco,hia,_,_⟩:=VC hi hiop
    have hrel:=hargs os' (fun x hx=>by rw[hia];exact hx)
    rw[← hia,has] at hrel
    obtain ⟨nx,w',mj,hrun,hres,hh,hst⟩:=FV hco hrj hrel hop
    rw[hHl] at hst
    rw[Oper.semAt_eq _ _ _ (YY hco),hrun]
    rcases hres with ⟨c,rfl,hv⟩ | ⟨rfl,hr⟩
    ·exact next mj w' c hh hst hv
    ·exact next mj w' Go.undef hh hst (by rw[hr];simp[VRel])
   | call =>
    rw[hiop] at hop
    cases αs with
    | nil=>exact hop.elim
    | cons fv αs =>
    dsimp only at hop
    obtain ⟨f,args,at_,hop',hia,_,_⟩:=DR hi hiop
    have hrel:=hargs (f::args.toList) (fun x hx=>by rw[hia];exact hx)
    rw[← hia,has] at hrel
    obtain ⟨fc,us,he,hfv,hrest⟩:=hrel.cons
    simp only[Q0,List.cons.injEq] at he
    obtain ⟨rfl,rfl⟩:=he
    have hnd:∀ c,o.op≠.defer c:=by rw[hop'];simp
    rw[Oper.semAt_eq _ _ _ hnd]
    have hex:execOp ac.eval o=(do let d ← resolve ac.eval { callee:=.value f,args,argTypes:=at_ } o.type;invoke d.target d.args):=by
     simp only[execOp,hop']
    rw[hex]
    unfold X0 at hop
    split at hop
    ·rename_i g cap
     simp only[VRel] at hfv
     obtain ⟨vs,hfe,hcap⟩:=hfv
     have hrun:(do let d ← resolve ac.eval { callee:=.value f,args,argTypes:=at_ } o.type;invoke d.target d.args:Sem Next).run P w=.ok (.enter g ((args.toList.map ac.eval)++vs).toArray) w:=by
      simp only[resolve,hfe,Deferred.ofValue,Sem.run_bind,Sem.run_pure,Result.andThen_ok,invoke]
      rw[hop.1]
      congr 2
      apply Array.ext';simp
     rw[hrun]
     refine ⟨by simp[wfen,Fence.wide],?_⟩
     have hcall:=hop.2 _ _ w _ (QK.append hrest hcap) hrj
     refine CallsIn.mono (F:=wfen ro) (n:=0) hcall ?_
     rintro e w' ⟨c,r',σ',mj,rfl,⟨rfl,rfl⟩,hv,hh,hst,_⟩
     rw[hHl] at hst
     exact next mj w' c hh hst hv
    ·rename_i g first
     simp only[VRel] at hfv
     obtain ⟨vs,hfe,hcap⟩:=hfv
     have hrun:(do let d ← resolve ac.eval { callee:=.value f,args,argTypes:=at_ } o.type;invoke d.target d.args:Sem Next).run P w=.ok (.enter g (vs++(args.toList.map ac.eval)).toArray) w:=by
      simp only[resolve,hfe,Deferred.ofValue,Sem.run_bind,Sem.run_pure,Result.andThen_ok,invoke]
      rw[hop.1]
      congr 2
      apply Array.ext';simp
     rw[hrun]
     refine ⟨by simp[wfen,Fence.wide],?_⟩
     have hcall:=hop.2 _ _ w _ (QK.append hcap hrest) hrj
     refine CallsIn.mono (F:=wfen ro) (n:=0) hcall ?_
     rintro e w' ⟨c,r',σ',mj,rfl,⟨rfl,rfl⟩,hv,hh,hst,_⟩
     rw[hHl] at hst
     exact next mj w' c hh hst hv
    ·rename_i lc
     simp only[VRel] at hfv
     obtain ⟨b,hb,hfe⟩:=hfv
     obtain ⟨L,hL,hsz,hround⟩:=hop _ _ w _ b hb hrest hrj
     have hrun:(do let d ← resolve ac.eval { callee:=.value f,args,argTypes:=at_ } o.type;invoke d.target d.args:Sem Next).run P w=.ok (.round b L.fn ((L.params.zip (args.toList.map ac.eval).toArray).foldl (fun tmps (t,a)=>tmps.setIfInBounds t a) L.tmps) L.assign L.body) w:=by
      simp only[resolve,hfe,Deferred.ofValue,Sem.run_bind,Sem.run_pure,Result.andThen_ok,invoke]
      have e:#[]++args.map ac.eval=(args.toList.map ac.eval).toArray:=by apply Array.ext';simp
      rw[e]
      exact run_yield hL (by simpa using hsz)
     rw[hrun]
     refine ⟨by simp[wfen,Fence.wide],?_⟩
     refine RoundIn.mono (F:=wfen ro) (n:=0) hround ?_
     rintro e w' ⟨c,r',σ',mj,rfl,⟨rfl,rfl⟩,hv,hh,hst,_⟩
     rw[hHl] at hst
     exact next mj w' c hh hst hv
    ·exact hop.elim
end
section
variable {P:Program} {fx:Fx} {Q:Exit→St→Prop} {s:St}
theorem free_ordx {ops:Array Oper} {is:List Ins} {K:List AV→List AV→List AObj→Prop} (pds:List (List Nat)) (kp:List Nat) (xs:List (Nat × Nat)) (hlen:is.length=ops.size) (hord:Qa8 ops is pds kp xs=true)
  (hvl:s.vals.length=fx.vars.length) (hcl:Cl s.heap) (hvlc:QO s.heap.length s.vals=true) (h:RPx P kp xs 0 is [] [] s.vals [] s.heap K) :
  ∃ (V:Nat→List AV) (r:Nat→AV) (S:Nat→List AObj) (ch hd:Nat→Nat→Bool),Free P fx ops is V r S (pdAt pds) ch hd∧V 0=s.vals∧S 0=s.heap∧K (V is.length) ((List.range is.length).map r) (S is.length) ∧
   ∀ (q:Nat) i,is[q]? = some i→V (q+1)=setD i.dst (V q) (r q)∧VS P kp q i (V q) ((List.range q).map r) (S q) (r q) (S (q+1)):=by
 obtain ⟨V,r,S,hV0,hS0,htr,hx0,hK⟩:=QaN is 0 [] [] _ _ _ h
 simp only[List.nil_append,ZV] at htr hK hx0
 simp only[Qa8,QD] at hord
 obtain ⟨hxs,hord⟩:=hord
 rw[Q1] at hxs
 simp only[Q1,ZI,QD,decide_eq_true_eq] at hord
 have hi:∀ j,j<ops.size→∃ i,is[j]? = some i:=fun j hj=>⟨is[j],QI (by omega)⟩
 have hlt:∀ (j:Nat) i,is[j]? = some i→j<ops.size:=fun j i h=>by have:=(QH.1 h).1;omega
 have st:=fun (j:Nat) (i:Ins) (h:is[j]? = some i)=>by
  have:=(hord j (hlt j i h)).2
  rw[h] at this
  simpa only[QD,Q1,ZI] using this
 have hpair:∀ (j k:Nat) i i',is[j]? = some i→is[k]? = some i'→j≠k→k∉pdAt pds j→j∉pdAt pds k→(∀ x,i'.dst=some x→IU x i=false)∧(JA kp k i'=2→JA kp j i=0∨(j,k)∈xs):=by
  intro j k i i' hj hk hne h1 h2
  have:=(st j i hj).2 k (hlt k i' hk)
  rw[hk] at this
  simp only[WR,decide_eq_true_eq,XS,hne,h1,h2,false_or,QD,Z0,Bool.and_eq_false_iff,decide_eq_false_iff_not,ne_eq,JE] at this
  refine ⟨fun x hx=>?_,fun h2=>?_⟩
  ·have:=this.1;rw[hx] at this;simpa using this
  ·rcases this.2 with (h | h) | h
   ·exact absurd h2 h
   ·exact .inl h
   ·exact .inr h
 have hxl:∀ (j k:Nat),(j,k)∈xs→k<is.length∧∃ i,is[j]? = some i∧((∃ io,i.op=.prim io)∨(i.op=.call∧j<k∧∃ i' io,is[k]? = some i'∧i'.op=.prim io∧Qap io=true)):=by
  intro j k hm
  have:=hxs _ hm
  simp only[QD,decide_eq_true_eq] at this
  obtain ⟨h1,h2⟩:=this
  refine ⟨h1,?_⟩
  cases hij:is[j]? with
  | none=>rw[hij] at h2;simp at h2
  | some i =>
   rw[hij] at h2
   refine ⟨i,rfl,?_⟩
   cases hop:i.op with
   | prim io=>exact .inl ⟨io,rfl⟩
   | call =>
    simp only[Qaq,hop,Y3,QD,decide_eq_true_eq] at h2
    obtain ⟨h4,h5⟩:=h2
    refine .inr ⟨rfl,h4,?_⟩
    cases hik:is[k]? with
    | none=>rw[hik] at h5;cases h5
    | some i' =>
     rw[hik] at h5
     simp only[MW] at h5
     split at h5
     ·rename_i io ho;exact ⟨i',io,rfl,ho,h5⟩
     ·cases h5
 have hx:∀ (j k:Nat) (i:Ins),(j,k)∈xs→is[j]? = some i→gdOk ((List.range j).map r) i.gd=some true→∀ l∈YX (plOf i (i.args.map (WY (V j) ((List.range j).map r))) (S j)),(S (k+1))[l]? = (S k)[l]? := by
  intro j k i hm hij hg l hl
  obtain ⟨hk,_⟩:=hxl j k hm
  have hjl:j<is.length:=(QH.1 hij).1
  have:=QbT hx0 j k hm l (by simpa[List.getD,ZR,List.getElem?_range hjl,plAt,hij,hg] using hl)
  simpa[List.getD,ZR,List.getElem?_range (show k+1<is.length+1 by omega),List.getElem?_range (show k<is.length+1 by omega)] using this
 have stepcases:∀ (j:Nat) i,is[j]? = some i→(S j).length≤(S (j+1)).length∧(JA kp j i≠2→S (j+1)=S j)∧(∀ (l:Nat) o,(S j).length≤l→(S (j+1))[l]? = some o→o.live) ∧
   (Cl (S j)→QO (S j).length (V j)=true→QO (S j).length ((List.range j).map r)=true→Cl (S (j+1))∧QR (S (j+1)).length (r j)=true):=by
  intro j i hj
  have hso:=(htr j i hj).2
  unfold VS at hso
  have same:r j=.tup []→S (j+1)=S j→_:=fun (e1:r j=.tup []) (e2:S (j+1)=S j)=>show (S j).length≤(S (j+1)).length∧(JA kp j i≠2→S (j+1)=S j)∧(∀ (l:Nat) o,(S j).length≤l→(S (j+1))[l]? = some o→o.live) ∧
   (Cl (S j)→QO (S j).length (V j)=true→QO (S j).length ((List.range j).map r)=true→Cl (S (j+1))∧QR (S (j+1)).length (r j)=true) from by
    rw[e2,e1]
    refine ⟨QG _,fun _=>rfl,fun l o hl ho=>?_,fun h _ _=>⟨h,rfl⟩⟩
    rw[QN hl] at ho;cases ho
  split at hso
  ·exact hso.elim
  ·exact same hso.1 hso.2
  ·cases hop:i.op with
   | prim io =>
    simp only[hop] at hso
    have hk:JA kp j i=kindOf io:=by simp[JA,hop]
    refine ⟨ED hso,fun hk2=>?_,BL hso,fun h1 h2 h3=>?_⟩
    ·rw[hk] at hk2
     by_cases h0:kindOf io=0
     ·exact (KF h0 hso).1
     ·by_cases h1:kindOf io=1
      ·exact GB h1 hso
      ·have:=AP io
       omega
    ·have hcl:=(st j i hj).1.1.1
     unfold AU at hcl
     rw[hop] at hcl
     simp only[QD,Q1] at hcl
     have:=BM hcl.1 (Z8.2 fun v hv=>by
      obtain ⟨x,hx,rfl⟩:=ZP.1 hv
      exact CO h2 h3 (hcl.2 x hx)) h1 hso
     exact ⟨this.2,this.1⟩
   | call =>
    have hso':∃ σ0,HM σ0 (r j) (S (j+1))∧σ0=S j∧(kp.contains j=true→S (j+1)=S j):=by
     cases has:i.args.map (WY (V j) ((List.range j).map r)) with
     | nil=>simp only[hop,has] at hso
     | cons fv as_=>simp only[hop,has] at hso;exact ⟨S j,hso.2.1,rfl,hso.2.2⟩
    obtain ⟨_,⟨g1,g2,g3⟩,rfl,g4⟩:=hso'
    refine ⟨g2,fun hk2=>?_,fun l o hl ho=>(g3 l o ho (by rw[QN hl];simp)).2 hl,fun h1 _ _=>⟨fun l o ho=>?_,g1⟩⟩
    ·simp only[JA,hop] at hk2
     by_cases hkp:kp.contains j=true
     ·exact g4 hkp
     ·rw[if_neg hkp] at hk2;exact absurd rfl hk2
    ·by_cases he:(S j)[l]? = some o
     ·exact H1 _ _ o g2 (h1 l o he)
     ·exact (g3 l o ho he).1
 have inv:∀ j,j≤ops.size→Cl (S j)∧QO (S j).length (V j)=true∧QO (S j).length ((List.range j).map r)=true:=by
  intro j
  induction j with
  | zero =>
   intro _
   rw[hS0,hV0]
   exact ⟨hcl,hvlc,rfl⟩
  | succ j ih =>
   intro hj
   obtain ⟨i,hij⟩:=hi j (by omega)
   obtain ⟨h1,h2,h3⟩:=ih (by omega)
   obtain ⟨g1,_,_,g4⟩:=stepcases j i hij
   obtain ⟨g5,g6⟩:=g4 h1 h2 h3
   refine ⟨g5,?_,?_⟩
   ·rw[(htr j i hij).1]
    unfold setD;split
    ·exact R9 (YL g1 h2) g6
    ·exact YL g1 h2
   ·rw[WM,ZS]
    exact VN (YL g1 h3) (by simp[QO,g6])
 have hmono:∀ j d,j+d≤ops.size→(S j).length≤(S (j+d)).length:=by
  intro j d
  induction d with
  | zero=>intro _;exact QG _
  | succ d ih =>
   intro hd
   obtain ⟨i3,hi3⟩:=hi (j+d) (by omega)
   exact YR (ih (by omega)) (stepcases (j+d) i3 hi3).1
 have hpush:∀ (j k:Nat) (i':Ins) (io:IOp),j<k→is[k]? = some i'→i'.op=.prim io→Qap io=true→∀ l,(S (k+1))[l]?≠(S k)[l]?→(S (j+1)).length≤l:=by
  intro j k i' io hjk hik e4 e5 l hch2
  have hle:=hmono (j+1) (k-(j+1)) (by have:=hlt k i' hik;omega)
  rw[show j+1+(k-(j+1))=k by omega] at hle
  have hso2:=(htr k i' hik).2
  unfold VS at hso2
  split at hso2
  ·exact hso2.elim
  ·exact absurd (by rw[hso2.2]) hch2
  ·simp only[e4] at hso2
   obtain ⟨o,ho⟩:=Qc1 e5 hso2
   refine Nat.le_of_not_lt fun hl=>hch2 ?_
   rw[ho,QE (by omega)]
 let kd:Nat→Nat:=fun j=>match is[j]? with | some i=>JA kp j i | none=>0
 have hkd:∀ (j:Nat) i,is[j]? = some i→kd j=JA kp j i:=fun j i h=>by simp only[kd,h]
 let ch:Nat→Nat→Bool:=fun k l=>Classical.propDecidable (kd k=2∧(S (k+1))[l]?≠(S k)[l]?) |>.decide
 let hd:Nat→Nat→Bool:=fun j l=>Classical.propDecidable ((kd j=0∨∃ k',(j,k')∈xs)∧∃ k,k<ops.size∧k≠j∧k∉pdAt pds j∧j∉pdAt pds k∧ch k l=true) |>.decide
 have hch:∀ k l,ch k l=true↔(kd k=2∧(S (k+1))[l]?≠(S k)[l]?):=fun k l=>by simp only[ch,decide_eq_true_eq]
 have hhd:∀ j l,hd j l=true↔((kd j=0∨∃ k',(j,k')∈xs)∧∃ k,k<ops.size∧k≠j∧k∉pdAt pds j∧j∉pdAt pds k∧ch k l=true):=fun j l=>by simp only[hd,decide_eq_true_eq]
 have hF : Free P fx ops is V r S (pdAt pds) ch hd:=by
  refine ⟨?_,?_,?_,by rw[hV0];exact hvl,fun j i hj=>(htr j i hj).1,?_,?_,?_,?_,?_,?_,?_,?_,?_,?_,?_,?_⟩
  ·intro j hj e he;exact (hord j hj).1.1 e he
  ·intro j hj k hk;exact ((hord j hj).1.2 k hk).1
  ·intro j hj k hk
   have:=((hord j hj).1.2 k hk).2
   simp only[WR,XS,ZZ] at this
   exact this
  ·intro j hj;obtain ⟨i,hij⟩:=hi j hj;exact (stepcases j i hij).1
  ·intro j hj l hcl
   obtain ⟨i,hij⟩:=hi j hj
   by_cases hk:JA kp j i=2
   ·by_cases he:(S (j+1))[l]? = (S j)[l]?
    ·exact he
    ·have:=(hch j l).2 ⟨by rw[hkd j i hij];exact hk,he⟩
     rw[this] at hcl;cases hcl
   ·rw[(stepcases j i hij).2.1 hk]
  ·intro j hj l hcl
   obtain ⟨i,hij⟩:=hi j hj
   obtain ⟨_,hne⟩:=(hch j l).1 hcl
   rcases ZB l (S (j+1)).length with h | h
   ·exact h
   ·have:=(stepcases j i hij).1
    rw[QN h,QN (by omega)] at hne
    exact absurd rfl hne
  ·intro j k hj hk hne h1 h2 l hcl
   obtain ⟨i,hij⟩:=hi j hj
   obtain ⟨i',hik⟩:=hi k hk
   obtain ⟨hk2,_⟩:=(hch k l).1 hcl
   rw[hkd k i' hik] at hk2
   have h0:=(hpair j k i i' hij hik (Ne.symm hne) h1 h2).2 hk2
   exact (hhd j l).2 ⟨h0.imp (fun h=>by rw[hkd j i hij];exact h) (fun h=>⟨k,h⟩),k,hk,hne,h1,h2,hcl⟩
  ·intro j hj l hcl
   obtain ⟨hk2,hcj⟩:=(hch j l).1 hcl
   cases hb:hd j l with
   | false=>rfl
   | true =>
    obtain ⟨h,k,hk,hne,h1,h2,hclk⟩:=(hhd j l).1 hb
    rcases h with h | ⟨k',h⟩
    ·omega
    ·obtain ⟨_,i,e1,hpc⟩:=hxl j k' h
     rcases hpc with ⟨io,e2⟩ | ⟨e2,_⟩
     rotate_left
     ·obtain ⟨i',hik⟩:=hi k hk
      obtain ⟨hkk2,hch2⟩:=(hch k l).1 hclk
      rw[hkd k i' hik] at hkk2
      rw[hkd j i e1] at hk2
      rcases (hpair j k i i' e1 hik (Ne.symm hne) h1 h2).2 hkk2 with h3 | h3
      ·omega
      obtain ⟨_,i0,f1,hpc⟩:=hxl j k h3
      rw[e1] at f1;cases f1
      rcases hpc with ⟨io,e3⟩ | ⟨_,hjk,i2,io,e3,e4,e5⟩
      ·rw[e2] at e3;cases e3
      rw[hik] at e3;cases e3
      have hge:=hpush j k i' io hjk hik e4 e5 l hch2
      have hge2:=(stepcases j i e1).1
      rw[QN hge,QN (by omega)] at hcj
      exact absurd rfl hcj
     obtain ⟨i',hik⟩:=hi k hk
     obtain ⟨hkk2,hch2⟩:=(hch k l).1 hclk
     rw[hkd k i' hik] at hkk2
     rw[hkd j i e1] at hk2
     have hso:=(htr j i e1).2
     unfold VS at hso
     split at hso
     ·exact hso.elim
     ·exact absurd (by rw[hso.2]) hcj
     ·rename_i hg
      simp only[e2] at hso
      have hmem:=stepF_ch hso hcj
      rcases (hpair j k i i' e1 hik (Ne.symm hne) h1 h2).2 hkk2 with h3 | h3
      ·omega
      ·exact absurd (hx j k i h3 e1 hg l (by simp only[plOf,e2];exact hmem)) hch2
  ·intro j hj l o hl ho;obtain ⟨i,hij⟩:=hi j hj;exact (stepcases j i hij).2.2.1 l o hl ho
  ·intro j hj;obtain ⟨i,hij⟩:=hi j hj;obtain ⟨h1,h2,h3⟩:=inv j (by omega);exact ((stepcases j i hij).2.2.2 h1 h2 h3).2
  ·intro j hj l o _ ho;exact (inv (j+1) (by omega)).1 l o ho
  ·intro j i hj k hk
   have:=(st j i hj).1.1.2 _ hk
   simpa using this
  ·intro j i k b hj hg
   have:=(st j i hj).1.2
   rw[hg] at this
   simpa using this
  ·intro j k i i' x hj hk hne hx hor
   by_cases h1:k∈pdAt pds j
   ·exact .inl h1
   by_cases h2:j∈pdAt pds k
   ·exact .inr h2
   have:=(hpair j k i i' hj hk hne h1 h2).1 x hx
   simp only[IU,X8,W6] at this
   rcases hor with hor | hor
   ·have h3:=this.1 _ hor;simp at h3
   ·have h3:=this.2;rw[hor] at h3;simp at h3
  ·intro j i hj
   have hso:=(htr j i hj).2
   unfold VS at hso
   split at hso
   ·rename_i hg;exact hso.elim
   ·rename_i hg;rw[hg];exact hso
   ·rename_i hg;rw[hg]
    simp only
    have heapy:kd j≠0→(∀ k',(j,k')∉xs)→∀ l,hd j l=false:=fun hne hnx l=>by
     cases hb:hd j l with
     | false=>rfl
     | true =>
      rcases ((hhd j l).1 hb).1 with h | ⟨k',h⟩
      ·exact absurd h hne
      ·exact absurd h (hnx k')
    cases hop:i.op with
    | prim io =>
     simp only[hop] at hso
     have hk:kd j=kindOf io:=by rw[hkd j i hj];simp[JA,hop]
     by_cases h0:kindOf io=0
     ·obtain ⟨e1,e2⟩:=KF h0 hso
      rw[e1];exact e2 _
     by_cases hxj:∃ k',(j,k')∈xs
     ·refine Qc3 hso fun l hl=>?_
      cases hb:hd j l with
      | false=>rfl
      | true =>
       obtain ⟨_,k,hk',hne,h1,h2,hcl⟩:=(hhd j l).1 hb
       obtain ⟨i',hik⟩:=hi k hk'
       obtain ⟨hk2,hch2⟩:=(hch k l).1 hcl
       rw[hkd k i' hik] at hk2
       rcases (hpair j k i i' hj hik (Ne.symm hne) h1 h2).2 hk2 with h | h
       ·rw[← hkd j i hj] at h;omega
       ·exact absurd (hx j k i h hj hg l (by simp only[plOf,hop];exact hl)) hch2
     ·have hnx:∀ k',(j,k')∉xs:=fun k' h=>hxj ⟨k',h⟩
      rw[KJ _ _ (heapy (by omega) hnx),KJ _ _ (heapy (by omega) hnx)]
      exact hso
    | call =>
     have hk:kd j≠0:=by rw[hkd j i hj];simp only[JA,hop];split <;> omega
     have hhigh:∀ l,l<(S (j+1)).length→hd j l=false:=fun l hl=>by
      cases hb:hd j l with
      | false=>rfl
      | true =>
       obtain ⟨hor,k,hk',hne,h1,h2,hcl⟩:=(hhd j l).1 hb
       obtain ⟨i',hik⟩:=hi k hk'
       obtain ⟨hk2,hch2⟩:=(hch k l).1 hcl
       rw[hkd k i' hik] at hk2
       rcases (hpair j k i i' hj hik (Ne.symm hne) h1 h2).2 hk2 with h | h
       ·rw[← hkd j i hj] at h;exact absurd h hk
       ·obtain ⟨_,i0,e1,hpc⟩:=hxl j k h
        rw[hj] at e1;cases e1
        rcases hpc with ⟨io,e2⟩ | ⟨_,hjk,i2,io,e3,e4,e5⟩
        ·rw[hop] at e2;cases e2
        ·rw[hik] at e3;cases e3
         have:=hpush j k i' io hjk hik e4 e5 l hch2
         omega
     by_cases hxj:∃ k',(j,k')∈xs
     ·cases has:i.args.map (WY (V j) ((List.range j).map r)) with
      | nil=>simp only[hop,has] at hso
      | cons fv as_ =>
       simp only[hop,has] at hso ⊢
       have g:=hso.1
       have hge2:=(stepcases j i hj).1
       rw[CG hhigh,CG fun l hl=>hhigh l (by omega)]
       exact g
     have hnx:∀ k',(j,k')∉xs:=fun k' h=>hxj ⟨k',h⟩
     rw[KJ _ _ (heapy hk hnx),KJ _ _ (heapy hk hnx)]
     cases has:i.args.map (WY (V j) ((List.range j).map r)) with
     | nil=>simp only[hop,has] at hso
     | cons fv as_=>simp only[hop,has] at hso ⊢;exact hso.1
 exact ⟨V,r,S,ch,hd,hF,hV0,hS0,hK,htr⟩
def mvI:Ins:=⟨none,none,.prim .mv,[.c (.cv (.bool true))]⟩
theorem W_region_drawP {id:Nat} {ops:Array Oper} {is:List Ins} {i0:Ins} {cp:List PanicEntry} (pds:List (List Nat)) (kp:List Nat) (xs:List (Nat × Nat)) (hmix:P.follows .mixedOrders=true) (hc:VY P fx.vars fx.N ops=some is)
  {lst:Nat} (hlst:lst+1=ops.size) (hlast:is[lst]? = some i0) (hcl:i0.op=.call) (hgn:i0.gd=none) (hord:Qa8 ops (is.dropLast++[mvI]) pds kp xs=true) (hall:∀ k,k<lst→k∈pdAt pds lst)
  (hvl:s.vals.length=fx.vars.length) (h:RPx P kp xs 0 (is.dropLast++[mvI]) [] [] s.vals [] s.heap fun vals ρ σ=>match i0.args.map (WY vals ρ.dropLast) with | fv::as_=>CallVp P fv as_ σ cp (fun σ'=>Q (.panic cp) ⟨vals,σ'⟩) | []=>False):W P fx (.region id ops true) s Q:=by
 intro m0 X en ac0 w0 hs0 hr
 unfold VY at hc
 split at hc
 rotate_left
 ·cases hc
 rename_i hok
 obtain ⟨hlen0,hcomp⟩:=comp_size hc
 have hdl:is.dropLast.length=lst:=by rw[List.length_dropLast];omega
 have hlen:(is.dropLast++[mvI]).length=ops.size:=by rw[QM,hdl];exact hlst
 have hjs:∀ (j:Nat),j≠lst→(is.dropLast++[mvI])[j]? = is[j]? := fun j hj=>by
  by_cases hlt:j<lst
  ·rw[QE (by omega),List.getElem?_dropLast,if_pos (by omega)]
  ·rw[QN (by omega),QN (by omega)]
 have hjl:(is.dropLast++[mvI])[lst]? = some mvI:=by
  rw[QS (by omega),hdl,Nat.sub_self];rfl
 obtain ⟨V,r,S,ch,hd,hF,hV0,hS0,hK,htr⟩:=free_ordx pds kp xs hlen hord hvl (fun l o ho=>hs0.heap.closed l o ho) (hs0.vals_locs (Nat.le_of_eq hvl)) h
 obtain ⟨hVl,hSl⟩:=htr lst _ hjl
 have hSl:S (lst+1)=S lst:=by
  have hm:ZQ .mv [AV.cv (.bool true)] (S lst)=some (AV.cv (.bool true),S lst):=rfl
  have h2:ZQ .mv [AV.cv (.bool true)] (S lst)=some (r lst,S (lst+1)):=hSl
  rw[hm] at h2
  injection h2 with h2
  injection h2 with _ h2
  exact h2.symm
 rw[hlen,← hlst,hSl,show V (lst+1)=V lst from hVl] at hK
 have hrd:((List.range (lst+1)).map r).dropLast=(List.range lst).map r:=by
  rw[WM,ZS,List.map_singleton,List.dropLast_concat]
 rw[hrd] at hK
 refine wpIn_region_draw fun t=>?_
 have hsch:Region.schedule (P.follows .mixedOrders) ops t=Region.linearise .any ops t:=by simp[Region.schedule,hmix]
 rw[hsch]
 have hs':SRel fx m0 X en s ac0 w0.drew:=hs0.drew
 have hst0:Step fx.n0 m0 X w0 m0 w0.drew:=Step.of_heap rfl rfl rfl rfl (XE _)
 refine RD_goP (X:=X) (en:=en) (ro:=fx.r.bind m0) hlst hlen hjs hall hF hSl hok hc ?_ ?_ ?_ _ [] m0 w0.drew ac0 (FR hF.back t) ?_ (by simp) ?_
 ·intro l o ho;rw[hS0] at ho ⊢;exact hs0.heap.closed l o ho
 ·rw[hS0,hV0];exact hs0.vals_locs (Nat.le_of_eq hvl)
 ·rw[hS0];exact hs0.base
 ·have hnone:∀ (p:Nat→Bool),(∀ k,p k=false)→lastOf p ops.size=none:=fun p hp=>by
   rw[F1 (j:=0) (QF _) fun k _ _=>hp k];rfl
  refine ⟨by simp,by simp,hs'.size,?_,by simp,hs'.defs,?_,?_,hs'.entry⟩
  ·intro i t hi
   have:vAt (is.dropLast++[mvI]) r (V 0) ops.size (fun k=>decide (k∈([]:List Nat))) i=(V 0).getD i .undef:=by
    simp only[vAt];rw[hnone _ (by simp)]
   rw[this,hV0];exact hs'.vars i t hi
  ·have hle:=hF.le' (QF _) (QG ops.size)
   have hget:∀ (l:Nat) (o:AObj),(hAt S ch ops.size fun k=>decide (k∈([]:List Nat)))[l]? = some o→o.live→(S 0)[l]? = some o:=by
    intro l o ho hv
    have hl:l<(S ops.size).length:=by have:=(QH.1 ho).1;simpa[hAt] using this
    rw[LH hl] at ho
    have:oAt S ch ops.size (fun k=>decide (k∈([]:List Nat))) l=(S 0)[l]? := by
     simp only[oAt];rw[hnone _ (by simp)]
    rw[this] at ho
    cases h0:(S 0)[l]? with
    | none=>rw[h0] at ho;simp at ho;subst ho;exact hv.elim
    | some o'=>rw[h0] at ho;simpa using ho
   have hh:=hs'.heap
   rw[hS0] at hget hle
   refine ⟨hh.xb,fun l b hb=>?_,?_,?_,?_,hh.gl⟩
   ·have:=hh.dom l b hb;exact ⟨by simp[hAt];omega,this.2⟩
   ·intro l b o hb ho hv;exact hh.own l b o hb (hget l o ho hv) hv
   ·intro l l' b o hb hb' ho hv;exact hh.inj l l' b o hb hb' (hget l' o ho hv) hv
   ·intro l o ho
    by_cases hv:o.live
    ·exact hh.obj l o (hget l o ho hv)
    ·cases o <;> simp[AObj.live] at hv
     simp[ORel]
  ·intro l hl _
   cases hml:m0 l with
   | none=>rfl
   | some b=>have:=(hs0.heap.dom l b hml).1;rw[hS0] at hl;omega
 ·intro m ac w hs htm hst1
  have ht:TRel m X w fx.vars ops.toList ((List.range lst).map r) ac.tmps:=by
   intro j t hj htv
   by_cases hjl':j<lst
   ·have e1:((List.range lst).map r).getD j .undef=r j:=by simp[List.getD,hjl']
    rw[e1];exact htm j t hjl' hj htv
   ·have e1:((List.range lst).map r).getD j .undef=.undef:=by simp[List.getD,QN (show ((List.range lst).map r).length≤j by simp;omega)]
    rw[e1];simp[VRel]
  obtain ⟨o,hol⟩:∃ o,ops[lst]? = some o:=⟨ops[lst]'(by omega),Q7 (by omega)⟩
  obtain ⟨i,hij,hi⟩:=hcomp lst o hol
  rw[hlast] at hij;cases hij
  obtain ⟨hdst,hgd⟩:=R1 hi
  have hw:Region.wanted o (yielded ops ac.tmps)=true:=by
   unfold Region.wanted
   rw[← hgd,hgn]
  simp only[wpOpsIn,hol,hw,if_true]
  refine ⟨fun _ _=>trivial,?_⟩
  have fall:∀ (m':LM) (w':World) (σ':List AObj),HRel m' X σ' w'→Step (S lst).length m X w m' w'→(S lst).length≤σ'.length→Q (.panic cp) ⟨V lst,σ'⟩→Lift fx m0 X en w0 Q (.panic cp) ac w':=by
   intro m' w' σ' hh hst hle hQ
   exact ⟨⟨V lst,σ'⟩,m',hQ,hs.of_heap hh hst hle,hst0.trans (hst1.trans (hst.less hs.base))⟩
  have hop:=hcl
  have hrg:=hK
  generalize has:i0.args.map (WY (V lst) ((List.range lst).map r))=as_ at hrg
  cases as_ with
  | nil=>exact hrg.elim
  | cons fv as_ =>
  dsimp only at hrg
  obtain ⟨f,args,at_,hop',hargs,_,_⟩:=DR hi hop
  rw[hargs] at has
  have hrel:=UT hs.heap.gl hs.vars ht (f::args.toList)
  rw[has] at hrel
  obtain ⟨fc,us,he,hfv,hrest⟩:=hrel.cons
  simp only[Q0,List.cons.injEq] at he
  obtain ⟨rfl,rfl⟩:=he
  have hnd:∀ c,o.op≠.defer c:=by rw[hop'];simp
  rw[Oper.semAt_eq _ _ _ hnd]
  have hex:execOp ac.eval o=(do let d ← resolve ac.eval { callee:=.value f,args,argTypes:=at_ } o.type;invoke d.target d.args):=by
   simp only[execOp,hop']
  rw[hex]
  unfold CallVp at hrg
  split at hrg
  ·rename_i g cap
   simp only[VRel] at hfv
   obtain ⟨vs,hfe,hcap⟩:=hfv
   have hrun:(do let d ← resolve ac.eval { callee:=.value f,args,argTypes:=at_ } o.type;invoke d.target d.args:Sem Next).run P w=.ok (.enter g ((args.toList.map ac.eval)++vs).toArray) w:=by
    simp only[resolve,hfe,Deferred.ofValue,Sem.run_bind,Sem.run_pure,Result.andThen_ok,invoke]
    rw[hrg.1]
    congr 2
    apply Array.ext';simp
   rw[hrun]
   refine ⟨by simp[wfen,Fence.wide],?_⟩
   have hcall:=hrg.2 m X w _ (QK.append hrest hcap) hs.heap
   refine CallsIn.mono (F:=wfen (fx.r.bind m0)) (n:=0) hcall ?_
   rintro e w' ⟨σ',m',rfl,hq,hh,hst,hle⟩
   exact fall m' w' σ' hh hst hle hq
  ·rename_i g first
   simp only[VRel] at hfv
   obtain ⟨vs,hfe,hcap⟩:=hfv
   have hrun:(do let d ← resolve ac.eval { callee:=.value f,args,argTypes:=at_ } o.type;invoke d.target d.args:Sem Next).run P w=.ok (.enter g (vs++(args.toList.map ac.eval)).toArray) w:=by
    simp only[resolve,hfe,Deferred.ofValue,Sem.run_bind,Sem.run_pure,Result.andThen_ok,invoke]
    rw[hrg.1]
    congr 2
    apply Array.ext';simp
   rw[hrun]
   refine ⟨by simp[wfen,Fence.wide],?_⟩
   have hcall:=hrg.2 m X w _ (QK.append hcap hrest) hs.heap
   refine CallsIn.mono (F:=wfen (fx.r.bind m0)) (n:=0) hcall ?_
   rintro e w' ⟨σ',m',rfl,hq,hh,hst,hle⟩
   exact fall m' w' σ' hh hst hle hq
  ·rename_i l
   simp only[VRel] at hfv
   obtain ⟨b,hb,hfe⟩:=hfv
   obtain ⟨L,hL,hsz,hround⟩:=hrg m X w _ b hb hrest hs.heap
   have hrun:(do let d ← resolve ac.eval { callee:=.value f,args,argTypes:=at_ } o.type;invoke d.target d.args:Sem Next).run P w=.ok (.round b L.fn ((L.params.zip (args.toList.map ac.eval).toArray).foldl (fun tmps (t,a)=>tmps.setIfInBounds t a) L.tmps) L.assign L.body) w:=by
    simp only[resolve,hfe,Deferred.ofValue,Sem.run_bind,Sem.run_pure,Result.andThen_ok,invoke]
    have e:#[]++args.map ac.eval=(args.toList.map ac.eval).toArray:=by apply Array.ext';simp
    rw[e]
    exact run_yield hL (by simpa using hsz)
   rw[hrun]
   refine ⟨by simp[wfen,Fence.wide],?_⟩
   refine RoundIn.mono (F:=wfen (fx.r.bind m0)) (n:=0) hround ?_
   rintro e w' ⟨σ',m',rfl,hq,hh,hst,hle⟩
   exact fall m' w' σ' hh hst hle hq
  ·exact hrg.elim
theorem SW_drawP {dirs:List (List Nat)} {is:List Ins} {i0:Ins} {cp:List PanicEntry} (kp:List Nat) (xs:List (Nat × Nat)) (hmix:P.follows .mixedOrders=true) {lst:Nat} (hlst:lst+1=dirs.length) (hlast:is[lst]? = some i0) (hcl:i0.op=.call) (hgn:i0.gd=none)
  (hord:RQ dirs (is.dropLast++[mvI]) (Qbd dirs []) kp xs=true) (hall:(List.range lst).all (fun k=>(pdAt (Qbd dirs []) lst).contains k)=true) (hvl:s.vals.length=fx.vars.length)
  (h:RSx P kp xs 0 (is.dropLast++[mvI]) [] [] s.vals [] s.heap (fun vals ρ σ=>match i0.args.map (WY vals ρ.dropLast) with | fv::as_=>CallVp P fv as_ σ cp (fun σ'=>Q (.panic cp) ⟨vals,σ'⟩) | []=>False) .mk .mk):SW P fx (.dr dirs is) s Q:=by
 intro c
 induction c with
 | region id ops dr =>
  intro hc
  cases dr with
  | false=>simp[QL,IC.dr] at hc
  | true =>
   simp only[QL,IC.dr,QA] at hc
   obtain ⟨is',his,he⟩:=hc
   cases he
   have hl:(UU ops).length=ops.size:=by simp[UU]
   exact W_region_drawP _ kp xs hmix his (by rw[← hl];exact hlst) hlast hcl hgn (AA hord) (fun k hk=>by
    have:=Q1.1 hall k (by simpa using hk)
    simpa using this) hvl (EV _ _ _ _ _ _ _ _ _ _ h)
 | cond o x y ihx ihy =>
  intro hc
  cases o with
  | const v =>
   cases v <;> simp only[QL,reduceCtorEq] at hc
   rename_i t
   cases t with
   | true=>simp only[if_true] at hc;exact XD (ihx hc)
   | false=>simp only[QT,if_false] at hc;exact XD (ihy hc)
  | tmp u =>
   simp only[QL,QB,QA] at hc
   obtain ⟨_,_,_,_,_,_,he⟩:=hc
   cases he
  | global g=>simp[QL] at hc
  | func f=>simp[QL] at hc
 | seq x y _ _ =>
  intro hc
  simp only[QL,QB,QA] at hc
  obtain ⟨_,_,_,_,he⟩:=hc
  cases he
 | rangeFunc g ps assign body _ _ =>
  intro hc
  simp only[QL,QB,QA] at hc
  obtain ⟨_,_,_,_,he⟩:=hc
  cases he
 | skip=>intro hc;simp[QL,IC.dr] at hc
 | label l=>intro hc;simp[QL,IC.dr] at hc
 | exit i=>intro hc;simp[QL,IC.dr] at hc
 | ret=>intro hc;simp[QL,IC.dr] at hc
 | block i a _=>intro hc;simp[QL,IC.dr] at hc
 | loop a _=>intro hc;simp[QL,IC.dr] at hc
 | scope a _=>intro hc;simp[QL,IC.dr] at hc
 | goto l=>intro hc;simp[QL,IC.dr] at hc
 | refuse r=>intro hc;simp[QL,IC.dr] at hc
theorem W_region_drawL {id:Nat} {ops:Array Oper} {is:List Ins} {i0:Ins} (pds:List (List Nat)) (kp:List Nat) (xs:List (Nat × Nat)) (hmix:P.follows .mixedOrders=true) (hc:VY P fx.vars fx.N ops=some is)
  {lst:Nat} (hlst:lst+1=ops.size) (hlast:is[lst]? = some i0) (hcl:i0.op=.call) (hgn:i0.gd=none) (hdn:i0.dst=none) (hord:Qa8 ops (is.dropLast++[mvI]) pds kp xs=true) (hall:∀ k,k<lst→k∈pdAt pds lst)
  (hvl:s.vals.length=fx.vars.length) (h:RPx P kp xs 0 (is.dropLast++[mvI]) [] [] s.vals [] s.heap fun vals ρ σ=>match i0.args.map (WY vals ρ.dropLast) with | fv::as_=>X0 P fv as_ σ (fun _ σ'=>Q .normal ⟨vals,σ'⟩) | []=>False):W P fx (.region id ops true) s Q:=by
 intro m0 X en ac0 w0 hs0 hr
 unfold VY at hc
 split at hc
 rotate_left
 ·cases hc
 rename_i hok
 obtain ⟨hlen0,hcomp⟩:=comp_size hc
 have hdl:is.dropLast.length=lst:=by rw[List.length_dropLast];omega
 have hlen:(is.dropLast++[mvI]).length=ops.size:=by rw[QM,hdl];exact hlst
 have hjs:∀ (j:Nat),j≠lst→(is.dropLast++[mvI])[j]? = is[j]? := fun j hj=>by
  by_cases hlt:j<lst
  ·rw[QE (by omega),List.getElem?_dropLast,if_pos (by omega)]
  ·rw[QN (by omega),QN (by omega)]
 have hjl:(is.dropLast++[mvI])[lst]? = some mvI:=by
  rw[QS (by omega),hdl,Nat.sub_self];rfl
 obtain ⟨V,r,S,ch,hd,hF,hV0,hS0,hK,htr⟩:=free_ordx pds kp xs hlen hord hvl (fun l o ho=>hs0.heap.closed l o ho) (hs0.vals_locs (Nat.le_of_eq hvl)) h
 obtain ⟨hVl,hSl⟩:=htr lst _ hjl
 have hSl:S (lst+1)=S lst:=by
  have hm:ZQ .mv [AV.cv (.bool true)] (S lst)=some (AV.cv (.bool true),S lst):=rfl
  have h2:ZQ .mv [AV.cv (.bool true)] (S lst)=some (r lst,S (lst+1)):=hSl
  rw[hm] at h2
  injection h2 with h2
  injection h2 with _ h2
  exact h2.symm
 rw[hlen,← hlst,hSl,show V (lst+1)=V lst from hVl] at hK
 have hrd:((List.range (lst+1)).map r).dropLast=(List.range lst).map r:=by
  rw[WM,ZS,List.map_singleton,List.dropLast_concat]
 rw[hrd] at hK
 refine wpIn_region_draw fun t=>?_
 have hsch:Region.schedule (P.follows .mixedOrders) ops t=Region.linearise .any ops t:=by simp[Region.schedule,hmix]
 rw[hsch]
 have hs':SRel fx m0 X en s ac0 w0.drew:=hs0.drew
 have hst0:Step fx.n0 m0 X w0 m0 w0.drew:=Step.of_heap rfl rfl rfl rfl (XE _)
 refine RD_goP (X:=X) (en:=en) (ro:=fx.r.bind m0) hlst hlen hjs hall hF hSl hok hc ?_ ?_ ?_ _ [] m0 w0.drew ac0 (FR hF.back t) ?_ (by simp) ?_
 ·intro l o ho;rw[hS0] at ho ⊢;exact hs0.heap.closed l o ho
 ·rw[hS0,hV0];exact hs0.vals_locs (Nat.le_of_eq hvl)
 ·rw[hS0];exact hs0.base
 ·have hnone:∀ (p:Nat→Bool),(∀ k,p k=false)→lastOf p ops.size=none:=fun p hp=>by
   rw[F1 (j:=0) (QF _) fun k _ _=>hp k];rfl
  refine ⟨by simp,by simp,hs'.size,?_,by simp,hs'.defs,?_,?_,hs'.entry⟩
  ·intro i t hi
   have:vAt (is.dropLast++[mvI]) r (V 0) ops.size (fun k=>decide (k∈([]:List Nat))) i=(V 0).getD i .undef:=by
    simp only[vAt];rw[hnone _ (by simp)]
   rw[this,hV0];exact hs'.vars i t hi
  ·have hle:=hF.le' (QF _) (QG ops.size)
   have hget:∀ (l:Nat) (o:AObj),(hAt S ch ops.size fun k=>decide (k∈([]:List Nat)))[l]? = some o→o.live→(S 0)[l]? = some o:=by
    intro l o ho hv
    have hl:l<(S ops.size).length:=by have:=(QH.1 ho).1;simpa[hAt] using this
    rw[LH hl] at ho
    have:oAt S ch ops.size (fun k=>decide (k∈([]:List Nat))) l=(S 0)[l]? := by
     simp only[oAt];rw[hnone _ (by simp)]
    rw[this] at ho
    cases h0:(S 0)[l]? with
    | none=>rw[h0] at ho;simp at ho;subst ho;exact hv.elim
    | some o'=>rw[h0] at ho;simpa using ho
   have hh:=hs'.heap
   rw[hS0] at hget hle
   refine ⟨hh.xb,fun l b hb=>?_,?_,?_,?_,hh.gl⟩
   ·have:=hh.dom l b hb;exact ⟨by simp[hAt];omega,this.2⟩
   ·intro l b o hb ho hv;exact hh.own l b o hb (hget l o ho hv) hv
   ·intro l l' b o hb hb' ho hv;exact hh.inj l l' b o hb hb' (hget l' o ho hv) hv
   ·intro l o ho
    by_cases hv:o.live
    ·exact hh.obj l o (hget l o ho hv)
    ·cases o <;> simp[AObj.live] at hv
     simp[ORel]
  ·intro l hl _
   cases hml:m0 l with
   | none=>rfl
   | some b=>have:=(hs0.heap.dom l b hml).1;rw[hS0] at hl;omega
 ·intro m ac w hs htm hst1
  have ht:TRel m X w fx.vars ops.toList ((List.range lst).map r) ac.tmps:=by
   intro j t hj htv
   by_cases hjl':j<lst
   ·have e1:((List.range lst).map r).getD j .undef=r j:=by simp[List.getD,hjl']
    rw[e1];exact htm j t hjl' hj htv
   ·have e1:((List.range lst).map r).getD j .undef=.undef:=by simp[List.getD,QN (show ((List.range lst).map r).length≤j by simp;omega)]
    rw[e1];simp[VRel]
  obtain ⟨o,hol⟩:∃ o,ops[lst]? = some o:=⟨ops[lst]'(by omega),Q7 (by omega)⟩
  obtain ⟨i,hij,hi⟩:=hcomp lst o hol
  rw[hlast] at hij;cases hij
  obtain ⟨hdst,hgd⟩:=R1 hi
  have hw:Region.wanted o (yielded ops ac.tmps)=true:=by
   unfold Region.wanted
   rw[← hgd,hgn]
  simp only[wpOpsIn,hol,hw,if_true]
  refine ⟨fun _ _=>trivial,?_⟩
  have next:∀ (m':LM) (w':World) (σ':List AObj) (c:Value),HRel m' X σ' w'→Step (S lst).length m X w m' w'→(S lst).length≤σ'.length→Q .normal ⟨V lst,σ'⟩→Lift fx m0 X en w0 Q .normal (ac.put o.dst c) w':=by
   intro m' w' σ' c hh hst hle hQ
   have hdo:KA fx.vars o.dst=none:=by rw[← hdst];exact hdn
   exact ⟨⟨V lst,σ'⟩,m',hQ,SRel.put_dst hdo (hs.of_heap hh hst hle),hst0.trans (hst1.trans (hst.less hs.base))⟩
  have hop:=hcl
  have hrg:=hK
  generalize has:i0.args.map (WY (V lst) ((List.range lst).map r))=as_ at hrg
  cases as_ with
  | nil=>exact hrg.elim
  | cons fv as_ =>
  dsimp only at hrg
  obtain ⟨f,args,at_,hop',hargs,_,_⟩:=DR hi hop
  rw[hargs] at has
  have hrel:=UT hs.heap.gl hs.vars ht (f::args.toList)
  rw[has] at hrel
  obtain ⟨fc,us,he,hfv,hrest⟩:=hrel.cons
  simp only[Q0,List.cons.injEq] at he
  obtain ⟨rfl,rfl⟩:=he
  have hnd:∀ c,o.op≠.defer c:=by rw[hop'];simp
  rw[Oper.semAt_eq _ _ _ hnd]
  have hex:execOp ac.eval o=(do let d ← resolve ac.eval { callee:=.value f,args,argTypes:=at_ } o.type;invoke d.target d.args):=by
   simp only[execOp,hop']
  rw[hex]
  unfold X0 at hrg
  split at hrg
  ·rename_i g cap
   simp only[VRel] at hfv
   obtain ⟨vs,hfe,hcap⟩:=hfv
   have hrun:(do let d ← resolve ac.eval { callee:=.value f,args,argTypes:=at_ } o.type;invoke d.target d.args:Sem Next).run P w=.ok (.enter g ((args.toList.map ac.eval)++vs).toArray) w:=by
    simp only[resolve,hfe,Deferred.ofValue,Sem.run_bind,Sem.run_pure,Result.andThen_ok,invoke]
    rw[hrg.1]
    congr 2
    apply Array.ext';simp
   rw[hrun]
   refine ⟨by simp[wfen,Fence.wide],?_⟩
   have hcall:=hrg.2 m X w _ (QK.append hrest hcap) hs.heap
   refine CallsIn.mono (F:=wfen (fx.r.bind m0)) (n:=0) hcall ?_
   rintro e w' ⟨c,r,σ',m',rfl,hq,hv,hh,hst,hle⟩
   exact next m' w' σ' c hh hst hle hq
  ·rename_i g first
   simp only[VRel] at hfv
   obtain ⟨vs,hfe,hcap⟩:=hfv
   have hrun:(do let d ← resolve ac.eval { callee:=.value f,args,argTypes:=at_ } o.type;invoke d.target d.args:Sem Next).run P w=.ok (.enter g (vs++(args.toList.map ac.eval)).toArray) w:=by
    simp only[resolve,hfe,Deferred.ofValue,Sem.run_bind,Sem.run_pure,Result.andThen_ok,invoke]
    rw[hrg.1]
    congr 2
    apply Array.ext';simp
   rw[hrun]
   refine ⟨by simp[wfen,Fence.wide],?_⟩
   have hcall:=hrg.2 m X w _ (QK.append hcap hrest) hs.heap
   refine CallsIn.mono (F:=wfen (fx.r.bind m0)) (n:=0) hcall ?_
   rintro e w' ⟨c,r,σ',m',rfl,hq,hv,hh,hst,hle⟩
   exact next m' w' σ' c hh hst hle hq
  ·rename_i l
   simp only[VRel] at hfv
   obtain ⟨b,hb,hfe⟩:=hfv
   obtain ⟨L,hL,hsz,hround⟩:=hrg m X w _ b hb hrest hs.heap
   have hrun:(do let d ← resolve ac.eval { callee:=.value f,args,argTypes:=at_ } o.type;invoke d.target d.args:Sem Next).run P w=.ok (.round b L.fn ((L.params.zip (args.toList.map ac.eval).toArray).foldl (fun tmps (t,a)=>tmps.setIfInBounds t a) L.tmps) L.assign L.body) w:=by
    simp only[resolve,hfe,Deferred.ofValue,Sem.run_bind,Sem.run_pure,Result.andThen_ok,invoke]
    have e:#[]++args.map ac.eval=(args.toList.map ac.eval).toArray:=by apply Array.ext';simp
    rw[e]
    exact run_yield hL (by simpa using hsz)
   rw[hrun]
   refine ⟨by simp[wfen,Fence.wide],?_⟩
   refine RoundIn.mono (F:=wfen (fx.r.bind m0)) (n:=0) hround ?_
   rintro e w' ⟨c,r,σ',m',rfl,hq,hv,hh,hst,hle⟩
   exact next m' w' σ' c hh hst hle hq
  ·exact hrg.elim
theorem SW_drawL {dirs:List (List Nat)} {is:List Ins} {i0:Ins} (kp:List Nat) (xs:List (Nat × Nat)) (hmix:P.follows .mixedOrders=true) {lst:Nat} (hlst:lst+1=dirs.length) (hlast:is[lst]? = some i0) (hcl:i0.op=.call) (hgn:i0.gd=none) (hdn:i0.dst=none)
  (hord:RQ dirs (is.dropLast++[mvI]) (Qbd dirs []) kp xs=true) (hall:(List.range lst).all (fun k=>(pdAt (Qbd dirs []) lst).contains k)=true) (hvl:s.vals.length=fx.vars.length)
  (h:RSx P kp xs 0 (is.dropLast++[mvI]) [] [] s.vals [] s.heap (fun vals ρ σ=>match i0.args.map (WY vals ρ.dropLast) with | fv::as_=>X0 P fv as_ σ (fun _ σ'=>Q .normal ⟨vals,σ'⟩) | []=>False) .mk .mk):SW P fx (.dr dirs is) s Q:=by
 intro c
 induction c with
 | region id ops dr =>
  intro hc
  cases dr with
  | false=>simp[QL,IC.dr] at hc
  | true =>
   simp only[QL,IC.dr,QA] at hc
   obtain ⟨is',his,he⟩:=hc
   cases he
   have hl:(UU ops).length=ops.size:=by simp[UU]
   exact W_region_drawL _ kp xs hmix his (by rw[← hl];exact hlst) hlast hcl hgn hdn (AA hord) (fun k hk=>by
    have:=Q1.1 hall k (by simpa using hk)
    simpa using this) hvl (EV _ _ _ _ _ _ _ _ _ _ h)
 | cond o x y ihx ihy =>
  intro hc
  cases o with
  | const v =>
   cases v <;> simp only[QL,reduceCtorEq] at hc
   rename_i t
   cases t with
   | true=>simp only[if_true] at hc;exact XD (ihx hc)
   | false=>simp only[QT,if_false] at hc;exact XD (ihy hc)
  | tmp u =>
   simp only[QL,QB,QA] at hc
   obtain ⟨_,_,_,_,_,_,he⟩:=hc
   cases he
  | global g=>simp[QL] at hc
  | func f=>simp[QL] at hc
 | seq x y _ _ =>
  intro hc
  simp only[QL,QB,QA] at hc
  obtain ⟨_,_,_,_,he⟩:=hc
  cases he
 | rangeFunc g ps assign body _ _ =>
  intro hc
  simp only[QL,QB,QA] at hc
  obtain ⟨_,_,_,_,he⟩:=hc
  cases he
 | skip=>intro hc;simp[QL,IC.dr] at hc
 | label l=>intro hc;simp[QL,IC.dr] at hc
 | exit i=>intro hc;simp[QL,IC.dr] at hc
 | ret=>intro hc;simp[QL,IC.dr] at hc
 | block i a _=>intro hc;simp[QL,IC.dr] at hc
 | loop a _=>intro hc;simp[QL,IC.dr] at hc
 | scope a _=>intro hc;simp[QL,IC.dr] at hc
 | goto l=>intro hc;simp[QL,IC.dr] at hc
 | refuse r=>intro hc;simp[QL,IC.dr] at hc
end
end Go.Proofs.YtfnhbbohjnjfnaaGreat.AM
namespace Go.Proofs.YtfnhbbohjnjfnaaGreat.AM
variable [Dr]
open Go Go.Proofs.YtfnhbbohjnjfnaaGreat.Qu Pl
def regOps:Code→Array Oper
 | .region _ ops _=>ops
 | _=>#[]
def Qba (c:Code) (i:Nat):Oper:=(regOps c)[i]?.getD default
abbrev errP (e:Int):PanicEntry:={ v:=.iface 26 (.int .i64 e),recovered:=false }
theorem hb79':Tryz.f79.body=some (Tryz.f79.body.getD .skip):=by kernel_rfl
theorem sh79:(Tryz.f79.body.getD .skip)=.seq (nav [0] (Tryz.f79.body.getD .skip)) (.cond (.tmp 5) (.region 1 #[Qba (nav [1,0] (Tryz.f79.body.getD .skip)) 0,Qba (nav [1,0] (Tryz.f79.body.getD .skip)) 1,Qba (nav [1,0] (Tryz.f79.body.getD .skip)) 2] false) .skip):=by kernel_rfl
theorem n79:Tryz.f79.ntmps=8:=by kernel_rfl
theorem en79:PI Tryz.prog 79:=RE Tryz.func79 (by kernel_rfl) hb79'
def ic79a:IC:=.region [⟨none,none,.prim .mv,[.v 0]⟩,⟨some 2,none,.prim .not,[.t 0]⟩]
theorem cc79a:QL Tryz.prog [0,1,5] 8 (nav [0] (Tryz.f79.body.getD .skip))=some ic79a:=by kernel_rfl
theorem must_t (e:Int) (σ:List AObj):AC Tryz.prog 79 [.b true,.i e] σ fun r τ=>r=.tup []∧τ=σ:=by
 refine ZF (fok79 true) (QC rfl) ?_
 simp only[ic79,evA,simprocAttr]
theorem must_p (e:Int) (σ:List AObj):ACp Tryz.prog 79 [.b false,.i e] σ [errP e] fun τ=>τ=σ:=by
 refine QcS (vars:=[0,1,5]) Tryz.func79 hb79' en79 (QC (by kernel_rfl)) ?_
 rw[n79,sh79]
 refine QcO (W.mono (Y6 _ ic79a _ _ cc79a (VT _ _ (fun x s'=>x=.normal∧s'=⟨[.b false,.i e,.b true],σ⟩) .mk .mk ?_)) ?_)
 ·simp only[ic79a,evA,simprocAttr]
 rintro x s' ⟨rfl,rfl⟩
 refine QbN (i:=2) (b:=true) rfl rfl ?_
 simp only[if_true]
 intro m X en ac w hs hr
 have hsz:=hs.size
 have hv1:=hs.vars 1 1 rfl
 have g0:(Qba (nav [1,0] (Tryz.f79.body.getD .skip)) 0).op=.move (.tmp 1)∧(Qba (nav [1,0] (Tryz.f79.body.getD .skip)) 0).dst=some 6∧(Qba (nav [1,0] (Tryz.f79.body.getD .skip)) 0).guard=none:=⟨by kernel_rfl,by kernel_rfl,by kernel_rfl⟩
 have g1:(Qba (nav [1,0] (Tryz.f79.body.getD .skip)) 1).op=.makeInterface 26 (.tmp 6)∧(Qba (nav [1,0] (Tryz.f79.body.getD .skip)) 1).dst=some 7∧(Qba (nav [1,0] (Tryz.f79.body.getD .skip)) 1).guard=none:=⟨by kernel_rfl,by kernel_rfl,by kernel_rfl⟩
 have g2:(Qba (nav [1,0] (Tryz.f79.body.getD .skip)) 2).op=.panic (.tmp 7)∧(Qba (nav [1,0] (Tryz.f79.body.getD .skip)) 2).dst=none∧(Qba (nav [1,0] (Tryz.f79.body.getD .skip)) 2).guard=none:=⟨by kernel_rfl,by kernel_rfl,by kernel_rfl⟩
 generalize (Qba (nav [1,0] (Tryz.f79.body.getD .skip)) 0)=o0 at g0
 generalize (Qba (nav [1,0] (Tryz.f79.body.getD .skip)) 1)=o1 at g1
 generalize (Qba (nav [1,0] (Tryz.f79.body.getD .skip)) 2)=o2 at g2
 have hv1':ac.tmps.getD 1 undef=.int .i64 e:=by
  have:VRel m X w (.i e) (ac.tmps.getD 1 undef):=hv1
  simpa[VRel,CV.rep] using this
 refine wpIn_region ?_
 show wpOpsIn (wfen none) 0 Tryz.prog #[o0,o1,o2] _ [0,1,2] ac w
 refine PQ (o:=o0) (v:=.int .i64 e) (w':=w) rfl g0.2.2 (by rw[g0.1];simp) (by simp[execOp,g0.1,Act.eval,hv1']) ?_
 rw[g0.2.1]
 have hev6:(ac.put (some 6) (.int .i64 e)).eval (.tmp 6)=.int .i64 e:=by
  have hsz':ac.tmps.size=8:=hsz
  simp[Act.eval,Act.put,QV,hsz']
 refine PQ (o:=o1) (v:=.iface 26 (.int .i64 e)) (w':=w) rfl g1.2.2 (by rw[g1.1];simp) (by simp[execOp,g1.1,hev6,Instr.makeInterface]) ?_
 rw[g1.2.1]
 have hw:Region.wanted o2 (yielded #[o0,o1,o2] ((ac.put (some 6) (.int .i64 e)).put (some 7) (.iface 26 (.int .i64 e))).tmps)=true:=by simp[Region.wanted,g2.2.2]
 have ho2:(#[o0,o1,o2]:Array Oper)[2]? = some o2:=rfl
 have hev:((ac.put (some 6) (.int .i64 e)).put (some 7) (.iface 26 (.int .i64 e))).eval (.tmp 7)=.iface 26 (.int .i64 e):=by
  have hsz':ac.tmps.size=8:=hsz
  simp[Act.eval,Act.put,QV,hsz']
 simp only[wpOpsIn,ho2,hw,if_true]
 refine ⟨fun _ _=>trivial,?_⟩
 have hrun:(o2.semAt (wfen none).round ((ac.put (some 6) (.int .i64 e)).put (some 7) (.iface 26 (.int .i64 e))).eval).run Tryz.prog w=.halt (.panic (.iface 26 (.int .i64 e))) w:=by
  show (o2.semAt none _).run Tryz.prog w=_
  rw[Oper.semAt_none]
  simp only[execOp,g2.1,hev]
  rfl
 rw[hrun,Oper.uponIn_panic]
 exact ⟨⟨[.b false,.i e,.b true],σ⟩,m,⟨rfl,rfl⟩,SRel.put_other (t:=7) (show (7:Nat)∉[0,1,5] by decide) (SRel.put_other (t:=6) (show (6:Nat)∉[0,1,5] by decide) hs),Step.refl _ _ _ _⟩
theorem hb78:Tryz.f78.body=some (Tryz.f78.body.getD .skip):=by kernel_rfl
theorem en78:PI Tryz.prog 78:=RE Tryz.func78 (by kernel_rfl) hb78
theorem sh78:(Tryz.f78.body.getD .skip)=.seq (.region 0 #[Qba (nav [0] (Tryz.f78.body.getD .skip)) 0,Qba (nav [0] (Tryz.f78.body.getD .skip)) 1] false) (.seq (.region 1 #[Qba (nav [1,0] (Tryz.f78.body.getD .skip)) 0,Qba (nav [1,0] (Tryz.f78.body.getD .skip)) 1] false) (.cond (.tmp 4) (.region 2 #[Qba (nav [1,1,0] (Tryz.f78.body.getD .skip)) 0,Qba (nav [1,1,0] (Tryz.f78.body.getD .skip)) 1,Qba (nav [1,1,0] (Tryz.f78.body.getD .skip)) 2] false) .skip)):=by kernel_rfl
theorem n78:Tryz.f78.ntmps=7:=by kernel_rfl
theorem rs78:Tryz.f78.results = #[]:=by kernel_rfl
theorem neq_err (n:Int) {o:Oper} (ho:o.op=.binOp .neq 20 (.tmp 3) (.const .nilIface) 20) {ρ:Operand→Value} (h4:ρ (.tmp 3)=.iface 26 (.int .i64 n)) (hc:ρ (.const .nilIface)=.nilIface) (w:World):(execOp ρ o).run Tryz.prog w=.ok (.value (.bool true)) w:=by
 simp only[execOp,ho,h4,hc]
 kernel_rfl
theorem neq_nil {o:Oper} (ho:o.op=.binOp .neq 20 (.tmp 3) (.const .nilIface) 20) {ρ:Operand→Value} (h4:ρ (.tmp 3)=.nilIface) (hc:ρ (.const .nilIface)=.nilIface) (w:World):(execOp ρ o).run Tryz.prog w=.ok (.value (.bool false)) w:=by
 simp only[execOp,ho,h4,hc]
 kernel_rfl
theorem as_err (n:Int) (w:World):(Instr.typeAssert (.iface 26 (.int .i64 n)) 20 26 false).run Tryz.prog w=.ok (.int .i64 n) w:=by kernel_rfl
theorem prim_same {P:Program} {m:LM} {X:Nat→Prop} {σ σ':List AObj} {w:World} {cm:Bool} {o:Oper} {io:IOp} {os:List Operand} {ρ:Operand→Value} {avs:List AV} {r:AV} (hc:TV P cm o=some (io,os)) (h:HRel m X σ w) (ha:QK m X w avs (os.map ρ)) (hs:ZQ io avs σ=some (r,σ')) (hl:σ'.length=σ.length) :
  ∃ nx w',(execOp ρ o).run P w=.ok nx w'∧((∃ v,nx=.value v∧VRel m X w' r v)∨(nx=.skip∧r=.undef))∧HRel m X σ' w'∧Step σ.length m X w m w':=by
 obtain ⟨nx,w2,m2,hrun,hres2,hh2,hst2⟩:=FV hc h ha hs
 have hm2:m2=m:=by
  funext l'
  by_cases hl':l'<σ.length
  ·exact hst2.keep l' hl'
  ·have e1:m l'=none:=by
    cases hml:m l' with
    | none=>rfl
    | some b'=>exact absurd (h.dom l' b' hml).1 hl'
   have e2:m2 l'=none:=by
    cases hml:m2 l' with
    | none=>rfl
    | some b'=>exact absurd (hl ▸ (hh2.dom l' b' hml).1) hl'
   rw[e1,e2]
 subst hm2
 exact ⟨nx,w2,hrun,hres2,hh2,hst2⟩
theorem d78r (a:Nat) (σ:List AObj):ACd Tryz.prog 78 [.ptr a 0] .returning σ fun τ=>τ=σ:=by
 refine ⟨en78,fun m X w cargs ha hh=>?_⟩
 obtain ⟨x,us,rfl,h1,k1⟩:=ha.cons
 have:=QK.nil' k1
 subst this
 refine callsDIn_of_wpSIn Tryz.func78 hb78 trivial fun c₀ cs hu=>?_
 rw[sh78,n78]
 have g0:(Qba (nav [0] (Tryz.f78.body.getD .skip)) 0).op=.call { callee:=.builtin .recover,args:=#[],argTypes:=#[] }∧(Qba (nav [0] (Tryz.f78.body.getD .skip)) 0).dst=some 2∧(Qba (nav [0] (Tryz.f78.body.getD .skip)) 0).guard=none:=⟨by kernel_rfl,by kernel_rfl,by kernel_rfl⟩
 have g1:(Qba (nav [0] (Tryz.f78.body.getD .skip)) 1).op=.assign (.tmp 2)∧(Qba (nav [0] (Tryz.f78.body.getD .skip)) 1).dst=some 1∧(Qba (nav [0] (Tryz.f78.body.getD .skip)) 1).guard=none:=⟨by kernel_rfl,by kernel_rfl,by kernel_rfl⟩
 have g2:(Qba (nav [1,0] (Tryz.f78.body.getD .skip)) 0).op=.move (.tmp 1)∧(Qba (nav [1,0] (Tryz.f78.body.getD .skip)) 0).dst=some 3∧(Qba (nav [1,0] (Tryz.f78.body.getD .skip)) 0).guard=none:=⟨by kernel_rfl,by kernel_rfl,by kernel_rfl⟩
 have g3:(Qba (nav [1,0] (Tryz.f78.body.getD .skip)) 1).op=.binOp .neq 20 (.tmp 3) (.const .nilIface) 20∧(Qba (nav [1,0] (Tryz.f78.body.getD .skip)) 1).dst=some 4∧(Qba (nav [1,0] (Tryz.f78.body.getD .skip)) 1).guard=none:=⟨by kernel_rfl,by kernel_rfl,by kernel_rfl⟩
 generalize (Qba (nav [0] (Tryz.f78.body.getD .skip)) 0)=o0 at g0
 generalize (Qba (nav [0] (Tryz.f78.body.getD .skip)) 1)=o1 at g1
 generalize (Qba (nav [1,0] (Tryz.f78.body.getD .skip)) 0)=o2 at g2
 generalize (Qba (nav [1,0] (Tryz.f78.body.getD .skip)) 1)=o3 at g3
 refine wpSIn_seq (wpSIn_region ?_)
 show wpOpsSIn Fence.wide 0 Tryz.prog #[o0,o1] _ [0,1] _ (c₀::cs) w
 have hrec:∀ (ac:Act),(execOp ac.eval o0).run Tryz.prog w=.ok .recover w:=fun ac=>by simp only[execOp,g0.1];rfl
 have hro:recoverD (c₀::cs)=none:=by simp[recoverD,hu]
 simp only[wpOpsSIn,show (#[o0,o1]:Array Oper)[0]? = some o0 from rfl,show (#[o0,o1]:Array Oper)[1]? = some o1 from rfl,show ∀ q,Region.wanted o0 q=true from fun q=>by simp[Region.wanted,g0],show ∀ q,Region.wanted o1 q=true from fun q=>by simp[Region.wanted,g1],if_true,hrec,hro,g0.2.1]
 have hasg:∀ (ac:Act) (w:World),(execOp ac.eval o1).run Tryz.prog w=.ok (.value (ac.eval (.tmp 2))) w:=fun ac w=>by simp[execOp,g1.1]
 simp only[hasg,g1.2.1,Exit.thenS]
 refine ⟨fun _ _=>trivial,fun _ _=>trivial,?_⟩
 refine wpSIn_seq (wpSIn_region ?_)
 show wpOpsSIn Fence.wide 0 Tryz.prog #[o2,o3] _ [0,1] _ (c₀::cs) w
 have hmv:∀ (ac:Act) (w:World),(execOp ac.eval o2).run Tryz.prog w=.ok (.value (ac.eval (.tmp 1))) w:=fun ac w=>by simp[execOp,g2.1]
 have hne:∀ (ac:Act),ac.eval (.tmp 3)=.nilIface→∀ w,(execOp ac.eval o3).run Tryz.prog w=.ok (.value (.bool false)) w:=fun ac h w=>neq_nil g3.1 h rfl w
 simp only[wpOpsSIn,show (#[o2,o3]:Array Oper)[0]? = some o2 from rfl,show (#[o2,o3]:Array Oper)[1]? = some o3 from rfl,show ∀ q,Region.wanted o2 q=true from fun q=>by simp[Region.wanted,g2],show ∀ q,Region.wanted o3 q=true from fun q=>by simp[Region.wanted,g3],if_true,hmv,g2.2.1]
 rw[hne _ (by simp[Act.eval,Act.put])]
 simp only[g3.2.1,Exit.thenS]
 refine ⟨fun _ _=>trivial,fun _ _=>trivial,?_⟩
 refine wpSIn_cond (t:=false) (by simp[Act.eval,Act.put]) ?_
 simp only[QT,if_false]
 refine wpSIn_of_wpIn rfl (wpIn_skip ?_)
 refine ⟨rfl,.returning,by rw[← hu],.tuple #[],by simp[results,rs78],⟨_,rfl⟩,rfl,σ,m,rfl,hh,Step.refl _ _ _ _,QG _⟩
theorem d78p {a:Nat} {x0:AV} {σ:List AObj} {n:Int} (ha0:σ[a]? = some (.cells [x0])) :
  ACd Tryz.prog 78 [.ptr a 0] (.panicking [errP n]) σ fun τ=>τ=σ.set a (.cells [.i n]):=by
 refine ⟨en78,fun m X w cargs ha hh=>?_⟩
 obtain ⟨x,us,rfl,h1,k1⟩:=ha.cons
 have:=QK.nil' k1
 subst this
 refine callsDIn_of_wpSIn Tryz.func78 hb78 trivial fun c₀ cs hu=>?_
 rw[sh78,n78]
 have g0:(Qba (nav [0] (Tryz.f78.body.getD .skip)) 0).op=.call { callee:=.builtin .recover,args:=#[],argTypes:=#[] }∧(Qba (nav [0] (Tryz.f78.body.getD .skip)) 0).dst=some 2∧(Qba (nav [0] (Tryz.f78.body.getD .skip)) 0).guard=none:=⟨by kernel_rfl,by kernel_rfl,by kernel_rfl⟩
 have g1:(Qba (nav [0] (Tryz.f78.body.getD .skip)) 1).op=.assign (.tmp 2)∧(Qba (nav [0] (Tryz.f78.body.getD .skip)) 1).dst=some 1∧(Qba (nav [0] (Tryz.f78.body.getD .skip)) 1).guard=none:=⟨by kernel_rfl,by kernel_rfl,by kernel_rfl⟩
 have g2:(Qba (nav [1,0] (Tryz.f78.body.getD .skip)) 0).op=.move (.tmp 1)∧(Qba (nav [1,0] (Tryz.f78.body.getD .skip)) 0).dst=some 3∧(Qba (nav [1,0] (Tryz.f78.body.getD .skip)) 0).guard=none:=⟨by kernel_rfl,by kernel_rfl,by kernel_rfl⟩
 have g3:(Qba (nav [1,0] (Tryz.f78.body.getD .skip)) 1).op=.binOp .neq 20 (.tmp 3) (.const .nilIface) 20∧(Qba (nav [1,0] (Tryz.f78.body.getD .skip)) 1).dst=some 4∧(Qba (nav [1,0] (Tryz.f78.body.getD .skip)) 1).guard=none:=⟨by kernel_rfl,by kernel_rfl,by kernel_rfl⟩
 have g4:(Qba (nav [1,1,0] (Tryz.f78.body.getD .skip)) 0).op=.move (.tmp 1)∧(Qba (nav [1,1,0] (Tryz.f78.body.getD .skip)) 0).dst=some 5∧(Qba (nav [1,1,0] (Tryz.f78.body.getD .skip)) 0).guard=none:=⟨by kernel_rfl,by kernel_rfl,by kernel_rfl⟩
 have g5:(Qba (nav [1,1,0] (Tryz.f78.body.getD .skip)) 1).op=.typeAssert (.tmp 5) 20 26 false∧(Qba (nav [1,1,0] (Tryz.f78.body.getD .skip)) 1).dst=some 6∧(Qba (nav [1,1,0] (Tryz.f78.body.getD .skip)) 1).guard=none:=⟨by kernel_rfl,by kernel_rfl,by kernel_rfl⟩
 have g6:(Qba (nav [1,1,0] (Tryz.f78.body.getD .skip)) 2).op=.store 26 (.tmp 0) (.tmp 6)∧(Qba (nav [1,1,0] (Tryz.f78.body.getD .skip)) 2).dst=none∧(Qba (nav [1,1,0] (Tryz.f78.body.getD .skip)) 2).guard=none:=⟨by kernel_rfl,by kernel_rfl,by kernel_rfl⟩
 have q6:TV Tryz.prog false (Qba (nav [1,1,0] (Tryz.f78.body.getD .skip)) 2)=some (.store 1,[.tmp 0,.tmp 6]):=by kernel_rfl
 generalize (Qba (nav [0] (Tryz.f78.body.getD .skip)) 0)=o0 at g0
 generalize (Qba (nav [0] (Tryz.f78.body.getD .skip)) 1)=o1 at g1
 generalize (Qba (nav [1,0] (Tryz.f78.body.getD .skip)) 0)=o2 at g2
 generalize (Qba (nav [1,0] (Tryz.f78.body.getD .skip)) 1)=o3 at g3
 generalize (Qba (nav [1,1,0] (Tryz.f78.body.getD .skip)) 0)=o4 at g4
 generalize (Qba (nav [1,1,0] (Tryz.f78.body.getD .skip)) 1)=o5 at g5
 generalize (Qba (nav [1,1,0] (Tryz.f78.body.getD .skip)) 2)=o6 at g6 q6
 refine wpSIn_seq (wpSIn_region ?_)
 show wpOpsSIn Fence.wide 0 Tryz.prog #[o0,o1] _ [0,1] _ (c₀::cs) w
 have hrec:∀ (ac:Act),(execOp ac.eval o0).run Tryz.prog w=.ok .recover w:=fun ac=>by simp only[execOp,g0.1];rfl
 have hro:recoverD (c₀::cs)=some (.iface 26 (.int .i64 n),{ c₀ with mode:=.panicking [{ v:=.iface 26 (.int .i64 n),recovered:=true }] }::cs):=by simp[recoverD,hu]
 simp only[wpOpsSIn,show (#[o0,o1]:Array Oper)[0]? = some o0 from rfl,show (#[o0,o1]:Array Oper)[1]? = some o1 from rfl,show ∀ q,Region.wanted o0 q=true from fun q=>by simp[Region.wanted,g0],show ∀ q,Region.wanted o1 q=true from fun q=>by simp[Region.wanted,g1],if_true,hrec,hro,g0.2.1]
 have hasg:∀ (ac:Act) (w:World),(execOp ac.eval o1).run Tryz.prog w=.ok (.value (ac.eval (.tmp 2))) w:=fun ac w=>by simp[execOp,g1.1]
 simp only[hasg,g1.2.1,Exit.thenS]
 refine ⟨fun _ _=>trivial,fun _ _=>trivial,?_⟩
 refine wpSIn_seq (wpSIn_region ?_)
 show wpOpsSIn Fence.wide 0 Tryz.prog #[o2,o3] _ [0,1] _ _ w
 have hmv:∀ (ac:Act) (w:World),(execOp ac.eval o2).run Tryz.prog w=.ok (.value (ac.eval (.tmp 1))) w:=fun ac w=>by simp[execOp,g2.1]
 have hne:∀ (ac:Act),ac.eval (.tmp 3)=.iface 26 (.int .i64 n)→∀ w,(execOp ac.eval o3).run Tryz.prog w=.ok (.value (.bool true)) w:=fun ac h w=>neq_err n g3.1 h rfl w
 simp only[wpOpsSIn,show (#[o2,o3]:Array Oper)[0]? = some o2 from rfl,show (#[o2,o3]:Array Oper)[1]? = some o3 from rfl,show ∀ q,Region.wanted o2 q=true from fun q=>by simp[Region.wanted,g2],show ∀ q,Region.wanted o3 q=true from fun q=>by simp[Region.wanted,g3],if_true,hmv,g2.2.1]
 rw[hne _ (by simp[Act.eval,Act.put])]
 simp only[g3.2.1,Exit.thenS]
 refine ⟨fun _ _=>trivial,fun _ _=>trivial,?_⟩
 refine wpSIn_cond (t:=true) (by simp[Act.eval,Act.put]) ?_
 simp only[if_true]
 generalize hac:(((((({ tmps:=#[x]++Array.replicate (7 - #[x].size) undef,defers:=[] }:Act).put (some 2) (.iface 26 (.int .i64 n))).put (some 1) _).put (some 3) _).put (some 4) _))=ac0
 have e0:ac0.tmps.size=7∧ac0.defers=[]∧ac0.tmps.getD 0 undef=x∧ac0.tmps.getD 1 undef=.iface 26 (.int .i64 n):=by
  rw[← hac]
  simp[Act.put,Act.eval]
 clear hac
 have hsa:a<σ.length:=(QH.1 ha0).1
 refine wpSIn_of_wpIn rfl (wpIn_region ?_)
 show wpOpsIn (wfen none) 0 Tryz.prog #[o4,o5,o6] _ [0,1,2] ac0 w
 refine PQ (o:=o4) (v:=.iface 26 (.int .i64 n)) (w':=w) rfl g4.2.2 (by rw[g4.1];simp) (by simp[execOp,g4.1,Act.eval,e0.2.2.2]) ?_
 rw[g4.2.1]
 have hev5:(ac0.put (some 5) (.iface 26 (.int .i64 n))).eval (.tmp 5)=.iface 26 (.int .i64 n):=by
  simp[Act.eval,Act.put,QV,e0.1]
 refine PQ (o:=o5) (v:=.int .i64 n) (w':=w) rfl g5.2.2 (by rw[g5.1];simp) (by simp only[execOp,g5.1,hev5];simp only[Sem.run_bind,as_err,Result.andThen_ok,Sem.run_pure]) ?_
 rw[g5.2.1]
 have hev6:((ac0.put (some 5) (.iface 26 (.int .i64 n))).put (some 6) (.int .i64 n)).eval (.tmp 6)=.int .i64 n:=by
  simp[Act.eval,Act.put,QV,e0.1]
 have hev0:((ac0.put (some 5) (.iface 26 (.int .i64 n))).put (some 6) (.int .i64 n)).eval (.tmp 0)=x:=by
  have h0:=e0.2.2.1
  rw[QV] at h0
  simpa[Act.eval,Act.put,QV] using h0
 have hdf:((ac0.put (some 5) (.iface 26 (.int .i64 n))).put (some 6) (.int .i64 n)).defers=[]:=by simp[Act.put,e0.2.1]
 generalize ((ac0.put (some 5) (.iface 26 (.int .i64 n))).put (some 6) (.int .i64 n))=ac1 at *
 have hev:QK m X w [.ptr a 0,.i n] (([.tmp 0,.tmp 6]:List Operand).map ac1.eval):=by
  simp only[Q0,WS,QK]
  refine ⟨?_,?_,trivial⟩
  ·rw[hev0];simpa only[VRel] using h1
  ·rw[hev6];simp[VRel,CV.rep]
 have hstep:ZQ (.store 1) [.ptr a 0,.i n] σ=some (.undef,σ.set a (.cells [.i n])):=by
  have hrw:rowOf σ a=some [x0]:=by simp[rowOf,ha0]
  simp[ZQ,UM,hrw,cellsOf,setRange,AV.isSc]
 obtain ⟨nx,w2,hrun,hres2,hh2,hst2⟩:=prim_same q6 hh hev hstep (by simp)
 have fin:∀ v:Value,(ac1.put o6.dst v).defers=[]:=fun v=>by rw[g6.2.1];exact hdf
 rcases hres2 with ⟨c,rfl,hv⟩ | ⟨rfl,hu'⟩
 ·refine wp_op1 (i:=2) (o:=o6) rfl g6.2.2 (by rw[g6.1];simp) (.inl hrun) ?_
  simp only[wpOpsIn]
  exact ⟨fin _,.panicking [{ v:=.iface 26 (.int .i64 n),recovered:=true }],rfl,.tuple #[],by simp[results,rs78],⟨_,rfl⟩,rfl,σ.set a (.cells [.i n]),m,rfl,hh2,hst2,by simp⟩
 ·refine wp_op1 (i:=2) (o:=o6) (v:=undef) rfl g6.2.2 (by rw[g6.1];simp) (.inr ⟨hrun,rfl⟩) ?_
  simp only[wpOpsIn]
  exact ⟨fin _,.panicking [{ v:=.iface 26 (.int .i64 n),recovered:=true }],rfl,.tuple #[],by simp[results,rs78],⟨_,rfl⟩,rfl,σ.set a (.cells [.i n]),m,rfl,hh2,hst2,by simp⟩
theorem W_IS {P:Program} {fx:Fx} {c:Code} {ic:IC} {s:St} {Q:Exit→St→Prop} (hc:QL P fx.vars fx.N c=some ic) (h:IS P fx ic s Q .mk .mk):W P fx c s Q:=Y6 c ic s Q hc (VT _ _ _ _ _ h)
theorem hb47:Tryz.f47.body=some (Tryz.f47.body.getD .skip):=by kernel_rfl
theorem en47:PI Tryz.prog 47:=RE Tryz.func47 (by kernel_rfl) hb47
theorem n47:Tryz.f47.ntmps=6:=by kernel_rfl
theorem sh47:(Tryz.f47.body.getD .skip)=.seq (nav [0] (Tryz.f47.body.getD .skip)) (.seq (.region 1 #[Qba (nav [1,0] (Tryz.f47.body.getD .skip)) 0,Qba (nav [1,0] (Tryz.f47.body.getD .skip)) 1] false) (.seq (nav [1,1,0] (Tryz.f47.body.getD .skip)) (nav [1,1,1] (Tryz.f47.body.getD .skip)))):=by kernel_rfl
abbrev vs47:List Nat:=[0,2]
def ic47a:IC:=.region [⟨some 1,none,.prim (.alloc [.cv (.int .i64 0)]),[]⟩]
def ic47b:IC:=.region [⟨none,none,.prim .mv,[.v 0]⟩,⟨none,none,.call,[.t 0]⟩]
def ic47c:IC:=.seq (.region [⟨none,none,.prim (.store 1),[.v 1,.c (.cv (.int .i64 0))]⟩]) .ret
theorem cc47a:QL Tryz.prog vs47 6 (nav [0] (Tryz.f47.body.getD .skip))=some ic47a:=by kernel_rfl
theorem cc47b:QL Tryz.prog vs47 6 (nav [1,1,0] (Tryz.f47.body.getD .skip))=some ic47b:=by kernel_rfl
theorem cc47c:QL Tryz.prog vs47 6 (nav [1,1,1] (Tryz.f47.body.getD .skip))=some ic47c:=by kernel_rfl
theorem rs47 {v:AV} {l:Nat} {x:AV} {σ:List AObj} (h:rowOf σ l=some [x]):UB Tryz.prog vs47 [v,.ptr l 0] σ Tryz.f47.results.toList=some x:=by
 rw[BY (rcs:=[.l1 1]) (by kernel_rfl)]
 simp[RL,resE,KZ,h]
theorem caught_t {g:Nat} {cap:List AV} {σ:List AObj} {Q:List AObj→Prop} (h:AC Tryz.prog g cap (σ++[.cells [.i 0]]) fun _ τ=>rowOf τ σ.length=some [.i 0]∧Q τ) :
  AC Tryz.prog 47 [.fn (.func g) cap] σ fun r τ=>r=.i 0∧Q τ:=by
 refine AC_FW (vars:=vs47) Tryz.func47 hb47 en47 (QC (by kernel_rfl)) ?_
 rw[sh47]
 refine FW_seq (WB.of (W.mono (W_IS (Q:=fun e s'=>e=.normal∧s'=⟨[.fn (.func g) cap,.ptr σ.length 0],σ++[.cells [.i 0]]⟩) (show QL _ vs47 Tryz.f47.ntmps _=_ by rw[n47];exact cc47a) ?_) ?_))
 ·simp only[ic47a,evA,simprocAttr]
 rintro _ _ ⟨rfl,rfl⟩
 simp only
 refine FW_defer (t:=3) (g:=78) (capt:=#[.tmp 2]) (at_:=#[]) ⟨by kernel_rfl,by kernel_rfl,by kernel_rfl⟩ ⟨by kernel_rfl,by kernel_rfl,by kernel_rfl⟩ (by decide) (QC (by kernel_rfl)) ?_
 refine WB_seq (WB.of (W.mono (W_IS (Q:=fun e s'=>e=.normal∧∃ τ,rowOf τ σ.length=some [.i 0]∧Q τ∧s'=⟨[.fn (.func g) cap,.ptr σ.length 0],τ⟩) (show QL _ vs47 Tryz.f47.ntmps _=_ by rw[n47];exact cc47b) ?_) ?_))
 ·simp only[ic47b,evA,simprocAttr]
  exact h.mono fun r τ ⟨h1,h2⟩=>⟨rfl,τ,h1,h2,rfl⟩
 rintro _ _ ⟨rfl,τ,h1,h2,rfl⟩
 simp only
 have hst:τ.set σ.length (.cells [.i 0])=τ:=by
  apply Z1
  intro l
  by_cases hl:σ.length=l
  ·subst hl
   have h3:=WO h1
   rw[Z2 (QH.1 h3).1,h3]
  ·rw[QU hl]
 refine WB.of (W.mono (W_IS (Q:=fun e s'=>e=.ret∧s'=⟨[.fn (.func g) cap,.ptr σ.length 0],τ⟩) (show QL _ vs47 Tryz.f47.ntmps _=_ by rw[n47];exact cc47c) ?_) ?_)
 ·simp only[ic47c,h1,hst,evA,simprocAttr]
 rintro _ _ ⟨rfl,rfl⟩
 simp only
 refine (d78r _ _).mono ?_
 rintro τ' rfl
 exact ⟨_,rs47 h1,rfl,h2⟩
theorem caught_p {g:Nat} {cap:List AV} {σ:List AObj} {e:Int} {Q:List AObj→Prop} (h:ACp Tryz.prog g cap (σ++[.cells [.i 0]]) [errP e] fun τ=>rowOf τ σ.length=some [.i 0]∧Q (τ.set σ.length (.cells [.i e]))) :
  AC Tryz.prog 47 [.fn (.func g) cap] σ fun r τ=>r=.i e∧Q τ:=by
 refine AC_FW (vars:=vs47) Tryz.func47 hb47 en47 (QC (by kernel_rfl)) ?_
 rw[sh47]
 refine FW_seq (WB.of (W.mono (W_IS (Q:=fun e s'=>e=.normal∧s'=⟨[.fn (.func g) cap,.ptr σ.length 0],σ++[.cells [.i 0]]⟩) (show QL _ vs47 Tryz.f47.ntmps _=_ by rw[n47];exact cc47a) ?_) ?_))
 ·simp only[ic47a,evA,simprocAttr]
 rintro _ _ ⟨rfl,rfl⟩
 simp only
 refine FW_defer (t:=3) (g:=78) (capt:=#[.tmp 2]) (at_:=#[]) ⟨by kernel_rfl,by kernel_rfl,by kernel_rfl⟩ ⟨by kernel_rfl,by kernel_rfl,by kernel_rfl⟩ (by decide) (QC (by kernel_rfl)) ?_
 refine WB_seq (WB.of (W.mono ((SW_regionP (ch:=[errP e]) (Q:=fun x s'=>x=.panic [errP e]∧∃ τ,rowOf τ σ.length=some [.i 0]∧Q (τ.set σ.length (.cells [.i e]))∧s'=⟨[.fn (.func g) cap,.ptr σ.length 0],τ⟩) ?_) _ (show QL _ vs47 Tryz.f47.ntmps _=_ by rw[n47];exact cc47b)) ?_))
 ·simp only[RGp,evA,simprocAttr]
  exact .inl (h.mono fun τ ⟨h1,h2⟩=>⟨τ,h1,h2,rfl⟩)
 rintro _ _ ⟨rfl,τ,h1,h2,rfl⟩
 simp only
 have h3:=WO h1
 refine (d78p h3).mono ?_
 rintro τ' rfl
 refine ⟨_,rs47 (x:=.i e) ?_,rfl,h2⟩
 unfold rowOf
 rw[Z2 (QH.1 h3).1]
end Go.Proofs.YtfnhbbohjnjfnaaGreat.AM
namespace Go.Proofs.YtfnhbbohjnjfnaaGreat.AM
variable [Dr]
open Go Go.Proofs.YtfnhbbohjnjfnaaGreat.Qu
theorem c14 (q:QL₀) (hq:QSz q) (i:Nat) (hi:i<q.ls.length):PC Tryz.prog 14 [qV q,.i i] (.i (leaE q i)):=by
 refine ⟨ZF (fok14 true) (QC rfl) ?_,rfl⟩
 have hcs:=hq.cs
 have hls:=hq.ls
 have hw:IntKind.i64.wrap ((q.cs.length:Int)-1)=(q.cs.length:Int)-1:=ZC (by omega)
 simp only[ic14,XP hi,lea_ld hi,evA,simprocAttr]
 refine (c42 _ (hq.lm i hi)).call frz ?_
 cases h1:JH (q.ls[i]!).nm
 ·simp only[leaE_name h1,evA,simprocAttr]
  exact frz
 simp only[evA,simprocAttr]
 refine ZW i (fun k s=>(∀ j,j<k→(q.ls[j]!).nm≠(q.ls[i]!).nm)∧∃ v6 v7 v8 v9 v10,s=⟨[qV q,.i i,.ptr 0 0,.i 0,.ptr 1 0,.i k,v6,v7,v8,v9,v10],[.cells [cenL q.cs,leaL q.ls],.cells [.cv (.str (q.ls[i]!).nm),.i (q.ls[i]!).si,.i (q.ls[i]!).ho,.i (q.ls[i]!).fa,ints (q.ls[i]!).wi]]⟩) ?_ 0 (QF _) ⟨by omega,_,_,_,_,_,rfl⟩
 rintro k s hk ⟨hall,v6,v7,v8,v9,v10,rfl⟩
 by_cases hki:k<i
 ·have hkl:k<q.ls.length:=by omega
  simp only[ic14l0,QJ,hki,evA,simprocAttr]
  refine DW_s [] [] hmix (by kernel_rfl) rfl ?_
  simp only[XP hkl,lea_0 hkl,binS,str_eq,evA,simprocAttr]
  by_cases he:(q.ls[k]!).nm=(q.ls[i]!).nm
  ·simp only[he,leaE_twice h1 hki he,evA,simprocAttr]
   exact frz
  ·simp only[he,evA,simprocAttr]
   refine ZL (by first | trivial | omega) ⟨fun j hj=>?_,_,_,_,_,_,by rw[ZC (by omega)];rfl⟩
   rcases QQ.1 hj with hj | rfl
   ·exact hall j hj
   ·exact he
 ·have:k=i:=by omega
  subst this
  have hE:=leaE_rest h1 hall
  simp only[ic14l0,QJ,hki,evA,simprocAttr]
  refine (c12 _ _ _).call frz ?_
  cases h2:inB (q.ls[k]!).si 0 40000
  ·rw[if_pos h2] at hE
   simp only[hE,evA,simprocAttr]
   exact frz
  rw[if_neg (by rw[h2];decide)] at hE
  simp only[evA,simprocAttr]
  refine (c12 _ _ _).call frz ?_
  cases h3:inB (q.ls[k]!).fa 0 20
  ·rw[if_pos h3] at hE
   simp only[hE,evA,simprocAttr]
   exact frz
  rw[if_neg (by rw[h3];decide)] at hE
  simp only[hw,evA,simprocAttr]
  refine (c12 _ _ _).call frz ?_
  cases h4:inB (q.ls[k]!).ho (-1) ((q.cs.length:Int)-1)
  ·rw[if_pos h4] at hE
   simp only[hE,evA,simprocAttr]
   exact frz
  rw[if_neg (by rw[h4];decide)] at hE
  simp only[evA,simprocAttr]
  refine (c43 _ q.cs.length (hq.wi k hi) hcs).call frz ?_
  simp only[hE,evA,simprocAttr]
  exact frz
theorem c4 (q:QL₀) (hq:QSz q):PC Tryz.prog 4 [qV q] (chkV q):=by
 refine ⟨ZF (fok4 true) (QC rfl) ?_,rfl⟩
 have hcs:=hq.cs
 have hls:=hq.ls
 simp only[ic4,evA,simprocAttr]
 refine (c12 _ _ _).call frz ?_
 cases h1:inB q.cs.length 1 5
 ·have hE:=chkV_of (q:=q) (chk_size (by rw[h1];simp))
  simp only[hE,evA,simprocAttr]
  exact frz
 by_cases h2:(q.ls.length:Int)>8
 ·have hE:=chkV_of (q:=q) (chk_size (by simp[h2]))
  simp only[h2,hE,evA,simprocAttr]
  exact frz
 simp only[h2,evA,simprocAttr]
 refine ZW q.cs.length (fun i s=>(∀ j,j<i→cenE q j=0)∧∃ v6 v7 v8 v9 v10 v11 v12 v13,s=⟨[qV q,.ptr 0 0,.i 0,.i 0,.i 0,.i i,v6,v7,v8,v9,v10,v11,v12,v13],[.cells [cenL q.cs,leaL q.ls]]⟩) ?_ 0 (QF _) ⟨by omega,_,_,_,_,_,_,_,_,rfl⟩
 rintro i s hi ⟨hall,v6,v7,v8,v9,v10,v11,v12,v13,rfl⟩
 by_cases h:i<q.cs.length
 ·simp only[ic4l1,QJ,h,evA,simprocAttr]
  refine (c13 q hq i h).call frz ?_
  by_cases hc:cenE q i=0
  ·simp only[hc,evA,simprocAttr]
   refine ZL (by first | trivial | omega) ⟨fun j hj=>?_,_,_,_,_,_,_,_,_,by rw[ZC (by omega)];rfl⟩
   rcases QQ.1 hj with hj | rfl
   ·exact hall j hj
   ·exact hc
  ·have hb:(cenE q i != 0)=true:=by simp[hc]
   have hE:=chkV_of (chk_cen h1 h2 h hall hc)
   simp only[hb,hE,evA,simprocAttr]
   exact frz
 have:i=q.cs.length:=by omega
 subst this
 simp only[ic4l1,QJ,h,evA,simprocAttr]
 refine ZW q.ls.length (fun i s=>(∀ j,j<i→leaE q j=0)∧∃ v5 v6 v8 v9 v10 v11 v12 v13,s=⟨[qV q,.ptr 0 0,.i 0,.i 0,.i 0,v5,v6,.i i,v8,v9,v10,v11,v12,v13],[.cells [cenL q.cs,leaL q.ls]]⟩) ?_ 0 (QF _) ⟨by omega,_,_,_,_,_,_,_,_,rfl⟩
 rintro i s hi ⟨hall',v5,v6,v8,v9,v10,v11,v12,v13,rfl⟩
 by_cases h:i<q.ls.length
 ·simp only[ic4l0,QJ,h,evA,simprocAttr]
  refine (c14 q hq i h).call frz ?_
  by_cases hc:leaE q i=0
  ·simp only[hc,evA,simprocAttr]
   refine ZL (by first | trivial | omega) ⟨fun j hj=>?_,_,_,_,_,_,_,_,_,by rw[ZC (by omega)];rfl⟩
   rcases QQ.1 hj with hj | rfl
   ·exact hall' j hj
   ·exact hc
  ·have hb:(leaE q i != 0)=true:=by simp[hc]
   have hE:=chkV_of (chk_lea h1 h2 hall h hall' hc)
   simp only[hb,hE,evA,simprocAttr]
   exact frz
 have:i=q.ls.length:=by omega
 subst this
 have hE:=chkV_of (chk_ok h1 h2 hall hall')
 simp only[ic4l0,QJ,h,hE,evA,simprocAttr]
 exact frz
end Go.Proofs.YtfnhbbohjnjfnaaGreat.AM
namespace Go.Proofs.YtfnhbbohjnjfnaaGreat.AM
variable [Dr]
open Go Go.Proofs.YtfnhbbohjnjfnaaGreat.Qu Pl
section
variable {cs:List Car} {ws:List ByteArray} {k:Nat}
theorem car_sl (h:k≤cs.length) (σ:List AObj):VG 4 false true [carL cs,.cv (.int .i64 k)] σ=some (carL (cs.take k),σ):=by
 rw[Qc7 h (UG CX cs),A3 CX];simp[h]
theorem car_3 (h:k<cs.length):(cs.flatMap carC)[k*4+3]? = some (.int .i64 (cs[k]!).ne):=flat_get CX h (j:=3) (by omega)
theorem nam_ld (h:k<ws.length) (σ:List AObj):KZ [.cv (.rp (ws.map CV.str) k)] σ=some (.cv (.str ws[k]!),σ):=by
 have:(ws.map CV.str)[k]? = some (.str ws[k]!):=by rw[ZR,QI h,getElem!_pos ws k h];rfl
 simp[KZ,this]
theorem nam_sl (h:k≤ws.length) (σ:List AObj):VG 1 false true [namL ws,.cv (.int .i64 k)] σ=some (namL (ws.take k),σ):=by
 rw[Qc7 h (by simp),W3,← List.map_take];simp[h]
end
theorem bk72 (w:ByteArray):PC Tryz.prog 72 [.cv (.str w)] (.cv (.str w)):=by
 refine ⟨ZF (fok72 true) (QC rfl) ?_,rfl⟩
 simp only[ic72,evA,simprocAttr]
 exact frz
theorem bk74 (c:Car):PC Tryz.prog 74 [carA c] (.cv (.str c.nm)):=by
 refine ⟨ZF (fok74 true) (QC rfl) ?_,rfl⟩
 simp only[ic74,evA,simprocAttr]
 exact frz
theorem bk102 (w s:ByteArray) {σ:List AObj} {l1 l2:Nat} (h1:rowOf σ l1=some [.fn (.func 72) []]) (h2:rowOf σ l2=some [.cv (.str s)]) :
  AC Tryz.prog 102 [.cv (.str w),.ptr l1 0,.ptr l2 0] σ fun r τ=>r=.b (decide (w=s))∧τ=σ:=by
 refine ZF (fok102 true) (QC rfl) ?_
 simp only[ic102,evA,simprocAttr]
 refine DW_s [2] [] hmix (by kernel_rfl) rfl ?_
 simp only[h1,evA,simprocAttr]
 refine YE ((bk72 w).call frz ⟨rfl,rfl⟩) rfl ?_
 simp only[h2,binS,str_eq,evA,simprocAttr]
theorem bk104 (c:Car) (s:ByteArray) {σ:List AObj} {l1 l2:Nat} (h1:rowOf σ l1=some [.fn (.func 74) []]) (h2:rowOf σ l2=some [.cv (.str s)]) :
  AC Tryz.prog 104 [carA c,.ptr l1 0,.ptr l2 0] σ fun r τ=>r=.b (decide (c.nm=s))∧τ=σ:=by
 refine AC.same (ZF (Q:=fun r τ=>r=.b (decide (c.nm=s))∧∃ o,τ=σ++[o]) (fok104 true) (QC rfl) ?_) ?_
 ·have g1:=FU h1 (.cells [.cv (.str c.nm),.i c.km,.i c.ev,.i c.ne])
  have g2:=FU h2 (.cells [.cv (.str c.nm),.i c.km,.i c.ev,.i c.ne])
  have g3:=XH σ [.cv (.str c.nm),.i c.km,.i c.ev,.i c.ne]
  simp only[ic104,evA,simprocAttr]
  refine DW_s [2] [] hmix (by kernel_rfl) rfl ?_
  simp only[g1,g3,evA,simprocAttr]
  refine YE ((bk74 c).call frz ⟨rfl,rfl⟩) rfl ?_
  simp only[g2,binS,str_eq,evA,simprocAttr]
  exact ⟨_,rfl⟩
 ·rintro r τ ⟨rfl,o,rfl⟩
  exact ⟨rfl,rfl,fun l o hl=>by rw[QE (QH.1 hl).1];exact hl⟩
theorem bk123 (cs:List ByteArray) (fv:AV) (p:Nat→Bool) (hz:cs.length<2 ^ 63) (σ:List AObj) (hf:∀ i,i<cs.length→X0 Tryz.prog fv [.cv (.str cs[i]!)] σ fun r τ=>r=.b (p i)∧τ=σ) :
  AC Tryz.prog 123 [namL cs,fv] σ fun r τ=>r=.i (idxN p cs.length)∧τ=σ:=by
 refine ZF (fok123 true) (QC rfl) ?_
 simp only[ic123,evA,simprocAttr]
 refine ZW cs.length (fun i s=>(∀ j,j<i→p j=false)∧∃ v3 v6 v7,s=⟨[namL cs,fv,.i 0,v3,.i cs.length,.i i,v6,v7],σ⟩) ?_ 0 (QF _) ⟨by omega,_,_,_,rfl⟩
 rintro i s hi ⟨hall,v3,v6,v7,rfl⟩
 by_cases h:i<cs.length
 ·have hld:=nam_ld h (σ:=σ)
  have hia:∀ σ,VP 1 [namL cs,.cv (.int .i64 i)] σ=some (.cv (.rp (cs.map CV.str) i),σ):=fun σ=>by rw[XP h,W3]
  simp only[ic123l0,QJ,h,hia,hld,evA,simprocAttr]
  refine (hf i h).run ?_
  cases hp:p i
  ·simp only[evA,simprocAttr]
   refine ZL (by first | trivial | omega) ⟨fun j hj=>?_,_,_,_,by rw[ZC (by omega)];rfl⟩
   rcases QQ.1 hj with hj | rfl
   ·exact hall j hj
   ·exact hp
  ·simp only[evA,simprocAttr]
   exact (EK h hall hp).symm
 ·simp only[ic123l0,QJ,h,evA,simprocAttr]
  have:i=cs.length:=by omega
  subst this
  exact (EL hall).symm
theorem bk101 (cs:List ByteArray) (fv:AV) (p:Nat→Bool) (hz:cs.length<2 ^ 63) (σ:List AObj) (hf:∀ i,i<cs.length→X0 Tryz.prog fv [.cv (.str cs[i]!)] σ fun r τ=>r=.b (p i)∧τ=σ) :
  AC Tryz.prog 101 [namL cs,fv] σ fun r τ=>r=.b (anyN p cs.length)∧τ=σ:=by
 refine ZF (fok101 true) (QC rfl) ?_
 simp only[ic101,evA,simprocAttr]
 refine (bk123 cs fv p hz _ hf).run ?_
 simp only[evA,simprocAttr,OA]
theorem bk124 (cs:List Car) (fv:AV) (p:Nat→Bool) (hz:cs.length<2 ^ 63) (σ:List AObj) (hf:∀ i,i<cs.length→X0 Tryz.prog fv [carA cs[i]!] σ fun r τ=>r=.b (p i)∧τ=σ) :
  AC Tryz.prog 124 [carL cs,fv] σ fun r τ=>r=.i (idxN p cs.length)∧τ=σ:=by
 refine ZF (fok124 true) (QC rfl) ?_
 simp only[ic124,evA,simprocAttr]
 refine ZW cs.length (fun i s=>(∀ j,j<i→p j=false)∧∃ v3 v6 v7,s=⟨[carL cs,fv,.i 0,v3,.i cs.length,.i i,v6,v7],σ⟩) ?_ 0 (QF _) ⟨by omega,_,_,_,rfl⟩
 rintro i s hi ⟨hall,v3,v6,v7,rfl⟩
 by_cases h:i<cs.length
 ·simp only[ic124l0,QJ,h,XP h,car_ld h,evA,simprocAttr]
  refine (hf i h).run ?_
  cases hp:p i
  ·simp only[evA,simprocAttr]
   refine ZL (by first | trivial | omega) ⟨fun j hj=>?_,_,_,_,by rw[ZC (by omega)];rfl⟩
   rcases QQ.1 hj with hj | rfl
   ·exact hall j hj
   ·exact hp
  ·simp only[evA,simprocAttr]
   exact (EK h hall hp).symm
 ·simp only[ic124l0,QJ,h,evA,simprocAttr]
  have:i=cs.length:=by omega
  subst this
  exact (EL hall).symm
theorem bk103 (cs:List Car) (fv:AV) (p:Nat→Bool) (hz:cs.length<2 ^ 63) (σ:List AObj) (hf:∀ i,i<cs.length→X0 Tryz.prog fv [carA cs[i]!] σ fun r τ=>r=.b (p i)∧τ=σ) :
  AC Tryz.prog 103 [carL cs,fv] σ fun r τ=>r=.b (anyN p cs.length)∧τ=σ:=by
 refine ZF (fok103 true) (QC rfl) ?_
 simp only[ic103,evA,simprocAttr]
 refine (bk124 cs fv p hz _ hf).run ?_
 simp only[evA,simprocAttr,OA]
theorem bk71 (cs:List ByteArray) (k:Nat) (hk:cs.length=k+1) (hz:cs.length<2 ^ 63) (hs:∀ i,i<cs.length→(cs[i]!).size<2 ^ 63) :
  PC Tryz.prog 71 [namL cs,.fn (.func 72) []] (.i (nmE (fun i=>cs[i]!) k)):=by
 refine ⟨ZF (fok71 true) (QC rfl) ?_,rfl⟩
 have hw:IntKind.i64.wrap ((cs.length:Int)-1)=(k:Int):=by rw[ZC (by omega)];omega
 have hkl:k<cs.length:=by omega
 have hld:=fun σ=>nam_ld hkl (σ:=σ)
 have hia:∀ σ,VP 1 [namL cs,.cv (.int .i64 k)] σ=some (.cv (.rp (cs.map CV.str) k),σ):=fun σ=>by rw[XP hkl,W3]
 simp only[ic71,hw,evA,simprocAttr]
 refine DW_s [7] [(0,8),(6,8),(7,8)] hmix (by kernel_rfl) rfl ?_
 simp only[hw,hia,hld,evA,simprocAttr]
 refine YE ((bk72 _).call frz ⟨rfl,rfl⟩) rfl ?_
 simp only[evA,simprocAttr]
 refine (c100 _ (hs k hkl)).call frz ?_
 unfold nmE
 cases h1:JH cs[k]!
 ·simp only[evA,simprocAttr]
  exact frz
 have hp:=bk101 (cs.take k) (.fn (.func 102) [.ptr 0 0,.ptr 1 0]) (fun j=>decide (cs[j]! = cs[k]!)) (by simp;omega) [.cells [.fn (.func 72) []],.cells [.cv (.str cs[k]!)]] (fun i hi=>by
  have hi':i<k:=by simp at hi;omega
  have e:(cs.take k)[i]! = cs[i]! := by simp[hi']
  rw[e]
  exact bk102 (cs[i]!) cs[k]! rfl rfl)
 rw[show (cs.take k).length=k by simp;omega] at hp
 simp only[hw,nam_sl (show k≤cs.length by omega),evA,simprocAttr]
 refine hp.run ?_
 cases h2:anyN (fun j=>decide (cs[j]! = cs[k]!)) k
 ·simp only[evA,simprocAttr]
  exact frz
 ·simp only[evA,simprocAttr]
  exact frz
theorem bk73 (cs:List Car) (k:Nat) (hk:cs.length=k+1) (hz:cs.length<2 ^ 63) (hs:∀ i,i<cs.length→(cs[i]!).nm.size<2 ^ 63) :
  PC Tryz.prog 73 [carL cs,.fn (.func 74) []] (.i (nmE (fun i=>(cs[i]!).nm) k)):=by
 refine ⟨ZF (fok73 true) (QC rfl) ?_,rfl⟩
 have hw:IntKind.i64.wrap ((cs.length:Int)-1)=(k:Int):=by rw[ZC (by omega)];omega
 have hkl:k<cs.length:=by omega
 simp only[ic73,hw,evA,simprocAttr]
 refine DW_s [7] [(0,8),(6,8),(7,8)] hmix (by kernel_rfl) rfl ?_
 simp only[hw,XP hkl,car_ld hkl,evA,simprocAttr]
 refine YE ((bk74 _).call frz ⟨rfl,rfl⟩) rfl ?_
 simp only[evA,simprocAttr]
 refine (c100 _ (hs k hkl)).call frz ?_
 unfold nmE
 cases h1:JH (cs[k]!).nm
 ·simp only[evA,simprocAttr]
  exact frz
 have hp:=bk103 (cs.take k) (.fn (.func 104) [.ptr 0 0,.ptr 1 0]) (fun j=>decide ((cs[j]!).nm=(cs[k]!).nm)) (by simp;omega) [.cells [.fn (.func 74) []],.cells [.cv (.str (cs[k]!).nm)]] (fun i hi=>by
  have hi':i<k:=by simp at hi;omega
  have e:(cs.take k)[i]! = cs[i]! := by simp[hi']
  rw[e]
  exact bk104 (cs[i]!) (cs[k]!).nm rfl rfl)
 rw[show (cs.take k).length=k by simp;omega] at hp
 simp only[hw,car_sl (show k≤cs.length by omega),evA,simprocAttr]
 refine hp.run ?_
 cases h2:anyN (fun j=>decide ((cs[j]!).nm=(cs[k]!).nm)) k
 ·simp only[evA,simprocAttr]
  exact frz
 ·simp only[evA,simprocAttr]
  exact frz
end Go.Proofs.YtfnhbbohjnjfnaaGreat.AM
namespace Go.Proofs.YtfnhbbohjnjfnaaGreat.AM
variable [Dr]
open Go
def KB (R:XC):XC:={ R with state:=.busy,pending:=none }
def Qby (R:XC):XC:={ R with state:=.exhausted,pending:=none }
section
variable {P:Program} {vs:List Nat} {N:Nat} {ps:List Nat} {vals:List AV} {ia ib:IC} {R:XC}
theorem IA.back (h:IA P vs N ps vals ia ib R):({ KB R with state:=.ready,pending:=none }:XC)=R:=by
 have h1:=h.st
 have h2:=h.pd
 unfold KB
 cases R;simp_all
theorem RW_g {fx:Fx} {s:St} {Q:Exit→St→Prop} {g:Opd} {ps:Array Nat} {assign body:Code} {gf:FuncId} {cap:List AV} (ia ib:IC) (hg:WY s.vals [] g=.fn (.func gf) cap) (hvl:s.vals.length≤fx.vars.length) (hr0:∀ l0,fx.r=some l0→∃ r0,s.heap[l0]? = some (.loop r0))
  (hca:QL P fx.vars fx.N assign=some ia) (hcb:QL P fx.vars fx.N body=some ib)
  (h:∀ R,IA P fx.vars fx.N ps.toList s.vals ia ib R→AC P gf (.yld s.heap.length::cap) (s.heap++[.loop R]) fun _ σ'=>U9 P fx s.vals s.heap.length Q σ'):RW P fx g ps assign body s Q :=
 RW_s hg hvl hr0 (h _ ⟨rfl,rfl,rfl,rfl,rfl,rfl,hca,hcb⟩)
theorem YC_g {l:Nat} {σ:List AObj} {args:List AV} {Q:AV→List AObj→Prop} (hR:IA P vs N ps vals ia ib R) (hl:σ[l]? = some (.loop R)) (hargs:args.length=ps.length)
  (hvp:(decide vs.Nodup&&ps.all fun t=>vs.contains t&&decide (t<N))=true)
  (h:IS P ⟨vs,N,some l,σ.length⟩ ia ⟨JM vs ps args vals,σ⟩ (kAsg P ⟨vs,N,some l,σ.length⟩ l ib Q) .mk .mk):YC P l args σ Q:=by
 obtain ⟨e1,e2,e3,e4,e5,e6,e7,e8⟩:=hR
 refine QeH (r:=R) ia ib hl e5 (by rw[e3];exact hargs) (by rw[e1,e2,e3];exact hvp) (by rw[e1,e2];exact e7) (by rw[e1,e2];exact e8) ?_
 rw[e1,e2,e3,e4]
 exact h
theorem Qan {fx:Fx} {l:Nat} {Q:AV→List AObj→Prop} {s:St} (hR:IA P vs N ps vals ia ib R) (hl:s.heap[l]? = some (.loop R)) (h:IS P fx ib ⟨s.vals,s.heap.set l (.loop (KB R))⟩ (kRnd l Q) .mk .mk):kAsg P fx l ib Q .normal s:=by
 rw[Qam]
 refine ⟨R,hl,hR.st,?_⟩
 rw[hR.pd]
 exact h
theorem RU {l:Nat} {Q:AV→List AObj→Prop} {s:St} (hR:IA P vs N ps vals ia ib R) (hl:s.heap[l]? = some (.loop (KB R))) (h:Q (.b true) (s.heap.set l (.loop R))):kRnd l Q .normal s:=by
 rw[P0]
 refine ⟨_,hl,?_⟩
 unfold setLoop
 rw[hR.back]
 exact h
theorem M9 {fx:Fx} {l:Nat} {Q:Exit→St→Prop} {σ':List AObj} {vals2:List AV} (hR:IA P vs N ps vals ia ib R) (hl:σ'[l]? = some (.loop R)) (h:Q .normal ⟨vals2,σ'.set l (.loop (Qby R))⟩):U9 P fx vals2 l Q σ':=by
 refine ⟨R,hl,(by rw[hR.st];intro h;cases h),?_⟩
 rw[hR.pd]
 exact h
def retL (R:XC):XC:={ R with state:=.done,pending:=some .ret }
theorem Qdh {l:Nat} {Q:AV→List AObj→Prop} {s:St} (hl:s.heap[l]? = some (.loop (KB R))) (h:Q (.b false) (s.heap.set l (.loop (retL R)))):kRnd l Q .ret s:=by
 rw[kRnd_r]
 exact ⟨_,hl,h⟩
theorem after_r {fx:Fx} {l:Nat} {Q:Exit→St→Prop} {σ':List AObj} {vals2:List AV} (hl:σ'[l]? = some (.loop (retL R))) (h:W P fx .ret ⟨vals2,σ'.set l (.loop { retL R with state:=.exhausted,pending:=some .ret })⟩ Q):U9 P fx vals2 l Q σ':=by
 refine ⟨_,hl,(by intro h;cases h),?_⟩
 exact h
end
end Go.Proofs.YtfnhbbohjnjfnaaGreat.AM
namespace Go.Proofs.YtfnhbbohjnjfnaaGreat.AM
variable [Dr]
open Go Go.Proofs.YtfnhbbohjnjfnaaGreat.Qu Pl
abbrev leX (x:Le):List AV:=[.i x.l,.i x.c,.i x.s,.i x.h,.i x.t]
abbrev leV (x:Le):AV:=.agg (leX x)
section
variable {ls:List Le} {i:Nat}
theorem les_drop (h:i<ls.length):((lesX ls).drop (i*5)).take 5=leX ls[i]! := by
 rw[← List.map_drop,← List.map_take,G3 leC_len5 h];rfl
theorem les_get (h:i<ls.length) {j:Nat} (hj:j<5):(lesX ls)[i*5+j]? = (leX ls[i]!)[j]? := by
 rw[ZR,flat_get leC_len5 h hj,← ZR];rfl
theorem les_len:(lesX ls).length=ls.length*5:=by rw[ZK];exact UG leC_len5 ls
end
def wayB (x y:Le):Bool:=(x.l == y.l||x.c == y.c)&&decide (x.s<y.s+y.h)&&decide (y.s<x.s+x.h)
theorem bk105 (x y:Le) (hx:LeOk x) (hy:LeOk y) {σ:List AObj} {l:Nat} (h:rowOf σ l=some (leX y)):AC Tryz.prog 105 [leV x,.ptr l 0] σ fun r τ=>r=.b (wayB x y)∧τ=σ:=by
 refine AC.same (ZF (Q:=fun r τ=>r=.b (wayB x y)∧∃ o,τ=σ++[o]) (fok105 true) (QC rfl) ?_) ?_
 ·have g1:=FU h (.cells (leX x))
  have g2:=XH σ (leX x)
  have a1:=hx.s
  have a2:=hx.h
  have a3:=hy.s
  have a4:=hy.h
  have w1:IntKind.i64.wrap (y.s+y.h)=y.s+y.h:=ZC (by omega)
  have w2:IntKind.i64.wrap (x.s+x.h)=x.s+x.h:=ZC (by omega)
  have hv:wayB x y=((x.l == y.l||x.c == y.c)&&decide (x.s<y.s+y.h)&&decide (y.s<x.s+x.h)):=rfl
  simp only[ic105,WI,cellsOf,evA,simprocAttr]
  simp only[g1,g2,evA,simprocAttr]
  cases e1:(x.l == y.l) <;> simp only[e1,g1,g2,w1,w2,evA,simprocAttr]
  ·cases e2:(x.c == y.c) <;> simp only[e1,e2,g1,g2,w1,w2,evA,simprocAttr]
   ·exact ⟨by rw[hv,e1,e2];rfl,_,rfl⟩
   ·cases e3:decide (x.s<y.s+y.h) <;> simp only[e3,g1,g2,w1,w2,evA,simprocAttr]
    ·exact ⟨by rw[hv,e1,e2,e3];rfl,_,rfl⟩
    ·exact ⟨by rw[hv,e1,e2,e3];rfl,_,rfl⟩
  ·cases e3:decide (x.s<y.s+y.h) <;> simp only[e3,g1,g2,w1,w2,evA,simprocAttr]
   ·exact ⟨by rw[hv,e1,e3];rfl,_,rfl⟩
   ·exact ⟨by rw[hv,e1,e3];rfl,_,rfl⟩
 ·rintro r τ ⟨rfl,o,rfl⟩
  exact ⟨rfl,rfl,fun l o hl=>by rw[QE (QH.1 hl).1];exact hl⟩
theorem bk106 (a:AV) (σ:List AObj) (h1:a.isUndef=false) (h2:cellsOf a=[a]) (h3:a.isSc=true):AC Tryz.prog 106 [a] σ fun r τ=>r=.fn (.func 125) [.ptr σ.length 0]∧τ=σ++[.cells [a]]:=by
 refine ZF (fok106 true) (QC rfl) ?_
 simp only[ic106,WI,h1,h2,h3,evA,simprocAttr]
def ia81:IC:=(.region [jw 8 .mv [.v 10]])
def ib81:IC:=(.block 1 (.seq (.dr [[],[],[0,1],[2],[3],[3],[5,3],[6,3],[7,3],[8,3],[3],[9,10,3],[11,3],[4,12,3,3],[3,13]] [jv 8,jL 5,jq (.bin .neq .int) [.t 0,.t 1],jt 2,jg 3 true .load1 [.v 7],jg 3 true .load1 [.v 3],jg 3 true .nilck [.t 5],jg 3 true (.fadd 7) [.t 6],jg 3 true (.fadd 0) [.t 7],ji 3 true 8,jh 3 true 8,jg 3 true (.iaS 5) [.t 9,.t 10],jg 3 true (.loadN 5) [.t 11],⟨none,(.some (3,true)),.call,[(.t 4),(.t 12)]⟩,jw 11 .pick [.t 3,.t 13,jB false]])
 (.cond 11 (.seq (.region [jq (.store 1) [.v 6,jB false]])
 .ret)
 .skip)))
theorem ca81:QL Tryz.prog vs81 Tryz.f81.ntmps (nav [1,1,0,1,0,2] (Tryz.f81.body.getD .skip))=some ia81:=by kernel_rfl
theorem cb81:QL Tryz.prog vs81 Tryz.f81.ntmps (nav [1,1,0,1,0,3] (Tryz.f81.body.getD .skip))=some ib81:=by kernel_rfl
abbrev clH (σ:List AObj) (a:Nat) (x:Le) (but:Int) (rb:Bool) (R:XC) (J:List AObj):List AObj :=
 σ++(.cells [.ptr a 0] :: .cells (leX x) :: .cells [.i but] :: .cells [.cv (.bool rb)] :: .cells [.fn (.func 105) [.ptr (σ.length+1) 0]] :: .cells [.ptr a 0] :: .loop R::J)
abbrev clV (σ:List AObj) (a:Nat) (x:Le) (but:Int):List AV :=
 [.ptr a 0,leV x,.i but,.ptr σ.length 0,.ptr (σ.length+1) 0,.ptr (σ.length+2) 0,.ptr (σ.length+3) 0,.ptr (σ.length+4) 0,.undef,.fn (.func 125) [.ptr (σ.length+5) 0],.undef,.undef]
def hitB (ls:List Le) (x:Le) (but:Int) (i:Nat):Bool:=((i:Int) != but)&&wayB ls[i]! x
section
variable {σ:List AObj} {a p:Nat} {x:Le} {but:Int} {ls:List Le} {X:List AV} (hX:rowOf σ a=some X) (h7:X[7]? = some (.sl p 0 ls.length 5)) (hp:rowOf σ p=some (lesX ls)) (hx:LeOk x) (hls:∀ i,i<ls.length→LeOk ls[i]!)
include hX h7 hp hx hls
theorem cl_round {R:XC} (hR:IA Tryz.prog vs81 Tryz.f81.ntmps [12] (clV σ a x but) ia81 ib81 R) (J:List AObj) (i:Nat) (hi:i<ls.length) :
  YC Tryz.prog (σ.length+6) [.i i] (clH σ a x but false R J) fun r τ=>r=.b (!hitB ls x but i)∧∃ J',τ=clH σ a x but false (if hitB ls x but i=true then retL R else R) J':=by
 have hn:Tryz.f81.ntmps=28:=by kernel_rfl
 refine YC_g hR (by simp only[QW,QM,WW,X9,VW,EZ,Qau,CH,get_nz,get_ns];rfl) rfl (by rw[hn];decide) ?_
 have x12:vs81.idxOf? 12=some 10:=by decide
 have gX:=fun J=>ZH hX J
 have gp:=fun J=>ZH hp J
 have hia:∀ σ,VP 5 [.sl p 0 ls.length 5,.cv (.int .i64 i)] σ=some (.ptr p (i*5),σ):=fun σ=>by simp[VP,hi]
 have hdt:=les_drop hi
 have hle:i*5+5≤(ls.flatMap leC).length:=by rw[UG leC_len5];omega
 have hw:∀ J l,rowOf J l=some (leX x)→AC Tryz.prog 105 [leV ls[i]!,.ptr l 0] J fun r τ=>r=.b (wayB ls[i]! x)∧τ=J:=fun J l h=>bk105 ls[i]! x (hls i hi) hx h
 have hh:hitB ls x but i=(((i:Int) != but)&&wayB ls[i]! x):=rfl
 simp only[ia81,JM,x12,evA,simprocAttr]
 refine Qan hR (by simp only[QW,QM,WW,X9,VW,EZ,Qau,CH,get_nz,get_ns];rfl) ?_
 simp only[ib81,QW,QM,WW,X9,VW,EZ,Qau,CH,get_nz,get_ns,evA,simprocAttr]
 refine DW_s [13] [] hmix (by kernel_rfl) rfl ?_
 by_cases hb:(i:Int)=but
 ·have hb1:((i:Int) != but)=false:=by simp[hb]
  rw[hh,hb1]
  simp only[hb1,QW,QM,WW,X9,VW,EZ,Qau,CH,get_nz,get_ns,evA,simprocAttr]
  refine RU hR (by simp only[QW,QM,WW,X9,VW,EZ,Qau,CH,get_nz,get_ns];rfl) ?_
  simp only[QW,QM,WW,X9,VW,EZ,Qau,CH,get_nz,get_ns,evA,simprocAttr]
  exact ⟨J,rfl⟩
 ·have hb1:((i:Int) != but)=true:=by simpa using hb
  rw[hh,hb1]
  simp only[hb1,gX,h7,gp,hia,hdt,hle,QW,QM,WW,X9,VW,EZ,Qau,CH,get_nz,get_ns,evA,simprocAttr]
  refine YE (hw _ (σ.length+1) (by simp only[QW,QM,WW,X9,VW,EZ,Qau,CH,get_nz,get_ns];rfl)) rfl ?_
  cases hwy:wayB ls[i]! x with
  | false =>
   simp only[QW,QM,WW,X9,VW,EZ,Qau,CH,get_nz,get_ns,evA,simprocAttr]
   refine RU hR (by simp only[QW,QM,WW,X9,VW,EZ,Qau,CH,get_nz,get_ns];rfl) ?_
   simp only[QW,QM,WW,X9,VW,EZ,Qau,CH,get_nz,get_ns,evA,simprocAttr]
   exact ⟨J,rfl⟩
  | true =>
   simp only[QW,QM,WW,X9,VW,EZ,Qau,CH,get_nz,get_ns,evA,simprocAttr]
   refine Qdh (R:=R) (by simp only[QW,QM,WW,X9,VW,EZ,Qau,CH,get_nz,get_ns];rfl) ?_
   simp only[QW,QM,WW,X9,VW,EZ,Qau,CH,get_nz,get_ns,evA,simprocAttr]
   exact ⟨J,rfl⟩
theorem cl_loop {R:XC} (hR:IA Tryz.prog vs81 Tryz.f81.ntmps [12] (clV σ a x but) ia81 ib81 R) (hn60:ls.length<2 ^ 60) :
  AC Tryz.prog 125 [.yld (σ.length+6),.ptr (σ.length+5) 0] (clH σ a x but false R []) fun _ τ=>∃ J',τ=clH σ a x but false (if anyN (fun i=>(ls[i]!).t == 0&&hitB ls x but i) ls.length=true then retL R else R) J':=by
 have hrd:=fun J i hi=>cl_round hX h7 hp hx hls hR J i hi
 refine ZF (fok125 true) (QC rfl) ?_
 have gX:=fun J=>ZH hX J
 have gp:=fun J=>ZH hp J
 simp only[ic125,gX,h7,QW,QM,WW,X9,VW,EZ,Qau,CH,get_nz,get_ns,evA,simprocAttr]
 refine ZW ls.length (fun i s=>(∀ j,j<i→((ls[j]!).t == 0&&hitB ls x but j)=false)∧∃ v2 v3 v7 v8 J,s=⟨[.yld (σ.length+6),.ptr (σ.length+5) 0,v2,v3,.sl p 0 ls.length 5,.i ls.length,.i i,v7,v8],clH σ a x but false R J⟩) ?_ 0 (QF _) ⟨by omega,_,_,_,_,[],rfl⟩
 rintro i s hi ⟨hall,v2,v3,v7,v8,J,rfl⟩
 by_cases h:i<ls.length
 rotate_left
 ·have hei:i=ls.length:=by omega
  subst hei
  have hany:anyN (fun i=>(ls[i]!).t == 0&&hitB ls x but i) ls.length=false:=F8.2 hall
  simp only[ic125l0,QJ,h,hany,evA,simprocAttr]
  exact ⟨J,rfl⟩
 have hia:∀ σ,VP 5 [.sl p 0 ls.length 5,.cv (.int .i64 i)] σ=some (.ptr p (i*5),σ):=fun σ=>by simp[VP,h]
 have hdt:=les_drop h
 have hle:i*5+5≤(ls.flatMap leC).length:=by rw[UG leC_len5];omega
 have hws:IntKind.i64.wrap ((i:Int)+1)=((i+1:Nat):Int):=Q6 (by omega)
 have hgo:((ls[i]!).t == 0&&hitB ls x but i)=false→∀ j,j<i+1→((ls[j]!).t == 0&&hitB ls x but j)=false:=fun hb j hj=>by
  rcases QQ.1 hj with hj | rfl
  ·exact hall j hj
  ·exact hb
 simp only[ic125l0,QJ,h,gp,hia,hdt,hle,QW,QM,WW,X9,VW,EZ,Qau,CH,get_nz,get_ns,evA,simprocAttr]
 cases ht:((ls[i]!).t == 0) with
 | false =>
  simp only[ht,hws,QW,QM,WW,X9,VW,EZ,Qau,CH,get_nz,get_ns,evA,simprocAttr]
  refine ZL (by first | trivial | omega) ⟨hgo (by rw[ht];rfl),_,_,_,_,_,rfl⟩
 | true =>
  simp only[ht,QW,QM,WW,X9,VW,EZ,Qau,CH,get_nz,get_ns,evA,simprocAttr]
  refine (hrd _ i h).mono ?_
  rintro r τ ⟨rfl,J',rfl⟩
  cases hh:hitB ls x but i with
  | false =>
   simp only[hws,QT,if_false,QW,QM,WW,X9,VW,EZ,Qau,CH,get_nz,get_ns,evA,simprocAttr]
   refine ZL (by first | trivial | omega) ⟨hgo (by rw[hh,UA]),_,_,_,_,_,rfl⟩
  | true =>
   have hany:anyN (fun i=>(ls[i]!).t == 0&&hitB ls x but i) ls.length=true:=U8.2 ⟨i,h,by rw[ht,hh];rfl⟩
   simp only[hany,if_true,QW,QM,WW,X9,VW,EZ,Qau,CH,get_nz,get_ns,evA,simprocAttr]
   exact ⟨J',rfl⟩
end
def clrB (ls:List Le) (x:Le) (but:Int):Bool:=!anyN (fun i=>(ls[i]!).t == 0&&hitB ls x but i) ls.length
theorem bk81 {σ:List AObj} {a:Nat} {x:Le} {but:Int} {ls:List Le} {lv:AV} {X:List AV} (hX:rowOf σ a=some X) (h7:X[7]? = some lv) (hl:LsAt σ lv ls) (hx:LeOk x) (hls:∀ i,i<ls.length→LeOk ls[i]!) (hn60:ls.length<2 ^ 60) :
  AC Tryz.prog 81 [.ptr a 0,leV x,.i but] σ fun r τ=>r=.b (clrB ls x but)∧τ=σ:=by
 refine AC.cutF ?_ rfl
 refine ZF (fok81 true) (QC rfl) ?_
 simp only[ic81,WI,cellsOf,QW,QM,WW,X9,VW,EZ,Qau,CH,get_nz,get_ns,evA,simprocAttr]
 refine (bk106 (.ptr a 0) _ rfl rfl rfl).run ?_
 simp only[QW,QM,WW,X9,VW,EZ,Qau,CH,get_nz,get_ns,evA,simprocAttr]
 refine RW_g ia81 ib81 (gf:=125) (cap:=[.ptr (σ.length+5) 0]) rfl (QC rfl) (fun l h=>by cases h) (show QL _ vs81 28 _=_ from ca81) (show QL _ vs81 28 _=_ from cb81) ?_
 intro R hR
 have hn:Tryz.f81.ntmps=28:=by kernel_rfl
 have e1:(σ++[AObj.cells [.ptr a 0],.cells (leX x),.cells [.i but],.cells [.cv (.bool false)],.cells [.fn (.func 105) [.ptr (σ.length+1) 0]],.cells [.ptr a 0]]).length=σ.length+6:=by simp
 dsimp only
 rw[e1,QW]
 dsimp only at hR
 have hR:IA Tryz.prog vs81 Tryz.f81.ntmps [12] (clV σ a x but) ia81 ib81 R:=by rw[hn];exact hR
 refine AC.mono (Q:=fun _ τ=>∃ J',τ=clH σ a x but false (if anyN (fun i=>(ls[i]!).t == 0&&hitB ls x but i) ls.length=true then retL R else R) J') ?_ ?_
 ·rcases hl with ⟨rfl,rfl⟩ | ⟨p,rfl,hp⟩
  ·refine ZF (fok125 true) (QC rfl) ?_
   have gX:=fun J=>ZH hX J
   simp only[ic125,gX,h7,QW,QM,WW,X9,VW,EZ,Qau,CH,get_nz,get_ns,evA,simprocAttr]
   refine ZW 0 (fun i s=>s=⟨[.yld (σ.length+6),.ptr (σ.length+5) 0,.undef,.undef,.cv .nils,.i 0,.i i,.undef,.undef],clH σ a x but false R []⟩) ?_ 0 (QF _) rfl
   rintro i s hi rfl
   have hi0:i=0:=by omega
   subst hi0
   simp only[ic125l0,evA,simprocAttr]
   exact ⟨[],rfl⟩
  ·exact cl_loop hX h7 hp hx hls hR hn60
 ·rintro r τ ⟨J',rfl⟩
  have hc:clrB ls x but = !anyN (fun i=>(ls[i]!).t == 0&&hitB ls x but i) ls.length:=rfl
  cases hany:anyN (fun i=>(ls[i]!).t == 0&&hitB ls x but i) ls.length with
  | false =>
   rw[hc,hany]
   refine M9 hR (by simp only[QT,if_false,QW,QM,WW,X9,VW,EZ,Qau,CH,get_nz,get_ns];rfl) ?_
   simp only[QT,if_false,QW,QM,WW,X9,VW,EZ,Qau,CH,get_nz,get_ns,evA,simprocAttr]
   exact ⟨_,rfl⟩
  | true =>
   rw[hc,hany]
   refine after_r (R:=R) (by simp only[if_true,QW,QM,WW,X9,VW,EZ,Qau,CH,get_nz,get_ns];rfl) (QcP ?_)
   simp only[if_true,QW,QM,WW,X9,VW,EZ,Qau,CH,get_nz,get_ns,evA,simprocAttr]
   exact ⟨_,rfl⟩
theorem wf_b64 {n:Int} (h:-(2 ^ 62)≤n∧n<2 ^ 62):(Lit.int .i64 n).wf=true:=by
 simp only[Lit.wf,QD,decide_eq_true_eq,IntKind.min,IntKind.max,IntKind.bits,IntKind.signed]
 simp;omega
theorem lk0 {σ : List AObj} {w:Nat} {k:Int} (hm:mapOf σ w=some []) (hk:0≤k∧k≤100000):KL (false,[.int .i64]) (.cv (.int .i64 0)) false [.map w,.cv (.int .i64 k)] σ=some (.i 0,σ):=by
 have := wf_b64 (n := k) (by have:(2:Int) ^ 62=4611686018427387904:=by decide
                             omega)
 simp[KL,hm,F4,JW,JK,Y4,kkOk,this,VZ,EB,findKey]
theorem bk80 {σ:List AObj} {a:Nat} {b:BK₀} {lv pv:AV} {tm ev:Int} (hX:rowOf σ a=some (bX b lv pv tm ev)) (hm:mapOf σ b.w=some []) (hb:BOk b) (car:Nat) (hc:car<b.cs.length) (hr:Nat) (hh:hr≤4800) :
  AC Tryz.prog 80 [.ptr a 0,.i car,.i hr] σ fun r τ=>r=.b true∧τ=σ:=by
 refine ZF (fok80 true) (QC rfl) ?_
 have hne:=hb.ne car hc
 have h3:=car_3 hc
 have hia:∀ σ,VP 4 [carL b.cs,.cv (.int .i64 car)] σ=some (.cv (.rp (b.cs.flatMap carC) (car*4)),σ):=fun σ=>XP hc σ
 have hlk:=lk0 (k:=(hr / 24:Nat)) hm (by omega)
 have hrq:(hr:Int).tdiv 24=((hr / 24:Nat):Int):=rfl
 have hw24:IntKind.i64.wrap ((hr / 24:Nat):Int)=((hr / 24:Nat):Int):=ZC (by omega)
 simp only[ic80,evA,simprocAttr]
 refine DW_s [] [] hmix (by kernel_rfl) rfl ?_
 simp only[hX,hia,h3,hrq,hw24,hlk,hne,evA,simprocAttr]
abbrev leN (l c s h:Nat):Le:=⟨l,c,s,h,0⟩
set_option maxRecDepth 4000 in
theorem bk49 {σ:List AObj} {a:Nat} {b:BK₀} {lv pv:AV} {tm ev:Int} {ls:List Le} (hX:rowOf σ a=some (bX b lv pv tm ev)) (hm:mapOf σ b.w=some []) (hb:BOk b) (hl:LsAt σ lv ls) (hls:∀ i,i<ls.length→LeOk ls[i]!) (hn60:ls.length<2 ^ 60)
  {l c s h at_:Nat} (hf:Fit b l c s h at_) (hcl:clrB ls (leN l c s h) (-1)=true) :
  AC Tryz.prog 49 [.ptr a 0,leV (leN l c s h),.i at_] σ fun r τ=>r=.tup []∧τ=σ:=by
 refine AC.cutF ?_ rfl
 refine ZF (fok49 true) (QC rfl) ?_
 obtain ⟨f1,f2,f3,f4,f5,f6,f7,f8⟩:=hf
 have hw8:=hb.w8
 have hc5:=hb.c5
 have gX:=fun J=>ZH hX J
 have kX:=fun J=>Qdq hX J
 have wn:IntKind.i64.wrap ((b.ws.length:Int)-1)=(b.ws.length:Int)-1:=ZC (by omega)
 have wm:IntKind.i64.wrap ((b.cs.length:Int)-1)=(b.cs.length:Int)-1:=ZC (by omega)
 have hsm:(s:Int).tmod 24=((s % 24:Nat):Int):=rfl
 have wsh:IntKind.i64.wrap (((s % 24:Nat):Int)+(h:Int))=((s % 24+h:Nat):Int):=by rw[ZC (by omega)];rfl
 have d1:decide ((s:Int)>(at_:Int))=true:=decide_eq_true (by omega)
 have d2:decide (((s % 24:Nat):Int)≥b.lo)=true:=decide_eq_true (by omega)
 have d3:decide (((s % 24+h:Nat):Int)≤b.hi)=true:=decide_eq_true (by omega)
 have h81:=fun J=>bk81 (x:=leN l c s h) (but:=-1) (ZH hX J) rfl (by
  rcases hl with h | ⟨p,h1,h2⟩
  ·exact .inl h
  ·exact .inr ⟨p,h1,ZH h2 J⟩) ⟨by show (0:Int)≤(s:Int)∧(s:Int)≤5000;omega,by show (0:Int)≤(h:Int)∧(h:Int)≤100;omega⟩ hls hn60
 have h80:=fun J=>bk80 (ZH hX J) (show mapOf (σ++J) b.w=some [] by
  unfold mapOf at hm ⊢
  cases hg:σ[b.w]? with
  | none=>rw[hg] at hm;cases hm
  | some o=>rw[QE (QH.1 hg).1,hg];rw[hg] at hm;exact hm) hb c f2 s f5
 simp only[hcl] at h81
 simp only[ic49,WI,cellsOf,QW,QM,WW,X9,VW,EZ,Qau,CH,get_nz,get_ns,evA,simprocAttr]
 refine DW_s [10,23,26] [(4,9),(17,22)] hmix (by kernel_rfl) rfl ?_
 simp only[gX,wn,QW,QM,WW,X9,VW,EZ,Qau,CH,get_nz,get_ns,evA,simprocAttr]
 refine YE (out_at 0 _ l (by omega) (by simp only[QW,QM,WW,X9,VW,EZ,Qau,CH,get_nz,get_ns];rfl) ⟨rfl,rfl⟩) rfl ?_
 simp only[gX,wm,QW,QM,WW,X9,VW,EZ,Qau,CH,get_nz,get_ns,evA,simprocAttr]
 refine YE (out_at 0 _ c (by omega) (by simp only[QW,QM,WW,X9,VW,EZ,Qau,CH,get_nz,get_ns];rfl) ⟨rfl,rfl⟩) rfl ?_
 simp only[QW,QM,WW,X9,VW,EZ,Qau,CH,get_nz,get_ns,evA,simprocAttr]
 refine YE (must_t 4 _) rfl ?_
 simp only[kX,QW,QM,WW,X9,VW,EZ,Qau,CH,get_nz,get_ns,evA,simprocAttr]
 refine out_at 1 4 h (by omega) (by simp only[QW,QM,WW,X9,VW,EZ,Qau,CH,get_nz,get_ns];rfl) ?_
 simp only[QW,QM,WW,X9,VW,EZ,Qau,CH,get_nz,get_ns,evA,simprocAttr]
 refine out_at 0 4800 s (by omega) (by simp only[QW,QM,WW,X9,VW,EZ,Qau,CH,get_nz,get_ns];rfl) ?_
 simp only[QW,QM,WW,X9,VW,EZ,Qau,CH,get_nz,get_ns,evA,simprocAttr]
 refine (must_t 7 _).run ?_
 simp only[QW,QM,WW,X9,VW,EZ,Qau,CH,get_nz,get_ns,evA,simprocAttr]
 refine DW_s [31] [] hmix (by kernel_rfl) rfl ?_
 simp only[gX,hsm,wsh,d1,d2,d3,QW,QM,WW,X9,VW,EZ,Qau,CH,get_nz,get_ns,evA,simprocAttr]
 refine YE (must_t 2 _) rfl ?_
 simp only[QW,QM,WW,X9,VW,EZ,Qau,CH,get_nz,get_ns,evA,simprocAttr]
 refine (h80 _).run ?_
 simp only[QW,QM,WW,X9,VW,EZ,Qau,CH,get_nz,get_ns,evA,simprocAttr]
 refine (must_t 9 _).run ?_
 simp only[QW,QM,WW,X9,VW,EZ,Qau,CH,get_nz,get_ns,evA,simprocAttr]
 refine (h81 _).run ?_
 simp only[QW,QM,WW,X9,VW,EZ,Qau,CH,get_nz,get_ns,evA,simprocAttr]
 refine (must_t 5 _).run ?_
 simp only[QW,QM,WW,X9,VW,EZ,Qau,CH,get_nz,get_ns,evA,simprocAttr]
 exact ⟨_,rfl⟩
set_option maxRecDepth 4000 in
theorem bk49p {σ:List AObj} {a:Nat} {b:BK₀} {lv pv:AV} {tm ev:Int} {ls:List Le} (hX:rowOf σ a=some (bX b lv pv tm ev)) (hm:mapOf σ b.w=some []) (hb:BOk b) (hl:LsAt σ lv ls) (hls:∀ i,i<ls.length→LeOk ls[i]!) (hn60:ls.length<2 ^ 60)
  {l c s h at_:Nat} (hf:Fit b l c s h at_) (hcl:clrB ls (leN l c s h) (-1)=false) :
  ACp Tryz.prog 49 [.ptr a 0,leV (leN l c s h),.i at_] σ [errP 5] fun τ=>∃ J,τ=σ++J:=by
 refine ACp_SW (fok49 true) (QC rfl) ?_
 obtain ⟨f1,f2,f3,f4,f5,f6,f7,f8⟩:=hf
 have hw8:=hb.w8
 have hc5:=hb.c5
 have gX:=fun J=>ZH hX J
 have kX:=fun J=>Qdq hX J
 have wn:IntKind.i64.wrap ((b.ws.length:Int)-1)=(b.ws.length:Int)-1:=ZC (by omega)
 have wm:IntKind.i64.wrap ((b.cs.length:Int)-1)=(b.cs.length:Int)-1:=ZC (by omega)
 have hsm:(s:Int).tmod 24=((s % 24:Nat):Int):=rfl
 have wsh:IntKind.i64.wrap (((s % 24:Nat):Int)+(h:Int))=((s % 24+h:Nat):Int):=by rw[ZC (by omega)];rfl
 have d1:decide ((s:Int)>(at_:Int))=true:=decide_eq_true (by omega)
 have d2:decide (((s % 24:Nat):Int)≥b.lo)=true:=decide_eq_true (by omega)
 have d3:decide (((s % 24+h:Nat):Int)≤b.hi)=true:=decide_eq_true (by omega)
 have h81:=fun J=>bk81 (x:=leN l c s h) (but:=-1) (ZH hX J) rfl (by
  rcases hl with h | ⟨p,h1,h2⟩
  ·exact .inl h
  ·exact .inr ⟨p,h1,ZH h2 J⟩) ⟨by show (0:Int)≤(s:Int)∧(s:Int)≤5000;omega,by show (0:Int)≤(h:Int)∧(h:Int)≤100;omega⟩ hls hn60
 have h80:=fun J=>bk80 (ZH hX J) (show mapOf (σ++J) b.w=some [] by
  unfold mapOf at hm ⊢
  cases hg:σ[b.w]? with
  | none=>rw[hg] at hm;cases hm
  | some o=>rw[QE (QH.1 hg).1,hg];rw[hg] at hm;exact hm) hb c f2 s f5
 simp only[hcl] at h81
 unfold ic49
 refine SW_seq ?_
 simp only[WI,cellsOf,kSW_n,QW,QM,WW,X9,VW,EZ,Qau,CH,get_nz,get_ns,evA,simprocAttr]
 refine SW_seq ?_
 simp only[QW,QM,WW,X9,VW,EZ,Qau,CH,get_nz,get_ns,evA,simprocAttr]
 refine DW_s [10,23,26] [(4,9),(17,22)] hmix (by kernel_rfl) rfl ?_
 simp only[gX,wn,QW,QM,WW,X9,VW,EZ,Qau,CH,get_nz,get_ns,evA,simprocAttr]
 refine YE (out_at 0 _ l (by omega) (by simp only[QW,QM,WW,X9,VW,EZ,Qau,CH,get_nz,get_ns];rfl) ⟨rfl,rfl⟩) rfl ?_
 simp only[gX,wm,QW,QM,WW,X9,VW,EZ,Qau,CH,get_nz,get_ns,evA,simprocAttr]
 refine YE (out_at 0 _ c (by omega) (by simp only[QW,QM,WW,X9,VW,EZ,Qau,CH,get_nz,get_ns];rfl) ⟨rfl,rfl⟩) rfl ?_
 simp only[QW,QM,WW,X9,VW,EZ,Qau,CH,get_nz,get_ns,evA,simprocAttr]
 refine YE (must_t 4 _) rfl ?_
 simp only[kX,kSW_n,QW,QM,WW,X9,VW,EZ,Qau,CH,get_nz,get_ns,evA,simprocAttr]
 refine SW_seq ?_
 simp only[QW,QM,WW,X9,VW,EZ,Qau,CH,get_nz,get_ns,evA,simprocAttr]
 refine out_at 1 4 h (by omega) (by simp only[QW,QM,WW,X9,VW,EZ,Qau,CH,get_nz,get_ns];rfl) ?_
 simp only[QW,QM,WW,X9,VW,EZ,Qau,CH,get_nz,get_ns,evA,simprocAttr]
 refine out_at 0 4800 s (by omega) (by simp only[QW,QM,WW,X9,VW,EZ,Qau,CH,get_nz,get_ns];rfl) ?_
 simp only[QW,QM,WW,X9,VW,EZ,Qau,CH,get_nz,get_ns,evA,simprocAttr]
 refine (must_t 7 _).run ?_
 simp only[kSW_n,QW,QM,WW,X9,VW,EZ,Qau,CH,get_nz,get_ns,evA,simprocAttr]
 refine SW_seq ?_
 simp only[QW,QM,WW,X9,VW,EZ,Qau,CH,get_nz,get_ns,evA,simprocAttr]
 refine DW_s [31] [] hmix (by kernel_rfl) rfl ?_
 simp only[gX,hsm,wsh,d1,d2,d3,QW,QM,WW,X9,VW,EZ,Qau,CH,get_nz,get_ns,evA,simprocAttr]
 refine YE (must_t 2 _) rfl ?_
 simp only[kSW_n,QW,QM,WW,X9,VW,EZ,Qau,CH,get_nz,get_ns,evA,simprocAttr]
 refine SW_seq ?_
 simp only[QW,QM,WW,X9,VW,EZ,Qau,CH,get_nz,get_ns,evA,simprocAttr]
 refine (h80 _).run ?_
 simp only[QW,QM,WW,X9,VW,EZ,Qau,CH,get_nz,get_ns,evA,simprocAttr]
 refine (must_t 9 _).run ?_
 simp only[kSW_n,QW,QM,WW,X9,VW,EZ,Qau,CH,get_nz,get_ns,evA,simprocAttr]
 refine SW_regionP (ch:=[errP 5]) ?_
 simp only[RGp,QW,QM,WW,X9,VW,EZ,Qau,CH,get_nz,get_ns,evA,simprocAttr]
 refine .inr ((h81 _).run ?_)
 exact .inl ((must_p 5 _).mono fun τ hτ=>⟨rfl,_,hτ⟩)
set_option maxRecDepth 4000 in
theorem bk49q {σ:List AObj} {a:Nat} {b:BK₀} {lv pv:AV} {tm ev:Int} (hX:rowOf σ a=some (bX b lv pv tm ev)) (hb:BOk b)
  {l c s h at_:Nat} (f1:l<b.ws.length) (f2:c<b.cs.length) (f3:1≤h) (f4:h≤4) (f5:s≤4800) (f6:at_<s) (f7:(decide (((s % 24:Nat):Int)≥b.lo)&&decide (((s % 24+h:Nat):Int)≤b.hi))=false) :
  ACp Tryz.prog 49 [.ptr a 0,leV (leN l c s h),.i at_] σ [errP 2] fun τ=>∃ J,τ=σ++J:=by
 refine ACp_SW (fok49 true) (QC rfl) ?_
 have hw8:=hb.w8
 have hc5:=hb.c5
 have gX:=fun J=>ZH hX J
 have kX:=fun J=>Qdq hX J
 have wn:IntKind.i64.wrap ((b.ws.length:Int)-1)=(b.ws.length:Int)-1:=ZC (by omega)
 have wm:IntKind.i64.wrap ((b.cs.length:Int)-1)=(b.cs.length:Int)-1:=ZC (by omega)
 have hsm:(s:Int).tmod 24=((s % 24:Nat):Int):=rfl
 have wsh:IntKind.i64.wrap (((s % 24:Nat):Int)+(h:Int))=((s % 24+h:Nat):Int):=by rw[ZC (by omega)];rfl
 have d1:decide ((s:Int)>(at_:Int))=true:=decide_eq_true (by omega)
 unfold ic49
 refine SW_seq ?_
 simp only[WI,cellsOf,kSW_n,QW,QM,WW,X9,VW,EZ,Qau,CH,get_nz,get_ns,evA,simprocAttr]
 refine SW_seq ?_
 simp only[QW,QM,WW,X9,VW,EZ,Qau,CH,get_nz,get_ns,evA,simprocAttr]
 refine DW_s [10,23,26] [(4,9),(17,22)] hmix (by kernel_rfl) rfl ?_
 simp only[gX,wn,QW,QM,WW,X9,VW,EZ,Qau,CH,get_nz,get_ns,evA,simprocAttr]
 refine YE (out_at 0 _ l (by omega) (by simp only[QW,QM,WW,X9,VW,EZ,Qau,CH,get_nz,get_ns];rfl) ⟨rfl,rfl⟩) rfl ?_
 simp only[gX,wm,QW,QM,WW,X9,VW,EZ,Qau,CH,get_nz,get_ns,evA,simprocAttr]
 refine YE (out_at 0 _ c (by omega) (by simp only[QW,QM,WW,X9,VW,EZ,Qau,CH,get_nz,get_ns];rfl) ⟨rfl,rfl⟩) rfl ?_
 simp only[QW,QM,WW,X9,VW,EZ,Qau,CH,get_nz,get_ns,evA,simprocAttr]
 refine YE (must_t 4 _) rfl ?_
 simp only[kX,kSW_n,QW,QM,WW,X9,VW,EZ,Qau,CH,get_nz,get_ns,evA,simprocAttr]
 refine SW_seq ?_
 simp only[QW,QM,WW,X9,VW,EZ,Qau,CH,get_nz,get_ns,evA,simprocAttr]
 refine out_at 1 4 h (by omega) (by simp only[QW,QM,WW,X9,VW,EZ,Qau,CH,get_nz,get_ns];rfl) ?_
 simp only[QW,QM,WW,X9,VW,EZ,Qau,CH,get_nz,get_ns,evA,simprocAttr]
 refine out_at 0 4800 s (by omega) (by simp only[QW,QM,WW,X9,VW,EZ,Qau,CH,get_nz,get_ns];rfl) ?_
 simp only[QW,QM,WW,X9,VW,EZ,Qau,CH,get_nz,get_ns,evA,simprocAttr]
 refine (must_t 7 _).run ?_
 simp only[kSW_n,QW,QM,WW,X9,VW,EZ,Qau,CH,get_nz,get_ns,evA,simprocAttr]
 refine SW_seqS (SW_drawP (cp:=[errP 2]) [] [] hmix (lst:=31) rfl rfl rfl rfl (by kernel_rfl) (by kernel_rfl) rfl ?_)
 cases d2:decide (((s % 24:Nat):Int)≥b.lo) with
 | false =>
  simp only[List.dropLast,List.cons_append,List.nil_append,mvI,gX,hsm,wsh,d1,d2,QW,QM,WW,X9,VW,EZ,Qau,CH,get_nz,get_ns,evA,simprocAttr]
  exact (must_p 2 _).mono fun τ hτ=>⟨rfl,_,hτ⟩
 | true =>
  have d3:decide (((s % 24+h:Nat):Int)≤b.hi)=false:=by rw[d2] at f7;exact f7
  simp only[List.dropLast,List.cons_append,List.nil_append,mvI,gX,hsm,wsh,d1,d2,d3,QW,QM,WW,X9,VW,EZ,Qau,CH,get_nz,get_ns,evA,simprocAttr]
  exact (must_p 2 _).mono fun τ hτ=>⟨rfl,_,hτ⟩
abbrev poX (x:Po):List AV:=[.i x.e,.i x.f,.i x.t,.i x.c]
theorem Same.less {E E':List Nat} {σ τ:List AObj} (h:Same E σ τ) (hE:∀ l∈E,l∈E'):Same E' σ τ:=fun x hx hn=>h x hx fun hm=>hn (hE x hm)
section
variable {σ τ:List AObj} {a:Nat} {b:BK₀} {st:BS₀} {lv pv:AV} {O:List (Nat × AObj)}
end
theorem BkAt.sep {σ:List AObj} {a:Nat} {b:BK₀} {st:BS₀} {lv pv:AV} {O:List (Nat × AObj)} (h:BkAt σ a b st lv pv O):(a≠b.c∧a∉slOf lv∧a∉slOf pv)∧(b.c∉slOf lv∧b.c∉slOf pv)∧∀ l∈slOf lv,l∉slOf pv:=by
 have nd:=h.nd
 simp only[WQ,ZD,YV,not_or,List.nodup_append] at nd
 obtain ⟨⟨n1,n2,n3,n4,n5,n6,n7⟩,⟨n8,n9,n10,n11,n12,n13⟩,⟨n14,n15,n16,n17,n18⟩,⟨n19,n20,n21,n22⟩,⟨n23,n24,n25⟩,n26,⟨n27,n28,n29⟩,n30⟩:=nd
 exact ⟨⟨n3,n5,n6⟩,⟨n20,n21⟩,fun l h1 h2=>n30 l h1 l (.inl h2) rfl⟩
set_option maxRecDepth 4000 in
theorem kBook {σ:List AObj} {a:Nat} {b:BK₀} {st:BS₀} {lv pv:AV} {O:List (Nat × AObj)} (hB:BkAt σ a b st lv pv O) (hb:BOk b) (hw:st.wm=[]) (hls:LsOk st.ls)
  {l c s h at_:Nat} (hf:Fit b l c s h at_) (hcl:clrB st.ls (leN l c s h) (-1)=true) (kd bk d w km ce:Int) :
  AC Tryz.prog 115 [.ptr a 0,bvA kd at_ l c bk s h d w km ce] σ fun r τ=>r=.tup []∧∃ lv',BkAt τ a b { st with ls:=st.ls++[leN l c s h] } lv' pv O:=by
 refine ZF (fok115 true) (QC rfl) ?_
 have gX:=fun J=>ZH hB.hX J
 have kX:=fun J=>Qdq hB.hX J
 have hp44:(2:Nat) ^ 44=17592186044416:=by decide
 have hn:=hls.n
 have h49:=fun J=>bk49 (l:=l) (c:=c) (s:=s) (h:=h) (at_:=at_) (ZH hB.hX J) (show mapOf (σ++J) b.w=some [] by rw[← hw];exact (Same.app [] J).map hB.hm (by simp)) hb (hB.hl.same (Same.app [] J) fun _ _ h=>by cases h) hls.ok (by omega) hf hcl
 simp only[ic115,WI,cellsOf,QW,QM,WW,X9,VW,EZ,Qau,CH,get_nz,get_ns,evA,simprocAttr]
 refine (h49 _).run ?_
 simp only[QW,QM,WW,X9,VW,EZ,Qau,CH,get_nz,get_ns,evA,simprocAttr]
 refine DW_s [] [(5,7)] hmix (by kernel_rfl) rfl ?_
 have hrow:=fun J=>row_append (f:=leC) (by_:=40) leC_len5 (by decide) (H:=σ++(.cells [.i kd,.i at_,.i l,.i c,.i bk,.i s,.i h,.i d,.i w,.i km,.i ce] :: .cells (leX (leN l c s h)) :: .cells (leX (leN l c s h))::J)) (x:=leN l c s h) (q:=σ.length+2) (hB.hl.same (Same.app [] _) fun _ _ h=>by cases h) (by simp only[QW,QM,WW,X9,VW,EZ,Qau,CH,get_nz,get_ns];rfl) (by omega) (by omega)
 obtain ⟨v',τ1,z,hap,hv',hz,hzr,hS,hle,_⟩:=hrow []
 have ⟨⟨s1,s2,s3⟩,⟨s4,s5⟩,s6⟩:=hB.sep
 have hS0:Same (slOf lv) σ τ1:=(Same.app _ _).trans hS (by simp)
 have hXt:rowOf τ1 a=some (bX b lv pv st.tm st.ev):=hS0.row hB.hX s2
 have hal:=row_lt hXt
 have u1:v'.isUndef=false:=by rw[hv'];rfl
 have u2:v'.isSc=true:=by rw[hv'];rfl
 have u3:cellsOf v'=[v']:=by rw[hv'];rfl
 simp only[gX,kX,hap,u1,u2,u3,QW,QM,WW,X9,VW,EZ,Qau,CH,get_nz,get_ns,evA,simprocAttr]
 simp only[kX,hXt,u1,u2,u3,QW,QM,WW,X9,VW,EZ,Qau,CH,get_nz,get_ns,evA,simprocAttr]
 have hzl:σ.length≤z:=by simp at hz;omega
 have hza:a≠z:=fun e=>by have:=row_lt hB.hX;omega
 refine ⟨v',?_⟩
 refine hB.turn (τ:=τ1.set a _) (st':={ st with ls:=st.ls++[leN l c s h] }) ?_ ?_ rfl rfl ?_ rfl ?_ ?_ (.inr ⟨z,hzl,by rw[hv'];rfl⟩) (.inl rfl) ?_ hB.pn
 ·exact (hS0.less fun l hl=>by simp[hl]).set (.inl (by simp)) _
 ·rw[W0 hXt]
 ·rw[QX s1];exact hS0.row hB.hc s4
 ·refine .inr ⟨z,by rw[hv'];simp,?_⟩
  rw[QX hza];exact hzr
 ·refine hB.hp.same (E:=a::slOf lv) ((hS0.less fun l hl=>by simp[hl]).set (.inl (by simp)) _) fun l hl=>?_
  simp only[ZD,not_or]
  exact ⟨fun e=>s3 (e ▸ hl),fun h=>s6 l h hl⟩
 ·intro l hl hp
  rw[hv'] at hl
  simp only[slOf,WZ] at hl
  subst hl
  have:=hB.hp.loc _ hp
  omega
end Go.Proofs.YtfnhbbohjnjfnaaGreat.AM
namespace Go.Proofs.YtfnhbbohjnjfnaaGreat.AM
variable [Dr]
open Go Go.ChangeShapes Go.WideShapes Go.ChangeAt Go.RowKit
abbrev noO:Nat→Prop:=Own (fun _=>none) (fun _=>False)
theorem not_noO (b:Nat):¬ noO b:=by rintro (h | ⟨l,hl⟩);exact h;cases hl
theorem DG {α:Type} {Q:Nat→α→Prop}:∀ (n:Nat),(∀ i,i<n→∃ l,Q i l)→∃ L:List α,L.length=n∧∀ (i:Nat) (l:α),L[i]? = some l→Q i l
 | 0,_=>⟨[],rfl,by simp⟩
 | n+1,h=>by
  obtain ⟨L,h1,h2⟩:=DG n (fun i hi=>h i (by omega))
  obtain ⟨l,hl⟩:=h n (by omega)
  refine ⟨L++[l],by simp[h1],fun i l' hi=>?_⟩
  rcases ZB i n with hlt | hge
  ·rw[QE (by omega)] at hi;exact h2 i l' hi
  ·rw[QS (by omega),h1] at hi
   have:i=n:=by
    rcases ZB n i with h' | h'
    ·rw[QN (by simp;omega)] at hi;cases hi
    ·omega
   subst this
   simp at hi;subst hi;exact hl
theorem CJ {R:Nat→CV→Prop} {esz:Nat}:∀ (L:List (List CV)) (n:Nat),(∀ (i:Nat) (l:List CV),L[i]? = some l→l.length=esz∧∀ (j:Nat) (c:CV),l[j]? = some c→R (n+i*esz+j) c) →
  L.flatten.length=L.length*esz∧∀ (k:Nat) (c:CV),L.flatten[k]? = some c→R (n+k) c
 | [],n,_=>by simp
 | l::L,n,h=>by
  obtain ⟨h1,h2⟩:=h 0 l (by simp)
  have ih:=CJ L (n+esz) (fun i l' hi=>by
   obtain ⟨g1,g2⟩:=h (i+1) l' (by simpa using hi)
   refine ⟨g1,fun j c hj=>?_⟩
   have:=g2 j c hj
   rwa [WP,Nat.one_mul,← Nat.add_assoc,Nat.add_right_comm n] at this)
  refine ⟨by simp[h1,ih.1,WP,Nat.add_comm],fun k c hk=>?_⟩
  rw[List.flatten_cons] at hk
  rcases ZB k l.length with hlt | hge
  ·rw[QE hlt] at hk
   have:=h2 k c hk
   simpa using this
  ·rw[QS hge] at hk
   have:=ih.2 (k-l.length) c hk
   rwa [show n+esz+(k-l.length)=n+k by omega] at this
theorem A4 {P:Program} {R:Nat→CV→Prop} {N:Nat}:∀ (fs:List Field) (L:List (List CV)) (n:Nat),J8 P fs n=some N→L.length=fs.length →
  (∀ (i:Nat) (f:Field) (l:List CV),fs[i]? = some f→L[i]? = some l→l.length=P.cellsOf f.type∧∀ (j:Nat) (c:CV),l[j]? = some c→R (f.offset+j) c) →
  n+L.flatten.length=N∧∀ (k:Nat) (c:CV),L.flatten[k]? = some c→R (n+k) c
 | [],L,n,he,hl,_=>by
  have:L=[]:=ZT (by simpa using hl)
  subst this
  simp only[J8,Option.some.injEq] at he
  simp[he]
 | f::fs,[],n,_,hl,_=>by simp at hl
 | f::fs,l::L,n,he,hl,h=>by
  simp only[J8] at he
  split at he
  ·rename_i hoff
   obtain ⟨h1,h2⟩:=h 0 f l (by simp) (by simp)
   have ih:=A4 fs L (n+P.cellsOf f.type) he (by simpa using hl) (fun i f' l' hf hl'=>h (i+1) f' l' (by simpa using hf) (by simpa using hl'))
   refine ⟨by rw[← ih.1];simp[h1];omega,fun k c hk=>?_⟩
   rw[List.flatten_cons] at hk
   rcases ZB k l.length with hlt | hge
   ·rw[QE hlt] at hk
    have:=h2 k c hk
    rwa [hoff] at this
   ·rw[QS hge] at hk
    have:=ih.2 (k-l.length) c hk
    rwa [show n+P.cellsOf f.type+(k-l.length)=n+k by omega] at this
  ·cases he
theorem NT {W:World} {a:Addr}:∀ (cs:List CV) (i:Nat),(∀ (j:Nat) (c:CV),cs[j]? = some c→∃ v,W.cell? (a.add (i+j))=some v∧c.rep W noO v)→CV.reps W noO cs a i
 | [],_,_=>by simp[CV.reps]
 | c::cs,i,h=>by
  simp only[CV.reps]
  refine ⟨not_noO _,by simpa using h 0 c (by simp),NT cs (i+1) fun j c' hj=>?_⟩
  have:=h (j+1) c' (by simpa using hj)
  rwa [show i+(j+1)=i+1+j by omega] at this
section
variable {H:Type} {enc:TypeId × Value→H} {P:Program} {W:World}
theorem EW:∀ (n:Nat) (t:TypeId) (cs:List Value) (x:DataW H × List MemPlace) (fuel:Nat),TG P n t=true→DataW.trod enc P W 0 (fun _=>true) true fuel t cs=some x →
  ∃ cvs:List CV,Typed P t cvs∧cvs.length=cs.length∧∀ (i:Nat) (c:CV) (v:Value),cvs[i]? = some c→cs[i]? = some v→c.rep W noO v
 | 0,t,cs,x,fuel,ho,_=>by simp[TG] at ho
 | n + 1,t,cs,x,fuel,ho,h=>by
  simp only[TG] at ho
  split at ho
  ·rename_i ht
   obtain ⟨b,rfl,_⟩:=DataW.trod_bool ht h
   refine ⟨[.bool b],.bool ht b,rfl,fun i c v h1 h2=>?_⟩
   cases i with
   | zero=>simp at h1 h2;subst h1 h2;simp[CV.rep]
   | succ i=>simp at h1
  ·rename_i k ht
   obtain ⟨b,rfl,_,hw⟩:=DataW.trod_int ht h
   refine ⟨[.int k b],.int ht b hw,rfl,fun i c v h1 h2=>?_⟩
   cases i with
   | zero=>simp at h1 h2;subst h1 h2;simp[CV.rep]
   | succ i=>simp at h1
  ·rename_i ht
   obtain ⟨s,rfl,_,hw⟩:=DataW.trod_string ht h
   refine ⟨[.str s],.str ht s hw,rfl,fun i c v h1 h2=>?_⟩
   cases i with
   | zero=>simp at h1 h2;subst h1 h2;simp[CV.rep]
   | succ i=>simp at h1
  ·rename_i e ht
   rcases DataW.trod_slice ht h with ⟨rfl,_⟩ | ⟨a,len,cap,elems,rest,m,_,rfl,_,_,hlc,hcm,hel,hget,_⟩
   ·refine ⟨[.rsl [] 0],by simpa using Typed.slc ht [] (by simp) (by simp) (by simp),rfl,fun i c v h1 h2=>?_⟩
    cases i with
    | zero=>simp at h1 h2;subst h1 h2;simp[CV.rep]
    | succ i=>simp at h1
   ·obtain ⟨L,hL,hQ⟩:=DG (Q:=fun i l=>Typed P e l∧l.length=P.cellsOf e∧∀ (j:Nat) (c:CV),l[j]? = some c→∃ v,W.cell? (a.add (i*P.cellsOf e+j))=some v∧c.rep W noO v) len (fun i hi=>by
     have hg:=hget i hi
     rw[QI (by omega)] at hg
     obtain ⟨ci,h1,h2⟩:=QB.1 hg
     obtain ⟨_,hlen,hcell⟩:=World.cells?_some h1
     obtain ⟨cvs,g1,g2,g3⟩:=EW n e ci _ _ ho h2
     refine ⟨cvs,g1,by omega,fun j c hj=>?_⟩
     have hjl:j<cvs.length:=(QH.1 hj).1
     have hc:=hcell j (by omega)
     rw[QI (by omega)] at hc
     exact ⟨_,by rw[← Addr.add_add];exact hc,g3 j c _ hj (QI _)⟩)
    have hmem:∀ l∈L,∃ i:Nat,L[i]? = some l:=fun l hl=>List.mem_iff_getElem?.1 hl
    have hfl:=CJ (R:=fun k c=>∃ v,W.cell? (a.add k)=some v∧c.rep W noO v) (esz:=P.cellsOf e) L 0 (fun i l hi=>⟨(hQ i l hi).2.1,fun j c hj=>by simpa using (hQ i l hi).2.2 j c hj⟩)
    refine ⟨[.rsl L.flatten L.length],Typed.slc ht L (by omega) (fun l hl=>let ⟨i,hi⟩:=hmem l hl;(hQ i l hi).2.1) (fun l hl=>let ⟨i,hi⟩:=hmem l hl;(hQ i l hi).1),rfl,fun i c v h1 h2=>?_⟩
    cases i with
    | zero =>
     simp at h1 h2;subst h1 h2
     simp only[CV.rep]
     exact .inr ⟨a,cap,by rw[hL],by omega,NT _ 0 (fun j c hj=>hfl.2 j c hj)⟩
    | succ i=>simp at h1
  ·rename_i k e ht
   simp only[QD,decide_eq_true_eq] at ho
   obtain ⟨xs,m,_,_,hlen,hxs,hget⟩:=DataW.trod_array ht h
   obtain ⟨L,hL,hQ⟩:=DG (Q:=fun i l=>Typed P e l∧l.length=P.cellsOf e∧∀ (j:Nat) (c:CV),l[j]? = some c→∀ v,cs[i*P.cellsOf e+j]? = some v→c.rep W noO v) k (fun i hi=>by
     have hg:=hget i hi
     rw[QI (by omega)] at hg
     obtain ⟨cvs,g1,g2,g3⟩:=EW n e _ _ _ ho.1 hg
     have hik:i*P.cellsOf e+P.cellsOf e≤k*P.cellsOf e:=by
      have:=YQ (P.cellsOf e) (show i+1≤k by omega)
      rwa [WP,Nat.one_mul] at this
     have hl2:cvs.length=P.cellsOf e:=by rw[g2];simp;omega
     refine ⟨cvs,g1,hl2,fun j c hj v hv=>?_⟩
     have hjl:j<cvs.length:=(QH.1 hj).1
     exact g3 j c v hj (by rw[Z7,if_pos (by omega),X4];exact hv))
   have hmem:∀ l∈L,∃ i:Nat,L[i]? = some l:=fun l hl=>List.mem_iff_getElem?.1 hl
   have hfl:=CJ (R:=fun k c=>∀ v,cs[k]? = some v→c.rep W noO v) (esz:=P.cellsOf e) L 0 (fun i l hi=>⟨(hQ i l hi).2.1,fun j c hj=>by simpa using (hQ i l hi).2.2 j c hj⟩)
   exact ⟨L.flatten,Typed.arr ht L hL (fun l hl=>let ⟨i,hi⟩:=hmem l hl;(hQ i l hi).2.1) (fun l hl=>let ⟨i,hi⟩:=hmem l hl;(hQ i l hi).1),by rw[hfl.1,hlen,ho.2,hL],fun i c v h1 h2=>hfl.2 i c h1 v (by simpa using h2)⟩
  ·rename_i fs ht
   simp only[QD,decide_eq_true_eq,Q1] at ho
   obtain ⟨xs,m,_,_,hlen,hxs,hget⟩:=DataW.trod_struct ht h
   obtain ⟨L,hL,hQ⟩:=DG (Q:=fun i l=>∀ f,fs[i]? = some f→Typed P f.type l∧l.length=min (P.cellsOf f.type) (cs.length-f.offset)∧∀ (j:Nat) (c:CV),l[j]? = some c→∀ v,cs[f.offset+j]? = some v→c.rep W noO v) fs.size (fun i hi=>by
     have hfi:fs[i]? = some fs[i]:=Q7 hi
     have hg:=hget i fs[i] hfi
     rw[QI (by omega)] at hg
     obtain ⟨cvs,g1,g2,g3⟩:=EW n _ _ _ _ (ho.1 fs[i] (by simp)) hg
     have hl2:cvs.length=min (P.cellsOf fs[i].type) (cs.length-fs[i].offset):=by rw[g2];simp
     refine ⟨cvs,fun f hf=>?_⟩
     rw[hfi] at hf;cases hf
     refine ⟨g1,hl2,fun j c hj v hv=>?_⟩
     have hjl:j<cvs.length:=(QH.1 hj).1
     exact g3 j c v hj (by rw[Z7,if_pos (by omega),X4];exact hv))
   have hoff:∀ (fs:List Field) (n N:Nat),J8 P fs n=some N→n≤N∧∀ (i:Nat) (f:Field),fs[i]? = some f→f.offset+P.cellsOf f.type≤N:=by
    intro fs
    induction fs with
    | nil=>intro n N h;simp only[J8,Option.some.injEq] at h;simp[h]
    | cons f fs ih =>
     intro n N h
     simp only[J8] at h
     split at h
     ·rename_i ho
      obtain ⟨h1,h2⟩:=ih _ _ h
      refine ⟨by omega,fun i f' hi=>?_⟩
      cases i with
      | zero=>simp at hi;subst hi;omega
      | succ i=>exact h2 i f' (by simpa using hi)
     ·cases h
   have hin:=(hoff _ _ _ ho.2).2
   have hl:∀ (i:Nat) (f:Field) (l:List CV),fs[i]? = some f→L[i]? = some l→l.length=P.cellsOf f.type:=by
    intro i f l hf hl
    obtain ⟨_,h2,_⟩:=hQ i l hl f hf
    have:=hin i f (by simpa using hf)
    omega
   have hfl:=A4 (P:=P) (R:=fun k c=>∀ v,cs[k]? = some v→c.rep W noO v) fs.toList L 0 ho.2 (by simpa using hL) (fun i f l hf hl' =>
    ⟨hl i f l (by simpa using hf) hl',fun j c hj=>(hQ i l hl' f (by simpa using hf)).2.2 j c hj⟩)
   exact ⟨L.flatten,Typed.struct ht L hL hl (fun i f l hf hl'=>(hQ i l hl' f hf).1),by have:=hfl.1;omega,fun i c v h1 h2=>hfl.2 i c h1 v (by simpa using h2)⟩
  ·cases ho
theorem DV:∀ (cvs:List CV) (vs:List Value),cvs.length=vs.length→(∀ (i:Nat) (c:CV) (v:Value),cvs[i]? = some c→vs[i]? = some v→c.rep W noO v)→QK nom noX W (cvs.map .cv) vs
 | [],[],_,_=>by simp[QK]
 | c::cvs,v::vs,hl,h=>by
  simp only[Q0,QK,VRel]
  exact ⟨h 0 c v rfl rfl,DV cvs vs (by simpa using hl) fun i c v h1 h2=>h (i+1) c v (by simpa using h1) (by simpa using h2)⟩
 | [],_::_,hl,_=>by simp at hl
 | _::_,[],hl,_=>by simp at hl
theorem QfB {n:Nat} {t:TypeId} {v:Value} {d:DataW H} {ps:List MemPlace} {r:Reach} {base:Nat} (ho:TG P n t=true) (hval:Value.okWide P W r base t v) (h:DataW.Trod enc P W 0 (fun _=>true) true t v d ps) :
  ∃ cs,Typed P t cs∧VRel nom noX W (avOf P t cs) v:=by
 obtain ⟨fuel,h⟩:=h
 obtain ⟨cvs,h1,h2,h3⟩:=EW n t _ _ _ ho h
 refine ⟨cvs,h1,?_⟩
 unfold avOf
 have one:(v.cells.toList=[v])→VRel nom noX W (.cv (cvs.headD .nilp)) v:=by
  intro hv
  rw[hv] at h2 h3
  match cvs,h2 with
  | [c],_=>simp only[List.headD_cons,VRel];exact h3 0 c v rfl rfl
 cases n with
 | zero=>simp[TG] at ho
 | succ n =>
  simp only[TG] at ho
  split at ho
  ·rename_i ht;rw[ht];obtain ⟨b,rfl⟩:=okWide_bool ht hval;exact one rfl
  ·rename_i ht;rw[ht];obtain ⟨b,rfl⟩:=okWide_int ht hval;exact one rfl
  ·rename_i ht;rw[ht];obtain ⟨b,rfl⟩:=okWide_string ht hval;exact one rfl
  ·rename_i ht;rw[ht];obtain ⟨_,_,_,rfl⟩:=okWide_slice ht hval;exact one rfl
  ·rename_i ht;rw[ht]
   simp only[Value.okWide,ht] at hval
   obtain ⟨arr,rfl,_⟩:=hval
   simp only[VRel]
   exact ⟨arr.toList,by simp,DV _ _ h2 h3⟩
  ·rename_i ht;rw[ht]
   simp only[Value.okWide,ht] at hval
   obtain ⟨arr,rfl,_⟩:=hval
   simp only[VRel]
   exact ⟨arr.toList,by simp,DV _ _ h2 h3⟩
  ·cases ho
theorem C1 {n:Nat} {r:Reach} {base:Nat}:∀ {ts:List TypeId} {vs:List Value} {ds:List (DataW H)} {ps:List MemPlace},(ts.all (TG P n))=true →
  (∀ (j:Nat) (t:TypeId) (v:Value),ts[j]? = some t→vs[j]? = some v→Value.okWide P W r base t v)→DataW.TrodAll enc P W 0 (fun _=>true) true ts vs ds ps →
  ds.length=ts.length∧∃ avs,Args P ts avs∧QK nom noX W avs vs
 | [],_,_,_,_,_,h=>by
  obtain ⟨rfl,rfl,rfl⟩:=trodAll_nil h
  exact ⟨rfl,[],.nil,by simp[QK]⟩
 | t::ts,_,_,_,ho,hval,h=>by
  obtain ⟨v,vs1,d,ds1,a,b,rfl,rfl,rfl,h1,h2⟩:=trodAll_cons h
  simp only[List.all_cons,QD] at ho
  obtain ⟨cs,g1,g2⟩:=QfB ho.1 (hval 0 t v rfl rfl) h1
  obtain ⟨hl,avs,g3,g4⟩:=C1 ho.2 (fun j t v h1 h2=>hval (j+1) t v (by simpa using h1) (by simpa using h2)) h2
  exact ⟨by simp[hl],_,.cons g1 g3,by simp only[QK];exact ⟨g2,g4⟩⟩
theorem LU (hl:laidOutB P=true) {W':World} (hb:Below W.heap.size W W'):∀ {ts:List TypeId} {vs:List Value} {ds:List (DataW H)} {ps:List MemPlace},(ts.all fun t=>P.readableRec t&&decide (t<P.types.size))=true →
  DataW.TrodAll enc P W 0 (fun _=>true) true ts vs ds ps→(∀ x∈ps,x.block<W.heap.size)→DataW.TrodAll enc P W' 0 (fun b=>decide (b<W.heap.size)) true ts vs ds ps
 | [],_,_,_,_,h,_=>by
  obtain ⟨rfl,rfl,rfl⟩:=trodAll_nil h
  exact trodAll_mk0
 | t::ts,_,_,_,ho,h,hlt=>by
  obtain ⟨v,vs1,d,ds1,a,b,rfl,rfl,rfl,h1,h2⟩:=trodAll_cons h
  simp only[List.all_cons,QD,decide_eq_true_eq] at ho
  refine trodAll_cons_mk (Below.trod hl ho.1.1 ho.1.2 h1 hb fun x hx=>hlt x (by simp[hx])) (LU hl hb ?_ h2 fun x hx=>hlt x (by simp[hx]))
  simpa using ho.2
theorem law_of_AC {f:FuncId} {fn:Func} {s:ChangeSpec} {n:Nat} {t:TypeId} {base:Nat} {args:Array Value} {ds gs:List (DataW H)} {before:List MemPlace}
  (hl:laidOutB P=true) (hpar:(fn.params.toList.all fun t=>P.readableRec t&&decide (t<P.types.size))=true) (ho:fn.params.toList.all (TG P n)=true)
  (hres:fn.resultTypes = #[t]) (htb:P.underlying t=some .bool) (hsv:s.vars=[]) (hs:∀ ds:List (DataW H),ds.length=fn.params.toList.length→s.fn H ds = { results:=[.lit (.bool true)],args:=ds })
  (hAC:∀ avs,Args P fn.params.toList avs→AC P f avs [] fun r _=>r=.b true)
  (hval:∀ (j:Nat) t v,fn.params[j]? = some t→args[j]? = some v→Value.okWide P W .any base t v) (hgl:GlOk nom noX W)
  (hW:DataW.Whole enc P fn.params.toList s.vars false W args.toList ds gs before) :
  Calls P f args W fun e W'=>∃ v,e=.returned v∧s.post enc P fn false true false false W args v W':=by
 have hW':=hW
 obtain ⟨p,q,hA,hV,rfl,hfz,hnd⟩:=hW
 rw[hsv] at hV
 obtain ⟨rfl,rfl⟩:=trodVars_none hV
 have hlt:∀ x∈p,x.block<W.heap.size:=fun x hx=>hW'.lt x (by simp[hx])
 obtain ⟨hlen,avs,hav,hrel⟩:=C1 ho (fun j t v h1 h2=>hval j t v (by simpa using h1) (by simpa using h2)) hA
 have hcall:=(hAC avs hav).2 nom noX W args.toList hrel ⟨by simp,by simp,by simp,by simp,by simp,hgl⟩
 have hcall:=callsIn_wide.1 hcall
 simp only[Array.toArray_toList] at hcall
 refine hcall.mono fun e W' ⟨c,r,σ',m',he,hq,hr,_,hst,_⟩=>?_
 subst he hq
 simp only[VRel,CV.rep] at hr
 subst hr
 have hb:Below W.heap.size W W':=⟨hst.os,hst.tape,hst.output,hst.size,fun k hk=>hst.fr k hk (.inr (by simp))⟩
 have hsf:s.fn H (ds++[]) = { results:=[.lit (.bool true)],args:=ds }:=by rw[ZU];exact hs ds hlen
 refine ⟨_,rfl,ds,[],p++[],[],p,[],hW',?_,?_,?_,hb.frame _,fun h=>by simp at h⟩
 ·rw[hsf,hres]
  exact trodAll_mk1 (shut_bool htb true)
 ·rw[hsf]
  exact LU hl hb hpar hA hlt
 ·rw[hsf,hsv]
  rfl
end
end Go.Proofs.YtfnhbbohjnjfnaaGreat.AM

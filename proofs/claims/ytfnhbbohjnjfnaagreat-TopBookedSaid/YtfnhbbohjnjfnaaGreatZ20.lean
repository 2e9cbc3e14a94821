/- Parts of the proof, joined: BkIcM to BkIcM. -/
import Derived.Test.YtfnhbbohjnjfnaaGreatProg
import Derived.Test.YtfnhbbohjnjfnaaGreatZ19
set_option linter.unusedVariables false
set_option linter.unusedSimpArgs false
set_option linter.unusedSectionVars false
namespace Go.Proofs.YtfnhbbohjnjfnaaGreat.AM
variable [Dr]
open Go
abbrev vs34:List Nat:=[0,1,2,3,4,5,6,7,35,37,36]
def ic34l0:IC:=(.seq (.region [jw 9 (.bin .lss .int) [.v 10,.v 8]])
 (.seq (.cond 9 .skip
 (.exit 0))
 (.seq (.block 1 (.seq (.region [jv 10,jm 7 0])
 (.region [jL 6,jv 7,⟨none,none,.call,[(.t 0),(.t 1)]⟩])))
 (.region [jq (.bin .add .int) [.v 10,jn 1],jm 10 0]))))
def ic34:IC:=(.seq (.region [jb 1 0,jw 2 .mv [jS]])
 (.seq (.dr [[],[0],[1],[2],[3],[4],[5,5],[],[7],[8],[9],[10],[11],[12,12],[],[14],[15],[16],[17],[18],[19,19],[],[],[],[21,6,0,1,2,3,4,5,6,21,22,23],[22,13,24,0,1,2,3,4,5,6,7,8,9,10,11,12,13,21,22,23,24],[23,20,25,0,1,2,3,4,5,6,7,8,9,10,11,12,13,14,15,16,17,18,19,20,21,22,23,24,25]] [jL 1,jc 0,jG 0 1,jG 1 2,jl 3,je 4,jq (.mksliceC 1 8 [(.cv (.int .i64 0))]) [.t 5,.t 5],jL 1,jc 7,jG 0 8,jG 1 9,jl 10,je 11,jq (.mksliceC 1 8 [(.cv (.int .i64 0))]) [.t 12,.t 12],jL 1,jc 14,jG 0 15,jG 0 16,jl 17,je 18,jq (.mksliceC 1 24 [(.cv .nils)]) [.t 19,.t 19],jw 3 (.alloc [(.cv .nils)]) [],jw 4 (.alloc [(.cv .nils)]) [],jw 5 (.alloc [(.cv .nils)]) [],jq (.store 1) [.v 3,.t 6],jq (.store 1) [.v 4,.t 13],jq (.store 1) [.v 5,.t 20]])
 (.seq (.region [jw 6 (.alloc [(.cv .nilf)]) []])
 (.seq (.region [jq (.mkfn (.func 58)) [.v 3,.v 4,.v 1,.v 5,.v 6],jq (.store 1) [.v 6,.t 0]])
 (.seq (.seq (.region [jL 1,jc 0,jG 0 1,jG 1 2,jl 3,jw 8 (.len false) [.t 4],jz 10 0])
 (.block 0 (.loop ic34l0)))
 (.seq (.region [jL 3,jm 2 0])
 .ret))))))
abbrev rs34:List RC:=[(.v 2)]
theorem fok34 (p:Bool):FnOk Tryz.prog 34 ⟨ic34,vs34,44,rs34,p⟩:=.mk2 Tryz.func34 (by kernel_rfl) (by kernel_rfl) (by kernel_rfl) (by kernel_rfl) (by kernel_rfl)
end Go.Proofs.YtfnhbbohjnjfnaaGreat.AM

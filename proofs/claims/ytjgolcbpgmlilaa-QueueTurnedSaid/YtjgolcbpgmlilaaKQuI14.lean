/- Compiled code of functions 14 to 14, written by program (gen.py) and checked by the kernel. -/
import Derived.Test.YtjgolcbpgmlilaaZ32
namespace Go.Proofs.Ytjgolcbpgmlilaa.AM
open Go
set_option linter.unusedVariables false

abbrev vs14 : List Nat := [0, 1, 2, 4, 5, 6, 7, 8, 9, 10, 11, 12, 32, 49, 54]
def ic14l0 : IC := (.seq (.seq (.region [jv 8, jv 4, je 1, jw 13 (.bin .lss .int) [.t 0, .t 2]])
 (.cond 13 .skip
 (.exit 0)))
 (.seq (.block 1 (.seq (.region [jz 9 0])
 (.seq (.seq (.region [jv 1, je 0, jw 14 (.bin .gtr .int) [.t 1, jn 0]])
 (.cond 14 (.region [jv 1, jv 8, jv 1, je 2, jq (.bin .rem .int) [.t 1, .t 3], ja 1 0 4, jl 5, jq (.conv .i64) [.t 6], jv 8, jq (.bin .add .int) [.t 8, jn 1], jq (.bin .rem .int) [.t 7, .t 9], jm 9 10])
 .skip))
 (.seq (.dr [[], [], [1], [], [2, 3], [0, 4], [], [6], [], [7, 8], [9], [10], [5, 11, 5], [], [13], [], [14, 15], [12, 16, 12], [0, 1, 2, 3, 4, 5, 6, 7, 8, 9, 10, 11, 12, 13, 14, 15, 16, 17], [18, 17, 17, 0, 1, 2, 3, 4, 5, 6, 7, 8, 9, 10, 11, 12, 13, 14, 15, 16, 17]] [jq (.bslice 5 0 [] []) [], jF 1 6, jl 1, jv 9, jq (.slS 5 false true) [.t 2, .t 3], jq (.append 5 64) [.t 0, .t 4], jF 1 2, jl 6, jv 8, ja 5 7 8, jq (.loadN 5) [.t 9], jq (.bslice 5 1 [(.cv (.str (bts []))), (.cv (.int .i64 0)), (.cv (.int .i64 0)), (.cv (.int .i64 0)), (.cv .nils)] [(0, 5)]) [.t 10], jq (.append 5 64) [.t 5, .t 11], jF 1 6, jl 13, jv 9, jq (.slS 5 true false) [.t 14, .t 15], jq (.append 5 64) [.t 12, .t 16], jF 1 6, jq (.store 1) [.t 18, .t 17]])
 (.dr [[], [], [], [1, 2], [0, 3], [], [], [5, 6], [7], [8], [4, 9, 4], [], [], [11, 12], [10, 13, 10], [14, 14, 0, 1, 2, 3, 4, 5, 6, 7, 8, 9, 10, 11, 12, 13, 14]] [jq (.bslice 1 0 [] []) [], jv 7, jv 9, jq (.slS 1 false true) [.t 1, .t 2], jq (.append 1 8) [.t 0, .t 3], jv 4, jv 8, ja 1 5 6, jl 7, jq (.bslice 1 1 [(.cv (.int .i64 0))] [(0, 1)]) [.t 8], jq (.append 1 8) [.t 4, .t 9], jv 7, jv 9, jq (.slS 1 true false) [.t 11, .t 12], jq (.append 1 8) [.t 10, .t 13], jm 7 14])))))
 (.region [jv 8, jq (.bin .add .int) [.t 0, jn 1], jm 8 1])))
def ic14 : IC := (.seq (.region [jb 2 0, jw 3 .mv [jB false]])
 (.seq (.region [jN 2 2, jk 22 [.t 0], jt 1, jx 0 2, jx 1 2, jm 4 3, jm 5 4])
 (.seq (.seq (.region [jv 5, jq (.bin .neq .int) [.t 0, jn 0], jt 1, jg 2 false (.loadN 2) [.v 2], jf 2 false 34 [.t 3], jg 2 false .not [.t 4], jq .pick [.t 2, jB true, .t 5], jt 6, jh 7 false 4, jg 7 false (.len false) [.t 8], jg 7 false (.fadd 1) [.v 2], ji 7 false 10, jg 7 false (.len false) [.t 11], jg 7 false (.bin .neq .int) [.t 9, .t 12], jw 12 .pick [.t 7, jB true, .t 13]])
 (.cond 12 (.seq (.region [jv 5, jq (.bin .neq .int) [.t 0, jn 0], jt 1, jh 2 true 4, jg 2 true (.len false) [.t 3], jg 2 true (.bin .eql .int) [.t 4, jn 0], jq .pick [.t 2, .t 5, jB false], jt 6, jf 7 true 21 [], jq .pick [.t 7, .t 8, jB false], jm 3 9])
 .ret)
 .skip))
 (.seq (.region [jF 0 2, jl 0, jq (.build [(.cv .nils), (.cv .nils)] [(0, 1)]) [.t 1], jw 6 (.alloc [(.cv .nils), (.cv .nils)]) [], jq (.store 2) [.v 6, .t 2]])
 (.seq (.region [jw 7 .mv [jS]])
 (.seq (.seq (.region [jz 8 0])
 (.block 0 (.loop ic14l0)))
 (.seq (.region [jN 2 6, jk 22 [.t 0], jt 1, jx 0 2, jx 1 2, jm 10 3, jm 11 4])
 (.seq (.region [jv 11, jq (.bin .eql .int) [.t 0, jn 0], jt 1, jh 2 true 10, jh 2 true 7, jf 2 true 20 [.t 3, .t 4], jq .pick [.t 2, .t 5, jB false], jt 6, jf 7 true 21 [], jq .pick [.t 7, .t 8, jB false], jm 3 9])
 .ret))))))))
abbrev rs14 : List RC := [(.v 3)]
theorem fok14 (p : Bool) : FnOk Try.prog 14 ⟨ic14, vs14, 115, rs14, p⟩ := .mk2 Try.func14 (by kernel_rfl) (by kernel_rfl) (by kernel_rfl) (by kernel_rfl) (by kernel_rfl)

end Go.Proofs.Ytjgolcbpgmlilaa.AM

/- Compiled code of functions 15 to 15, written by program (gen.py) and checked by the kernel. -/
import Derived.Test.YtjgolcbpgmlilaaZ32
namespace Go.Proofs.Ytjgolcbpgmlilaa.AM
open Go
set_option linter.unusedVariables false

abbrev vs15 : List Nat := [0, 1, 2, 3, 4, 5, 6, 7, 8, 9, 10, 11, 12, 13, 38, 80, 105]
def ic15l0 : IC := (.seq (.seq (.region [jv 10, jF 1 2, jl 1, jv 7, ja 5 2 3, jG 4 4, jl 5, je 6, jw 15 (.bin .lss .int) [.t 0, .t 7]])
 (.cond 15 .skip
 (.exit 0)))
 (.seq (.block 1 (.seq (.region [jF 1 2, jl 0, jv 7, ja 5 1 2, jG 4 3, jl 4, jv 10, ja 1 5 6, jl 7, jm 11 8])
 (.seq (.region [jv 11, jv 5, jv 7, ja 1 1 2, jl 3, jq (.bin .eql .int) [.t 0, .t 4], jt 5, jg 6 false (.iaA 2 1) [.v 3, jn 1], ji 6 false 7, jh 6 false 10, jg 6 false (.bin .shr .int) [.t 8, .t 9], jg 6 false (.bin .rem .int) [.t 10, .c (.cv (.int .u8 2))], jg 6 false (.bin .eql .int) [.t 11, .c (.cv (.int .u8 0))], jw 16 .pick [.t 6, jB true, .t 12]])
 (.cond 16 (.region [jv 9, jv 11, jq (.bslice 1 1 [(.cv (.int .i64 0))] [(0, 1)]) [.t 1], jq (.append 1 8) [.t 0, .t 2], jm 9 3])
 .skip))))
 (.region [jv 10, jq (.bin .add .int) [.t 0, jn 1], jm 10 1])))
def ic15 : IC := (.seq (.region [jb 2 0, jb 3 1, jw 4 .mv [jB false]])
 (.seq (.region [jN 2 2, jk 22 [.t 0], jt 1, jx 0 2, jx 1 2, jm 5 3, jm 6 4])
 (.seq (.seq (.region [jv 6, jq (.bin .neq .int) [.t 0, jn 0], jt 1, jg 2 false (.loadN 2) [.v 2], jf 2 false 34 [.t 3], jg 2 false .not [.t 4], jq .pick [.t 2, jB true, .t 5], jt 6, jh 7 false 5, jg 7 false (.len false) [.t 8], jg 7 false (.fadd 1) [.v 2], ji 7 false 10, jg 7 false (.len false) [.t 11], jg 7 false (.bin .neq .int) [.t 9, .t 12], jq .pick [.t 7, jB true, .t 13], jt 14, jh 15 false 5, jg 15 false (.len false) [.t 16], jg 15 false (.bin .eql .int) [.t 17, jn 0], jw 14 .pick [.t 15, jB true, .t 18]])
 (.cond 14 (.seq (.region [jv 6, jq (.bin .eql .int) [.t 0, jn 0], jN 2 2, jk 34 [.t 2], jq (.bin .eql .bool) [.t 1, .t 3], jt 4, jh 5 true 6, jg 5 true (.bin .neq .int) [.t 6, jn 0], jg 5 true .mv [.t 7], jh 8 false 5, jg 8 false (.len false) [.t 9], jg 8 false (.fadd 1) [.v 2], ji 8 false 11, jg 8 false (.len false) [.t 12], jg 8 false (.bin .eql .int) [.t 10, .t 13], jg 5 true .pick [.t 8, jB true, .t 14], jq .pick [.t 5, .t 15, jB false], jt 16, jf 17 true 21 [], jq .pick [.t 17, .t 18, jB false], jm 4 19])
 .ret)
 .skip))
 (.seq (.region [jq (.iaA 2 1) [.v 3, jn 0], jl 0, jq (.conv .i64) [.t 1], jv 5, je 3, jq (.bin .rem .int) [.t 2, .t 4], jm 7 5])
 (.seq (.dr [[], [0], [], [], [3], [2, 4], [1, 5], [], [7, 6, 5, 0, 1, 2, 3, 4, 5, 6, 7]] [jF 0 2, jl 0, jq (.bslice 5 0 [] []) [], jF 1 2, jl 3, jq (.append 5 64) [.t 2, .t 4], jq (.build [(.cv .nils), (.cv .nils)] [(0, 1), (1, 1)]) [.t 1, .t 5], jw 8 (.alloc [(.cv .nils), (.cv .nils)]) [], jq (.store 2) [.v 8, .t 6]])
 (.seq (.region [jw 9 .mv [jS]])
 (.seq (.seq (.region [jz 10 0])
 (.block 0 (.loop ic15l0)))
 (.seq (.region [jF 1 8, jl 0, jv 7, jv 9, ja 5 1 2, jG 4 4, jq (.store 1) [.t 5, .t 3]])
 (.seq (.region [jN 2 8, jk 22 [.t 0], jt 1, jx 0 2, jx 1 2, jm 12 3, jm 13 4])
 (.seq (.dr [[], [0], [1], [2], [3, 2], [2], [5, 2], [4, 6, 2], [2, 7], [8, 2], [9], [9], [10, 11, 9], [12, 9], [9], [9], [14, 15, 9], [16, 9], [13, 17, 9], [9, 18], [19, 9], [20, 20], [20, 21], [22, 21, 0, 1, 2, 3, 4, 5, 6, 7, 8, 9, 10, 11, 12, 13, 14, 15, 16, 17, 18, 19, 20, 21, 22]] [jv 13, jq (.bin .eql .int) [.t 0, jn 0], jt 1, jh 2 true 12, jg 2 true (.len false) [.t 3], jh 2 true 5, jg 2 true (.len false) [.t 5], jg 2 true (.bin .eql .int) [.t 4, .t 6], jq .pick [.t 2, .t 7, jB false], jt 8, jh 9 true 12, jh 9 true 7, jg 9 true (.iaS 1) [.t 10, .t 11], ji 9 true 12, jh 9 true 5, jh 9 true 7, jg 9 true (.iaS 1) [.t 14, .t 15], ji 9 true 16, jg 9 true (.bin .eql .int) [.t 13, .t 17], jq .pick [.t 9, .t 18, jB false], jt 19, jf 20 true 21 [], jq .pick [.t 20, .t 21, jB false], jm 4 22])
 .ret))))))))))
abbrev rs15 : List RC := [(.v 4)]
theorem fok15 (p : Bool) : FnOk Try.prog 15 ⟨ic15, vs15, 144, rs15, p⟩ := .mk2 Try.func15 (by kernel_rfl) (by kernel_rfl) (by kernel_rfl) (by kernel_rfl) (by kernel_rfl)

end Go.Proofs.Ytjgolcbpgmlilaa.AM

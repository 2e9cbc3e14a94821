/- Compiled code of functions 12 to 12, written by program (gen.py) and checked by the kernel. -/
import Derived.Test.YtjgolcbpgmlilaaZ32
namespace Go.Proofs.Ytjgolcbpgmlilaa.AM
open Go
set_option linter.unusedVariables false

abbrev vs12 : List Nat := [0, 1, 2, 3, 4, 5, 6, 7, 8, 9, 10, 11, 12, 13, 14, 48, 87, 96, 135, 150]
def ic12l0 : IC := (.seq (.seq (.region [jv 12, jv 11, je 1, jw 17 (.bin .lss .int) [.t 0, .t 2]])
 (.cond 17 .skip
 (.exit 0)))
 (.seq (.block 1 (.seq (.region [jv 11, jv 12, ja 3 0 1, jq (.loadN 3) [.t 2], jw 13 (.alloc [(.cv (.int .i64 0)), (.cv (.int .i64 0)), (.cv (.int .i64 0))]) [], jq (.store 3) [.v 13, .t 3]])
 (.seq (.seq (.dr [[], [0], [1], [2], [3], [4, 3], [3], [6, 3], [5, 7, 3], [3, 8], [9, 3], [10], [10], [12, 10], [11, 13, 10], [14, 10, 10], [15], [16, 15], [15], [18, 15], [17, 19, 15], [15, 20, 10], [10, 21], [22, 15], [23], [24, 23], [23], [23], [27, 23], [26, 28, 23], [29, 23], [25, 30, 23], [23, 31]] [jF 0 13, jl 0, jq (.bin .lss .int) [.t 1, jn 0], jt 2, jg 3 false (.fadd 0) [.v 13], ji 3 false 4, jh 3 false 5, jg 3 false (.len false) [.t 6], jg 3 false (.bin .geq .int) [.t 5, .t 7], jq .pick [.t 3, jB true, .t 8], jt 9, jh 10 false 12, jh 10 false 7, jg 10 false (.len false) [.t 12], jg 10 false (.bin .lss .int) [.t 11, .t 13], jg 10 false .mv [.t 14], jg 15 true (.fadd 0) [.v 13], ji 15 true 16, jg 15 true (.iaA 2 1) [.v 3, jn 0], ji 15 true 18, jg 15 true (.bin .eql .int) [.t 17, .t 19], jg 10 false .pick [.t 15, .t 20, jB false], jq .pick [.t 10, jB true, .t 21], jt 22, jg 23 false (.fadd 1) [.v 13], ji 23 false 24, jh 23 false 5, jg 23 false (.fadd 0) [.v 13], ji 23 false 27, jg 23 false (.iaS 1) [.t 26, .t 28], ji 23 false 29, jg 23 false (.bin .neq .int) [.t 25, .t 30], jw 18 .pick [.t 23, jB true, .t 31]])
 (.cond 18 (.seq (.region [jw 4 .mv [jB false]])
 .ret)
 .skip))
 (.seq (.region [jF 1 2, jl 0, jF 0 13, jl 2, ja 5 1 3, jq (.loadN 5) [.t 4], jw 14 (.alloc [(.cv (.str (bts []))), (.cv (.int .i64 0)), (.cv (.int .i64 0)), (.cv (.int .i64 0)), (.cv .nils)]) [], jq (.store 5) [.v 14, .t 5]])
 (.seq (.dr [[], [], [1], [0, 2], [], [], [5], [4, 6, 3], [3, 7]] [jN 5 14, jF 2 13, jl 1, jk 35 [.t 0, .t 2], jN 5 14, jF 1 13, jl 5, jk 35 [.t 4, .t 6], jw 19 (.bin .geq .int) [.t 3, .t 7]])
 (.cond 19 (.seq (.region [jw 4 .mv [jB false]])
 .ret)
 .skip))))))
 (.region [jv 12, jq (.bin .add .int) [.t 0, jn 1], jm 12 1])))
def ic12 : IC := (.seq (.region [jb 2 0, jb 3 1, jw 4 .mv [jB false]])
 (.seq (.region [jN 2 2, jk 22 [.t 0], jt 1, jx 0 2, jx 1 2, jm 5 3, jm 6 4])
 (.seq (.region [jN 2 2, jq (.iaA 2 1) [.v 3, jn 0], jl 1, jk 28 [.t 0, .t 2], jt 3, jx 0 4, jx 1 4, jm 7 5, jm 8 6])
 (.seq (.region [jN 2 2, jq (.iaA 2 1) [.v 3, jn 1], jl 1, jk 31 [.t 0, .t 2], jt 3, jx 0 4, jx 1 4, jm 9 5, jm 10 6])
 (.seq (.seq (.region [jv 6, jq (.bin .neq .int) [.t 0, jn 0], jt 1, jg 2 false (.loadN 2) [.v 2], jf 2 false 34 [.t 3], jg 2 false .not [.t 4], jq .pick [.t 2, jB true, .t 5], jt 6, jh 7 false 5, jg 7 false (.len false) [.t 8], jg 7 false (.fadd 1) [.v 2], ji 7 false 10, jg 7 false (.len false) [.t 11], jg 7 false (.bin .neq .int) [.t 9, .t 12], jw 15 .pick [.t 7, jB true, .t 13]])
 (.cond 15 (.seq (.region [jv 6, jq (.bin .neq .int) [.t 0, jn 0], jt 1, jh 2 true 8, jh 2 true 6, jg 2 true (.bin .eql .int) [.t 3, .t 4], jq .pick [.t 2, .t 5, jB false], jt 6, jh 7 true 10, jh 7 true 6, jg 7 true (.bin .eql .int) [.t 8, .t 9], jq .pick [.t 7, .t 10, jB false], jt 11, jh 12 true 7, jg 12 true (.len false) [.t 13], jh 12 true 9, jg 12 true (.len false) [.t 15], jg 12 true (.bin .add .int) [.t 14, .t 16], jg 12 true (.bin .eql .int) [.t 17, jn 0], jq .pick [.t 12, .t 18, jB false], jt 19, jf 20 true 21 [], jq .pick [.t 20, .t 21, jB false], jm 4 22])
 .ret)
 .skip))
 (.seq (.seq (.region [jv 8, jq (.bin .neq .int) [.t 0, jn 0], jt 1, jh 2 true 7, jg 2 true (.len false) [.t 3], jg 2 true (.bin .gtr .int) [.t 4, jn 0], jq .pick [.t 2, .t 5, jB false], jt 6, jh 7 false 10, jg 7 false (.bin .neq .int) [.t 8, jn 0], jg 7 false .mv [.t 9], jh 10 true 9, jg 10 true (.len false) [.t 11], jg 10 true (.bin .gtr .int) [.t 12, jn 0], jg 7 false .pick [.t 10, .t 13, jB false], jw 16 .pick [.t 7, jB true, .t 14]])
 (.cond 16 (.seq (.region [jw 4 .mv [jB false]])
 .ret)
 .skip))
 (.seq (.region [jq (.bslice 3 0 [] []) [], jv 7, jq (.append 3 24) [.t 0, .t 1], jv 9, jq (.append 3 24) [.t 2, .t 3], jm 11 4])
 (.seq (.seq (.region [jz 12 0])
 (.block 0 (.loop ic12l0)))
 (.seq (.region [jk 21 [], jm 4 0])
 .ret)))))))))
abbrev rs12 : List RC := [(.v 4)]
theorem fok12 (p : Bool) : FnOk Try.prog 12 ⟨ic12, vs12, 152, rs12, p⟩ := .mk2 Try.func12 (by kernel_rfl) (by kernel_rfl) (by kernel_rfl) (by kernel_rfl) (by kernel_rfl)

end Go.Proofs.Ytjgolcbpgmlilaa.AM

/- Compiled code of the law 13, written by program (gen.py) and checked by the kernel. -/
import Derived.Test.YtphdemhopihpnaaZ32
namespace Go.Proofs.Ytphdemhopihpnaa.AM
open Go
set_option linter.unusedVariables false

abbrev vs13 : List Nat := [0, 1, 2, 4, 5, 6, 7, 8, 9, 10, 11, 24, 53, 55, 72, 105, 116, 127]
def ic13l0 : IC := (.seq (.seq (.region [jv 10, jv 4, je 1, jw 16 (.bin .lss .int) [.t 0, .t 2]])
 (.cond 16 .skip
 (.exit 2)))
 (.seq (.block 3 (.seq (.dr [[], [], [], [], [2, 3], [4], [5], [1, 6], [0, 7, 6]] [jN 2 2, jv 8, jv 4, jv 10, ja 1 2 3, jl 4, jk 44 [.t 5], jq (.bin .sub .int) [.t 1, .t 6], jd 17 43 [.t 0, .t 7]])
 (.cond 17 (.seq (.region [jw 3 .mv [jB false]])
 .ret)
 .skip)))
 (.region [jv 10, jq (.bin .add .int) [.t 0, jn 1], jm 10 1])))
def ic13l1 : IC := (.seq (.seq (.region [jv 9, jv 4, je 1, jw 14 (.bin .lss .int) [.t 0, .t 2]])
 (.cond 14 .skip
 (.exit 0)))
 (.seq (.block 1 (.seq (.seq (.dr [[], [], [0, 1], [2], [3], [4], [5], [5], [6, 7, 5], [8, 5], [5], [10, 5], [11, 5], [9, 12, 5], [5, 13], [14, 5], [15], [16, 15], [17, 15, 15], [18], [18], [19, 20, 18], [21, 18], [18], [18], [24, 18], [23, 25, 18], [26, 18], [22, 27, 18], [18, 28, 15], [15, 29]] [jv 4, jv 9, ja 1 0 1, jl 2, jq (.bin .lss .int) [.t 3, jn 0], jt 4, jh 5 false 4, jh 5 false 9, jg 5 false (.iaS 1) [.t 6, .t 7], ji 5 false 8, jg 5 false (.fadd 1) [.v 2], ji 5 false 10, jg 5 false (.len false) [.t 11], jg 5 false (.bin .geq .int) [.t 9, .t 12], jq .pick [.t 5, jB true, .t 13], jt 14, jh 15 false 9, jg 15 false (.bin .gtr .int) [.t 16, jn 0], jg 15 false .mv [.t 17], jh 18 true 4, jh 18 true 9, jg 18 true (.iaS 1) [.t 19, .t 20], ji 18 true 21, jh 18 true 4, jh 18 true 9, jg 18 true (.bin .sub .int) [.t 24, jn 1], jg 18 true (.iaS 1) [.t 23, .t 25], ji 18 true 26, jg 18 true (.bin .leq .int) [.t 22, .t 27], jg 15 false .pick [.t 18, .t 28, jB false], jw 15 .pick [.t 15, jB true, .t 29]])
 (.cond 15 (.seq (.region [jw 3 .mv [jB false]])
 .ret)
 .skip))
 (.region [jv 8, jv 4, jv 9, ja 1 1 2, jl 3, jk 44 [.t 4], jq (.bin .add .int) [.t 0, .t 5], jm 8 6])))
 (.region [jv 9, jq (.bin .add .int) [.t 0, jn 1], jm 9 1])))
def ic13 : IC := (.seq (.region [jb 2 0, jw 3 .mv [jB false]])
 (.seq (.region [jN 2 2, jk 32 [.t 0], jt 1, jx 0 2, jx 1 2, jm 4 3, jm 5 4])
 (.seq (.region [jN 2 2, jk 26 [.t 0], jt 1, jx 0 2, jx 1 2, jm 6 3, jm 7 4])
 (.seq (.seq (.region [jN 2 2, jk 38 [.t 0], jw 11 .not [.t 1]])
 (.cond 11 (.seq (.region [jv 5, jq (.bin .neq .int) [.t 0, jn 0], jt 1, jh 2 true 7, jh 2 true 5, jg 2 true (.bin .eql .int) [.t 3, .t 4], jq .pick [.t 2, .t 5, jB false], jt 6, jh 7 true 4, jg 7 true (.len false) [.t 8], jg 7 true (.bin .eql .int) [.t 9, jn 0], jq .pick [.t 7, .t 10, jB false], jt 11, jf 12 true 23 [], jq .pick [.t 12, .t 13, jB false], jm 3 14])
 .ret)
 .skip))
 (.seq (.seq (.region [jv 5, jq (.bin .neq .int) [.t 0, jn 0], jt 1, jh 2 false 7, jg 2 false (.bin .neq .int) [.t 3, jn 0], jq .pick [.t 2, jB true, .t 4], jt 5, jh 6 false 6, jg 6 false (.bin .eql .int) [.t 7, jn 0], jh 6 false 4, jg 6 false (.len false) [.t 9], jg 6 false (.bin .gtr .int) [.t 10, jn 0], jg 6 false (.bin .neq .bool) [.t 8, .t 11], jw 12 .pick [.t 6, jB true, .t 12]])
 (.cond 12 (.seq (.region [jw 3 .mv [jB false]])
 .ret)
 .skip))
 (.seq (.seq (.region [jv 6, jw 13 (.bin .gtr .int) [.t 0, jn 0]])
 (.cond 13 (.seq (.dr [[], [], [1], [], [3], [4], [5], [2, 6], [0, 7, 6], [8], [9, 8], [10, 10], [10, 11], [12, 11, 0, 1, 2, 3, 4, 5, 6, 7, 8, 9, 10, 11, 12]] [jN 2 2, jv 1, jq (.conv .i64) [.t 1], jF 1 2, jl 3, je 4, jk 44 [.t 5], jq (.bin .rem .int) [.t 2, .t 6], jk 43 [.t 0, .t 7], jq .not [.t 8], jt 9, jf 10 true 23 [], jq .pick [.t 10, .t 11, jB false], jm 3 12])
 .ret)
 .skip))
 (.seq (.region [jz 8 0])
 (.seq (.seq (.region [jz 9 0])
 (.block 0 (.loop ic13l1)))
 (.seq (.seq (.region [jz 10 0])
 (.block 2 (.loop ic13l0)))
 (.seq (.region [jN 2 2, jv 8, jk 43 [.t 0, .t 1], jt 2, jf 3 true 23 [], jq .pick [.t 3, .t 4, jB false], jm 3 5])
 .ret))))))))))
abbrev rs13 : List RC := [(.v 3)]
theorem fok13 (p : Bool) : FnOk Try.prog 13 ⟨ic13, vs13, 134, rs13, p⟩ := .mk2 Try.func13 (by kernel_rfl) (by kernel_rfl) (by kernel_rfl) (by kernel_rfl) (by kernel_rfl)

end Go.Proofs.Ytphdemhopihpnaa.AM

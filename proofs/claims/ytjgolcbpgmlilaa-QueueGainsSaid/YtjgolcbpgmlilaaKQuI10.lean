/- Compiled code of functions 10 to 10, written by program (gen.py) and checked by the kernel. -/
import Derived.Test.YtjgolcbpgmlilaaZ32
namespace Go.Proofs.Ytjgolcbpgmlilaa.AM
open Go
set_option linter.unusedVariables false

abbrev vs10 : List Nat := [0, 1, 2, 3, 6, 7, 8, 9, 10, 11, 25, 73]
def ic10 : IC := (.seq (.region [jb 3 0, jw 4 .mv [jB false]])
 (.seq (.region [jN 2 3, jk 22 [.t 0], jt 1, jx 0 2, jx 1 2, jm 5 3, jm 6 4])
 (.seq (.seq (.region [jN 2 3, jk 34 [.t 0], jq .not [.t 1], jt 2, jg 3 false (.fadd 1) [.v 3], ji 3 false 4, jg 3 false (.len false) [.t 5], jg 3 false (.bin .eql .int) [.t 6, jn 0], jw 10 .pick [.t 3, jB true, .t 7]])
 (.cond 10 (.seq (.region [jv 6, jq (.bin .eql .int) [.t 0, jn 0], jN 2 3, jk 34 [.t 2], jq (.bin .eql .bool) [.t 1, .t 3], jt 4, jh 5 true 5, jg 5 true (.len false) [.t 6], jg 5 true (.bin .eql .int) [.t 7, jn 0], jq .pick [.t 5, .t 8, jB false], jt 9, jf 10 true 21 [], jq .pick [.t 10, .t 11, jB false], jm 4 12])
 .ret)
 .skip))
 (.seq (.region [jv 1, jq (.conv .i64) [.t 0], jF 1 3, jl 2, je 3, jq (.bin .rem .int) [.t 1, .t 4], jm 7 5])
 (.seq (.region [jN 2 3, jv 7, jv 2, jk 36 [.t 0, .t 1, .t 2], jk 22 [.t 3], jt 4, jx 0 5, jx 1 5, jm 8 6, jm 9 7])
 (.seq (.seq (.region [jv 6, jq (.bin .neq .int) [.t 0, jn 0], jt 1, jh 2 false 9, jg 2 false (.bin .neq .int) [.t 3, jn 0], jq .pick [.t 2, jB true, .t 4], jt 5, jh 6 false 5, jg 6 false (.len false) [.t 7], jg 6 false (.fadd 1) [.v 3], ji 6 false 9, jg 6 false (.len false) [.t 10], jg 6 false (.bin .neq .int) [.t 8, .t 11], jq .pick [.t 6, jB true, .t 12], jt 13, jh 14 false 8, jg 14 false (.len false) [.t 15], jh 14 false 5, jg 14 false (.len false) [.t 17], jg 14 false (.bin .neq .int) [.t 16, .t 18], jw 11 .pick [.t 14, jB true, .t 19]])
 (.cond 11 (.seq (.region [jw 4 .mv [jB false]])
 .ret)
 .skip))
 (.seq (.dr [[], [0], [], [1, 2], [3], [], [], [5, 6], [7], [4, 8], [], [10], [], [11, 12], [13], [], [], [15, 16], [17], [14, 18, 9], [9, 19], [20, 19], [21, 21], [21, 22], [23, 22, 0, 1, 2, 3, 4, 5, 6, 7, 8, 9, 10, 11, 12, 13, 14, 15, 16, 17, 18, 19, 20, 21, 22, 23]] [jF 1 3, jl 0, jv 7, ja 5 1 2, jq (.loadN 5) [.t 3], jv 8, jv 7, ja 1 5 6, jl 7, jk 35 [.t 4, .t 8], jF 1 3, jl 10, jv 7, ja 5 11 12, jq (.loadN 5) [.t 13], jv 5, jv 7, ja 1 15 16, jl 17, jk 35 [.t 14, .t 18], jq (.bin .geq .int) [.t 9, .t 19], jt 20, jf 21 true 21 [], jq .pick [.t 21, .t 22, jB false], jm 4 23])
 .ret)))))))
abbrev rs10 : List RC := [(.v 4)]
theorem fok10 (p : Bool) : FnOk Try.prog 10 ⟨ic10, vs10, 98, rs10, p⟩ := .mk2 Try.func10 (by kernel_rfl) (by kernel_rfl) (by kernel_rfl) (by kernel_rfl) (by kernel_rfl)

end Go.Proofs.Ytjgolcbpgmlilaa.AM

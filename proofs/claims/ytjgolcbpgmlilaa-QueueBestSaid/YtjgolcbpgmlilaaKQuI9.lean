/- Compiled code of functions 9 to 9, written by program (gen.py) and checked by the kernel. -/
import Derived.Test.YtjgolcbpgmlilaaZ32
namespace Go.Proofs.Ytjgolcbpgmlilaa.AM
open Go
set_option linter.unusedVariables false

abbrev vs9 : List Nat := [0, 1, 2, 4, 5, 6, 9, 10, 33, 54, 58, 81]
def ic9l0 : IC := (.seq (.seq (.region [jv 7, jv 4, je 1, jw 10 (.bin .lss .int) [.t 0, .t 2]])
 (.cond 10 .skip
 (.exit 0)))
 (.seq (.block 1 (.seq (.dr [[], [0], [], [1, 2], [3], [], [], [5, 6], [7], [4, 8], [], [10], [], [11, 12], [13], [], [], [15, 16], [17], [14, 18, 9], [9, 19]] [jF 1 2, jl 0, jv 7, ja 5 1 2, jq (.loadN 5) [.t 3], jv 1, jv 7, ja 1 5 6, jl 7, jk 35 [.t 4, .t 8], jF 1 2, jl 10, jv 7, ja 5 11 12, jq (.loadN 5) [.t 13], jv 4, jv 7, ja 1 15 16, jl 17, jk 35 [.t 14, .t 18], jw 11 (.bin .lss .int) [.t 9, .t 19]])
 (.cond 11 (.seq (.region [jw 3 .mv [jB false]])
 .ret)
 .skip)))
 (.region [jv 7, jq (.bin .add .int) [.t 0, jn 1], jm 7 1])))
def ic9 : IC := (.seq (.region [jb 2 0, jw 3 .mv [jB false]])
 (.seq (.region [jN 2 2, jk 22 [.t 0], jt 1, jx 0 2, jx 1 2, jm 4 3, jm 5 4])
 (.seq (.region [jN 2 2, jv 1, jk 26 [.t 0, .t 1], jt 2, jx 0 3, jx 1 3, jx 2 3, jt 4, jt 5, jm 6 6])
 (.seq (.seq (.region [jv 5, jq (.bin .neq .int) [.t 0, jn 0], jt 1, jg 2 false (.loadN 2) [.v 2], jf 2 false 34 [.t 3], jg 2 false .not [.t 4], jq .pick [.t 2, jB true, .t 5], jt 6, jh 7 false 6, jg 7 false (.bin .neq .int) [.t 8, jn 0], jw 8 .pick [.t 7, jB true, .t 9]])
 (.cond 8 (.seq (.region [jv 5, jq (.bin .eql .int) [.t 0, jn 0], jN 2 2, jk 34 [.t 2], jq (.bin .eql .bool) [.t 1, .t 3], jt 4, jf 5 true 21 [], jq .pick [.t 5, .t 6, jB false], jm 3 7])
 .ret)
 .skip))
 (.seq (.seq (.region [jv 4, je 0, jF 1 2, jl 2, je 3, jq (.bin .neq .int) [.t 1, .t 4], jt 5, jh 6 false 1, jg 6 false (.len false) [.t 7], jh 6 false 4, jg 6 false (.len false) [.t 9], jg 6 false (.bin .neq .int) [.t 8, .t 10], jw 9 .pick [.t 6, jB true, .t 11]])
 (.cond 9 (.seq (.region [jw 3 .mv [jB false]])
 .ret)
 .skip))
 (.seq (.seq (.region [jz 7 0])
 (.block 0 (.loop ic9l0)))
 (.seq (.region [jk 21 [], jm 3 0])
 .ret)))))))
abbrev rs9 : List RC := [(.v 3)]
theorem fok9 (p : Bool) : FnOk Try.prog 9 ⟨ic9, vs9, 83, rs9, p⟩ := .mk2 Try.func9 (by kernel_rfl) (by kernel_rfl) (by kernel_rfl) (by kernel_rfl) (by kernel_rfl)

end Go.Proofs.Ytjgolcbpgmlilaa.AM

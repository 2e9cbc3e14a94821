/- Compiled code of functions 13 to 13, written by program (gen.py) and checked by the kernel. -/
import Derived.Test.YtjgolcbpgmlilaaZ32
namespace Go.Proofs.Ytjgolcbpgmlilaa.AM
open Go
set_option linter.unusedVariables false

abbrev vs13 : List Nat := [0, 1, 2, 4, 5, 6, 9, 10, 11, 34, 55, 60, 69, 73, 86]
def ic13l0 : IC := (.seq (.seq (.region [jv 8, jv 4, je 1, jw 13 (.bin .lss .int) [.t 0, .t 2]])
 (.cond 13 .skip
 (.exit 2)))
 (.seq (.block 3 (.seq (.dr [[], [], [0, 1], [2], [3], [], [], [5, 6], [7], [8], [4, 9]] [jv 4, jv 8, ja 1 0 1, jl 2, jq (.bin .eql .int) [.t 3, jn (-1)], jv 1, jv 8, ja 1 5 6, jl 7, jq (.bin .eql .int) [.t 8, jn (-1)], jw 14 (.bin .neq .bool) [.t 4, .t 9]])
 (.cond 14 (.seq (.region [jw 3 .mv [jB false]])
 .ret)
 .skip)))
 (.region [jv 8, jq (.bin .add .int) [.t 0, jn 1], jm 8 1])))
def ic13l1 : IC := (.seq (.seq (.region [jv 7, jF 0 2, jl 1, je 2, jw 11 (.bin .lss .int) [.t 0, .t 3]])
 (.cond 11 .skip
 (.exit 0)))
 (.seq (.block 1 (.seq (.region [jv 4, jv 7, jk 38 [.t 0, .t 1], jv 1, jv 7, jk 38 [.t 3, .t 4], jw 12 (.bin .neq .int) [.t 2, .t 5]])
 (.cond 12 (.seq (.region [jw 3 .mv [jB false]])
 .ret)
 .skip)))
 (.region [jv 7, jq (.bin .add .int) [.t 0, jn 1], jm 7 1])))
def ic13 : IC := (.seq (.region [jb 2 0, jw 3 .mv [jB false]])
 (.seq (.region [jN 2 2, jk 22 [.t 0], jt 1, jx 0 2, jx 1 2, jm 4 3, jm 5 4])
 (.seq (.region [jN 2 2, jv 1, jk 26 [.t 0, .t 1], jt 2, jx 0 3, jx 1 3, jx 2 3, jt 4, jt 5, jm 6 6])
 (.seq (.seq (.region [jv 5, jq (.bin .neq .int) [.t 0, jn 0], jt 1, jg 2 false (.loadN 2) [.v 2], jf 2 false 34 [.t 3], jg 2 false .not [.t 4], jq .pick [.t 2, jB true, .t 5], jt 6, jh 7 false 6, jg 7 false (.bin .neq .int) [.t 8, jn 0], jw 9 .pick [.t 7, jB true, .t 9]])
 (.cond 9 (.seq (.region [jv 5, jq (.bin .eql .int) [.t 0, jn 0], jN 2 2, jk 34 [.t 2], jq (.bin .eql .bool) [.t 1, .t 3], jt 4, jf 5 true 21 [], jq .pick [.t 5, .t 6, jB false], jm 3 7])
 .ret)
 .skip))
 (.seq (.seq (.region [jv 4, je 0, jF 1 2, jl 2, je 3, jq (.bin .neq .int) [.t 1, .t 4], jt 5, jh 6 false 1, jg 6 false (.len false) [.t 7], jh 6 false 4, jg 6 false (.len false) [.t 9], jg 6 false (.bin .neq .int) [.t 8, .t 10], jw 10 .pick [.t 6, jB true, .t 11]])
 (.cond 10 (.seq (.region [jw 3 .mv [jB false]])
 .ret)
 .skip))
 (.seq (.seq (.region [jz 7 0])
 (.block 0 (.loop ic13l1)))
 (.seq (.seq (.region [jz 8 0])
 (.block 2 (.loop ic13l0)))
 (.seq (.region [jk 21 [], jm 3 0])
 .ret))))))))
abbrev rs13 : List RC := [(.v 3)]
theorem fok13 (p : Bool) : FnOk Try.prog 13 ⟨ic13, vs13, 88, rs13, p⟩ := .mk2 Try.func13 (by kernel_rfl) (by kernel_rfl) (by kernel_rfl) (by kernel_rfl) (by kernel_rfl)

end Go.Proofs.Ytjgolcbpgmlilaa.AM

/- Compiled code of functions 11 to 11, written by program (gen.py) and checked by the kernel. -/
import Derived.Test.YtjgolcbpgmlilaaZ32
namespace Go.Proofs.Ytjgolcbpgmlilaa.AM
open Go
set_option linter.unusedVariables false

abbrev vs11 : List Nat := [0, 1, 2, 3, 4, 5, 6, 7, 8, 9, 10, 23, 60, 64, 77, 94, 104]
def ic11l0 : IC := (.seq (.seq (.region [jv 10, jw 14 (.bin .geq .int) [.t 0, jn 0]])
 (.cond 14 .skip
 (.exit 2)))
 (.seq (.block 3 (.seq (.dr [[], [], [], [1, 2], [3], [], [0, 4, 5], [], [], [], [8, 9], [10], [7, 11], [12], [6, 13]] [jN 2 1, jv 9, jv 10, ja 1 1 2, jl 3, jv 7, jk 37 [.t 0, .t 4, .t 5], jv 5, jv 9, jv 10, ja 1 8 9, jl 10, ja 1 7 11, jl 12, jw 15 (.bin .leq .int) [.t 6, .t 13]])
 (.cond 15 (.region [jv 9, jv 10, ja 1 0 1, jl 2, jm 8 3])
 .skip)))
 (.region [jv 10, jq (.bin .sub .int) [.t 0, jn 1], jm 10 1])))
def ic11l1 : IC := (.seq (.seq (.region [jv 7, jv 3, je 1, jw 13 (.bin .lss .int) [.t 0, .t 2]])
 (.cond 13 .skip
 (.exit 0)))
 (.seq (.block 1 (.seq (.region [jz 8 (-1)])
 (.seq (.region [jF 1 1, jl 0, jv 7, ja 5 1 2, jG 4 3, jl 4, jm 9 5])
 (.seq (.seq (.region [jv 9, je 0, jq (.bin .sub .int) [.t 1, jn 1], jm 10 2])
 (.block 2 (.loop ic11l0)))
 (.seq (.region [jv 3, jv 7, ja 1 0 1, jl 2, jv 8, jw 16 (.bin .neq .int) [.t 3, .t 4]])
 (.cond 16 (.seq (.region [jw 2 .mv [jB false]])
 .ret)
 .skip))))))
 (.region [jv 7, jq (.bin .add .int) [.t 0, jn 1], jm 7 1])))
def ic11 : IC := (.seq (.region [jb 1 0, jw 2 .mv [jB false]])
 (.seq (.region [jN 2 1, jk 22 [.t 0], jt 1, jx 0 2, jx 1 2, jm 3 3, jm 4 4])
 (.seq (.region [jN 2 1, jk 24 [.t 0], jt 1, jx 0 2, jx 1 2, jm 5 3, jm 6 4])
 (.seq (.seq (.region [jN 2 1, jk 34 [.t 0], jw 11 .not [.t 1]])
 (.cond 11 (.seq (.region [jv 4, jq (.bin .neq .int) [.t 0, jn 0], jt 1, jh 2 true 6, jh 2 true 4, jg 2 true (.bin .eql .int) [.t 3, .t 4], jq .pick [.t 2, .t 5, jB false], jt 6, jh 7 true 5, jg 7 true (.len false) [.t 8], jg 7 true (.bin .eql .int) [.t 9, jn 0], jq .pick [.t 7, .t 10, jB false], jt 11, jf 12 true 21 [], jq .pick [.t 12, .t 13, jB false], jm 2 14])
 .ret)
 .skip))
 (.seq (.seq (.region [jv 4, jq (.bin .neq .int) [.t 0, jn 0], jt 1, jh 2 false 6, jg 2 false (.bin .neq .int) [.t 3, jn 0], jq .pick [.t 2, jB true, .t 4], jt 5, jh 6 false 3, jg 6 false (.len false) [.t 7], jg 6 false (.fadd 1) [.v 1], ji 6 false 9, jg 6 false (.len false) [.t 10], jg 6 false (.bin .neq .int) [.t 8, .t 11], jq .pick [.t 6, jB true, .t 12], jt 13, jh 14 false 5, jg 14 false (.len false) [.t 15], jg 14 false (.fadd 0) [.v 1], ji 14 false 17, jg 14 false (.len false) [.t 18], jg 14 false (.bin .neq .int) [.t 16, .t 19], jw 12 .pick [.t 14, jB true, .t 20]])
 (.cond 12 (.seq (.region [jw 2 .mv [jB false]])
 .ret)
 .skip))
 (.seq (.seq (.region [jz 7 0])
 (.block 0 (.loop ic11l1)))
 (.seq (.region [jk 21 [], jm 2 0])
 .ret)))))))
abbrev rs11 : List RC := [(.v 2)]
theorem fok11 (p : Bool) : FnOk Try.prog 11 ⟨ic11, vs11, 106, rs11, p⟩ := .mk2 Try.func11 (by kernel_rfl) (by kernel_rfl) (by kernel_rfl) (by kernel_rfl) (by kernel_rfl)

end Go.Proofs.Ytjgolcbpgmlilaa.AM

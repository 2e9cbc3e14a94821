/- Compiled code of functions 6 to 6, written by program (gen.py) and checked by the kernel. -/
import Derived.Test.YtjgolcbpgmlilaaZ32
namespace Go.Proofs.Ytjgolcbpgmlilaa.AM
open Go
set_option linter.unusedVariables false

abbrev vs6 : List Nat := [0, 1, 2, 3, 4, 5, 6, 7, 8, 31]
def ic6 : IC := (.seq (.region [jb 2 0, jb 3 1, jw 4 .mv [jB false]])
 (.seq (.region [jN 2 2, jq (.iaA 2 1) [.v 3, jn 0], jl 1, jk 28 [.t 0, .t 2], jt 3, jx 0 4, jx 1 4, jm 5 5, jm 6 6])
 (.seq (.region [jN 2 2, jq (.iaA 2 1) [.v 3, jn 0], jl 1, jk 29 [.t 0, .t 2], jt 3, jx 0 4, jx 1 4, jm 7 5, jm 8 6])
 (.seq (.seq (.region [jv 5, jv 7, jk 30 [.t 0, .t 1], jq .not [.t 2], jt 3, jh 4 false 6, jh 4 false 8, jg 4 false (.bin .neq .int) [.t 5, .t 6], jw 9 .pick [.t 4, jB true, .t 7]])
 (.cond 9 (.seq (.region [jw 4 .mv [jB false]])
 .ret)
 .skip))
 (.seq (.region [jN 2 2, jq (.iaA 2 1) [.v 3, jn 1], jl 1, jk 31 [.t 0, .t 2], jt 3, jx 0 4, jx 1 4, jm 5 5, jm 6 6])
 (.seq (.region [jN 2 2, jq (.iaA 2 1) [.v 3, jn 1], jl 1, jk 32 [.t 0, .t 2], jt 3, jx 0 4, jx 1 4, jm 7 5, jm 8 6])
 (.seq (.region [jv 5, jv 7, jk 30 [.t 0, .t 1], jt 2, jh 3 true 6, jh 3 true 8, jg 3 true (.bin .eql .int) [.t 4, .t 5], jq .pick [.t 3, .t 6, jB false], jt 7, jf 8 true 21 [], jq .pick [.t 8, .t 9, jB false], jm 4 10])
 .ret)))))))
abbrev rs6 : List RC := [(.v 4)]
theorem fok6 (p : Bool) : FnOk Try.prog 6 ⟨ic6, vs6, 57, rs6, p⟩ := .mk2 Try.func6 (by kernel_rfl) (by kernel_rfl) (by kernel_rfl) (by kernel_rfl) (by kernel_rfl)

end Go.Proofs.Ytjgolcbpgmlilaa.AM

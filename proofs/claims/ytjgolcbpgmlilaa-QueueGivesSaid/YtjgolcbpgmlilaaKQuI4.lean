/- Compiled code of functions 4 to 4, written by program (gen.py) and checked by the kernel. -/
import Derived.Test.YtjgolcbpgmlilaaZ32
namespace Go.Proofs.Ytjgolcbpgmlilaa.AM
open Go
set_option linter.unusedVariables false

abbrev vs4 : List Nat := [0, 1, 2, 3, 4, 5, 6, 25]
def ic4 : IC := (.seq (.region [jb 1 0, jw 2 .mv [jB false]])
 (.seq (.region [jN 2 1, jk 22 [.t 0], jt 1, jx 0 2, jx 1 2, jm 3 3, jm 4 4])
 (.seq (.region [jN 2 1, jk 23 [.t 0], jt 1, jx 0 2, jx 1 2, jm 5 3, jm 6 4])
 (.seq (.seq (.region [jv 3, jv 5, jk 20 [.t 0, .t 1], jq .not [.t 2], jt 3, jh 4 false 4, jh 4 false 6, jg 4 false (.bin .neq .int) [.t 5, .t 6], jw 7 .pick [.t 4, jB true, .t 7]])
 (.cond 7 (.seq (.region [jw 2 .mv [jB false]])
 .ret)
 .skip))
 (.seq (.region [jN 2 1, jk 24 [.t 0], jt 1, jx 0 2, jx 1 2, jm 3 3, jm 4 4])
 (.seq (.region [jN 2 1, jk 25 [.t 0], jt 1, jx 0 2, jx 1 2, jm 5 3, jm 6 4])
 (.seq (.region [jv 3, jv 5, jk 20 [.t 0, .t 1], jt 2, jh 3 true 4, jh 3 true 6, jg 3 true (.bin .eql .int) [.t 4, .t 5], jq .pick [.t 3, .t 6, jB false], jt 7, jf 8 true 21 [], jq .pick [.t 8, .t 9, jB false], jm 2 10])
 .ret)))))))
abbrev rs4 : List RC := [(.v 2)]
theorem fok4 (p : Bool) : FnOk Try.prog 4 ⟨ic4, vs4, 47, rs4, p⟩ := .mk2 Try.func4 (by kernel_rfl) (by kernel_rfl) (by kernel_rfl) (by kernel_rfl) (by kernel_rfl)

end Go.Proofs.Ytjgolcbpgmlilaa.AM

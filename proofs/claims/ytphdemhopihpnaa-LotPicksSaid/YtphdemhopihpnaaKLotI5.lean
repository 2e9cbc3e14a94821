/- Compiled code of the law 5, written by program (gen.py) and checked by the kernel. -/
import Derived.Test.YtphdemhopihpnaaZ32
namespace Go.Proofs.Ytphdemhopihpnaa.AM
open Go
set_option linter.unusedVariables false

abbrev vs5 : List Nat := [0, 1, 2, 3, 6, 7, 8, 9, 10, 11, 12, 33, 53]
def ic5 : IC := (.seq (.region [jb 3 0, jw 4 .mv [jB false]])
 (.seq (.region [jN 2 3, jv 1, jk 28 [.t 0, .t 1], jt 2, jx 0 3, jx 1 3, jm 5 4, jm 6 5])
 (.seq (.region [jN 2 3, jv 1, jk 29 [.t 0, .t 1], jt 2, jx 0 3, jx 1 3, jm 7 4, jm 8 5])
 (.seq (.seq (.region [jv 5, jv 7, jk 20 [.t 0, .t 1], jq .not [.t 2], jt 3, jh 4 false 6, jh 4 false 8, jg 4 false (.bin .neq .int) [.t 5, .t 6], jw 11 .pick [.t 4, jB true, .t 7]])
 (.cond 11 (.seq (.region [jw 4 .mv [jB false]])
 .ret)
 .skip))
 (.seq (.region [jN 2 3, jv 2, jk 30 [.t 0, .t 1], jt 2, jx 0 3, jx 1 3, jm 9 4, jm 6 5])
 (.seq (.region [jN 2 3, jv 2, jk 31 [.t 0, .t 1], jt 2, jx 0 3, jx 1 3, jm 10 4, jm 8 5])
 (.seq (.seq (.region [jv 9, jv 10, jq (.bin .neq .int) [.t 0, .t 1], jt 2, jh 3 false 6, jh 3 false 8, jg 3 false (.bin .neq .int) [.t 4, .t 5], jw 12 .pick [.t 3, jB true, .t 6]])
 (.cond 12 (.seq (.region [jw 4 .mv [jB false]])
 .ret)
 .skip))
 (.seq (.region [jN 2 3, jk 32 [.t 0], jt 1, jx 0 2, jx 1 2, jm 5 3, jm 6 4])
 (.seq (.region [jN 2 3, jk 33 [.t 0], jt 1, jx 0 2, jx 1 2, jm 7 3, jm 8 4])
 (.seq (.region [jv 5, jv 7, jk 20 [.t 0, .t 1], jt 2, jh 3 true 6, jh 3 true 8, jg 3 true (.bin .eql .int) [.t 4, .t 5], jq .pick [.t 3, .t 6, jB false], jt 7, jf 8 true 23 [], jq .pick [.t 8, .t 9, jB false], jm 4 10])
 .ret))))))))))
abbrev rs5 : List RC := [(.v 4)]
theorem fok5 (p : Bool) : FnOk Try.prog 5 ⟨ic5, vs5, 75, rs5, p⟩ := .mk2 Try.func5 (by kernel_rfl) (by kernel_rfl) (by kernel_rfl) (by kernel_rfl) (by kernel_rfl)

end Go.Proofs.Ytphdemhopihpnaa.AM

/- Compiled code of functions 3 to 3, written by program (gen.py) and checked by the kernel. -/
import Derived.Test.YtjgolcbpgmlilaaZ32
namespace Go.Proofs.Ytjgolcbpgmlilaa.AM
open Go
set_option linter.unusedVariables false

abbrev vs3 : List Nat := [0, 1, 2, 4, 5, 6, 7, 8, 9, 10, 11, 12, 37]
def ic3 : IC := (.seq (.region [jb 2 0, jw 3 .mv [jB false]])
 (.seq (.region [jN 2 2, jk 16 [.t 0], jt 1, jx 0 2, jx 1 2, jx 2 2, jm 4 3, jm 5 4, jm 6 5])
 (.seq (.region [jN 2 2, jk 17 [.t 0], jt 1, jx 0 2, jx 1 2, jx 2 2, jm 7 3, jm 8 4, jm 9 5])
 (.seq (.seq (.region [jv 4, jv 7, jq (.bin .neq .int) [.t 0, .t 1], jt 2, jh 3 false 5, jh 3 false 8, jg 3 false (.bin .neq .int) [.t 4, .t 5], jq .pick [.t 3, jB true, .t 6], jt 7, jh 8 false 6, jh 8 false 9, jg 8 false (.bin .neq .int) [.t 9, .t 10], jw 12 .pick [.t 8, jB true, .t 11]])
 (.cond 12 (.seq (.region [jw 3 .mv [jB false]])
 .ret)
 .skip))
 (.seq (.region [jN 2 2, jv 1, jk 18 [.t 0, .t 1], jt 2, jx 0 3, jx 1 3, jm 10 4, jm 6 5])
 (.seq (.region [jN 2 2, jv 1, jk 19 [.t 0, .t 1], jt 2, jx 0 3, jx 1 3, jm 11 4, jm 9 5])
 (.seq (.region [jv 10, jv 11, jk 20 [.t 0, .t 1], jt 2, jh 3 true 6, jh 3 true 9, jg 3 true (.bin .eql .int) [.t 4, .t 5], jq .pick [.t 3, .t 6, jB false], jt 7, jf 8 true 21 [], jq .pick [.t 8, .t 9, jB false], jm 3 10])
 .ret)))))))
abbrev rs3 : List RC := [(.v 3)]
theorem fok3 (p : Bool) : FnOk Try.prog 3 ⟨ic3, vs3, 61, rs3, p⟩ := .mk2 Try.func3 (by kernel_rfl) (by kernel_rfl) (by kernel_rfl) (by kernel_rfl) (by kernel_rfl)

end Go.Proofs.Ytjgolcbpgmlilaa.AM

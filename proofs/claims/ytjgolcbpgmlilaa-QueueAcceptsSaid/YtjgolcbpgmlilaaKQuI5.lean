/- Compiled code of functions 5 to 5, written by program (gen.py) and checked by the kernel. -/
import Derived.Test.YtjgolcbpgmlilaaZ32
namespace Go.Proofs.Ytjgolcbpgmlilaa.AM
open Go
set_option linter.unusedVariables false

abbrev vs5 : List Nat := [0, 1, 2, 4, 5, 6, 7, 8, 9, 10]
def ic5 : IC := (.seq (.region [jb 2 0, jw 3 .mv [jB false]])
 (.seq (.region [jN 2 2, jv 1, jk 26 [.t 0, .t 1], jt 2, jx 0 3, jx 1 3, jx 2 3, jm 4 4, jm 5 5, jm 6 6])
 (.seq (.region [jN 2 2, jv 1, jk 27 [.t 0, .t 1], jt 2, jx 0 3, jx 1 3, jx 2 3, jm 7 4, jm 8 5, jm 9 6])
 (.seq (.region [jv 4, jv 7, jq (.bin .eql .int) [.t 0, .t 1], jt 2, jh 3 true 5, jh 3 true 8, jg 3 true (.bin .eql .int) [.t 4, .t 5], jq .pick [.t 3, .t 6, jB false], jt 7, jh 8 true 6, jh 8 true 9, jg 8 true (.bin .eql .int) [.t 9, .t 10], jq .pick [.t 8, .t 11, jB false], jt 12, jf 13 true 21 [], jq .pick [.t 13, .t 14, jB false], jm 3 15])
 .ret))))
abbrev rs5 : List RC := [(.v 3)]
theorem fok5 (p : Bool) : FnOk Try.prog 5 ⟨ic5, vs5, 41, rs5, p⟩ := .mk2 Try.func5 (by kernel_rfl) (by kernel_rfl) (by kernel_rfl) (by kernel_rfl) (by kernel_rfl)

end Go.Proofs.Ytjgolcbpgmlilaa.AM

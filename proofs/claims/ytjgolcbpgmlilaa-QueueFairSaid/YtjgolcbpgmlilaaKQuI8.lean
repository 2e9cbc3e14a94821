/- Compiled code of functions 8 to 8, written by program (gen.py) and checked by the kernel. -/
import Derived.Test.YtjgolcbpgmlilaaZ32
namespace Go.Proofs.Ytjgolcbpgmlilaa.AM
open Go
set_option linter.unusedVariables false

abbrev vs8 : List Nat := [0, 1, 2, 3, 4, 5, 6, 7, 22]
def ic8 : IC := (.seq (.region [jb 1 0, jw 2 .mv [jB false]])
 (.seq (.region [jN 2 1, jk 22 [.t 0], jt 1, jx 0 2, jx 1 2, jm 3 3, jm 4 4])
 (.seq (.region [jN 2 1, jv 3, jk 26 [.t 0, .t 1], jt 2, jx 0 3, jx 1 3, jx 2 3, jm 5 4, jm 6 5, jm 7 6])
 (.seq (.seq (.region [jN 2 1, jk 34 [.t 0], jw 8 .not [.t 1]])
 (.cond 8 (.seq (.region [jv 4, jq (.bin .neq .int) [.t 0, jn 0], jt 1, jh 2 true 3, jg 2 true (.len false) [.t 3], jg 2 true (.bin .eql .int) [.t 4, jn 0], jq .pick [.t 2, .t 5, jB false], jt 6, jh 7 true 7, jh 7 true 4, jg 7 true (.bin .eql .int) [.t 8, .t 9], jq .pick [.t 7, .t 10, jB false], jt 11, jh 12 true 5, jg 12 true (.bin .eql .int) [.t 13, jn 0], jq .pick [.t 12, .t 14, jB false], jt 15, jh 16 true 6, jg 16 true (.bin .eql .int) [.t 17, jn 0], jq .pick [.t 16, .t 18, jB false], jt 19, jf 20 true 21 [], jq .pick [.t 20, .t 21, jB false], jm 2 22])
 .ret)
 .skip))
 (.seq (.region [jv 4, jq (.bin .eql .int) [.t 0, jn 0], jt 1, jh 2 true 3, jg 2 true (.len false) [.t 3], jg 2 true (.fadd 1) [.v 1], ji 2 true 5, jg 2 true (.len false) [.t 6], jg 2 true (.bin .eql .int) [.t 4, .t 7], jq .pick [.t 2, .t 8, jB false], jt 9, jh 10 true 7, jg 10 true (.bin .eql .int) [.t 11, jn 0], jq .pick [.t 10, .t 12, jB false], jt 13, jh 14 true 5, jg 14 true (.bin .eql .int) [.t 15, jn 0], jq .pick [.t 14, .t 16, jB false], jt 17, jh 18 true 6, jg 18 true (.bin .eql .int) [.t 19, jn 0], jq .pick [.t 18, .t 20, jB false], jt 21, jf 22 true 21 [], jq .pick [.t 22, .t 23, jB false], jm 2 24])
 .ret)))))
abbrev rs8 : List RC := [(.v 2)]
theorem fok8 (p : Bool) : FnOk Try.prog 8 ⟨ic8, vs8, 71, rs8, p⟩ := .mk2 Try.func8 (by kernel_rfl) (by kernel_rfl) (by kernel_rfl) (by kernel_rfl) (by kernel_rfl)

end Go.Proofs.Ytjgolcbpgmlilaa.AM

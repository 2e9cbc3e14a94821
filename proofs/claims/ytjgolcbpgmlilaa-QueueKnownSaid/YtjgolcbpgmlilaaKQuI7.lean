/- Compiled code of functions 7 to 7, written by program (gen.py) and checked by the kernel. -/
import Derived.Test.YtjgolcbpgmlilaaZ32
namespace Go.Proofs.Ytjgolcbpgmlilaa.AM
open Go
set_option linter.unusedVariables false

abbrev vs7 : List Nat := [0, 1, 2, 5, 6, 7, 8, 9]
def ic7 : IC := (.seq (.region [jw 0 .mv [jB false]])
 (.seq (.region [jk 33 [], jk 18 [.t 0, jn 1], jt 1, jx 0 2, jx 1 2, jm 1 3, jm 2 4])
 (.seq (.region [jk 33 [], jq (.bslice 1 3 [(.cv (.int .i64 0)), (.cv (.int .i64 0)), (.cv (.int .i64 0))] [(0, 1), (1, 1), (2, 1)]) [jn 1, jn 0, jn (-1)], jk 26 [.t 0, .t 1], jt 2, jx 0 3, jx 1 3, jx 2 3, jt 4, jt 5, jm 3 6])
 (.seq (.region [jk 33 [], jk 28 [.t 0, jn 2], jt 1, jx 0 2, jx 1 2, jm 4 3, jm 5 4])
 (.seq (.region [jk 33 [], jk 31 [.t 0, jn 0], jt 1, jx 0 2, jx 1 2, jm 6 3, jm 7 4])
 (.seq (.region [jv 2, jq (.bin .eql .int) [.t 0, jn 0], jt 1, jh 2 true 3, jg 2 true (.bin .eql .int) [.t 3, jn 0], jq .pick [.t 2, .t 4, jB false], jt 5, jh 6 true 5, jg 6 true (.bin .eql .int) [.t 7, jn 0], jq .pick [.t 6, .t 8, jB false], jt 9, jh 10 true 7, jg 10 true (.bin .eql .int) [.t 11, jn 0], jq .pick [.t 10, .t 12, jB false], jt 13, jh 14 true 1, jg 14 true (.bslice 1 3 [(.cv (.int .i64 0)), (.cv (.int .i64 0)), (.cv (.int .i64 0))] [(0, 1), (1, 1), (2, 1)]) [jn 0, jn 2, jn 1], jf 14 true 20 [.t 15, .t 16], jq .pick [.t 14, .t 17, jB false], jt 18, jh 19 true 4, jg 19 true (.len false) [.t 20], jg 19 true (.bin .eql .int) [.t 21, jn 0], jq .pick [.t 19, .t 22, jB false], jt 23, jh 24 true 6, jg 24 true (.build [(.cv (.int .i64 0)), (.cv (.int .i64 0)), (.cv (.int .i64 0))] [(0, 1), (1, 1), (2, 1)]) [jn 0, jn 1, jn 0], jg 24 true (.build [(.cv (.int .i64 0)), (.cv (.int .i64 0)), (.cv (.int .i64 0))] [(0, 1), (1, 1), (2, 1)]) [jn 2, jn (-1), jn 1], jg 24 true (.bslice 3 2 [(.cv (.int .i64 0)), (.cv (.int .i64 0)), (.cv (.int .i64 0)), (.cv (.int .i64 0)), (.cv (.int .i64 0)), (.cv (.int .i64 0))] [(0, 3), (3, 3)]) [.t 26, .t 27], jf 24 true 30 [.t 25, .t 28], jq .pick [.t 24, .t 29, jB false], jt 30, jf 31 true 21 [], jq .pick [.t 31, .t 32, jB false], jm 0 33])
 .ret))))))
abbrev rs7 : List RC := [(.v 0)]
theorem fok7 (p : Bool) : FnOk Try.prog 7 ⟨ic7, vs7, 66, rs7, p⟩ := .mk2 Try.func7 (by kernel_rfl) (by kernel_rfl) (by kernel_rfl) (by kernel_rfl) (by kernel_rfl)

end Go.Proofs.Ytjgolcbpgmlilaa.AM

/- Compiled code of the law 15, written by program (gen.py) and checked by the kernel. -/
import Derived.Test.YtphdemhopihpnaaZ32
namespace Go.Proofs.Ytphdemhopihpnaa.AM
open Go
set_option linter.unusedVariables false

abbrev vs15 : List Nat := [0, 1, 2, 4, 5, 6, 7, 8, 9, 10, 11, 12, 13, 14, 15, 16, 17, 18, 19, 20, 33, 48, 73, 93, 99, 111]
def ic15l0 : IC := (.seq (.seq (.region [jv 15, jv 8, je 1, jw 24 (.bin .lss .int) [.t 0, .t 2]])
 (.cond 24 .skip
 (.exit 6)))
 (.seq (.block 7 (.seq (.dr [[], [0], [], [1, 2], [3], [], [], [5, 6], [7], [4, 8]] [jF 1 2, jl 0, jv 13, ja 1 1 2, jl 3, jv 8, jv 15, ja 1 5 6, jl 7, jd 25 45 [.t 4, .t 8]])
 (.cond 25 (.region [jv 14, jv 15, jk 44 [.t 1], jq (.bin .add .int) [.t 0, .t 2], jm 14 3])
 .skip)))
 (.region [jv 15, jq (.bin .add .int) [.t 0, jn 1], jm 15 1])))
def ic15l1 : IC := (.seq (.seq (.region [jv 13, jF 1 2, jl 1, je 2, jw 23 (.bin .lss .int) [.t 0, .t 3]])
 (.cond 23 .skip
 (.exit 4)))
 (.seq (.block 5 (.seq (.region [jz 14 0])
 (.seq (.seq (.region [jz 15 0])
 (.block 6 (.loop ic15l0)))
 (.region [jF 1 11, jl 0, jv 14, jq (.bslice 1 1 [(.cv (.int .i64 0))] [(0, 1)]) [.t 2], jq (.append 1 8) [.t 1, .t 3], jF 1 11, jq (.store 1) [.t 5, .t 4]]))))
 (.region [jv 13, jq (.bin .add .int) [.t 0, jn 1], jm 13 1])))
def ic15l2 : IC := (.seq (.seq (.region [jv 12, jv 8, je 1, jw 22 (.bin .lss .int) [.t 0, .t 2]])
 (.cond 22 .skip
 (.exit 2)))
 (.seq (.block 3 (.dr [[], [0], [], [2], [], [], [4, 5], [6], [3, 7], [8], [9], [1, 10], [0, 1, 2, 3, 4, 5, 6, 7, 8, 9, 10, 11], [12, 11, 11, 0, 1, 2, 3, 4, 5, 6, 7, 8, 9, 10, 11]] [jF 0 11, jl 0, jF 0 2, jl 2, jv 8, jv 12, ja 1 4 5, jl 6, ja 1 3 7, jl 8, jq (.bslice 1 1 [(.cv (.int .i64 0))] [(0, 1)]) [.t 9], jq (.append 1 8) [.t 1, .t 10], jF 0 11, jq (.store 1) [.t 12, .t 11]]))
 (.region [jv 12, jq (.bin .add .int) [.t 0, jn 1], jm 12 1])))
def ic15l3 : IC := (.seq (.seq (.region [jv 9, jF 0 2, jl 1, je 2, jw 21 (.bin .lss .int) [.t 0, .t 3]])
 (.cond 21 .skip
 (.exit 0)))
 (.seq (.block 1 (.seq (.region [jv 1, jv 9, jk 46 [.t 0, .t 1], jv 8, je 3, jq (.bin .add .int) [.t 4, jn 1], jq (.bin .rem .int) [.t 2, .t 5], jm 10 6])
 (.dr [[], [], [], [1, 2], [0, 3], [], [5], [4, 6, 4], [], [], [8, 9], [7, 10, 7], [11, 11, 0, 1, 2, 3, 4, 5, 6, 7, 8, 9, 10, 11]] [jq (.bslice 1 0 [] []) [], jv 8, jv 10, jq (.slS 1 false true) [.t 1, .t 2], jq (.append 1 8) [.t 0, .t 3], jv 9, jq (.bslice 1 1 [(.cv (.int .i64 0))] [(0, 1)]) [.t 5], jq (.append 1 8) [.t 4, .t 6], jv 8, jv 10, jq (.slS 1 true false) [.t 8, .t 9], jq (.append 1 8) [.t 7, .t 10], jm 8 11])))
 (.region [jv 9, jq (.bin .add .int) [.t 0, jn 1], jm 9 1])))
def ic15 : IC := (.seq (.region [jb 2 0, jw 3 .mv [jB false]])
 (.seq (.region [jN 2 2, jk 26 [.t 0], jt 1, jx 0 2, jx 1 2, jm 4 3, jm 5 4])
 (.seq (.region [jN 2 2, jk 32 [.t 0], jt 1, jx 0 2, jx 1 2, jm 6 3, jm 7 4])
 (.seq (.seq (.region [jN 2 2, jk 38 [.t 0], jw 20 .not [.t 1]])
 (.cond 20 (.seq (.region [jv 5, jq (.bin .neq .int) [.t 0, jn 0], jt 1, jh 2 true 7, jh 2 true 5, jg 2 true (.bin .eql .int) [.t 3, .t 4], jq .pick [.t 2, .t 5, jB false], jt 6, jf 7 true 23 [], jq .pick [.t 7, .t 8, jB false], jm 3 9])
 .ret)
 .skip))
 (.seq (.region [jw 8 .mv [jS]])
 (.seq (.seq (.region [jz 9 0])
 (.block 0 (.loop ic15l3)))
 (.seq (.region [jw 11 (.alloc [(.cv .nils), (.cv .nils)]) []])
 (.seq (.seq (.region [jz 12 0])
 (.block 2 (.loop ic15l2)))
 (.seq (.seq (.region [jz 13 0])
 (.block 4 (.loop ic15l1)))
 (.seq (.region [jN 2 11, jk 26 [.t 0], jt 1, jx 0 2, jx 1 2, jm 16 3, jm 17 4])
 (.seq (.region [jN 2 11, jk 32 [.t 0], jt 1, jx 0 2, jx 1 2, jm 18 3, jm 19 4])
 (.seq (.region [jv 5, jq (.bin .eql .int) [.t 0, jn 0], jt 1, jh 2 true 7, jg 2 true (.bin .eql .int) [.t 3, jn 0], jq .pick [.t 2, .t 4, jB false], jt 5, jh 6 true 17, jg 6 true (.bin .eql .int) [.t 7, jn 0], jq .pick [.t 6, .t 8, jB false], jt 9, jh 10 true 19, jg 10 true (.bin .eql .int) [.t 11, jn 0], jq .pick [.t 10, .t 12, jB false], jt 13, jh 14 true 4, jh 14 true 16, jg 14 true (.bin .eql .int) [.t 15, .t 16], jq .pick [.t 14, .t 17, jB false], jt 18, jh 19 true 6, jh 19 true 18, jf 19 true 20 [.t 20, .t 21], jq .pick [.t 19, .t 22, jB false], jt 23, jf 24 true 23 [], jq .pick [.t 24, .t 25, jB false], jm 3 26])
 .ret))))))))))))
abbrev rs15 : List RC := [(.v 3)]
theorem fok15 (p : Bool) : FnOk Try.prog 15 ⟨ic15, vs15, 159, rs15, p⟩ := .mk2 Try.func15 (by kernel_rfl) (by kernel_rfl) (by kernel_rfl) (by kernel_rfl) (by kernel_rfl)

end Go.Proofs.Ytphdemhopihpnaa.AM

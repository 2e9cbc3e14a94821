/- Compiled code of the law 10, written by program (gen.py) and checked by the kernel. -/
import Derived.Test.YtphdemhopihpnaaZ32
namespace Go.Proofs.Ytphdemhopihpnaa.AM
open Go
set_option linter.unusedVariables false

theorem hb10 : Try.f10.body = some (Try.f10.body.getD .skip) := by kernel_rfl
abbrev vs10 : List Nat := [0, 1, 2, 6, 8, 9, 10, 11, 12, 13, 14, 15, 16, 17, 20, 45, 52, 64, 87, 93]
def ic10l0 : IC := (.seq (.seq (.region [⟨none, none, (.prim .mv), [(.v 10)]⟩, ⟨none, none, (.prim .mv), [(.v 8)]⟩, ⟨none, none, (.prim (.len false)), [(.t 1)]⟩, ⟨(.some 16), none, (.prim (.bin .lss .int)), [(.t 0), (.t 2)]⟩])
 (.cond 16 .skip
 (.exit 0)))
 (.seq (.block 1 (.seq (.seq (.region [⟨none, none, (.prim .mv), [(.v 1)]⟩, ⟨none, none, (.prim .mv), [(.v 10)]⟩, ⟨none, none, (.prim (.bin .shr .int)), [(.t 0), (.t 1)]⟩, ⟨none, none, (.prim (.bin .rem .int)), [(.t 2), (.c (.cv (.int .u8 2)))]⟩, ⟨none, none, (.prim (.bin .eql .int)), [(.t 3), (.c (.cv (.int .u8 1)))]⟩, ⟨none, none, (.prim .mv), [(.t 4)]⟩, ⟨none, (.some (5, true)), (.prim .mv), [(.v 2)]⟩, ⟨none, (.some (5, true)), (.prim (.len false)), [(.t 6)]⟩, ⟨none, (.some (5, true)), (.prim (.bin .gtr .int)), [(.t 7), (.c (.cv (.int .i64 0)))]⟩, ⟨(.some 17), none, (.prim .pick), [(.t 5), (.t 8), (.c (.cv (.bool false)))]⟩])
 (.cond 17 (.region [⟨none, none, (.prim .mv), [(.v 8)]⟩, ⟨none, none, (.prim .mv), [(.v 10)]⟩, ⟨none, none, (.prim .mv), [(.v 2)]⟩, ⟨none, none, (.prim .mv), [(.v 10)]⟩, ⟨none, none, (.prim .mv), [(.v 2)]⟩, ⟨none, none, (.prim (.len false)), [(.t 4)]⟩, ⟨none, none, (.prim (.bin .rem .int)), [(.t 3), (.t 5)]⟩, ⟨none, none, (.prim (.iaS 1)), [(.t 2), (.t 6)]⟩, ⟨none, none, (.prim .load1), [(.t 7)]⟩, ⟨none, none, (.prim (.conv .i64)), [(.t 8)]⟩, ⟨none, none, (.prim (.bin .rem .int)), [(.t 9), (.c (.cv (.int .i64 1000000001)))]⟩, ⟨none, none, (.prim (.iaS 1)), [(.t 0), (.t 1)]⟩, ⟨none, none, (.prim (.store 1)), [(.t 11), (.t 10)]⟩])
 .skip))
 (.seq (.region [⟨none, none, (.prim .mv), [(.v 10)]⟩, ⟨none, none, (.prim .mv), [(.v 8)]⟩, ⟨none, none, (.prim .mv), [(.v 10)]⟩, ⟨none, none, (.prim (.iaS 1)), [(.t 1), (.t 2)]⟩, ⟨none, none, (.prim .load1), [(.t 3)]⟩, ⟨none, none, .call, [(.c (.fn (.func 16) [])), (.t 0), (.t 4)]⟩, ⟨none, none, (.prim .mv), [(.t 5)]⟩, ⟨none, none, (.prim (.extract 0)), [(.t 6)]⟩, ⟨none, none, (.prim (.extract 1)), [(.t 6)]⟩, ⟨(.some 11), none, (.prim .mv), [(.t 7)]⟩, ⟨(.some 12), none, (.prim .mv), [(.t 8)]⟩])
 (.seq (.seq (.region [⟨none, none, (.prim .mv), [(.v 12)]⟩, ⟨(.some 18), none, (.prim (.bin .neq .int)), [(.t 0), (.c (.cv (.int .i64 0)))]⟩])
 (.cond 18 (.seq (.region [⟨(.some 3), none, (.prim .mv), [(.c (.cv (.bool false)))]⟩])
 .ret)
 .skip))
 (.seq (.region [⟨none, none, (.prim .mv), [(.v 11)]⟩, ⟨none, none, (.prim .mv), [(.v 5)]⟩, ⟨none, none, (.prim .mv), [(.v 10)]⟩, ⟨none, none, (.prim (.iaS 1)), [(.t 1), (.t 2)]⟩, ⟨none, none, (.prim .load1), [(.t 3)]⟩, ⟨(.some 19), none, (.prim (.bin .neq .int)), [(.t 0), (.t 4)]⟩])
 (.cond 19 (.region [⟨none, none, (.prim .mv), [(.v 9)]⟩, ⟨none, none, (.prim .mv), [(.v 10)]⟩, ⟨none, none, (.prim (.bslice 1 1 [(.cv (.int .i64 0))] [(0, 1)])), [(.t 1)]⟩, ⟨none, none, (.prim (.append 1 8)), [(.t 0), (.t 2)]⟩, ⟨(.some 9), none, (.prim .mv), [(.t 3)]⟩])
 .skip))))))
 (.region [⟨none, none, (.prim .mv), [(.v 10)]⟩, ⟨none, none, (.prim (.bin .add .int)), [(.t 0), (.c (.cv (.int .i64 1)))]⟩, ⟨(.some 10), none, (.prim .mv), [(.t 1)]⟩])))
def ic10 : IC := (.seq (.region [⟨(.some 3), none, (.prim .mv), [(.c (.cv (.bool false)))]⟩])
 (.seq (.seq (.region [⟨none, none, (.prim .mv), [(.v 0)]⟩, ⟨none, none, .call, [(.c (.fn (.func 41) [])), (.t 0)]⟩, ⟨(.some 14), none, (.prim (.bin .neq .int)), [(.t 1), (.c (.cv (.int .i64 0)))]⟩])
 (.cond 14 (.seq (.region [⟨none, none, (.prim .mv), [(.v 0)]⟩, ⟨none, none, .call, [(.c (.fn (.func 21) [])), (.t 0)]⟩, ⟨none, none, (.prim .mv), [(.t 1)]⟩, ⟨none, none, (.prim (.extract 0)), [(.t 2)]⟩, ⟨none, none, (.prim (.extract 1)), [(.t 2)]⟩, ⟨none, none, (.prim .mv), [(.t 3)]⟩, ⟨(.some 4), none, (.prim .mv), [(.t 4)]⟩])
 (.seq (.region [⟨none, none, (.prim .mv), [(.v 4)]⟩, ⟨none, none, (.prim (.bin .neq .int)), [(.t 0), (.c (.cv (.int .i64 0)))]⟩, ⟨none, none, (.prim .mv), [(.t 1)]⟩, ⟨none, (.some (2, true)), .call, [(.c (.fn (.func 23) []))]⟩, ⟨none, none, (.prim .pick), [(.t 2), (.t 3), (.c (.cv (.bool false)))]⟩, ⟨(.some 3), none, (.prim .mv), [(.t 4)]⟩])
 .ret))
 .skip))
 (.seq (.region [⟨none, none, (.prim .mv), [(.v 0)]⟩, ⟨none, none, .call, [(.c (.fn (.func 42) [])), (.t 0)]⟩, ⟨(.some 5), none, (.prim .mv), [(.t 1)]⟩])
 (.seq (.region [⟨none, none, (.prim .mv), [(.v 5)]⟩, ⟨none, none, (.prim .mv), [(.v 0)]⟩, ⟨none, none, .call, [(.c (.fn (.func 18) [])), (.t 0), (.t 1)]⟩, ⟨none, none, (.prim .mv), [(.t 2)]⟩, ⟨none, none, (.prim (.extract 0)), [(.t 3)]⟩, ⟨none, none, (.prim (.extract 1)), [(.t 3)]⟩, ⟨(.some 6), none, (.prim .mv), [(.t 4)]⟩, ⟨(.some 7), none, (.prim .mv), [(.t 5)]⟩])
 (.seq (.seq (.region [⟨none, none, (.prim .mv), [(.v 7)]⟩, ⟨none, none, (.prim (.bin .neq .int)), [(.t 0), (.c (.cv (.int .i64 0)))]⟩, ⟨none, none, (.prim .mv), [(.t 1)]⟩, ⟨none, (.some (2, false)), (.prim .mv), [(.v 6)]⟩, ⟨none, (.some (2, false)), (.prim (.len false)), [(.t 3)]⟩, ⟨none, (.some (2, false)), (.prim (.bin .gtr .int)), [(.t 4), (.c (.cv (.int .i64 0)))]⟩, ⟨(.some 15), none, (.prim .pick), [(.t 2), (.c (.cv (.bool true))), (.t 5)]⟩])
 (.cond 15 (.seq (.region [⟨(.some 3), none, (.prim .mv), [(.c (.cv (.bool false)))]⟩])
 .ret)
 .skip))
 (.seq (.region [⟨none, none, (.prim (.bslice 1 0 [] [])), []⟩, ⟨none, none, (.prim .mv), [(.v 0)]⟩, ⟨none, none, (.prim (.append 1 8)), [(.t 0), (.t 1)]⟩, ⟨(.some 8), none, (.prim .mv), [(.t 2)]⟩])
 (.seq (.region [⟨(.some 9), none, (.prim .mv), [(.c (.cv .nils))]⟩])
 (.seq (.seq (.region [⟨(.some 10), none, (.prim .mv), [(.c (.cv (.int .i64 0)))]⟩])
 (.block 0 (.loop ic10l0)))
 (.seq (.region [⟨none, none, (.prim .mv), [(.v 5)]⟩, ⟨none, none, (.prim .mv), [(.v 8)]⟩, ⟨none, none, .call, [(.c (.fn (.func 18) [])), (.t 0), (.t 1)]⟩, ⟨none, none, (.prim .mv), [(.t 2)]⟩, ⟨none, none, (.prim (.extract 0)), [(.t 3)]⟩, ⟨none, none, (.prim (.extract 1)), [(.t 3)]⟩, ⟨(.some 13), none, (.prim .mv), [(.t 4)]⟩, ⟨(.some 7), none, (.prim .mv), [(.t 5)]⟩])
 (.seq (.region [⟨none, none, (.prim .mv), [(.v 7)]⟩, ⟨none, none, (.prim (.bin .eql .int)), [(.t 0), (.c (.cv (.int .i64 0)))]⟩, ⟨none, none, (.prim .mv), [(.t 1)]⟩, ⟨none, (.some (2, true)), (.prim .mv), [(.v 13)]⟩, ⟨none, (.some (2, true)), (.prim .mv), [(.v 9)]⟩, ⟨none, (.some (2, true)), .call, [(.c (.fn (.func 20) [])), (.t 3), (.t 4)]⟩, ⟨none, none, (.prim .pick), [(.t 2), (.t 5), (.c (.cv (.bool false)))]⟩, ⟨none, none, (.prim .mv), [(.t 6)]⟩, ⟨none, (.some (7, true)), .call, [(.c (.fn (.func 23) []))]⟩, ⟨none, none, (.prim .pick), [(.t 7), (.t 8), (.c (.cv (.bool false)))]⟩, ⟨(.some 3), none, (.prim .mv), [(.t 9)]⟩])
 .ret))))))))))
theorem cc10 : compC Try.prog vs10 Try.f10.ntmps (Try.f10.body.getD .skip) = some ic10 := by kernel_rfl
abbrev rs10 : List RC := [(.v 3)]
theorem fok10 (p : Bool) : FnOk Try.prog 10 ⟨ic10, vs10, 114, rs10, p⟩ := FnOk.mk' Try.func10 hb10 (by kernel_rfl) cc10 (by kernel_rfl) (by kernel_rfl)

end Go.Proofs.Ytphdemhopihpnaa.AM

/- Compiled code of the law 11, written by program (gen.py) and checked by the kernel. -/
import Derived.Test.YtphdemhopihpnaaZ32
namespace Go.Proofs.Ytphdemhopihpnaa.AM
open Go
set_option linter.unusedVariables false

theorem hb11 : Try.f11.body = some (Try.f11.body.getD .skip) := by kernel_rfl
abbrev vs11 : List Nat := [0, 1, 2, 3, 6, 8, 9, 10, 11, 12, 13, 14, 15, 16, 24, 42, 56, 80, 82]
def ic11 : IC := (.seq (.region [⟨(.some 3), none, (.prim .box), [(.v 0)]⟩, ⟨(.some 4), none, (.prim .mv), [(.c (.cv (.bool false)))]⟩])
 (.seq (.seq (.region [⟨none, none, (.prim (.loadN 2)), [(.v 3)]⟩, ⟨none, none, .call, [(.c (.fn (.func 38) [])), (.t 0)]⟩, ⟨none, none, (.prim .not), [(.t 1)]⟩, ⟨none, none, (.prim .mv), [(.t 2)]⟩, ⟨none, (.some (3, false)), (.prim .mv), [(.v 1)]⟩, ⟨none, (.some (3, false)), .call, [(.c (.fn (.func 41) [])), (.t 4)]⟩, ⟨none, (.some (3, false)), (.prim (.bin .neq .int)), [(.t 5), (.c (.cv (.int .i64 0)))]⟩, ⟨(.some 14), none, (.prim .pick), [(.t 3), (.c (.cv (.bool true))), (.t 6)]⟩])
 (.cond 14 (.seq (.region [⟨none, none, (.prim (.loadN 2)), [(.v 3)]⟩, ⟨none, none, (.prim .mv), [(.v 1)]⟩, ⟨none, none, .call, [(.c (.fn (.func 34) [])), (.t 0), (.c (.cv .nils)), (.t 1), (.c (.cv .nils))]⟩, ⟨none, none, (.prim .mv), [(.t 2)]⟩, ⟨none, none, (.prim (.extract 0)), [(.t 3)]⟩, ⟨none, none, (.prim (.extract 1)), [(.t 3)]⟩, ⟨none, none, (.prim .mv), [(.t 4)]⟩, ⟨(.some 5), none, (.prim .mv), [(.t 5)]⟩])
 (.seq (.region [⟨none, none, (.prim .mv), [(.v 5)]⟩, ⟨none, none, (.prim (.bin .neq .int)), [(.t 0), (.c (.cv (.int .i64 0)))]⟩, ⟨none, none, (.prim .mv), [(.t 1)]⟩, ⟨none, (.some (2, true)), .call, [(.c (.fn (.func 23) []))]⟩, ⟨none, none, (.prim .pick), [(.t 2), (.t 3), (.c (.cv (.bool false)))]⟩, ⟨(.some 4), none, (.prim .mv), [(.t 4)]⟩])
 .ret))
 .skip))
 (.seq (.region [⟨none, none, (.prim .mv), [(.v 1)]⟩, ⟨none, none, .call, [(.c (.fn (.func 21) [])), (.t 0)]⟩, ⟨none, none, (.prim .mv), [(.t 1)]⟩, ⟨none, none, (.prim (.extract 0)), [(.t 2)]⟩, ⟨none, none, (.prim (.extract 1)), [(.t 2)]⟩, ⟨(.some 6), none, (.prim .mv), [(.t 3)]⟩, ⟨(.some 7), none, (.prim .mv), [(.t 4)]⟩])
 (.seq (.seq (.region [⟨none, none, (.prim .mv), [(.v 7)]⟩, ⟨(.some 15), none, (.prim (.bin .neq .int)), [(.t 0), (.c (.cv (.int .i64 0)))]⟩])
 (.cond 15 (.seq (.region [⟨(.some 4), none, (.prim .mv), [(.c (.cv (.bool false)))]⟩])
 .ret)
 .skip))
 (.seq (.region [⟨none, none, (.prim (.loadN 2)), [(.v 3)]⟩, ⟨none, none, (.prim .mv), [(.v 6)]⟩, ⟨none, none, .call, [(.c (.fn (.func 28) [])), (.t 0), (.t 1)]⟩, ⟨none, none, (.prim .mv), [(.t 2)]⟩, ⟨none, none, (.prim (.extract 0)), [(.t 3)]⟩, ⟨none, none, (.prim (.extract 1)), [(.t 3)]⟩, ⟨(.some 8), none, (.prim .mv), [(.t 4)]⟩, ⟨(.some 7), none, (.prim .mv), [(.t 5)]⟩])
 (.seq (.region [⟨none, none, (.prim (.loadN 2)), [(.v 3)]⟩, ⟨none, none, (.prim .mv), [(.v 2)]⟩, ⟨none, none, .call, [(.c (.fn (.func 39) [])), (.t 0), (.t 1)]⟩, ⟨none, none, (.prim .mv), [(.t 2)]⟩, ⟨none, none, (.prim (.extract 0)), [(.t 3)]⟩, ⟨none, none, (.prim (.extract 1)), [(.t 3)]⟩, ⟨(.some 9), none, (.prim .mv), [(.t 4)]⟩, ⟨(.some 10), none, (.prim .mv), [(.t 5)]⟩])
 (.seq (.seq (.region [⟨none, none, (.prim .mv), [(.v 7)]⟩, ⟨(.some 16), none, (.prim (.bin .neq .int)), [(.t 0), (.c (.cv (.int .i64 0)))]⟩])
 (.cond 16 (.seq (.region [⟨none, none, (.prim .mv), [(.v 7)]⟩, ⟨none, none, (.prim (.bin .eql .int)), [(.t 0), (.c (.cv (.int .i64 9)))]⟩, ⟨none, none, (.prim .mv), [(.t 1)]⟩, ⟨none, (.some (2, true)), (.prim .mv), [(.v 10)]⟩, ⟨none, (.some (2, true)), (.prim .not), [(.t 3)]⟩, ⟨none, none, (.prim .pick), [(.t 2), (.t 4), (.c (.cv (.bool false)))]⟩, ⟨none, none, (.prim .mv), [(.t 5)]⟩, ⟨none, (.some (6, true)), .call, [(.c (.fn (.func 23) []))]⟩, ⟨none, none, (.prim .pick), [(.t 6), (.t 7), (.c (.cv (.bool false)))]⟩, ⟨(.some 4), none, (.prim .mv), [(.t 8)]⟩])
 .ret)
 .skip))
 (.seq (.dr [[], [], [1], [], [], [0, 2, 3, 4, 2], [5], [6], [6], [7, 5, 0, 1, 2, 3, 4, 5, 6, 7], [8, 9, 0, 1, 2, 3, 4, 5, 6, 7, 8, 9]] [⟨none, none, (.prim (.loadN 2)), [(.v 3)]⟩, ⟨none, none, (.prim .mv), [(.v 1)]⟩, ⟨none, none, .call, [(.c (.fn (.func 42) [])), (.t 1)]⟩, ⟨none, none, (.prim .mv), [(.v 1)]⟩, ⟨none, none, (.prim .mv), [(.v 8)]⟩, ⟨none, none, .call, [(.c (.fn (.func 34) [])), (.t 0), (.t 2), (.t 3), (.t 4)]⟩, ⟨none, none, (.prim .mv), [(.t 5)]⟩, ⟨none, none, (.prim (.extract 0)), [(.t 6)]⟩, ⟨none, none, (.prim (.extract 1)), [(.t 6)]⟩, ⟨(.some 11), none, (.prim .mv), [(.t 7)]⟩, ⟨(.some 12), none, (.prim .mv), [(.t 8)]⟩])
 (.seq (.seq (.region [⟨none, none, (.prim .mv), [(.v 12)]⟩, ⟨none, none, (.prim (.bin .neq .int)), [(.t 0), (.c (.cv (.int .i64 0)))]⟩, ⟨none, none, (.prim .mv), [(.t 1)]⟩, ⟨none, (.some (2, false)), (.prim .mv), [(.v 11)]⟩, ⟨none, (.some (2, false)), (.prim .not), [(.t 3)]⟩, ⟨(.some 17), none, (.prim .pick), [(.t 2), (.c (.cv (.bool true))), (.t 4)]⟩])
 (.cond 17 (.seq (.region [⟨(.some 4), none, (.prim .mv), [(.c (.cv (.bool false)))]⟩])
 .ret)
 .skip))
 (.seq (.seq (.region [⟨none, none, (.prim .mv), [(.v 10)]⟩, ⟨(.some 18), none, (.prim .not), [(.t 0)]⟩])
 (.cond 18 (.seq (.region [⟨none, none, .call, [(.c (.fn (.func 23) []))]⟩, ⟨(.some 4), none, (.prim .mv), [(.t 0)]⟩])
 .ret)
 .skip))
 (.seq (.dr [[], [], [1], [], [], [0, 2, 3, 4, 2], [5], [6], [6], [7, 5, 0, 1, 2, 3, 4, 5, 6, 7], [8, 9, 0, 1, 2, 3, 4, 5, 6, 7, 8, 9]] [⟨none, none, (.prim (.loadN 2)), [(.v 3)]⟩, ⟨none, none, (.prim .mv), [(.v 1)]⟩, ⟨none, none, .call, [(.c (.fn (.func 42) [])), (.t 1)]⟩, ⟨none, none, (.prim .mv), [(.v 1)]⟩, ⟨none, none, (.prim .mv), [(.v 9)]⟩, ⟨none, none, .call, [(.c (.fn (.func 34) [])), (.t 0), (.t 2), (.t 3), (.t 4)]⟩, ⟨none, none, (.prim .mv), [(.t 5)]⟩, ⟨none, none, (.prim (.extract 0)), [(.t 6)]⟩, ⟨none, none, (.prim (.extract 1)), [(.t 6)]⟩, ⟨(.some 13), none, (.prim .mv), [(.t 7)]⟩, ⟨(.some 12), none, (.prim .mv), [(.t 8)]⟩])
 (.seq (.region [⟨none, none, (.prim .mv), [(.v 12)]⟩, ⟨none, none, (.prim (.bin .eql .int)), [(.t 0), (.c (.cv (.int .i64 0)))]⟩, ⟨none, none, (.prim .mv), [(.t 1)]⟩, ⟨none, (.some (2, true)), (.prim .mv), [(.v 13)]⟩, ⟨none, (.some (2, true)), (.prim .mv), [(.v 8)]⟩, ⟨none, (.some (2, true)), (.prim .mv), [(.v 9)]⟩, ⟨none, (.some (2, true)), .call, [(.c (.fn (.func 20) [])), (.t 4), (.t 5)]⟩, ⟨none, (.some (2, true)), (.prim (.bin .eql .bool)), [(.t 3), (.t 6)]⟩, ⟨none, none, (.prim .pick), [(.t 2), (.t 7), (.c (.cv (.bool false)))]⟩, ⟨none, none, (.prim .mv), [(.t 8)]⟩, ⟨none, (.some (9, true)), .call, [(.c (.fn (.func 23) []))]⟩, ⟨none, none, (.prim .pick), [(.t 9), (.t 10), (.c (.cv (.bool false)))]⟩, ⟨(.some 4), none, (.prim .mv), [(.t 11)]⟩])
 .ret))))))))))))
theorem cc11 : compC Try.prog vs11 Try.f11.ntmps (Try.f11.body.getD .skip) = some ic11 := by kernel_rfl
abbrev rs11 : List RC := [(.v 4)]
theorem fok11 (p : Bool) : FnOk Try.prog 11 ⟨ic11, vs11, 105, rs11, p⟩ := FnOk.mk' Try.func11 hb11 (by kernel_rfl) cc11 (by kernel_rfl) (by kernel_rfl)

end Go.Proofs.Ytphdemhopihpnaa.AM

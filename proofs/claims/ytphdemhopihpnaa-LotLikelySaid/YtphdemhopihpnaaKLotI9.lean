/- Compiled code of the law 9, written by program (gen.py) and checked by the kernel. -/
import Derived.Test.YtphdemhopihpnaaZ32
namespace Go.Proofs.Ytphdemhopihpnaa.AM
open Go
set_option linter.unusedVariables false

theorem hb9 : Try.f9.body = some (Try.f9.body.getD .skip) := by kernel_rfl
abbrev vs9 : List Nat := [0, 1, 2, 3, 5, 6, 7, 8, 9, 10, 11, 12, 13, 14, 15, 16, 17, 18, 21, 30, 61, 79, 102, 115]
def ic9 : IC := (.seq (.region [⟨(.some 3), none, (.prim .box), [(.v 0)]⟩, ⟨(.some 4), none, (.prim .box), [(.v 2)]⟩, ⟨(.some 5), none, (.prim .mv), [(.c (.cv (.bool false)))]⟩])
 (.seq (.seq (.region [⟨none, none, (.prim (.loadN 2)), [(.v 3)]⟩, ⟨none, none, .call, [(.c (.fn (.func 38) [])), (.t 0)]⟩, ⟨(.some 18), none, (.prim .not), [(.t 1)]⟩])
 (.cond 18 (.seq (.region [⟨none, none, .call, [(.c (.fn (.func 23) []))]⟩, ⟨(.some 5), none, (.prim .mv), [(.t 0)]⟩])
 .ret)
 .skip))
 (.seq (.region [⟨none, none, (.prim (.loadN 2)), [(.v 3)]⟩, ⟨none, none, (.prim .mv), [(.v 1)]⟩, ⟨none, none, .call, [(.c (.fn (.func 39) [])), (.t 0), (.t 1)]⟩, ⟨none, none, (.prim .mv), [(.t 2)]⟩, ⟨none, none, (.prim (.extract 0)), [(.t 3)]⟩, ⟨none, none, (.prim (.extract 1)), [(.t 3)]⟩, ⟨(.some 6), none, (.prim .mv), [(.t 4)]⟩, ⟨(.some 7), none, (.prim .mv), [(.t 5)]⟩])
 (.seq (.seq (.region [⟨none, none, (.prim .mv), [(.v 7)]⟩, ⟨(.some 19), none, (.prim .not), [(.t 0)]⟩])
 (.cond 19 (.seq (.region [⟨none, none, .call, [(.c (.fn (.func 23) []))]⟩, ⟨(.some 5), none, (.prim .mv), [(.t 0)]⟩])
 .ret)
 .skip))
 (.seq (.region [⟨none, none, (.prim (.loadN 2)), [(.v 3)]⟩, ⟨none, none, .call, [(.c (.fn (.func 26) [])), (.t 0)]⟩, ⟨none, none, (.prim .mv), [(.t 1)]⟩, ⟨none, none, (.prim (.extract 0)), [(.t 2)]⟩, ⟨none, none, (.prim (.extract 1)), [(.t 2)]⟩, ⟨(.some 8), none, (.prim .mv), [(.t 3)]⟩, ⟨(.some 9), none, (.prim .mv), [(.t 4)]⟩])
 (.seq (.region [⟨none, none, (.prim (.loadN 2)), [(.v 3)]⟩, ⟨none, none, (.prim .mv), [(.v 6)]⟩, ⟨none, none, .call, [(.c (.fn (.func 30) [])), (.t 0), (.t 1)]⟩, ⟨none, none, (.prim .mv), [(.t 2)]⟩, ⟨none, none, (.prim (.extract 0)), [(.t 3)]⟩, ⟨none, none, (.prim (.extract 1)), [(.t 3)]⟩, ⟨(.some 10), none, (.prim .mv), [(.t 4)]⟩, ⟨(.some 11), none, (.prim .mv), [(.t 5)]⟩])
 (.seq (.seq (.region [⟨none, none, (.prim .mv), [(.v 9)]⟩, ⟨none, none, (.prim (.bin .neq .int)), [(.t 0), (.c (.cv (.int .i64 0)))]⟩, ⟨none, none, (.prim .mv), [(.t 1)]⟩, ⟨none, (.some (2, false)), (.prim .mv), [(.v 11)]⟩, ⟨none, (.some (2, false)), (.prim (.bin .neq .int)), [(.t 3), (.c (.cv (.int .i64 0)))]⟩, ⟨none, none, (.prim .pick), [(.t 2), (.c (.cv (.bool true))), (.t 4)]⟩, ⟨none, none, (.prim .mv), [(.t 5)]⟩, ⟨none, (.some (6, false)), (.prim .mv), [(.v 8)]⟩, ⟨none, (.some (6, false)), (.prim (.bin .lss .int)), [(.t 7), (.c (.cv (.int .i64 1)))]⟩, ⟨none, none, (.prim .pick), [(.t 6), (.c (.cv (.bool true))), (.t 8)]⟩, ⟨none, none, (.prim .mv), [(.t 9)]⟩, ⟨none, (.some (10, false)), (.prim .mv), [(.v 10)]⟩, ⟨none, (.some (10, false)), (.prim (.bin .lss .int)), [(.t 11), (.c (.cv (.int .i64 0)))]⟩, ⟨none, none, (.prim .pick), [(.t 10), (.c (.cv (.bool true))), (.t 12)]⟩, ⟨none, none, (.prim .mv), [(.t 13)]⟩, ⟨none, (.some (14, false)), (.prim .mv), [(.v 10)]⟩, ⟨none, (.some (14, false)), (.prim .mv), [(.v 8)]⟩, ⟨none, (.some (14, false)), (.prim (.bin .geq .int)), [(.t 15), (.t 16)]⟩, ⟨(.some 20), none, (.prim .pick), [(.t 14), (.c (.cv (.bool true))), (.t 17)]⟩])
 (.cond 20 (.seq (.region [⟨(.some 5), none, (.prim .mv), [(.c (.cv (.bool false)))]⟩])
 .ret)
 .skip))
 (.seq (.region [⟨none, none, (.prim .mv), [(.v 10)]⟩, ⟨none, none, (.prim (.bin .sub .int)), [(.c (.cv (.int .i64 2147483647))), (.t 0)]⟩, ⟨none, none, (.prim .mv), [(.v 8)]⟩, ⟨none, none, (.prim (.bin .add .int)), [(.t 1), (.t 2)]⟩, ⟨none, none, (.prim (.bin .sub .int)), [(.t 3), (.c (.cv (.int .i64 1)))]⟩, ⟨none, none, (.prim .mv), [(.v 8)]⟩, ⟨none, none, (.prim (.bin .quo .int)), [(.t 4), (.t 5)]⟩, ⟨(.some 12), none, (.prim .mv), [(.t 6)]⟩])
 (.seq (.seq (.region [⟨none, none, (.prim .mv), [(.v 12)]⟩, ⟨none, none, (.prim .mv), [(.v 8)]⟩, ⟨none, none, (.prim (.bin .quo .int)), [(.c (.cv (.int .i64 2147483647))), (.t 1)]⟩, ⟨none, none, (.prim (.bin .neq .int)), [(.t 0), (.t 2)]⟩, ⟨none, none, (.prim .mv), [(.t 3)]⟩, ⟨none, (.some (4, true)), (.prim .mv), [(.v 12)]⟩, ⟨none, (.some (4, true)), (.prim .mv), [(.v 8)]⟩, ⟨none, (.some (4, true)), (.prim (.bin .quo .int)), [(.c (.cv (.int .i64 2147483647))), (.t 6)]⟩, ⟨none, (.some (4, true)), (.prim (.bin .add .int)), [(.t 7), (.c (.cv (.int .i64 1)))]⟩, ⟨none, (.some (4, true)), (.prim (.bin .neq .int)), [(.t 5), (.t 8)]⟩, ⟨(.some 21), none, (.prim .pick), [(.t 4), (.t 9), (.c (.cv (.bool false)))]⟩])
 (.cond 21 (.seq (.region [⟨(.some 5), none, (.prim .mv), [(.c (.cv (.bool false)))]⟩])
 .ret)
 .skip))
 (.seq (.region [⟨none, none, (.prim .mv), [(.v 10)]⟩, ⟨none, none, (.prim .mv), [(.v 8)]⟩, ⟨none, none, (.prim (.iaA 2 1)), [(.v 4), (.c (.cv (.int .i64 0)))]⟩, ⟨none, none, (.prim .load1), [(.t 2)]⟩, ⟨none, none, (.prim (.conv .i64)), [(.t 3)]⟩, ⟨none, none, (.prim .mv), [(.v 12)]⟩, ⟨none, none, (.prim (.bin .rem .int)), [(.t 4), (.t 5)]⟩, ⟨none, none, (.prim (.bin .mul .int)), [(.t 1), (.t 6)]⟩, ⟨none, none, (.prim (.bin .add .int)), [(.t 0), (.t 7)]⟩, ⟨(.some 13), none, (.prim .mv), [(.t 8)]⟩])
 (.seq (.region [⟨none, none, (.prim (.loadN 2)), [(.v 3)]⟩, ⟨none, none, (.prim .mv), [(.v 13)]⟩, ⟨none, none, .call, [(.c (.fn (.func 28) [])), (.t 0), (.t 1)]⟩, ⟨none, none, (.prim .mv), [(.t 2)]⟩, ⟨none, none, (.prim (.extract 0)), [(.t 3)]⟩, ⟨none, none, (.prim (.extract 1)), [(.t 3)]⟩, ⟨(.some 14), none, (.prim .mv), [(.t 4)]⟩, ⟨(.some 15), none, (.prim .mv), [(.t 5)]⟩])
 (.seq (.seq (.region [⟨none, none, (.prim .mv), [(.v 15)]⟩, ⟨none, none, (.prim (.bin .neq .int)), [(.t 0), (.c (.cv (.int .i64 0)))]⟩, ⟨none, none, (.prim .mv), [(.t 1)]⟩, ⟨none, (.some (2, false)), (.prim .mv), [(.v 14)]⟩, ⟨none, (.some (2, false)), (.prim .mv), [(.v 6)]⟩, ⟨none, (.some (2, false)), .call, [(.c (.fn (.func 20) [])), (.t 3), (.t 4)]⟩, ⟨none, (.some (2, false)), (.prim .not), [(.t 5)]⟩, ⟨(.some 22), none, (.prim .pick), [(.t 2), (.c (.cv (.bool true))), (.t 6)]⟩])
 (.cond 22 (.seq (.region [⟨(.some 5), none, (.prim .mv), [(.c (.cv (.bool false)))]⟩])
 .ret)
 .skip))
 (.seq (.region [⟨none, none, (.prim (.iaA 2 1)), [(.v 4), (.c (.cv (.int .i64 1)))]⟩, ⟨none, none, (.prim .load1), [(.t 0)]⟩, ⟨none, none, (.prim (.conv .i64)), [(.t 1)]⟩, ⟨none, none, (.prim .mv), [(.v 8)]⟩, ⟨none, none, (.prim (.bin .rem .int)), [(.t 2), (.t 3)]⟩, ⟨(.some 16), none, (.prim .mv), [(.t 4)]⟩])
 (.seq (.seq (.region [⟨none, none, (.prim .mv), [(.v 13)]⟩, ⟨none, none, (.prim .mv), [(.v 16)]⟩, ⟨none, none, (.prim (.bin .add .int)), [(.t 0), (.t 1)]⟩, ⟨none, none, (.prim (.bin .geq .int)), [(.t 2), (.c (.cv (.int .i64 2147483647)))]⟩, ⟨none, none, (.prim .mv), [(.t 3)]⟩, ⟨none, (.some (4, false)), (.prim .mv), [(.v 16)]⟩, ⟨none, (.some (4, false)), (.prim (.bin .eql .int)), [(.t 5), (.c (.cv (.int .i64 0)))]⟩, ⟨(.some 23), none, (.prim .pick), [(.t 4), (.c (.cv (.bool true))), (.t 6)]⟩])
 (.cond 23 (.seq (.region [⟨none, none, .call, [(.c (.fn (.func 23) []))]⟩, ⟨(.some 5), none, (.prim .mv), [(.t 0)]⟩])
 .ret)
 .skip))
 (.seq (.region [⟨none, none, (.prim (.loadN 2)), [(.v 3)]⟩, ⟨none, none, (.prim .mv), [(.v 13)]⟩, ⟨none, none, (.prim .mv), [(.v 16)]⟩, ⟨none, none, (.prim (.bin .add .int)), [(.t 1), (.t 2)]⟩, ⟨none, none, .call, [(.c (.fn (.func 28) [])), (.t 0), (.t 3)]⟩, ⟨none, none, (.prim .mv), [(.t 4)]⟩, ⟨none, none, (.prim (.extract 0)), [(.t 5)]⟩, ⟨none, none, (.prim (.extract 1)), [(.t 5)]⟩, ⟨(.some 17), none, (.prim .mv), [(.t 6)]⟩, ⟨(.some 15), none, (.prim .mv), [(.t 7)]⟩])
 (.seq (.region [⟨none, none, (.prim .mv), [(.v 15)]⟩, ⟨none, none, (.prim (.bin .eql .int)), [(.t 0), (.c (.cv (.int .i64 0)))]⟩, ⟨none, none, (.prim .mv), [(.t 1)]⟩, ⟨none, (.some (2, true)), (.prim .mv), [(.v 17)]⟩, ⟨none, (.some (2, true)), (.prim .mv), [(.v 6)]⟩, ⟨none, (.some (2, true)), .call, [(.c (.fn (.func 20) [])), (.t 3), (.t 4)]⟩, ⟨none, (.some (2, true)), (.prim .not), [(.t 5)]⟩, ⟨none, none, (.prim .pick), [(.t 2), (.t 6), (.c (.cv (.bool false)))]⟩, ⟨none, none, (.prim .mv), [(.t 7)]⟩, ⟨none, (.some (8, true)), .call, [(.c (.fn (.func 23) []))]⟩, ⟨none, none, (.prim .pick), [(.t 8), (.t 9), (.c (.cv (.bool false)))]⟩, ⟨(.some 5), none, (.prim .mv), [(.t 10)]⟩])
 .ret))))))))))))))))
theorem cc9 : compC Try.prog vs9 Try.f9.ntmps (Try.f9.body.getD .skip) = some ic9 := by kernel_rfl
abbrev rs9 : List RC := [(.v 5)]
theorem fok9 (p : Bool) : FnOk Try.prog 9 ⟨ic9, vs9, 136, rs9, p⟩ := FnOk.mk' Try.func9 hb9 (by kernel_rfl) cc9 (by kernel_rfl) (by kernel_rfl)

end Go.Proofs.Ytphdemhopihpnaa.AM

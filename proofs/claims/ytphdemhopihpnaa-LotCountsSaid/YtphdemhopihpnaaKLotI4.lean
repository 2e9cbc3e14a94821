/- Compiled code of the law 4, written by program (gen.py) and checked by the kernel. -/
import Derived.Test.YtphdemhopihpnaaZ32
namespace Go.Proofs.Ytphdemhopihpnaa.AM
open Go
set_option linter.unusedVariables false

theorem hb4 : Try.f4.body = some (Try.f4.body.getD .skip) := by kernel_rfl
abbrev vs4 : List Nat := [0, 1, 2, 3, 4, 5, 6, 7, 8, 9, 10, 35]
def ic4 : IC := (.seq (.region [⟨(.some 1), none, (.prim .box), [(.v 0)]⟩, ⟨(.some 2), none, (.prim .mv), [(.c (.cv (.bool false)))]⟩])
 (.seq (.region [⟨none, none, (.prim (.loadN 2)), [(.v 1)]⟩, ⟨none, none, .call, [(.c (.fn (.func 24) [])), (.t 0)]⟩, ⟨none, none, (.prim .mv), [(.t 1)]⟩, ⟨none, none, (.prim (.extract 0)), [(.t 2)]⟩, ⟨none, none, (.prim (.extract 1)), [(.t 2)]⟩, ⟨none, none, (.prim (.extract 2)), [(.t 2)]⟩, ⟨(.some 3), none, (.prim .mv), [(.t 3)]⟩, ⟨(.some 4), none, (.prim .mv), [(.t 4)]⟩, ⟨(.some 5), none, (.prim .mv), [(.t 5)]⟩])
 (.seq (.region [⟨none, none, (.prim (.loadN 2)), [(.v 1)]⟩, ⟨none, none, .call, [(.c (.fn (.func 25) [])), (.t 0)]⟩, ⟨none, none, (.prim .mv), [(.t 1)]⟩, ⟨none, none, (.prim (.extract 0)), [(.t 2)]⟩, ⟨none, none, (.prim (.extract 1)), [(.t 2)]⟩, ⟨none, none, (.prim (.extract 2)), [(.t 2)]⟩, ⟨(.some 6), none, (.prim .mv), [(.t 3)]⟩, ⟨(.some 7), none, (.prim .mv), [(.t 4)]⟩, ⟨(.some 8), none, (.prim .mv), [(.t 5)]⟩])
 (.seq (.seq (.region [⟨none, none, (.prim .mv), [(.v 3)]⟩, ⟨none, none, (.prim .mv), [(.v 6)]⟩, ⟨none, none, (.prim (.bin .neq .int)), [(.t 0), (.t 1)]⟩, ⟨none, none, (.prim .mv), [(.t 2)]⟩, ⟨none, (.some (3, false)), (.prim .mv), [(.v 4)]⟩, ⟨none, (.some (3, false)), (.prim .mv), [(.v 7)]⟩, ⟨none, (.some (3, false)), (.prim (.bin .neq .int)), [(.t 4), (.t 5)]⟩, ⟨none, none, (.prim .pick), [(.t 3), (.c (.cv (.bool true))), (.t 6)]⟩, ⟨none, none, (.prim .mv), [(.t 7)]⟩, ⟨none, (.some (8, false)), (.prim .mv), [(.v 5)]⟩, ⟨none, (.some (8, false)), (.prim .mv), [(.v 8)]⟩, ⟨none, (.some (8, false)), (.prim (.bin .neq .int)), [(.t 9), (.t 10)]⟩, ⟨(.some 11), none, (.prim .pick), [(.t 8), (.c (.cv (.bool true))), (.t 11)]⟩])
 (.cond 11 (.seq (.region [⟨(.some 2), none, (.prim .mv), [(.c (.cv (.bool false)))]⟩])
 .ret)
 .skip))
 (.seq (.region [⟨none, none, (.prim (.loadN 2)), [(.v 1)]⟩, ⟨none, none, .call, [(.c (.fn (.func 26) [])), (.t 0)]⟩, ⟨none, none, (.prim .mv), [(.t 1)]⟩, ⟨none, none, (.prim (.extract 0)), [(.t 2)]⟩, ⟨none, none, (.prim (.extract 1)), [(.t 2)]⟩, ⟨(.some 9), none, (.prim .mv), [(.t 3)]⟩, ⟨(.some 5), none, (.prim .mv), [(.t 4)]⟩])
 (.seq (.region [⟨none, none, (.prim (.loadN 2)), [(.v 1)]⟩, ⟨none, none, .call, [(.c (.fn (.func 27) [])), (.t 0)]⟩, ⟨none, none, (.prim .mv), [(.t 1)]⟩, ⟨none, none, (.prim (.extract 0)), [(.t 2)]⟩, ⟨none, none, (.prim (.extract 1)), [(.t 2)]⟩, ⟨(.some 10), none, (.prim .mv), [(.t 3)]⟩, ⟨(.some 8), none, (.prim .mv), [(.t 4)]⟩])
 (.seq (.region [⟨none, none, (.prim .mv), [(.v 9)]⟩, ⟨none, none, (.prim .mv), [(.v 10)]⟩, ⟨none, none, (.prim (.bin .eql .int)), [(.t 0), (.t 1)]⟩, ⟨none, none, (.prim .mv), [(.t 2)]⟩, ⟨none, (.some (3, true)), (.prim .mv), [(.v 5)]⟩, ⟨none, (.some (3, true)), (.prim .mv), [(.v 8)]⟩, ⟨none, (.some (3, true)), (.prim (.bin .eql .int)), [(.t 4), (.t 5)]⟩, ⟨none, none, (.prim .pick), [(.t 3), (.t 6), (.c (.cv (.bool false)))]⟩, ⟨none, none, (.prim .mv), [(.t 7)]⟩, ⟨none, (.some (8, true)), .call, [(.c (.fn (.func 23) []))]⟩, ⟨none, none, (.prim .pick), [(.t 8), (.t 9), (.c (.cv (.bool false)))]⟩, ⟨(.some 2), none, (.prim .mv), [(.t 10)]⟩])
 .ret)))))))
theorem cc4 : compC Try.prog vs4 Try.f4.ntmps (Try.f4.body.getD .skip) = some ic4 := by kernel_rfl
abbrev rs4 : List RC := [(.v 2)]
theorem fok4 (p : Bool) : FnOk Try.prog 4 ⟨ic4, vs4, 57, rs4, p⟩ := FnOk.mk' Try.func4 hb4 (by kernel_rfl) cc4 (by kernel_rfl) (by kernel_rfl)

end Go.Proofs.Ytphdemhopihpnaa.AM

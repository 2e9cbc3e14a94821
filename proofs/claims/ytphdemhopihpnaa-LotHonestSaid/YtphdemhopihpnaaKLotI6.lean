/- Compiled code of the law 6, written by program (gen.py) and checked by the kernel. -/
import Derived.Test.YtphdemhopihpnaaZ32
namespace Go.Proofs.Ytphdemhopihpnaa.AM
open Go
set_option linter.unusedVariables false

theorem hb6 : Try.f6.body = some (Try.f6.body.getD .skip) := by kernel_rfl
abbrev vs6 : List Nat := [0, 1, 2, 3, 4, 5, 6, 7, 8]
def ic6 : IC := (.seq (.region [⟨(.some 2), none, (.prim .box), [(.v 0)]⟩, ⟨(.some 3), none, (.prim .box), [(.v 1)]⟩, ⟨(.some 4), none, (.prim .mv), [(.c (.cv (.bool false)))]⟩])
 (.seq (.region [⟨none, none, (.prim (.loadN 2)), [(.v 2)]⟩, ⟨none, none, (.prim (.fadd 0)), [(.v 3)]⟩, ⟨none, none, (.prim .load1), [(.t 1)]⟩, ⟨none, none, (.prim (.fadd 1)), [(.v 3)]⟩, ⟨none, none, (.prim .load1), [(.t 3)]⟩, ⟨none, none, (.prim (.fadd 2)), [(.v 3)]⟩, ⟨none, none, (.prim .load1), [(.t 5)]⟩, ⟨none, none, .call, [(.c (.fn (.func 34) [])), (.t 0), (.t 2), (.t 4), (.t 6)]⟩, ⟨none, none, (.prim .mv), [(.t 7)]⟩, ⟨none, none, (.prim (.extract 0)), [(.t 8)]⟩, ⟨none, none, (.prim (.extract 1)), [(.t 8)]⟩, ⟨(.some 5), none, (.prim .mv), [(.t 9)]⟩, ⟨(.some 6), none, (.prim .mv), [(.t 10)]⟩])
 (.seq (.region [⟨none, none, (.prim (.loadN 2)), [(.v 2)]⟩, ⟨none, none, (.prim (.fadd 0)), [(.v 3)]⟩, ⟨none, none, (.prim .load1), [(.t 1)]⟩, ⟨none, none, (.prim (.fadd 1)), [(.v 3)]⟩, ⟨none, none, (.prim .load1), [(.t 3)]⟩, ⟨none, none, (.prim (.fadd 2)), [(.v 3)]⟩, ⟨none, none, (.prim .load1), [(.t 5)]⟩, ⟨none, none, .call, [(.c (.fn (.func 35) [])), (.t 0), (.t 2), (.t 4), (.t 6)]⟩, ⟨none, none, (.prim .mv), [(.t 7)]⟩, ⟨none, none, (.prim (.extract 0)), [(.t 8)]⟩, ⟨none, none, (.prim (.extract 1)), [(.t 8)]⟩, ⟨(.some 7), none, (.prim .mv), [(.t 9)]⟩, ⟨(.some 8), none, (.prim .mv), [(.t 10)]⟩])
 (.seq (.region [⟨none, none, (.prim .mv), [(.v 5)]⟩, ⟨none, none, (.prim .mv), [(.v 7)]⟩, ⟨none, none, (.prim (.bin .eql .bool)), [(.t 0), (.t 1)]⟩, ⟨none, none, (.prim .mv), [(.t 2)]⟩, ⟨none, (.some (3, true)), (.prim .mv), [(.v 6)]⟩, ⟨none, (.some (3, true)), (.prim .mv), [(.v 8)]⟩, ⟨none, (.some (3, true)), (.prim (.bin .eql .int)), [(.t 4), (.t 5)]⟩, ⟨none, none, (.prim .pick), [(.t 3), (.t 6), (.c (.cv (.bool false)))]⟩, ⟨none, none, (.prim .mv), [(.t 7)]⟩, ⟨none, (.some (8, true)), .call, [(.c (.fn (.func 23) []))]⟩, ⟨none, none, (.prim .pick), [(.t 8), (.t 9), (.c (.cv (.bool false)))]⟩, ⟨(.some 4), none, (.prim .mv), [(.t 10)]⟩])
 .ret))))
theorem cc6 : compC Try.prog vs6 Try.f6.ntmps (Try.f6.body.getD .skip) = some ic6 := by kernel_rfl
abbrev rs6 : List RC := [(.v 4)]
theorem fok6 (p : Bool) : FnOk Try.prog 6 ⟨ic6, vs6, 42, rs6, p⟩ := FnOk.mk' Try.func6 hb6 (by kernel_rfl) cc6 (by kernel_rfl) (by kernel_rfl)

end Go.Proofs.Ytphdemhopihpnaa.AM

/- Compiled code of functions 16 to 61, written by program (gen.py) and checked by the kernel. -/
import Derived.Test.YtphdemhopihpnaaAmEc
namespace Go.Proofs.Ytphdemhopihpnaa.AM
open Go
set_option linter.unusedVariables false

theorem hb16 : Try.f16.body = some (Try.f16.body.getD .skip) := by kernel_rfl
abbrev vs16 : List Nat := [0, 1, 4, 5, 6, 14, 20, 21]
def ic16l0 : IC := (.seq (.region [⟨(.some 7), none, (.prim (.bin .lss .int)), [(.v 6), (.c (.cv (.int .i64 2)))]⟩])
 (.seq (.cond 7 .skip
 (.exit 0))
 (.seq (.block 1 (.region [⟨none, none, (.prim .mv), [(.v 4)]⟩, ⟨none, none, (.prim (.bin .rem .int)), [(.t 0), (.c (.cv (.int .i64 2147483647)))]⟩, ⟨none, none, (.prim .mv), [(.v 4)]⟩, ⟨none, none, (.prim (.bin .rem .int)), [(.t 2), (.c (.cv (.int .i64 2147483647)))]⟩, ⟨none, none, (.prim (.bin .mul .int)), [(.t 1), (.t 3)]⟩, ⟨none, none, (.prim (.bin .add .int)), [(.t 4), (.c (.cv (.int .i64 12345)))]⟩, ⟨none, none, (.prim (.bin .rem .int)), [(.t 5), (.c (.cv (.int .i64 2147483647)))]⟩, ⟨(.some 4), none, (.prim .mv), [(.t 6)]⟩]))
 (.region [⟨none, none, (.prim (.bin .add .int)), [(.v 6), (.c (.cv (.int .i64 1)))]⟩, ⟨(.some 6), none, (.prim .mv), [(.t 0)]⟩]))))
def ic16 : IC := (.seq (.region [⟨(.some 2), none, (.prim .mv), [(.c (.cv (.int .i64 0)))]⟩, ⟨(.some 3), none, (.prim .mv), [(.c (.cv (.int .i64 0)))]⟩])
 (.seq (.seq (.region [⟨none, none, (.prim .mv), [(.v 0)]⟩, ⟨none, none, (.prim (.bslice 1 1 [(.cv (.int .i64 0))] [(0, 1)])), [(.t 0)]⟩, ⟨none, none, .call, [(.c (.fn (.func 47) [])), (.c (.cv (.int .i64 0))), (.c (.cv (.int .i64 7))), (.t 1)]⟩, ⟨none, none, (.prim .mv), [(.t 2)]⟩, ⟨none, (.some (3, false)), (.prim .mv), [(.v 1)]⟩, ⟨none, (.some (3, false)), (.prim (.bslice 1 1 [(.cv (.int .i64 0))] [(0, 1)])), [(.t 4)]⟩, ⟨none, (.some (3, false)), .call, [(.c (.fn (.func 47) [])), (.c (.cv (.int .i64 0))), (.c (.cv (.int .i64 1000000000))), (.t 5)]⟩, ⟨(.some 5), none, (.prim .pick), [(.t 3), (.c (.cv (.bool true))), (.t 6)]⟩])
 (.cond 5 (.seq (.region [⟨(.some 2), none, (.prim .mv), [(.c (.cv (.int .i64 0)))]⟩, ⟨(.some 3), none, (.prim .mv), [(.c (.cv (.int .i64 7)))]⟩])
 .ret)
 .skip))
 (.seq (.region [⟨none, none, (.prim .mv), [(.v 1)]⟩, ⟨none, none, (.prim (.bin .add .int)), [(.t 0), (.c (.cv (.int .i64 1)))]⟩, ⟨none, none, (.prim .mv), [(.v 0)]⟩, ⟨none, none, (.prim (.bin .mul .int)), [(.c (.cv (.int .i64 7))), (.t 2)]⟩, ⟨none, none, (.prim (.bin .add .int)), [(.t 1), (.t 3)]⟩, ⟨(.some 4), none, (.prim .mv), [(.t 4)]⟩])
 (.seq (.seq (.region [⟨(.some 6), none, (.prim .mv), [(.c (.cv (.int .i64 0)))]⟩])
 (.block 0 (.loop ic16l0)))
 (.seq (.region [⟨none, none, (.prim .mv), [(.v 4)]⟩, ⟨(.some 2), none, (.prim .mv), [(.t 0)]⟩, ⟨(.some 3), none, (.prim .mv), [(.c (.cv (.int .i64 0)))]⟩])
 .ret)))))
theorem cc16 : compC Try.prog vs16 Try.f16.ntmps (Try.f16.body.getD .skip) = some ic16 := by kernel_rfl
abbrev rs16 : List RC := [(.v 2), (.v 3)]
theorem fok16 (p : Bool) : FnOk Try.prog 16 ⟨ic16, vs16, 31, rs16, p⟩ := FnOk.mk' Try.func16 hb16 (by kernel_rfl) cc16 (by kernel_rfl) (by kernel_rfl)

theorem hb17 : Try.f17.body = some (Try.f17.body.getD .skip) := by kernel_rfl
abbrev vs17 : List Nat := [0, 1, 4, 5, 13]
def ic17 : IC := (.seq (.region [⟨(.some 2), none, (.prim .mv), [(.c (.cv (.int .i64 0)))]⟩, ⟨(.some 3), none, (.prim .mv), [(.c (.cv (.int .i64 0)))]⟩])
 (.seq (.seq (.region [⟨none, none, (.prim .mv), [(.v 0)]⟩, ⟨none, none, .call, [(.c (.fn (.func 48) [])), (.t 0), (.c (.cv (.int .i64 0))), (.c (.cv (.int .i64 7)))]⟩, ⟨none, none, (.prim .not), [(.t 1)]⟩, ⟨none, none, (.prim .mv), [(.t 2)]⟩, ⟨none, (.some (3, false)), (.prim .mv), [(.v 1)]⟩, ⟨none, (.some (3, false)), .call, [(.c (.fn (.func 48) [])), (.t 4), (.c (.cv (.int .i64 0))), (.c (.cv (.int .i64 1000000000)))]⟩, ⟨none, (.some (3, false)), (.prim .not), [(.t 5)]⟩, ⟨(.some 4), none, (.prim .pick), [(.t 3), (.c (.cv (.bool true))), (.t 6)]⟩])
 (.cond 4 (.seq (.region [⟨(.some 2), none, (.prim .mv), [(.c (.cv (.int .i64 0)))]⟩, ⟨(.some 3), none, (.prim .mv), [(.c (.cv (.int .i64 7)))]⟩])
 .ret)
 .skip))
 (.seq (.region [⟨none, none, (.prim .mv), [(.v 0)]⟩, ⟨none, none, (.prim .mv), [(.v 1)]⟩, ⟨none, none, .call, [(.c (.fn (.func 49) [])), (.t 0), (.t 1)]⟩, ⟨(.some 2), none, (.prim .mv), [(.t 2)]⟩, ⟨(.some 3), none, (.prim .mv), [(.c (.cv (.int .i64 0)))]⟩])
 .ret)))
theorem cc17 : compC Try.prog vs17 Try.f17.ntmps (Try.f17.body.getD .skip) = some ic17 := by kernel_rfl
abbrev rs17 : List RC := [(.v 2), (.v 3)]
theorem fok17 (p : Bool) : FnOk Try.prog 17 ⟨ic17, vs17, 17, rs17, p⟩ := FnOk.mk' Try.func17 hb17 (by kernel_rfl) cc17 (by kernel_rfl) (by kernel_rfl)

theorem hb18 : Try.f18.body = some (Try.f18.body.getD .skip) := by kernel_rfl
abbrev vs18 : List Nat := [0, 1, 4, 5, 6, 7, 8, 13, 15, 21, 24, 25, 26, 27, 42]
def ic18l0 : IC := (.seq (.region [⟨(.some 13), none, (.prim (.bin .lss .int)), [(.v 12), (.v 11)]⟩])
 (.seq (.cond 13 .skip
 (.exit 1))
 (.seq (.block 2 (.seq (.region [⟨none, none, (.prim .mv), [(.v 12)]⟩, ⟨none, none, (.prim (.iaS 1)), [(.v 10), (.v 12)]⟩, ⟨none, none, (.prim .load1), [(.t 1)]⟩, ⟨(.some 4), none, (.prim .mv), [(.t 0)]⟩, ⟨(.some 5), none, (.prim .mv), [(.t 2)]⟩])
 (.seq (.region [⟨none, none, (.prim .mv), [(.v 4)]⟩, ⟨none, none, (.prim .mv), [(.v 5)]⟩, ⟨none, none, .call, [(.c (.fn (.func 16) [])), (.t 0), (.t 1)]⟩, ⟨none, none, (.prim .mv), [(.t 2)]⟩, ⟨none, none, (.prim (.extract 0)), [(.t 3)]⟩, ⟨none, none, (.prim (.extract 1)), [(.t 3)]⟩, ⟨(.some 6), none, (.prim .mv), [(.t 4)]⟩, ⟨none, none, (.prim .mv), [(.t 5)]⟩])
 (.seq (.region [⟨none, none, (.prim .mv), [(.v 6)]⟩, ⟨none, none, (.prim .mv), [(.v 0)]⟩, ⟨none, none, (.prim .mv), [(.v 4)]⟩, ⟨none, none, (.prim (.iaS 1)), [(.t 1), (.t 2)]⟩, ⟨none, none, (.prim .load1), [(.t 3)]⟩, ⟨(.some 14), none, (.prim (.bin .neq .int)), [(.t 0), (.t 4)]⟩])
 (.cond 14 (.region [⟨none, none, (.prim .mv), [(.v 2)]⟩, ⟨none, none, (.prim .mv), [(.v 4)]⟩, ⟨none, none, (.prim (.bslice 1 1 [(.cv (.int .i64 0))] [(0, 1)])), [(.t 1)]⟩, ⟨none, none, (.prim (.append 1 8)), [(.t 0), (.t 2)]⟩, ⟨(.some 2), none, (.prim .mv), [(.t 3)]⟩])
 .skip)))))
 (.region [⟨none, none, (.prim (.bin .add .int)), [(.v 12), (.c (.cv (.int .i64 1)))]⟩, ⟨(.some 12), none, (.prim .mv), [(.t 0)]⟩]))))
def ic18 : IC := (.seq (.region [⟨(.some 2), none, (.prim .mv), [(.c (.cv .nils))]⟩, ⟨(.some 3), none, (.prim .mv), [(.c (.cv (.int .i64 0)))]⟩])
 (.seq (.seq (.region [⟨none, none, (.prim .mv), [(.v 1)]⟩, ⟨none, none, .call, [(.c (.fn (.func 50) [])), (.t 0)]⟩, ⟨(.some 3), none, (.prim .mv), [(.t 1)]⟩])
 (.seq (.region [⟨none, none, (.prim .mv), [(.v 3)]⟩, ⟨(.some 7), none, (.prim (.bin .neq .int)), [(.t 0), (.c (.cv (.int .i64 0)))]⟩])
 (.cond 7 (.seq (.region [⟨none, none, (.prim .mv), [(.v 3)]⟩, ⟨(.some 2), none, (.prim .mv), [(.c (.cv .nils))]⟩, ⟨(.some 3), none, (.prim .mv), [(.t 0)]⟩])
 .ret)
 .skip)))
 (.seq (.block 0 (.seq (.region [⟨none, none, (.prim .mv), [(.v 0)]⟩, ⟨none, none, (.prim (.len false)), [(.t 0)]⟩, ⟨none, none, (.prim .mv), [(.v 1)]⟩, ⟨none, none, (.prim (.len false)), [(.t 2)]⟩, ⟨none, none, (.prim (.bin .neq .int)), [(.t 1), (.t 3)]⟩, ⟨(.some 8), none, (.prim .mv), [(.t 4)]⟩])
 (.cond 8 (.seq (.region [⟨(.some 2), none, (.prim .mv), [(.c (.cv .nils))]⟩, ⟨(.some 3), none, (.prim .mv), [(.c (.cv (.int .i64 3)))]⟩])
 .ret)
 (.seq (.region [⟨none, none, (.prim .mv), [(.v 0)]⟩, ⟨none, none, .call, [(.c (.fn (.func 47) [])), (.c (.cv (.int .i64 0))), (.c (.cv (.int .i64 2147483646))), (.t 0)]⟩, ⟨(.some 9), none, (.prim .mv), [(.t 1)]⟩])
 (.cond 9 (.seq (.region [⟨(.some 2), none, (.prim .mv), [(.c (.cv .nils))]⟩, ⟨(.some 3), none, (.prim .mv), [(.c (.cv (.int .i64 7)))]⟩])
 .ret)
 .skip)))))
 (.seq (.seq (.region [⟨(.some 10), none, (.prim .mv), [(.v 1)]⟩, ⟨(.some 11), none, (.prim (.len false)), [(.v 10)]⟩, ⟨(.some 12), none, (.prim .mv), [(.c (.cv (.int .i64 0)))]⟩])
 (.block 1 (.loop ic18l0)))
 (.seq (.region [⟨none, none, (.prim .mv), [(.v 2)]⟩, ⟨(.some 2), none, (.prim .mv), [(.t 0)]⟩, ⟨(.some 3), none, (.prim .mv), [(.c (.cv (.int .i64 0)))]⟩])
 .ret)))))
theorem cc18 : compC Try.prog vs18 Try.f18.ntmps (Try.f18.body.getD .skip) = some ic18 := by kernel_rfl
abbrev rs18 : List RC := [(.v 2), (.v 3)]
theorem fok18 (p : Bool) : FnOk Try.prog 18 ⟨ic18, vs18, 49, rs18, p⟩ := FnOk.mk' Try.func18 hb18 (by kernel_rfl) cc18 (by kernel_rfl) (by kernel_rfl)

theorem hb19 : Try.f19.body = some (Try.f19.body.getD .skip) := by kernel_rfl
abbrev vs19 : List Nat := [0, 1, 4, 5, 6, 11]
def ic19 : IC := (.seq (.region [⟨(.some 2), none, (.prim .mv), [(.c (.cv .nils))]⟩, ⟨(.some 3), none, (.prim .mv), [(.c (.cv (.int .i64 0)))]⟩])
 (.seq (.region [⟨none, none, (.prim .mv), [(.v 0)]⟩, ⟨none, none, (.prim .mv), [(.v 1)]⟩, ⟨none, none, .call, [(.c (.fn (.func 51) [])), (.t 0), (.t 1)]⟩, ⟨(.some 4), none, (.prim .mv), [(.t 2)]⟩])
 (.seq (.seq (.region [⟨none, none, (.prim .mv), [(.v 4)]⟩, ⟨(.some 5), none, (.prim (.bin .neq .int)), [(.t 0), (.c (.cv (.int .i64 0)))]⟩])
 (.cond 5 (.seq (.region [⟨none, none, (.prim .mv), [(.v 4)]⟩, ⟨(.some 2), none, (.prim .mv), [(.c (.cv .nils))]⟩, ⟨(.some 3), none, (.prim .mv), [(.t 0)]⟩])
 .ret)
 .skip))
 (.seq (.region [⟨none, none, (.prim .mv), [(.v 0)]⟩, ⟨none, none, (.prim .mv), [(.v 1)]⟩, ⟨none, none, .call, [(.c (.fn (.func 52) [])), (.t 0), (.t 1)]⟩, ⟨(.some 2), none, (.prim .mv), [(.t 2)]⟩, ⟨(.some 3), none, (.prim .mv), [(.c (.cv (.int .i64 0)))]⟩])
 .ret))))
theorem cc19 : compC Try.prog vs19 Try.f19.ntmps (Try.f19.body.getD .skip) = some ic19 := by kernel_rfl
abbrev rs19 : List RC := [(.v 2), (.v 3)]
theorem fok19 (p : Bool) : FnOk Try.prog 19 ⟨ic19, vs19, 16, rs19, p⟩ := FnOk.mk' Try.func19 hb19 (by kernel_rfl) cc19 (by kernel_rfl) (by kernel_rfl)

theorem hb20 : Try.f20.body = some (Try.f20.body.getD .skip) := by kernel_rfl
abbrev vs20 : List Nat := [0, 1, 4, 5, 10, 14, 25]
def ic20l0 : IC := (.seq (.seq (.region [⟨none, none, (.prim .mv), [(.v 3)]⟩, ⟨none, none, (.prim .mv), [(.v 0)]⟩, ⟨none, none, (.prim (.len false)), [(.t 1)]⟩, ⟨(.some 5), none, (.prim (.bin .lss .int)), [(.t 0), (.t 2)]⟩])
 (.cond 5 .skip
 (.exit 0)))
 (.seq (.block 1 (.seq (.draw [[], [], [0, 1], [2], [], [], [4, 5], [6], [3, 7]] [⟨none, none, (.prim .mv), [(.v 0)]⟩, ⟨none, none, (.prim .mv), [(.v 3)]⟩, ⟨none, none, (.prim (.iaS 1)), [(.t 0), (.t 1)]⟩, ⟨none, none, (.prim .load1), [(.t 2)]⟩, ⟨none, none, (.prim .mv), [(.v 1)]⟩, ⟨none, none, (.prim .mv), [(.v 3)]⟩, ⟨none, none, (.prim (.iaS 1)), [(.t 4), (.t 5)]⟩, ⟨none, none, (.prim .load1), [(.t 6)]⟩, ⟨(.some 6), none, (.prim (.bin .neq .int)), [(.t 3), (.t 7)]⟩] [[], [], [0, 1], [2, 0, 1], [], [], [4, 5], [6, 4, 5], [3, 7, 2, 0, 1, 6, 4, 5]])
 (.cond 6 (.seq (.region [⟨(.some 2), none, (.prim .mv), [(.c (.cv (.bool false)))]⟩])
 .ret)
 .skip)))
 (.region [⟨none, none, (.prim .mv), [(.v 3)]⟩, ⟨none, none, (.prim (.bin .add .int)), [(.t 0), (.c (.cv (.int .i64 1)))]⟩, ⟨(.some 3), none, (.prim .mv), [(.t 1)]⟩])))
def ic20 : IC := (.seq (.region [⟨(.some 2), none, (.prim .mv), [(.c (.cv (.bool false)))]⟩])
 (.seq (.seq (.region [⟨none, none, (.prim .mv), [(.v 0)]⟩, ⟨none, none, (.prim (.len false)), [(.t 0)]⟩, ⟨none, none, (.prim .mv), [(.v 1)]⟩, ⟨none, none, (.prim (.len false)), [(.t 2)]⟩, ⟨(.some 4), none, (.prim (.bin .neq .int)), [(.t 1), (.t 3)]⟩])
 (.cond 4 (.seq (.region [⟨(.some 2), none, (.prim .mv), [(.c (.cv (.bool false)))]⟩])
 .ret)
 .skip))
 (.seq (.seq (.region [⟨(.some 3), none, (.prim .mv), [(.c (.cv (.int .i64 0)))]⟩])
 (.block 0 (.loop ic20l0)))
 (.seq (.region [⟨(.some 2), none, (.prim .mv), [(.c (.cv (.bool true)))]⟩])
 .ret))))
theorem cc20 : compC Try.prog vs20 Try.f20.ntmps (Try.f20.body.getD .skip) = some ic20 := by kernel_rfl
abbrev rs20 : List RC := [(.v 2)]
theorem fok20 (p : Bool) : FnOk Try.prog 20 ⟨ic20, vs20, 26, rs20, p⟩ := FnOk.mk' Try.func20 hb20 (by kernel_rfl) cc20 (by kernel_rfl) (by kernel_rfl)

theorem hb21 : Try.f21.body = some (Try.f21.body.getD .skip) := by kernel_rfl
abbrev vs21 : List Nat := [0, 2, 3, 5, 9, 11, 12, 13, 14]
def ic21l0 : IC := (.seq (.region [⟨(.some 8), none, (.prim (.bin .lss .int)), [(.v 7), (.v 6)]⟩])
 (.seq (.cond 8 .skip
 (.exit 0))
 (.seq (.block 1 (.seq (.region [⟨none, none, (.prim (.iaS 1)), [(.v 5), (.v 7)]⟩, ⟨none, none, (.prim .load1), [(.t 0)]⟩, ⟨(.some 3), none, (.prim .mv), [(.t 1)]⟩])
 (.region [⟨none, none, (.prim .mv), [(.v 1)]⟩, ⟨none, none, (.prim (.bin .mul .int)), [(.t 0), (.c (.cv (.int .i64 1000003)))]⟩, ⟨none, none, (.prim .mv), [(.v 3)]⟩, ⟨none, none, (.prim (.bin .add .int)), [(.t 1), (.t 2)]⟩, ⟨none, none, (.prim (.bin .add .int)), [(.t 3), (.c (.cv (.int .i64 1)))]⟩, ⟨none, none, (.prim (.bin .rem .int)), [(.t 4), (.c (.cv (.int .i64 2147483647)))]⟩, ⟨(.some 1), none, (.prim .mv), [(.t 5)]⟩])))
 (.region [⟨none, none, (.prim (.bin .add .int)), [(.v 7), (.c (.cv (.int .i64 1)))]⟩, ⟨(.some 7), none, (.prim .mv), [(.t 0)]⟩]))))
def ic21 : IC := (.seq (.region [⟨(.some 1), none, (.prim .mv), [(.c (.cv (.int .i64 0)))]⟩, ⟨(.some 2), none, (.prim .mv), [(.c (.cv (.int .i64 0)))]⟩])
 (.seq (.seq (.region [⟨none, none, (.prim .mv), [(.v 0)]⟩, ⟨none, none, .call, [(.c (.fn (.func 50) [])), (.t 0)]⟩, ⟨(.some 2), none, (.prim .mv), [(.t 1)]⟩])
 (.seq (.region [⟨none, none, (.prim .mv), [(.v 2)]⟩, ⟨(.some 4), none, (.prim (.bin .neq .int)), [(.t 0), (.c (.cv (.int .i64 0)))]⟩])
 (.cond 4 (.seq (.region [⟨none, none, (.prim .mv), [(.v 2)]⟩, ⟨(.some 1), none, (.prim .mv), [(.c (.cv (.int .i64 0)))]⟩, ⟨(.some 2), none, (.prim .mv), [(.t 0)]⟩])
 .ret)
 .skip)))
 (.seq (.seq (.region [⟨(.some 5), none, (.prim .mv), [(.v 0)]⟩, ⟨(.some 6), none, (.prim (.len false)), [(.v 5)]⟩, ⟨(.some 7), none, (.prim .mv), [(.c (.cv (.int .i64 0)))]⟩])
 (.block 0 (.loop ic21l0)))
 (.seq (.region [⟨none, none, (.prim .mv), [(.v 1)]⟩, ⟨(.some 1), none, (.prim .mv), [(.t 0)]⟩, ⟨(.some 2), none, (.prim .mv), [(.c (.cv (.int .i64 0)))]⟩])
 .ret))))
theorem cc21 : compC Try.prog vs21 Try.f21.ntmps (Try.f21.body.getD .skip) = some ic21 := by kernel_rfl
abbrev rs21 : List RC := [(.v 1), (.v 2)]
theorem fok21 (p : Bool) : FnOk Try.prog 21 ⟨ic21, vs21, 25, rs21, p⟩ := FnOk.mk' Try.func21 hb21 (by kernel_rfl) cc21 (by kernel_rfl) (by kernel_rfl)

theorem hb22 : Try.f22.body = some (Try.f22.body.getD .skip) := by kernel_rfl
abbrev vs22 : List Nat := [0, 2, 3, 4, 5, 6, 10, 15]
def ic22l0 : IC := (.seq (.seq (.region [⟨none, none, (.prim .mv), [(.v 5)]⟩, ⟨none, none, (.prim .mv), [(.v 0)]⟩, ⟨none, none, (.prim (.len false)), [(.t 1)]⟩, ⟨(.some 7), none, (.prim (.bin .lss .int)), [(.t 0), (.t 2)]⟩])
 (.cond 7 .skip
 (.exit 0)))
 (.seq (.block 1 (.region [⟨none, none, (.prim .mv), [(.v 4)]⟩, ⟨none, none, (.prim (.bin .mul .int)), [(.t 0), (.c (.cv (.int .i64 1000003)))]⟩, ⟨none, none, (.prim .mv), [(.v 0)]⟩, ⟨none, none, (.prim .mv), [(.v 5)]⟩, ⟨none, none, (.prim (.iaS 1)), [(.t 2), (.t 3)]⟩, ⟨none, none, (.prim .load1), [(.t 4)]⟩, ⟨none, none, (.prim (.bin .add .int)), [(.t 1), (.t 5)]⟩, ⟨none, none, (.prim (.bin .add .int)), [(.t 6), (.c (.cv (.int .i64 1)))]⟩, ⟨none, none, (.prim (.bin .rem .int)), [(.t 7), (.c (.cv (.int .i64 2147483647)))]⟩, ⟨(.some 4), none, (.prim .mv), [(.t 8)]⟩]))
 (.region [⟨none, none, (.prim .mv), [(.v 5)]⟩, ⟨none, none, (.prim (.bin .add .int)), [(.t 0), (.c (.cv (.int .i64 1)))]⟩, ⟨(.some 5), none, (.prim .mv), [(.t 1)]⟩])))
def ic22 : IC := (.seq (.region [⟨(.some 1), none, (.prim .mv), [(.c (.cv (.int .i64 0)))]⟩, ⟨(.some 2), none, (.prim .mv), [(.c (.cv (.int .i64 0)))]⟩])
 (.seq (.region [⟨none, none, (.prim .mv), [(.v 0)]⟩, ⟨none, none, .call, [(.c (.fn (.func 41) [])), (.t 0)]⟩, ⟨(.some 3), none, (.prim .mv), [(.t 1)]⟩])
 (.seq (.seq (.region [⟨none, none, (.prim .mv), [(.v 3)]⟩, ⟨(.some 6), none, (.prim (.bin .neq .int)), [(.t 0), (.c (.cv (.int .i64 0)))]⟩])
 (.cond 6 (.seq (.region [⟨none, none, (.prim .mv), [(.v 3)]⟩, ⟨(.some 1), none, (.prim .mv), [(.c (.cv (.int .i64 0)))]⟩, ⟨(.some 2), none, (.prim .mv), [(.t 0)]⟩])
 .ret)
 .skip))
 (.seq (.region [⟨(.some 4), none, (.prim .mv), [(.c (.cv (.int .i64 0)))]⟩])
 (.seq (.seq (.region [⟨(.some 5), none, (.prim .mv), [(.c (.cv (.int .i64 0)))]⟩])
 (.block 0 (.loop ic22l0)))
 (.seq (.region [⟨none, none, (.prim .mv), [(.v 4)]⟩, ⟨(.some 1), none, (.prim .mv), [(.t 0)]⟩, ⟨(.some 2), none, (.prim .mv), [(.c (.cv (.int .i64 0)))]⟩])
 .ret))))))
theorem cc22 : compC Try.prog vs22 Try.f22.ntmps (Try.f22.body.getD .skip) = some ic22 := by kernel_rfl
abbrev rs22 : List RC := [(.v 1), (.v 2)]
theorem fok22 (p : Bool) : FnOk Try.prog 22 ⟨ic22, vs22, 28, rs22, p⟩ := FnOk.mk' Try.func22 hb22 (by kernel_rfl) cc22 (by kernel_rfl) (by kernel_rfl)

theorem hb23 : Try.f23.body = some (Try.f23.body.getD .skip) := by kernel_rfl
abbrev vs23 : List Nat := [0, 1, 2, 3, 4, 5, 6, 7, 8, 9, 10, 11, 12, 13, 14, 15, 16, 18]
def ic23 : IC := (.seq (.region [⟨(.some 0), none, (.prim .mv), [(.c (.cv (.bool false)))]⟩])
 (.seq (.region [⟨none, none, .call, [(.c (.fn (.func 16) [])), (.c (.cv (.int .i64 0))), (.c (.cv (.int .i64 0)))]⟩, ⟨none, none, (.prim .mv), [(.t 0)]⟩, ⟨none, none, (.prim (.extract 0)), [(.t 1)]⟩, ⟨none, none, (.prim (.extract 1)), [(.t 1)]⟩, ⟨(.some 1), none, (.prim .mv), [(.t 2)]⟩, ⟨(.some 2), none, (.prim .mv), [(.t 3)]⟩])
 (.seq (.region [⟨none, none, (.prim (.bslice 1 2 [(.cv (.int .i64 0)), (.cv (.int .i64 0))] [(0, 1), (1, 1)])), [(.c (.cv (.int .i64 152436061))), (.c (.cv (.int .i64 153995626)))]⟩, ⟨none, none, (.prim (.bslice 1 2 [(.cv (.int .i64 0)), (.cv (.int .i64 0))] [(0, 1), (1, 1)])), [(.c (.cv (.int .i64 0))), (.c (.cv (.int .i64 1)))]⟩, ⟨none, none, .call, [(.c (.fn (.func 18) [])), (.t 0), (.t 1)]⟩, ⟨none, none, (.prim .mv), [(.t 2)]⟩, ⟨none, none, (.prim (.extract 0)), [(.t 3)]⟩, ⟨none, none, (.prim (.extract 1)), [(.t 3)]⟩, ⟨(.some 3), none, (.prim .mv), [(.t 4)]⟩, ⟨(.some 4), none, (.prim .mv), [(.t 5)]⟩])
 (.seq (.region [⟨none, none, (.prim (.bslice 1 2 [(.cv (.int .i64 0)), (.cv (.int .i64 0))] [(0, 1), (1, 1)])), [(.c (.cv (.int .i64 1))), (.c (.cv (.int .i64 2)))]⟩, ⟨none, none, .call, [(.c (.fn (.func 21) [])), (.t 0)]⟩, ⟨none, none, (.prim .mv), [(.t 1)]⟩, ⟨none, none, (.prim (.extract 0)), [(.t 2)]⟩, ⟨none, none, (.prim (.extract 1)), [(.t 2)]⟩, ⟨(.some 5), none, (.prim .mv), [(.t 3)]⟩, ⟨(.some 6), none, (.prim .mv), [(.t 4)]⟩])
 (.seq (.region [⟨none, none, .call, [(.c (.fn (.func 37) []))]⟩, ⟨none, none, .call, [(.c (.fn (.func 26) [])), (.t 0)]⟩, ⟨none, none, (.prim .mv), [(.t 1)]⟩, ⟨none, none, (.prim (.extract 0)), [(.t 2)]⟩, ⟨none, none, (.prim (.extract 1)), [(.t 2)]⟩, ⟨(.some 7), none, (.prim .mv), [(.t 3)]⟩, ⟨(.some 8), none, (.prim .mv), [(.t 4)]⟩])
 (.seq (.region [⟨none, none, .call, [(.c (.fn (.func 37) []))]⟩, ⟨none, none, .call, [(.c (.fn (.func 28) [])), (.t 0), (.c (.cv (.int .i64 1)))]⟩, ⟨none, none, (.prim .mv), [(.t 1)]⟩, ⟨none, none, (.prim (.extract 0)), [(.t 2)]⟩, ⟨none, none, (.prim (.extract 1)), [(.t 2)]⟩, ⟨(.some 9), none, (.prim .mv), [(.t 3)]⟩, ⟨(.some 10), none, (.prim .mv), [(.t 4)]⟩])
 (.seq (.region [⟨none, none, .call, [(.c (.fn (.func 37) []))]⟩, ⟨none, none, (.prim (.bslice 1 3 [(.cv (.int .i64 0)), (.cv (.int .i64 0)), (.cv (.int .i64 0))] [(0, 1), (1, 1), (2, 1)])), [(.c (.cv (.int .i64 2))), (.c (.cv (.int .i64 1))), (.c (.cv (.int .i64 0)))]⟩, ⟨none, none, .call, [(.c (.fn (.func 30) [])), (.t 0), (.t 1)]⟩, ⟨none, none, (.prim .mv), [(.t 2)]⟩, ⟨none, none, (.prim (.extract 0)), [(.t 3)]⟩, ⟨none, none, (.prim (.extract 1)), [(.t 3)]⟩, ⟨(.some 11), none, (.prim .mv), [(.t 4)]⟩, ⟨(.some 12), none, (.prim .mv), [(.t 5)]⟩])
 (.seq (.region [⟨none, none, .call, [(.c (.fn (.func 36) []))]⟩, ⟨none, none, .call, [(.c (.fn (.func 32) [])), (.t 0)]⟩, ⟨none, none, (.prim .mv), [(.t 1)]⟩, ⟨none, none, (.prim (.extract 0)), [(.t 2)]⟩, ⟨none, none, (.prim (.extract 1)), [(.t 2)]⟩, ⟨(.some 13), none, (.prim .mv), [(.t 3)]⟩, ⟨(.some 14), none, (.prim .mv), [(.t 4)]⟩])
 (.seq (.region [⟨none, none, .call, [(.c (.fn (.func 37) []))]⟩, ⟨none, none, (.prim (.bslice 1 1 [(.cv (.int .i64 0))] [(0, 1)])), [(.c (.cv (.int .i64 152436061)))]⟩, ⟨none, none, (.prim (.bslice 1 1 [(.cv (.int .i64 0))] [(0, 1)])), [(.c (.cv (.int .i64 0)))]⟩, ⟨none, none, (.prim (.bslice 1 3 [(.cv (.int .i64 0)), (.cv (.int .i64 0)), (.cv (.int .i64 0))] [(0, 1), (1, 1), (2, 1)])), [(.c (.cv (.int .i64 2))), (.c (.cv (.int .i64 1))), (.c (.cv (.int .i64 0)))]⟩, ⟨none, none, .call, [(.c (.fn (.func 34) [])), (.t 0), (.t 1), (.t 2), (.t 3)]⟩, ⟨none, none, (.prim .mv), [(.t 4)]⟩, ⟨none, none, (.prim (.extract 0)), [(.t 5)]⟩, ⟨none, none, (.prim (.extract 1)), [(.t 5)]⟩, ⟨(.some 15), none, (.prim .mv), [(.t 6)]⟩, ⟨(.some 16), none, (.prim .mv), [(.t 7)]⟩])
 (.seq (.region [⟨none, none, .call, [(.c (.fn (.func 36) []))]⟩, ⟨none, none, .call, [(.c (.fn (.func 28) [])), (.t 0), (.c (.cv (.int .i64 0)))]⟩, ⟨none, none, (.prim .mv), [(.t 1)]⟩, ⟨none, none, (.prim (.extract 0)), [(.t 2)]⟩, ⟨none, none, (.prim (.extract 1)), [(.t 2)]⟩, ⟨none, none, (.prim .mv), [(.t 3)]⟩, ⟨(.some 17), none, (.prim .mv), [(.t 4)]⟩])
 (.seq (.region [⟨none, none, (.prim .mv), [(.v 2)]⟩, ⟨none, none, (.prim (.bin .eql .int)), [(.t 0), (.c (.cv (.int .i64 0)))]⟩, ⟨none, none, (.prim .mv), [(.t 1)]⟩, ⟨none, (.some (2, true)), (.prim .mv), [(.v 4)]⟩, ⟨none, (.some (2, true)), (.prim (.bin .eql .int)), [(.t 3), (.c (.cv (.int .i64 0)))]⟩, ⟨none, none, (.prim .pick), [(.t 2), (.t 4), (.c (.cv (.bool false)))]⟩, ⟨none, none, (.prim .mv), [(.t 5)]⟩, ⟨none, (.some (6, true)), (.prim .mv), [(.v 6)]⟩, ⟨none, (.some (6, true)), (.prim (.bin .eql .int)), [(.t 7), (.c (.cv (.int .i64 0)))]⟩, ⟨none, none, (.prim .pick), [(.t 6), (.t 8), (.c (.cv (.bool false)))]⟩, ⟨none, none, (.prim .mv), [(.t 9)]⟩, ⟨none, (.some (10, true)), (.prim .mv), [(.v 8)]⟩, ⟨none, (.some (10, true)), (.prim (.bin .eql .int)), [(.t 11), (.c (.cv (.int .i64 0)))]⟩, ⟨none, none, (.prim .pick), [(.t 10), (.t 12), (.c (.cv (.bool false)))]⟩, ⟨none, none, (.prim .mv), [(.t 13)]⟩, ⟨none, (.some (14, true)), (.prim .mv), [(.v 10)]⟩, ⟨none, (.some (14, true)), (.prim (.bin .eql .int)), [(.t 15), (.c (.cv (.int .i64 0)))]⟩, ⟨none, none, (.prim .pick), [(.t 14), (.t 16), (.c (.cv (.bool false)))]⟩, ⟨none, none, (.prim .mv), [(.t 17)]⟩, ⟨none, (.some (18, true)), (.prim .mv), [(.v 12)]⟩, ⟨none, (.some (18, true)), (.prim (.bin .eql .int)), [(.t 19), (.c (.cv (.int .i64 0)))]⟩, ⟨none, none, (.prim .pick), [(.t 18), (.t 20), (.c (.cv (.bool false)))]⟩, ⟨none, none, (.prim .mv), [(.t 21)]⟩, ⟨none, (.some (22, true)), (.prim .mv), [(.v 14)]⟩, ⟨none, (.some (22, true)), (.prim (.bin .eql .int)), [(.t 23), (.c (.cv (.int .i64 0)))]⟩, ⟨none, none, (.prim .pick), [(.t 22), (.t 24), (.c (.cv (.bool false)))]⟩, ⟨none, none, (.prim .mv), [(.t 25)]⟩, ⟨none, (.some (26, true)), (.prim .mv), [(.v 16)]⟩, ⟨none, (.some (26, true)), (.prim (.bin .eql .int)), [(.t 27), (.c (.cv (.int .i64 0)))]⟩, ⟨none, none, (.prim .pick), [(.t 26), (.t 28), (.c (.cv (.bool false)))]⟩, ⟨none, none, (.prim .mv), [(.t 29)]⟩, ⟨none, (.some (30, true)), (.prim .mv), [(.v 17)]⟩, ⟨none, (.some (30, true)), (.prim (.bin .eql .int)), [(.t 31), (.c (.cv (.int .i64 9)))]⟩, ⟨none, none, (.prim .pick), [(.t 30), (.t 32), (.c (.cv (.bool false)))]⟩, ⟨none, none, (.prim .mv), [(.t 33)]⟩, ⟨none, (.some (34, true)), (.prim .mv), [(.v 1)]⟩, ⟨none, (.some (34, true)), (.prim (.bin .eql .int)), [(.t 35), (.c (.cv (.int .i64 152436061)))]⟩, ⟨none, none, (.prim .pick), [(.t 34), (.t 36), (.c (.cv (.bool false)))]⟩, ⟨none, none, (.prim .mv), [(.t 37)]⟩, ⟨none, (.some (38, true)), (.prim .mv), [(.v 3)]⟩, ⟨none, (.some (38, true)), (.prim (.bslice 1 1 [(.cv (.int .i64 0))] [(0, 1)])), [(.c (.cv (.int .i64 1)))]⟩, ⟨none, (.some (38, true)), .call, [(.c (.fn (.func 20) [])), (.t 39), (.t 40)]⟩, ⟨none, none, (.prim .pick), [(.t 38), (.t 41), (.c (.cv (.bool false)))]⟩, ⟨none, none, (.prim .mv), [(.t 42)]⟩, ⟨none, (.some (43, true)), (.prim .mv), [(.v 5)]⟩, ⟨none, (.some (43, true)), (.prim (.bin .eql .int)), [(.t 44), (.c (.cv (.int .i64 2000009)))]⟩, ⟨none, none, (.prim .pick), [(.t 43), (.t 45), (.c (.cv (.bool false)))]⟩, ⟨none, none, (.prim .mv), [(.t 46)]⟩, ⟨none, (.some (47, true)), (.prim .mv), [(.v 7)]⟩, ⟨none, (.some (47, true)), (.prim (.bin .eql .int)), [(.t 48), (.c (.cv (.int .i64 3)))]⟩, ⟨none, none, (.prim .pick), [(.t 47), (.t 49), (.c (.cv (.bool false)))]⟩, ⟨none, none, (.prim .mv), [(.t 50)]⟩, ⟨none, (.some (51, true)), (.prim .mv), [(.v 9)]⟩, ⟨none, (.some (51, true)), (.prim (.bslice 1 3 [(.cv (.int .i64 0)), (.cv (.int .i64 0)), (.cv (.int .i64 0))] [(0, 1), (1, 1), (2, 1)])), [(.c (.cv (.int .i64 2))), (.c (.cv (.int .i64 1))), (.c (.cv (.int .i64 0)))]⟩, ⟨none, (.some (51, true)), .call, [(.c (.fn (.func 20) [])), (.t 52), (.t 53)]⟩, ⟨none, none, (.prim .pick), [(.t 51), (.t 54), (.c (.cv (.bool false)))]⟩, ⟨none, none, (.prim .mv), [(.t 55)]⟩, ⟨none, (.some (56, true)), (.prim .mv), [(.v 11)]⟩, ⟨none, (.some (56, true)), (.prim (.bin .eql .int)), [(.t 57), (.c (.cv (.int .i64 1)))]⟩, ⟨none, none, (.prim .pick), [(.t 56), (.t 58), (.c (.cv (.bool false)))]⟩, ⟨none, none, (.prim .mv), [(.t 59)]⟩, ⟨none, (.some (60, true)), (.prim .mv), [(.v 13)]⟩, ⟨none, (.some (60, true)), (.prim (.bslice 1 2 [(.cv (.int .i64 0)), (.cv (.int .i64 0))] [(0, 1), (1, 1)])), [(.c (.cv (.int .i64 2))), (.c (.cv (.int .i64 3)))]⟩, ⟨none, (.some (60, true)), .call, [(.c (.fn (.func 20) [])), (.t 61), (.t 62)]⟩, ⟨none, none, (.prim .pick), [(.t 60), (.t 63), (.c (.cv (.bool false)))]⟩, ⟨none, none, (.prim .mv), [(.t 64)]⟩, ⟨none, (.some (65, true)), (.prim .mv), [(.v 15)]⟩, ⟨none, none, (.prim .pick), [(.t 65), (.t 66), (.c (.cv (.bool false)))]⟩, ⟨(.some 0), none, (.prim .mv), [(.t 67)]⟩])
 .ret)))))))))))
theorem cc23 : compC Try.prog vs23 Try.f23.ntmps (Try.f23.body.getD .skip) = some ic23 := by kernel_rfl
abbrev rs23 : List RC := [(.v 0)]
theorem fok23 (p : Bool) : FnOk Try.prog 23 ⟨ic23, vs23, 136, rs23, p⟩ := FnOk.mk' Try.func23 hb23 (by kernel_rfl) cc23 (by kernel_rfl) (by kernel_rfl)

theorem hb24 : Try.f24.body = some (Try.f24.body.getD .skip) := by kernel_rfl
abbrev vs24 : List Nat := [0, 1, 2, 3, 4, 5, 6, 7, 8, 19, 21, 22, 23, 24, 30, 34, 35, 36, 37, 48]
def ic24l0 : IC := (.seq (.region [⟨(.some 18), none, (.prim (.bin .lss .int)), [(.v 17), (.v 16)]⟩])
 (.seq (.cond 18 .skip
 (.exit 2))
 (.seq (.block 3 (.seq (.region [⟨none, none, (.prim .mv), [(.v 17)]⟩, ⟨none, none, (.prim (.iaS 1)), [(.v 15), (.v 17)]⟩, ⟨none, none, (.prim .load1), [(.t 1)]⟩, ⟨(.some 7), none, (.prim .mv), [(.t 0)]⟩, ⟨(.some 8), none, (.prim .mv), [(.t 2)]⟩])
 (.seq (.region [⟨none, none, (.prim (.fadd 0)), [(.v 1)]⟩, ⟨none, none, (.prim .load1), [(.t 0)]⟩, ⟨none, none, (.prim (.len false)), [(.t 1)]⟩, ⟨none, none, (.prim (.bin .shl .int)), [(.c (.cv (.int .i64 1))), (.t 2)]⟩, ⟨none, none, (.prim (.bin .sub .int)), [(.t 3), (.c (.cv (.int .i64 1)))]⟩, ⟨none, none, (.prim .mv), [(.v 8)]⟩, ⟨none, none, (.prim (.bslice 1 1 [(.cv (.int .i64 0))] [(0, 1)])), [(.t 5)]⟩, ⟨(.some 19), none, .call, [(.c (.fn (.func 47) [])), (.c (.cv (.int .i64 0))), (.t 4), (.t 6)]⟩])
 (.cond 19 (.seq (.region [⟨none, none, (.prim .mv), [(.v 7)]⟩, ⟨(.some 2), none, (.prim .mv), [(.c (.cv (.int .i64 3)))]⟩, ⟨(.some 3), none, (.prim .mv), [(.t 0)]⟩, ⟨(.some 4), none, (.prim .mv), [(.c (.cv (.int .i64 7)))]⟩])
 .ret)
 .skip))))
 (.region [⟨none, none, (.prim (.bin .add .int)), [(.v 17), (.c (.cv (.int .i64 1)))]⟩, ⟨(.some 17), none, (.prim .mv), [(.t 0)]⟩]))))
def ic24l1 : IC := (.seq (.region [⟨(.some 13), none, (.prim (.bin .lss .int)), [(.v 12), (.v 11)]⟩])
 (.seq (.cond 13 .skip
 (.exit 0))
 (.seq (.block 1 (.seq (.region [⟨none, none, (.prim .mv), [(.v 12)]⟩, ⟨none, none, (.prim (.iaS 1)), [(.v 10), (.v 12)]⟩, ⟨none, none, (.prim .load1), [(.t 1)]⟩, ⟨(.some 5), none, (.prim .mv), [(.t 0)]⟩, ⟨(.some 6), none, (.prim .mv), [(.t 2)]⟩])
 (.seq (.region [⟨none, none, (.prim .mv), [(.v 6)]⟩, ⟨none, none, (.prim (.bslice 1 1 [(.cv (.int .i64 0))] [(0, 1)])), [(.t 0)]⟩, ⟨(.some 14), none, .call, [(.c (.fn (.func 47) [])), (.c (.cv (.int .i64 0))), (.c (.cv (.int .i64 4))), (.t 1)]⟩])
 (.cond 14 (.seq (.region [⟨none, none, (.prim .mv), [(.v 5)]⟩, ⟨(.some 2), none, (.prim .mv), [(.c (.cv (.int .i64 2)))]⟩, ⟨(.some 3), none, (.prim .mv), [(.t 0)]⟩, ⟨(.some 4), none, (.prim .mv), [(.c (.cv (.int .i64 7)))]⟩])
 .ret)
 .skip))))
 (.region [⟨none, none, (.prim (.bin .add .int)), [(.v 12), (.c (.cv (.int .i64 1)))]⟩, ⟨(.some 12), none, (.prim .mv), [(.t 0)]⟩]))))
def ic24 : IC := (.seq (.region [⟨(.some 1), none, (.prim .box), [(.v 0)]⟩, ⟨(.some 2), none, (.prim .mv), [(.c (.cv (.int .i64 0)))]⟩, ⟨(.some 3), none, (.prim .mv), [(.c (.cv (.int .i64 0)))]⟩, ⟨(.some 4), none, (.prim .mv), [(.c (.cv (.int .i64 0)))]⟩])
 (.seq (.seq (.region [⟨none, none, (.prim (.fadd 0)), [(.v 1)]⟩, ⟨none, none, (.prim .load1), [(.t 0)]⟩, ⟨none, none, (.prim (.len false)), [(.t 1)]⟩, ⟨none, none, (.prim (.bslice 1 1 [(.cv (.int .i64 0))] [(0, 1)])), [(.t 2)]⟩, ⟨none, none, .call, [(.c (.fn (.func 47) [])), (.c (.cv (.int .i64 1))), (.c (.cv (.int .i64 6))), (.t 3)]⟩, ⟨none, none, (.prim .mv), [(.t 4)]⟩, ⟨none, (.some (5, false)), (.prim (.fadd 1)), [(.v 1)]⟩, ⟨none, (.some (5, false)), (.prim .load1), [(.t 6)]⟩, ⟨none, (.some (5, false)), (.prim (.len false)), [(.t 7)]⟩, ⟨none, (.some (5, false)), (.prim (.bin .gtr .int)), [(.t 8), (.c (.cv (.int .i64 8)))]⟩, ⟨(.some 9), none, (.prim .pick), [(.t 5), (.c (.cv (.bool true))), (.t 9)]⟩])
 (.cond 9 (.seq (.region [⟨(.some 2), none, (.prim .mv), [(.c (.cv (.int .i64 1)))]⟩, ⟨(.some 3), none, (.prim .mv), [(.c (.cv (.int .i64 0)))]⟩, ⟨(.some 4), none, (.prim .mv), [(.c (.cv (.int .i64 3)))]⟩])
 .ret)
 .skip))
 (.seq (.seq (.region [⟨none, none, (.prim (.fadd 0)), [(.v 1)]⟩, ⟨(.some 10), none, (.prim .load1), [(.t 0)]⟩, ⟨(.some 11), none, (.prim (.len false)), [(.v 10)]⟩, ⟨(.some 12), none, (.prim .mv), [(.c (.cv (.int .i64 0)))]⟩])
 (.block 0 (.loop ic24l1)))
 (.seq (.seq (.region [⟨none, none, (.prim (.fadd 1)), [(.v 1)]⟩, ⟨(.some 15), none, (.prim .load1), [(.t 0)]⟩, ⟨(.some 16), none, (.prim (.len false)), [(.v 15)]⟩, ⟨(.some 17), none, (.prim .mv), [(.c (.cv (.int .i64 0)))]⟩])
 (.block 2 (.loop ic24l0)))
 (.seq (.region [⟨(.some 2), none, (.prim .mv), [(.c (.cv (.int .i64 0)))]⟩, ⟨(.some 3), none, (.prim .mv), [(.c (.cv (.int .i64 0)))]⟩, ⟨(.some 4), none, (.prim .mv), [(.c (.cv (.int .i64 0)))]⟩])
 .ret)))))
theorem cc24 : compC Try.prog vs24 Try.f24.ntmps (Try.f24.body.getD .skip) = some ic24 := by kernel_rfl
abbrev rs24 : List RC := [(.v 2), (.v 3), (.v 4)]
theorem fok24 (p : Bool) : FnOk Try.prog 24 ⟨ic24, vs24, 51, rs24, p⟩ := FnOk.mk' Try.func24 hb24 (by kernel_rfl) cc24 (by kernel_rfl) (by kernel_rfl)

theorem hb25 : Try.f25.body = some (Try.f25.body.getD .skip) := by kernel_rfl
abbrev vs25 : List Nat := [0, 1, 2, 3, 4, 5, 6, 17, 22, 31, 37, 51]
def ic25l0 : IC := (.seq (.seq (.region [⟨none, none, (.prim .mv), [(.v 6)]⟩, ⟨none, none, (.prim (.fadd 1)), [(.v 1)]⟩, ⟨none, none, (.prim .load1), [(.t 1)]⟩, ⟨none, none, (.prim (.len false)), [(.t 2)]⟩, ⟨(.some 10), none, (.prim (.bin .lss .int)), [(.t 0), (.t 3)]⟩])
 (.cond 10 .skip
 (.exit 2)))
 (.seq (.block 3 (.seq (.draw [[], [0], [], [1, 2], [3], [], [5], [6], [7], [8], [4, 9, 8], [10]] [⟨none, none, (.prim (.fadd 1)), [(.v 1)]⟩, ⟨none, none, (.prim .load1), [(.t 0)]⟩, ⟨none, none, (.prim .mv), [(.v 6)]⟩, ⟨none, none, (.prim (.iaS 1)), [(.t 1), (.t 2)]⟩, ⟨none, none, (.prim .load1), [(.t 3)]⟩, ⟨none, none, (.prim (.fadd 0)), [(.v 1)]⟩, ⟨none, none, (.prim .load1), [(.t 5)]⟩, ⟨none, none, (.prim (.len false)), [(.t 6)]⟩, ⟨none, none, .call, [(.c (.fn (.func 44) [])), (.t 7)]⟩, ⟨none, none, (.prim (.bin .sub .int)), [(.t 8), (.c (.cv (.int .i64 1)))]⟩, ⟨none, none, .call, [(.c (.fn (.func 48) [])), (.t 4), (.c (.cv (.int .i64 0))), (.t 9)]⟩, ⟨(.some 11), none, (.prim .not), [(.t 10)]⟩] [[], [0], [], [1, 2, 0], [3, 1, 2, 0], [], [5], [6, 5], [7, 6, 5], [8, 7, 6, 5], [4, 9, 8, 3, 1, 2, 0, 7, 6, 5], [10, 4, 9, 8, 3, 1, 2, 0, 7, 6, 5]])
 (.cond 11 (.seq (.region [⟨none, none, (.prim .mv), [(.v 6)]⟩, ⟨(.some 2), none, (.prim .mv), [(.c (.cv (.int .i64 3)))]⟩, ⟨(.some 3), none, (.prim .mv), [(.t 0)]⟩, ⟨(.some 4), none, (.prim .mv), [(.c (.cv (.int .i64 7)))]⟩])
 .ret)
 .skip)))
 (.region [⟨none, none, (.prim .mv), [(.v 6)]⟩, ⟨none, none, (.prim (.bin .add .int)), [(.t 0), (.c (.cv (.int .i64 1)))]⟩, ⟨(.some 6), none, (.prim .mv), [(.t 1)]⟩])))
def ic25l1 : IC := (.seq (.seq (.region [⟨none, none, (.prim .mv), [(.v 5)]⟩, ⟨none, none, (.prim (.fadd 0)), [(.v 1)]⟩, ⟨none, none, (.prim .load1), [(.t 1)]⟩, ⟨none, none, (.prim (.len false)), [(.t 2)]⟩, ⟨(.some 8), none, (.prim (.bin .lss .int)), [(.t 0), (.t 3)]⟩])
 (.cond 8 .skip
 (.exit 0)))
 (.seq (.block 1 (.seq (.region [⟨none, none, (.prim (.fadd 0)), [(.v 1)]⟩, ⟨none, none, (.prim .load1), [(.t 0)]⟩, ⟨none, none, (.prim .mv), [(.v 5)]⟩, ⟨none, none, (.prim (.iaS 1)), [(.t 1), (.t 2)]⟩, ⟨none, none, (.prim .load1), [(.t 3)]⟩, ⟨none, none, .call, [(.c (.fn (.func 48) [])), (.t 4), (.c (.cv (.int .i64 0))), (.c (.cv (.int .i64 4)))]⟩, ⟨(.some 9), none, (.prim .not), [(.t 5)]⟩])
 (.cond 9 (.seq (.region [⟨none, none, (.prim .mv), [(.v 5)]⟩, ⟨(.some 2), none, (.prim .mv), [(.c (.cv (.int .i64 2)))]⟩, ⟨(.some 3), none, (.prim .mv), [(.t 0)]⟩, ⟨(.some 4), none, (.prim .mv), [(.c (.cv (.int .i64 7)))]⟩])
 .ret)
 .skip)))
 (.region [⟨none, none, (.prim .mv), [(.v 5)]⟩, ⟨none, none, (.prim (.bin .add .int)), [(.t 0), (.c (.cv (.int .i64 1)))]⟩, ⟨(.some 5), none, (.prim .mv), [(.t 1)]⟩])))
def ic25 : IC := (.seq (.region [⟨(.some 1), none, (.prim .box), [(.v 0)]⟩, ⟨(.some 2), none, (.prim .mv), [(.c (.cv (.int .i64 0)))]⟩, ⟨(.some 3), none, (.prim .mv), [(.c (.cv (.int .i64 0)))]⟩, ⟨(.some 4), none, (.prim .mv), [(.c (.cv (.int .i64 0)))]⟩])
 (.seq (.seq (.region [⟨none, none, (.prim (.fadd 0)), [(.v 1)]⟩, ⟨none, none, (.prim .load1), [(.t 0)]⟩, ⟨none, none, (.prim (.len false)), [(.t 1)]⟩, ⟨none, none, .call, [(.c (.fn (.func 48) [])), (.t 2), (.c (.cv (.int .i64 1))), (.c (.cv (.int .i64 6)))]⟩, ⟨none, none, (.prim .not), [(.t 3)]⟩, ⟨none, none, (.prim .mv), [(.t 4)]⟩, ⟨none, (.some (5, false)), (.prim (.fadd 1)), [(.v 1)]⟩, ⟨none, (.some (5, false)), (.prim .load1), [(.t 6)]⟩, ⟨none, (.some (5, false)), (.prim (.len false)), [(.t 7)]⟩, ⟨none, (.some (5, false)), (.prim (.bin .gtr .int)), [(.t 8), (.c (.cv (.int .i64 8)))]⟩, ⟨(.some 7), none, (.prim .pick), [(.t 5), (.c (.cv (.bool true))), (.t 9)]⟩])
 (.cond 7 (.seq (.region [⟨(.some 2), none, (.prim .mv), [(.c (.cv (.int .i64 1)))]⟩, ⟨(.some 3), none, (.prim .mv), [(.c (.cv (.int .i64 0)))]⟩, ⟨(.some 4), none, (.prim .mv), [(.c (.cv (.int .i64 3)))]⟩])
 .ret)
 .skip))
 (.seq (.seq (.region [⟨(.some 5), none, (.prim .mv), [(.c (.cv (.int .i64 0)))]⟩])
 (.block 0 (.loop ic25l1)))
 (.seq (.seq (.region [⟨(.some 6), none, (.prim .mv), [(.c (.cv (.int .i64 0)))]⟩])
 (.block 2 (.loop ic25l0)))
 (.seq (.region [⟨(.some 2), none, (.prim .mv), [(.c (.cv (.int .i64 0)))]⟩, ⟨(.some 3), none, (.prim .mv), [(.c (.cv (.int .i64 0)))]⟩, ⟨(.some 4), none, (.prim .mv), [(.c (.cv (.int .i64 0)))]⟩])
 .ret)))))
theorem cc25 : compC Try.prog vs25 Try.f25.ntmps (Try.f25.body.getD .skip) = some ic25 := by kernel_rfl
abbrev rs25 : List RC := [(.v 2), (.v 3), (.v 4)]
theorem fok25 (p : Bool) : FnOk Try.prog 25 ⟨ic25, vs25, 53, rs25, p⟩ := FnOk.mk' Try.func25 hb25 (by kernel_rfl) cc25 (by kernel_rfl) (by kernel_rfl)

theorem hb26 : Try.f26.body = some (Try.f26.body.getD .skip) := by kernel_rfl
abbrev vs26 : List Nat := [0, 1, 2, 3, 4, 5, 12]
def ic26 : IC := (.seq (.region [⟨(.some 1), none, (.prim .box), [(.v 0)]⟩, ⟨(.some 2), none, (.prim .mv), [(.c (.cv (.int .i64 0)))]⟩, ⟨(.some 3), none, (.prim .mv), [(.c (.cv (.int .i64 0)))]⟩])
 (.seq (.region [⟨none, none, (.prim (.loadN 2)), [(.v 1)]⟩, ⟨none, none, .call, [(.c (.fn (.func 53) [])), (.t 0)]⟩, ⟨none, none, (.prim .mv), [(.t 1)]⟩, ⟨none, none, (.prim (.extract 0)), [(.t 2)]⟩, ⟨none, none, (.prim (.extract 1)), [(.t 2)]⟩, ⟨(.some 4), none, (.prim .mv), [(.t 3)]⟩, ⟨(.some 5), none, (.prim .mv), [(.t 4)]⟩])
 (.seq (.seq (.region [⟨none, none, (.prim .mv), [(.v 5)]⟩, ⟨(.some 6), none, (.prim (.bin .neq .int)), [(.t 0), (.c (.cv (.int .i64 0)))]⟩])
 (.cond 6 (.seq (.region [⟨none, none, (.prim .mv), [(.v 5)]⟩, ⟨(.some 2), none, (.prim .mv), [(.c (.cv (.int .i64 0)))]⟩, ⟨(.some 3), none, (.prim .mv), [(.t 0)]⟩])
 .ret)
 .skip))
 (.seq (.region [⟨none, none, (.prim .mv), [(.v 4)]⟩, ⟨none, none, (.prim .mv), [(.v 4)]⟩, ⟨none, none, .call, [(.c (.fn (.func 55) [])), (.t 1)]⟩, ⟨none, none, .call, [(.c (.fn (.func 54) [])), (.t 0), (.t 2)]⟩, ⟨(.some 2), none, (.prim .mv), [(.t 3)]⟩, ⟨(.some 3), none, (.prim .mv), [(.c (.cv (.int .i64 0)))]⟩])
 .ret))))
theorem cc26 : compC Try.prog vs26 Try.f26.ntmps (Try.f26.body.getD .skip) = some ic26 := by kernel_rfl
abbrev rs26 : List RC := [(.v 2), (.v 3)]
theorem fok26 (p : Bool) : FnOk Try.prog 26 ⟨ic26, vs26, 18, rs26, p⟩ := FnOk.mk' Try.func26 hb26 (by kernel_rfl) cc26 (by kernel_rfl) (by kernel_rfl)

theorem hb27 : Try.f27.body = some (Try.f27.body.getD .skip) := by kernel_rfl
abbrev vs27 : List Nat := [0, 1, 2, 3, 6, 14]
def ic27 : IC := (.seq (.region [⟨(.some 1), none, (.prim .box), [(.v 0)]⟩, ⟨(.some 2), none, (.prim .mv), [(.c (.cv (.int .i64 0)))]⟩, ⟨(.some 3), none, (.prim .mv), [(.c (.cv (.int .i64 0)))]⟩])
 (.seq (.region [⟨none, none, (.prim (.loadN 2)), [(.v 1)]⟩, ⟨none, none, .call, [(.c (.fn (.func 25) [])), (.t 0)]⟩, ⟨none, none, (.prim .mv), [(.t 1)]⟩, ⟨none, none, (.prim (.extract 0)), [(.t 2)]⟩, ⟨none, none, (.prim (.extract 1)), [(.t 2)]⟩, ⟨none, none, (.prim (.extract 2)), [(.t 2)]⟩, ⟨none, none, (.prim .mv), [(.t 3)]⟩, ⟨none, none, (.prim .mv), [(.t 4)]⟩, ⟨(.some 4), none, (.prim .mv), [(.t 5)]⟩])
 (.seq (.seq (.region [⟨none, none, (.prim .mv), [(.v 4)]⟩, ⟨(.some 5), none, (.prim (.bin .neq .int)), [(.t 0), (.c (.cv (.int .i64 0)))]⟩])
 (.cond 5 (.seq (.region [⟨none, none, (.prim .mv), [(.v 4)]⟩, ⟨(.some 2), none, (.prim .mv), [(.c (.cv (.int .i64 0)))]⟩, ⟨(.some 3), none, (.prim .mv), [(.t 0)]⟩])
 .ret)
 .skip))
 (.seq (.draw [[], [], [1], [], [3], [0, 2, 4, 2], [5, 5, 0, 1, 2, 3, 4, 5], [6, 0, 1, 2, 3, 4, 5, 6]] [⟨none, none, (.prim (.loadN 2)), [(.v 1)]⟩, ⟨none, none, (.prim (.loadN 2)), [(.v 1)]⟩, ⟨none, none, .call, [(.c (.fn (.func 57) [])), (.t 1)]⟩, ⟨none, none, (.prim (.fadd 0)), [(.v 1)]⟩, ⟨none, none, (.prim .load1), [(.t 3)]⟩, ⟨none, none, .call, [(.c (.fn (.func 56) [])), (.t 0), (.t 2), (.c (.cv (.int .i64 0))), (.t 4)]⟩, ⟨(.some 2), none, (.prim .mv), [(.t 5)]⟩, ⟨(.some 3), none, (.prim .mv), [(.c (.cv (.int .i64 0)))]⟩] [[], [], [1], [], [3], [0, 2, 4, 1, 3], [5, 0, 1, 2, 3, 4], [6, 0, 1, 2, 3, 4, 5]])
 .ret))))
theorem cc27 : compC Try.prog vs27 Try.f27.ntmps (Try.f27.body.getD .skip) = some ic27 := by kernel_rfl
abbrev rs27 : List RC := [(.v 2), (.v 3)]
theorem fok27 (p : Bool) : FnOk Try.prog 27 ⟨ic27, vs27, 22, rs27, p⟩ := FnOk.mk' Try.func27 hb27 (by kernel_rfl) cc27 (by kernel_rfl) (by kernel_rfl)

theorem hb28 : Try.f28.body = some (Try.f28.body.getD .skip) := by kernel_rfl
abbrev vs28 : List Nat := [0, 1, 2, 4, 5, 6, 7, 8, 14, 18, 27]
def ic28 : IC := (.seq (.region [⟨(.some 2), none, (.prim .box), [(.v 0)]⟩, ⟨(.some 3), none, (.prim .mv), [(.c (.cv .nils))]⟩, ⟨(.some 4), none, (.prim .mv), [(.c (.cv (.int .i64 0)))]⟩])
 (.seq (.region [⟨none, none, (.prim (.loadN 2)), [(.v 2)]⟩, ⟨none, none, .call, [(.c (.fn (.func 53) [])), (.t 0)]⟩, ⟨none, none, (.prim .mv), [(.t 1)]⟩, ⟨none, none, (.prim (.extract 0)), [(.t 2)]⟩, ⟨none, none, (.prim (.extract 1)), [(.t 2)]⟩, ⟨(.some 5), none, (.prim .mv), [(.t 3)]⟩, ⟨(.some 6), none, (.prim .mv), [(.t 4)]⟩])
 (.seq (.block 0 (.seq (.region [⟨none, none, (.prim .mv), [(.v 6)]⟩, ⟨none, none, (.prim (.bin .neq .int)), [(.t 0), (.c (.cv (.int .i64 0)))]⟩, ⟨(.some 8), none, (.prim .mv), [(.t 1)]⟩])
 (.cond 8 (.seq (.region [⟨none, none, (.prim .mv), [(.v 6)]⟩, ⟨(.some 3), none, (.prim .mv), [(.c (.cv .nils))]⟩, ⟨(.some 4), none, (.prim .mv), [(.t 0)]⟩])
 .ret)
 (.seq (.region [⟨none, none, (.prim .mv), [(.v 1)]⟩, ⟨none, none, (.prim (.bslice 1 1 [(.cv (.int .i64 0))] [(0, 1)])), [(.t 0)]⟩, ⟨none, none, .call, [(.c (.fn (.func 47) [])), (.c (.cv (.int .i64 0))), (.c (.cv (.int .i64 2147483646))), (.t 1)]⟩, ⟨(.some 9), none, (.prim .mv), [(.t 2)]⟩])
 (.cond 9 (.seq (.region [⟨(.some 3), none, (.prim .mv), [(.c (.cv .nils))]⟩, ⟨(.some 4), none, (.prim .mv), [(.c (.cv (.int .i64 7)))]⟩])
 .ret)
 .skip)))))
 (.seq (.region [⟨none, none, (.prim .mv), [(.v 5)]⟩, ⟨none, none, (.prim .mv), [(.v 5)]⟩, ⟨none, none, .call, [(.c (.fn (.func 55) [])), (.t 1)]⟩, ⟨none, none, .call, [(.c (.fn (.func 54) [])), (.t 0), (.t 2)]⟩, ⟨(.some 7), none, (.prim .mv), [(.t 3)]⟩])
 (.seq (.seq (.region [⟨none, none, (.prim .mv), [(.v 7)]⟩, ⟨(.some 10), none, (.prim (.bin .eql .int)), [(.t 0), (.c (.cv (.int .i64 0)))]⟩])
 (.cond 10 (.seq (.region [⟨(.some 3), none, (.prim .mv), [(.c (.cv .nils))]⟩, ⟨(.some 4), none, (.prim .mv), [(.c (.cv (.int .i64 9)))]⟩])
 .ret)
 .skip))
 (.seq (.region [⟨none, none, (.prim .mv), [(.v 5)]⟩, ⟨none, none, (.prim .mv), [(.v 1)]⟩, ⟨none, none, (.prim .mv), [(.v 7)]⟩, ⟨none, none, (.prim (.bin .rem .int)), [(.t 1), (.t 2)]⟩, ⟨none, none, .call, [(.c (.fn (.func 58) [])), (.t 0), (.t 3)]⟩, ⟨(.some 3), none, (.prim .mv), [(.t 4)]⟩, ⟨(.some 4), none, (.prim .mv), [(.c (.cv (.int .i64 0)))]⟩])
 .ret))))))
theorem cc28 : compC Try.prog vs28 Try.f28.ntmps (Try.f28.body.getD .skip) = some ic28 := by kernel_rfl
abbrev rs28 : List RC := [(.v 3), (.v 4)]
theorem fok28 (p : Bool) : FnOk Try.prog 28 ⟨ic28, vs28, 33, rs28, p⟩ := FnOk.mk' Try.func28 hb28 (by kernel_rfl) cc28 (by kernel_rfl) (by kernel_rfl)

theorem hb29 : Try.f29.body = some (Try.f29.body.getD .skip) := by kernel_rfl
abbrev vs29 : List Nat := [0, 1, 2, 4, 5, 6, 7, 19, 25, 27]
def ic29 : IC := (.seq (.region [⟨(.some 2), none, (.prim .box), [(.v 0)]⟩, ⟨(.some 3), none, (.prim .mv), [(.c (.cv .nils))]⟩, ⟨(.some 4), none, (.prim .mv), [(.c (.cv (.int .i64 0)))]⟩])
 (.seq (.region [⟨none, none, (.prim (.loadN 2)), [(.v 2)]⟩, ⟨none, none, .call, [(.c (.fn (.func 27) [])), (.t 0)]⟩, ⟨none, none, (.prim .mv), [(.t 1)]⟩, ⟨none, none, (.prim (.extract 0)), [(.t 2)]⟩, ⟨none, none, (.prim (.extract 1)), [(.t 2)]⟩, ⟨(.some 5), none, (.prim .mv), [(.t 3)]⟩, ⟨(.some 6), none, (.prim .mv), [(.t 4)]⟩])
 (.seq (.seq (.region [⟨none, none, (.prim .mv), [(.v 6)]⟩, ⟨none, none, (.prim (.bin .eql .int)), [(.t 0), (.c (.cv (.int .i64 0)))]⟩, ⟨none, none, (.prim .mv), [(.t 1)]⟩, ⟨none, (.some (2, true)), (.prim .mv), [(.v 1)]⟩, ⟨none, (.some (2, true)), .call, [(.c (.fn (.func 48) [])), (.t 3), (.c (.cv (.int .i64 0))), (.c (.cv (.int .i64 2147483646)))]⟩, ⟨none, (.some (2, true)), (.prim .not), [(.t 4)]⟩, ⟨(.some 7), none, (.prim .pick), [(.t 2), (.t 5), (.c (.cv (.bool false)))]⟩])
 (.cond 7 (.region [⟨(.some 6), none, (.prim .mv), [(.c (.cv (.int .i64 7)))]⟩])
 .skip))
 (.seq (.seq (.region [⟨none, none, (.prim .mv), [(.v 6)]⟩, ⟨none, none, (.prim (.bin .eql .int)), [(.t 0), (.c (.cv (.int .i64 0)))]⟩, ⟨none, none, (.prim .mv), [(.t 1)]⟩, ⟨none, (.some (2, true)), (.prim .mv), [(.v 5)]⟩, ⟨none, (.some (2, true)), (.prim (.bin .eql .int)), [(.t 3), (.c (.cv (.int .i64 0)))]⟩, ⟨(.some 8), none, (.prim .pick), [(.t 2), (.t 4), (.c (.cv (.bool false)))]⟩])
 (.cond 8 (.region [⟨(.some 6), none, (.prim .mv), [(.c (.cv (.int .i64 9)))]⟩])
 .skip))
 (.seq (.seq (.region [⟨none, none, (.prim .mv), [(.v 6)]⟩, ⟨(.some 9), none, (.prim (.bin .neq .int)), [(.t 0), (.c (.cv (.int .i64 0)))]⟩])
 (.cond 9 (.seq (.region [⟨none, none, (.prim .mv), [(.v 6)]⟩, ⟨(.some 3), none, (.prim .mv), [(.c (.cv .nils))]⟩, ⟨(.some 4), none, (.prim .mv), [(.t 0)]⟩])
 .ret)
 .skip))
 (.seq (.draw [[], [], [], [1, 2], [0, 3], [4, 4, 0, 1, 2, 3, 4], [5, 0, 1, 2, 3, 4, 5]] [⟨none, none, (.prim (.loadN 2)), [(.v 2)]⟩, ⟨none, none, (.prim .mv), [(.v 1)]⟩, ⟨none, none, (.prim .mv), [(.v 5)]⟩, ⟨none, none, (.prim (.bin .rem .int)), [(.t 1), (.t 2)]⟩, ⟨none, none, .call, [(.c (.fn (.func 59) [])), (.t 0), (.t 3)]⟩, ⟨(.some 3), none, (.prim .mv), [(.t 4)]⟩, ⟨(.some 4), none, (.prim .mv), [(.c (.cv (.int .i64 0)))]⟩] [[], [], [], [1, 2], [0, 3, 1, 2], [4, 0, 1, 2, 3], [5, 0, 1, 2, 3, 4]])
 .ret))))))
theorem cc29 : compC Try.prog vs29 Try.f29.ntmps (Try.f29.body.getD .skip) = some ic29 := by kernel_rfl
abbrev rs29 : List RC := [(.v 3), (.v 4)]
theorem fok29 (p : Bool) : FnOk Try.prog 29 ⟨ic29, vs29, 34, rs29, p⟩ := FnOk.mk' Try.func29 hb29 (by kernel_rfl) cc29 (by kernel_rfl) (by kernel_rfl)

theorem hb30 : Try.f30.body = some (Try.f30.body.getD .skip) := by kernel_rfl
abbrev vs30 : List Nat := [0, 1, 2, 4, 5, 6, 7, 9, 10, 11, 12, 18, 22, 32, 44, 45, 46, 47, 52, 53, 54, 57, 65]
def ic30l0 (b30 : Code) : IC := (.seq (.region [⟨(.some 17), none, (.prim (.bin .lss .int)), [(.v 16), (.v 15)]⟩])
 (.seq (.cond 17 .skip
 (.exit 1))
 (.seq (.block 2 (.seq (.region [⟨none, none, (.prim (.iaS 1)), [(.v 14), (.v 16)]⟩, ⟨none, none, (.prim .load1), [(.t 0)]⟩, ⟨(.some 7), none, (.prim (.alloc [(.cv (.int .i64 0))])), []⟩, ⟨none, none, (.prim (.store 1)), [(.v 7), (.t 1)]⟩])
 (.seq (.region [⟨(.some 8), none, (.prim (.alloc [(.cv (.bool false))])), []⟩, ⟨none, none, (.prim (.store 1)), [(.v 8), (.c (.cv (.bool false)))]⟩])
 (.seq (.seq (.region [⟨none, none, (.prim .load1), [(.v 5)]⟩, ⟨none, none, (.prim (.loadN 7)), [(.v 6)]⟩, ⟨(.some 18), none, .call, [(.c (.fn (.func 60) [])), (.t 0), (.t 1)]⟩])
 (.block 3 (.rangef (.v 18) #[53, 54] (nav [1, 1, 1, 1, 0, 1, 0, 0, 1, 1, 0, 0, 1, 1, 0, 1, 0, 2] b30) (nav [1, 1, 1, 1, 0, 1, 0, 0, 1, 1, 0, 0, 1, 1, 0, 1, 0, 3] b30) (.seq (.region [⟨(.some 9), none, (.prim .mv), [(.v 19)]⟩])
 (.region [⟨(.some 10), none, (.prim (.alloc [(.cv (.int .i64 0)), (.cv (.int .i64 0)), (.cv (.int .i64 0)), (.cv (.int .i64 0)), (.cv (.int .i64 0)), (.cv (.int .i64 0)), (.cv (.int .i64 0))])), []⟩, ⟨none, none, (.prim (.store 7)), [(.v 10), (.v 20)]⟩]))
 (.block 4 (.seq (.seq (.region [⟨none, none, (.prim .mv), [(.v 9)]⟩, ⟨none, none, (.prim .load1), [(.v 7)]⟩, ⟨(.some 21), none, (.prim (.bin .eql .int)), [(.t 0), (.t 1)]⟩])
 (.cond 21 (.seq (.region [⟨none, none, (.prim (.loadN 7)), [(.v 10)]⟩, ⟨none, none, (.prim (.store 7)), [(.v 6), (.t 0)]⟩, ⟨none, none, (.prim (.store 1)), [(.v 8), (.c (.cv (.bool true)))]⟩])
 (.exit 3))
 .skip))
 (.draw [[], [], [], [1, 2], [0, 3], [4, 3, 0, 1, 2, 3, 4]] [⟨none, none, (.prim .load1), [(.v 3)]⟩, ⟨none, none, (.prim .load1), [(.v 5)]⟩, ⟨none, none, (.prim (.loadN 7)), [(.v 10)]⟩, ⟨none, none, .call, [(.c (.fn (.func 54) [])), (.t 1), (.t 2)]⟩, ⟨none, none, (.prim (.bin .add .int)), [(.t 0), (.t 3)]⟩, ⟨none, none, (.prim (.store 1)), [(.v 3), (.t 4)]⟩] [[], [], [], [1, 2], [0, 3, 1, 2], [4, 3, 0, 1, 2]]))))))
 (.seq (.region [⟨none, none, (.prim .load1), [(.v 8)]⟩, ⟨(.some 22), none, (.prim .not), [(.t 0)]⟩])
 (.cond 22 (.seq (.region [⟨none, none, (.prim (.store 1)), [(.v 3), (.c (.cv (.int .i64 0)))]⟩, ⟨(.some 4), none, (.prim .mv), [(.c (.cv (.int .i64 2)))]⟩])
 .ret)
 .skip))))))
 (.region [⟨none, none, (.prim (.bin .add .int)), [(.v 16), (.c (.cv (.int .i64 1)))]⟩, ⟨(.some 16), none, (.prim .mv), [(.t 0)]⟩]))))
def ic30 (b30 : Code) : IC := (.seq (.region [⟨(.some 2), none, (.prim .box), [(.v 0)]⟩, ⟨(.some 3), none, (.prim (.alloc [(.cv (.int .i64 0))])), []⟩, ⟨(.some 4), none, (.prim .mv), [(.c (.cv (.int .i64 0)))]⟩])
 (.seq (.region [⟨none, none, (.prim (.loadN 2)), [(.v 2)]⟩, ⟨none, none, .call, [(.c (.fn (.func 53) [])), (.t 0)]⟩, ⟨none, none, (.prim .mv), [(.t 1)]⟩, ⟨none, none, (.prim (.extract 0)), [(.t 2)]⟩, ⟨none, none, (.prim (.extract 1)), [(.t 2)]⟩, ⟨(.some 5), none, (.prim (.alloc [(.cv .nilp)])), []⟩, ⟨none, none, (.prim (.store 1)), [(.v 5), (.t 3)]⟩, ⟨(.some 4), none, (.prim .mv), [(.t 4)]⟩])
 (.seq (.block 0 (.seq (.region [⟨none, none, (.prim .mv), [(.v 4)]⟩, ⟨none, none, (.prim (.bin .neq .int)), [(.t 0), (.c (.cv (.int .i64 0)))]⟩, ⟨(.some 11), none, (.prim .mv), [(.t 1)]⟩])
 (.cond 11 (.seq (.region [⟨none, none, (.prim .mv), [(.v 4)]⟩, ⟨none, none, (.prim (.store 1)), [(.v 3), (.c (.cv (.int .i64 0)))]⟩, ⟨(.some 4), none, (.prim .mv), [(.t 0)]⟩])
 .ret)
 (.seq (.region [⟨none, none, (.prim .mv), [(.v 1)]⟩, ⟨none, none, (.prim (.len false)), [(.t 0)]⟩, ⟨none, none, (.prim .load1), [(.v 5)]⟩, ⟨none, none, (.prim .nilck), [(.t 2)]⟩, ⟨none, none, (.prim (.fadd 0)), [(.t 3)]⟩, ⟨none, none, (.prim (.fadd 1)), [(.t 4)]⟩, ⟨none, none, (.prim .load1), [(.t 5)]⟩, ⟨none, none, (.prim (.len false)), [(.t 6)]⟩, ⟨none, none, (.prim (.bin .neq .int)), [(.t 1), (.t 7)]⟩, ⟨(.some 12), none, (.prim .mv), [(.t 8)]⟩])
 (.cond 12 (.seq (.region [⟨none, none, (.prim (.store 1)), [(.v 3), (.c (.cv (.int .i64 0)))]⟩, ⟨(.some 4), none, (.prim .mv), [(.c (.cv (.int .i64 3)))]⟩])
 .ret)
 (.seq (.region [⟨none, none, (.prim .load1), [(.v 5)]⟩, ⟨none, none, (.prim .nilck), [(.t 0)]⟩, ⟨none, none, (.prim (.fadd 0)), [(.t 1)]⟩, ⟨none, none, (.prim (.fadd 0)), [(.t 2)]⟩, ⟨none, none, (.prim .load1), [(.t 3)]⟩, ⟨none, none, (.prim (.len false)), [(.t 4)]⟩, ⟨none, none, (.prim (.bin .sub .int)), [(.t 5), (.c (.cv (.int .i64 1)))]⟩, ⟨none, none, (.prim .mv), [(.v 1)]⟩, ⟨none, none, .call, [(.c (.fn (.func 47) [])), (.c (.cv (.int .i64 0))), (.t 6), (.t 7)]⟩, ⟨(.some 13), none, (.prim .mv), [(.t 8)]⟩])
 (.cond 13 (.seq (.region [⟨none, none, (.prim (.store 1)), [(.v 3), (.c (.cv (.int .i64 0)))]⟩, ⟨(.some 4), none, (.prim .mv), [(.c (.cv (.int .i64 4)))]⟩])
 .ret)
 .skip)))))))
 (.seq (.region [⟨none, none, (.prim .load1), [(.v 5)]⟩, ⟨none, none, .call, [(.c (.fn (.func 55) [])), (.t 0)]⟩, ⟨(.some 6), none, (.prim (.alloc [(.cv (.int .i64 0)), (.cv (.int .i64 0)), (.cv (.int .i64 0)), (.cv (.int .i64 0)), (.cv (.int .i64 0)), (.cv (.int .i64 0)), (.cv (.int .i64 0))])), []⟩, ⟨none, none, (.prim (.store 7)), [(.v 6), (.t 1)]⟩])
 (.seq (.seq (.region [⟨(.some 14), none, (.prim .mv), [(.v 1)]⟩, ⟨(.some 15), none, (.prim (.len false)), [(.v 14)]⟩, ⟨(.some 16), none, (.prim .mv), [(.c (.cv (.int .i64 0)))]⟩])
 (.block 1 (.loop  (ic30l0 b30))))
 (.seq (.region [⟨none, none, (.prim .load1), [(.v 3)]⟩, ⟨none, none, (.prim (.store 1)), [(.v 3), (.t 0)]⟩, ⟨(.some 4), none, (.prim .mv), [(.c (.cv (.int .i64 0)))]⟩])
 .ret))))))
theorem cc30 : compC Try.prog vs30 Try.f30.ntmps (Try.f30.body.getD .skip) = some (ic30 (Try.f30.body.getD .skip)) := by kernel_rfl
abbrev rs30 : List RC := [(.l1 3), (.v 4)]
theorem fok30 (p : Bool) : FnOk Try.prog 30 ⟨ic30 (Try.f30.body.getD .skip), vs30, 68, rs30, p⟩ := FnOk.mk' Try.func30 hb30 (by kernel_rfl) cc30 (by kernel_rfl) (by kernel_rfl)

theorem hb31 : Try.f31.body = some (Try.f31.body.getD .skip) := by kernel_rfl
abbrev vs31 : List Nat := [0, 1, 2, 4, 5, 8, 9, 10, 11, 12, 13, 21, 26, 35, 43, 60]
def ic31l0 : IC := (.seq (.seq (.region [⟨none, none, (.prim .mv), [(.v 10)]⟩, ⟨none, none, (.prim .mv), [(.v 1)]⟩, ⟨none, none, (.prim .mv), [(.v 9)]⟩, ⟨none, none, (.prim (.iaS 1)), [(.t 1), (.t 2)]⟩, ⟨none, none, (.prim .load1), [(.t 3)]⟩, ⟨(.some 14), none, (.prim (.bin .lss .int)), [(.t 0), (.t 4)]⟩])
 (.cond 14 .skip
 (.exit 2)))
 (.seq (.block 3 (.seq (.region [⟨none, none, (.prim .mv), [(.v 7)]⟩, ⟨none, none, (.prim .mv), [(.v 10)]⟩, ⟨none, none, (.prim (.iaS 1)), [(.t 0), (.t 1)]⟩, ⟨none, none, (.prim .load1), [(.t 2)]⟩, ⟨none, none, (.prim (.bin .gtr .int)), [(.t 3), (.c (.cv (.int .i64 0)))]⟩, ⟨none, none, (.prim .mv), [(.t 4)]⟩, ⟨none, (.some (5, true)), (.prim (.fadd 1)), [(.v 2)]⟩, ⟨none, (.some (5, true)), (.prim .load1), [(.t 6)]⟩, ⟨none, (.some (5, true)), (.prim .mv), [(.v 9)]⟩, ⟨none, (.some (5, true)), (.prim (.iaS 1)), [(.t 7), (.t 8)]⟩, ⟨none, (.some (5, true)), (.prim .load1), [(.t 9)]⟩, ⟨none, (.some (5, true)), (.prim .mv), [(.v 10)]⟩, ⟨none, (.some (5, true)), .call, [(.c (.fn (.func 45) [])), (.t 10), (.t 11)]⟩, ⟨none, (.some (5, true)), (.prim .not), [(.t 12)]⟩, ⟨(.some 15), none, (.prim .pick), [(.t 5), (.t 13), (.c (.cv (.bool false)))]⟩])
 (.cond 15 (.draw [[], [], [], [], [3], [], [], [5, 6], [1, 2, 4, 7, 7], [0, 8], [9, 8, 0, 1, 2, 3, 4, 5, 6, 7, 8, 9]] [⟨none, none, (.prim .mv), [(.v 8)]⟩, ⟨none, none, (.prim (.loadN 2)), [(.v 2)]⟩, ⟨none, none, (.prim .mv), [(.v 6)]⟩, ⟨none, none, (.prim .mv), [(.v 9)]⟩, ⟨none, none, (.prim (.bin .add .int)), [(.t 3), (.c (.cv (.int .i64 1)))]⟩, ⟨none, none, (.prim .mv), [(.v 7)]⟩, ⟨none, none, (.prim .mv), [(.v 10)]⟩, ⟨none, none, .call, [(.c (.fn (.func 61) [])), (.t 5), (.t 6)]⟩, ⟨none, none, .call, [(.c (.fn (.func 56) [])), (.t 1), (.t 2), (.t 4), (.t 7)]⟩, ⟨none, none, (.prim (.bin .add .int)), [(.t 0), (.t 8)]⟩, ⟨(.some 8), none, (.prim .mv), [(.t 9)]⟩] [[], [], [], [], [3], [], [], [5, 6], [1, 2, 4, 7, 3, 5, 6], [0, 8, 1, 2, 4, 7, 3, 5, 6], [9, 8, 0, 1, 2, 3, 4, 5, 6, 7]])
 .skip)))
 (.region [⟨none, none, (.prim .mv), [(.v 10)]⟩, ⟨none, none, (.prim (.bin .add .int)), [(.t 0), (.c (.cv (.int .i64 1)))]⟩, ⟨(.some 10), none, (.prim .mv), [(.t 1)]⟩])))
def ic31l1 : IC := (.seq (.seq (.region [⟨none, none, (.prim .mv), [(.v 9)]⟩, ⟨none, none, (.prim .mv), [(.v 1)]⟩, ⟨none, none, (.prim (.len false)), [(.t 1)]⟩, ⟨(.some 13), none, (.prim (.bin .lss .int)), [(.t 0), (.t 2)]⟩])
 (.cond 13 .skip
 (.exit 0)))
 (.seq (.block 1 (.seq (.seq (.region [⟨(.some 10), none, (.prim .mv), [(.c (.cv (.int .i64 0)))]⟩])
 (.block 2 (.loop ic31l0)))
 (.region [⟨none, none, (.prim .mv), [(.v 7)]⟩, ⟨none, none, (.prim .mv), [(.v 1)]⟩, ⟨none, none, (.prim .mv), [(.v 9)]⟩, ⟨none, none, (.prim (.iaS 1)), [(.t 1), (.t 2)]⟩, ⟨none, none, (.prim .load1), [(.t 3)]⟩, ⟨none, none, .call, [(.c (.fn (.func 61) [])), (.t 0), (.t 4)]⟩, ⟨(.some 7), none, (.prim .mv), [(.t 5)]⟩])))
 (.region [⟨none, none, (.prim .mv), [(.v 9)]⟩, ⟨none, none, (.prim (.bin .add .int)), [(.t 0), (.c (.cv (.int .i64 1)))]⟩, ⟨(.some 9), none, (.prim .mv), [(.t 1)]⟩])))
def ic31 : IC := (.seq (.region [⟨(.some 2), none, (.prim .box), [(.v 0)]⟩, ⟨(.some 3), none, (.prim .mv), [(.c (.cv (.int .i64 0)))]⟩, ⟨(.some 4), none, (.prim .mv), [(.c (.cv (.int .i64 0)))]⟩])
 (.seq (.region [⟨none, none, (.prim (.loadN 2)), [(.v 2)]⟩, ⟨none, none, .call, [(.c (.fn (.func 25) [])), (.t 0)]⟩, ⟨none, none, (.prim .mv), [(.t 1)]⟩, ⟨none, none, (.prim (.extract 0)), [(.t 2)]⟩, ⟨none, none, (.prim (.extract 1)), [(.t 2)]⟩, ⟨none, none, (.prim (.extract 2)), [(.t 2)]⟩, ⟨none, none, (.prim .mv), [(.t 3)]⟩, ⟨none, none, (.prim .mv), [(.t 4)]⟩, ⟨(.some 5), none, (.prim .mv), [(.t 5)]⟩])
 (.seq (.seq (.region [⟨none, none, (.prim .mv), [(.v 5)]⟩, ⟨(.some 11), none, (.prim (.bin .eql .int)), [(.t 0), (.c (.cv (.int .i64 0)))]⟩])
 (.cond 11 (.region [⟨none, none, (.prim (.loadN 2)), [(.v 2)]⟩, ⟨none, none, (.prim .mv), [(.v 1)]⟩, ⟨none, none, .call, [(.c (.fn (.func 40) [])), (.t 0), (.t 1)]⟩, ⟨(.some 5), none, (.prim .mv), [(.t 2)]⟩])
 .skip))
 (.seq (.seq (.region [⟨none, none, (.prim .mv), [(.v 5)]⟩, ⟨(.some 12), none, (.prim (.bin .neq .int)), [(.t 0), (.c (.cv (.int .i64 0)))]⟩])
 (.cond 12 (.seq (.region [⟨none, none, (.prim .mv), [(.v 5)]⟩, ⟨(.some 3), none, (.prim .mv), [(.c (.cv (.int .i64 0)))]⟩, ⟨(.some 4), none, (.prim .mv), [(.t 0)]⟩])
 .ret)
 .skip))
 (.seq (.region [⟨none, none, (.prim (.loadN 2)), [(.v 2)]⟩, ⟨none, none, .call, [(.c (.fn (.func 57) [])), (.t 0)]⟩, ⟨(.some 6), none, (.prim .mv), [(.t 1)]⟩])
 (.seq (.region [⟨none, none, (.prim (.fadd 0)), [(.v 2)]⟩, ⟨none, none, (.prim .load1), [(.t 0)]⟩, ⟨(.some 7), none, (.prim .mv), [(.t 1)]⟩, ⟨(.some 8), none, (.prim .mv), [(.c (.cv (.int .i64 0)))]⟩])
 (.seq (.seq (.region [⟨(.some 9), none, (.prim .mv), [(.c (.cv (.int .i64 0)))]⟩])
 (.block 0 (.loop ic31l1)))
 (.seq (.region [⟨none, none, (.prim .mv), [(.v 8)]⟩, ⟨(.some 3), none, (.prim .mv), [(.t 0)]⟩, ⟨(.some 4), none, (.prim .mv), [(.c (.cv (.int .i64 0)))]⟩])
 .ret))))))))
theorem cc31 : compC Try.prog vs31 Try.f31.ntmps (Try.f31.body.getD .skip) = some ic31 := by kernel_rfl
abbrev rs31 : List RC := [(.v 3), (.v 4)]
theorem fok31 (p : Bool) : FnOk Try.prog 31 ⟨ic31, vs31, 78, rs31, p⟩ := FnOk.mk' Try.func31 hb31 (by kernel_rfl) cc31 (by kernel_rfl) (by kernel_rfl)

theorem hb32 : Try.f32.body = some (Try.f32.body.getD .skip) := by kernel_rfl
abbrev vs32 : List Nat := [0, 1, 2, 3, 4, 5, 6, 7, 8, 9, 16, 22, 29, 30, 31, 38, 39, 40, 46]
def ic32l0 : IC := (.seq (.region [⟨(.some 17), none, (.prim (.bin .lss .int)), [(.v 16), (.v 15)]⟩])
 (.seq (.cond 17 .skip
 (.exit 2))
 (.seq (.block 3 (.seq (.region [⟨none, none, (.prim .mv), [(.v 16)]⟩, ⟨(.some 9), none, (.prim .mv), [(.t 0)]⟩])
 (.seq (.region [⟨none, none, (.prim .mv), [(.v 7)]⟩, ⟨none, none, (.prim .mv), [(.v 9)]⟩, ⟨none, none, (.prim (.bin .shr .int)), [(.t 0), (.t 1)]⟩, ⟨none, none, (.prim (.bin .and .int)), [(.t 2), (.c (.cv (.int .i64 1)))]⟩, ⟨(.some 18), none, (.prim (.bin .eql .int)), [(.t 3), (.c (.cv (.int .i64 1)))]⟩])
 (.cond 18 (.region [⟨none, none, (.prim .mv), [(.v 8)]⟩, ⟨none, none, (.prim .mv), [(.v 9)]⟩, ⟨none, none, (.prim (.bslice 1 1 [(.cv (.int .i64 0))] [(0, 1)])), [(.t 1)]⟩, ⟨none, none, (.prim (.append 1 8)), [(.t 0), (.t 2)]⟩, ⟨(.some 8), none, (.prim .mv), [(.t 3)]⟩])
 .skip))))
 (.region [⟨none, none, (.prim (.bin .add .int)), [(.v 16), (.c (.cv (.int .i64 1)))]⟩, ⟨(.some 16), none, (.prim .mv), [(.t 0)]⟩]))))
def ic32l1 : IC := (.seq (.region [⟨(.some 14), none, (.prim (.bin .lss .int)), [(.v 13), (.v 12)]⟩])
 (.seq (.cond 14 .skip
 (.exit 0))
 (.seq (.block 1 (.seq (.region [⟨none, none, (.prim .mv), [(.v 13)]⟩, ⟨(.some 7), none, (.prim .mv), [(.t 0)]⟩])
 (.seq (.region [⟨(.some 8), none, (.prim .mv), [(.c (.cv .nils))]⟩])
 (.seq (.seq (.region [⟨none, none, (.prim .mv), [(.v 4)]⟩, ⟨none, none, (.prim .nilck), [(.t 0)]⟩, ⟨none, none, (.prim (.fadd 0)), [(.t 1)]⟩, ⟨none, none, (.prim (.fadd 1)), [(.t 2)]⟩, ⟨none, none, (.prim .load1), [(.t 3)]⟩, ⟨(.some 15), none, (.prim (.len false)), [(.t 4)]⟩, ⟨(.some 16), none, (.prim .mv), [(.c (.cv (.int .i64 0)))]⟩])
 (.block 2 (.loop ic32l0)))
 (.region [⟨none, none, (.prim .mv), [(.v 6)]⟩, ⟨none, none, (.prim .mv), [(.v 8)]⟩, ⟨none, none, (.prim (.bslice 1 1 [(.cv .nils)] [(0, 1)])), [(.t 1)]⟩, ⟨none, none, (.prim (.append 1 24)), [(.t 0), (.t 2)]⟩, ⟨(.some 6), none, (.prim .mv), [(.t 3)]⟩])))))
 (.region [⟨none, none, (.prim (.bin .add .int)), [(.v 13), (.c (.cv (.int .i64 1)))]⟩, ⟨(.some 13), none, (.prim .mv), [(.t 0)]⟩]))))
def ic32 : IC := (.seq (.region [⟨(.some 1), none, (.prim .box), [(.v 0)]⟩, ⟨(.some 2), none, (.prim .mv), [(.c (.cv .nils))]⟩, ⟨(.some 3), none, (.prim .mv), [(.c (.cv (.int .i64 0)))]⟩])
 (.seq (.region [⟨none, none, (.prim (.loadN 2)), [(.v 1)]⟩, ⟨none, none, .call, [(.c (.fn (.func 53) [])), (.t 0)]⟩, ⟨none, none, (.prim .mv), [(.t 1)]⟩, ⟨none, none, (.prim (.extract 0)), [(.t 2)]⟩, ⟨none, none, (.prim (.extract 1)), [(.t 2)]⟩, ⟨(.some 4), none, (.prim .mv), [(.t 3)]⟩, ⟨(.some 5), none, (.prim .mv), [(.t 4)]⟩])
 (.seq (.seq (.region [⟨none, none, (.prim .mv), [(.v 5)]⟩, ⟨(.some 10), none, (.prim (.bin .neq .int)), [(.t 0), (.c (.cv (.int .i64 0)))]⟩])
 (.cond 10 (.seq (.region [⟨none, none, (.prim .mv), [(.v 5)]⟩, ⟨(.some 2), none, (.prim .mv), [(.c (.cv .nils))]⟩, ⟨(.some 3), none, (.prim .mv), [(.t 0)]⟩])
 .ret)
 .skip))
 (.seq (.seq (.region [⟨none, none, (.prim .mv), [(.v 4)]⟩, ⟨none, none, (.prim .mv), [(.v 4)]⟩, ⟨none, none, .call, [(.c (.fn (.func 55) [])), (.t 1)]⟩, ⟨none, none, .call, [(.c (.fn (.func 54) [])), (.t 0), (.t 2)]⟩, ⟨(.some 11), none, (.prim (.bin .gtr .int)), [(.t 3), (.c (.cv (.int .i64 0)))]⟩])
 (.cond 11 (.seq (.region [⟨(.some 2), none, (.prim .mv), [(.c (.cv .nils))]⟩, ⟨(.some 3), none, (.prim .mv), [(.c (.cv (.int .i64 0)))]⟩])
 .ret)
 .skip))
 (.seq (.region [⟨(.some 6), none, (.prim .mv), [(.c (.cv .nils))]⟩])
 (.seq (.seq (.region [⟨none, none, (.prim .mv), [(.v 4)]⟩, ⟨none, none, (.prim .nilck), [(.t 0)]⟩, ⟨none, none, (.prim (.fadd 0)), [(.t 1)]⟩, ⟨none, none, (.prim (.fadd 1)), [(.t 2)]⟩, ⟨none, none, (.prim .load1), [(.t 3)]⟩, ⟨none, none, (.prim (.len false)), [(.t 4)]⟩, ⟨(.some 12), none, (.prim (.bin .shl .int)), [(.c (.cv (.int .i64 1))), (.t 5)]⟩, ⟨(.some 13), none, (.prim .mv), [(.c (.cv (.int .i64 0)))]⟩])
 (.block 0 (.loop ic32l1)))
 (.seq (.region [⟨none, none, (.prim .mv), [(.v 6)]⟩, ⟨none, none, .call, [(.c (.fn (.func 62) [])), (.t 0), (.c (.fn (.func 63) []))]⟩])
 (.seq (.region [⟨none, none, (.prim .mv), [(.v 6)]⟩, ⟨none, none, (.prim .mv), [(.v 4)]⟩, ⟨none, none, (.prim (.mkbm 68)), [(.t 1)]⟩, ⟨none, none, .call, [(.c (.fn (.func 67) [])), (.t 0), (.t 2)]⟩, ⟨(.some 2), none, (.prim .mv), [(.t 3)]⟩, ⟨(.some 3), none, (.prim .mv), [(.c (.cv (.int .i64 0)))]⟩])
 .ret))))))))
theorem cc32 : compC Try.prog vs32 Try.f32.ntmps (Try.f32.body.getD .skip) = some ic32 := by kernel_rfl
abbrev rs32 : List RC := [(.v 2), (.v 3)]
theorem fok32 (p : Bool) : FnOk Try.prog 32 ⟨ic32, vs32, 63, rs32, p⟩ := FnOk.mk' Try.func32 hb32 (by kernel_rfl) cc32 (by kernel_rfl) (by kernel_rfl)

theorem hb33 : Try.f33.body = some (Try.f33.body.getD .skip) := by kernel_rfl
abbrev vs33 : List Nat := [0, 1, 2, 3, 4, 5, 6, 7, 14, 17, 23, 39]
def ic33l0 : IC := (.seq (.seq (.region [⟨none, none, (.prim .mv), [(.v 7)]⟩, ⟨none, none, (.prim (.fadd 1)), [(.v 1)]⟩, ⟨none, none, (.prim .load1), [(.t 1)]⟩, ⟨none, none, (.prim (.len false)), [(.t 2)]⟩, ⟨none, none, .call, [(.c (.fn (.func 44) [])), (.t 3)]⟩, ⟨(.some 10), none, (.prim (.bin .lss .int)), [(.t 0), (.t 4)]⟩])
 (.cond 10 .skip
 (.exit 0)))
 (.seq (.block 1 (.seq (.region [⟨none, none, (.prim (.loadN 2)), [(.v 1)]⟩, ⟨none, none, (.prim .mv), [(.v 7)]⟩, ⟨none, none, .call, [(.c (.fn (.func 43) [])), (.t 0), (.t 1)]⟩, ⟨none, none, (.prim .mv), [(.t 2)]⟩, ⟨none, (.some (3, true)), (.prim .mv), [(.v 6)]⟩, ⟨none, (.some (3, true)), (.prim (.len false)), [(.t 4)]⟩, ⟨none, (.some (3, true)), (.prim (.bin .eql .int)), [(.t 5), (.c (.cv (.int .i64 0)))]⟩, ⟨none, (.some (3, true)), (.prim .mv), [(.t 6)]⟩, ⟨none, (.some (7, false)), (.prim .mv), [(.v 7)]⟩, ⟨none, (.some (7, false)), .call, [(.c (.fn (.func 70) [])), (.t 8)]⟩, ⟨none, (.some (7, false)), (.prim .mv), [(.v 6)]⟩, ⟨none, (.some (7, false)), .call, [(.c (.fn (.func 69) [])), (.t 9), (.t 10)]⟩, ⟨none, (.some (3, true)), (.prim .pick), [(.t 7), (.c (.cv (.bool true))), (.t 11)]⟩, ⟨(.some 11), none, (.prim .pick), [(.t 3), (.t 12), (.c (.cv (.bool false)))]⟩])
 (.cond 11 (.region [⟨none, none, (.prim .mv), [(.v 7)]⟩, ⟨none, none, .call, [(.c (.fn (.func 70) [])), (.t 0)]⟩, ⟨(.some 6), none, (.prim .mv), [(.t 1)]⟩])
 .skip)))
 (.region [⟨none, none, (.prim .mv), [(.v 7)]⟩, ⟨none, none, (.prim (.bin .add .int)), [(.t 0), (.c (.cv (.int .i64 1)))]⟩, ⟨(.some 7), none, (.prim .mv), [(.t 1)]⟩])))
def ic33 : IC := (.seq (.region [⟨(.some 1), none, (.prim .box), [(.v 0)]⟩, ⟨(.some 2), none, (.prim .mv), [(.c (.cv .nils))]⟩, ⟨(.some 3), none, (.prim .mv), [(.c (.cv (.int .i64 0)))]⟩])
 (.seq (.region [⟨none, none, (.prim (.loadN 2)), [(.v 1)]⟩, ⟨none, none, .call, [(.c (.fn (.func 27) [])), (.t 0)]⟩, ⟨none, none, (.prim .mv), [(.t 1)]⟩, ⟨none, none, (.prim (.extract 0)), [(.t 2)]⟩, ⟨none, none, (.prim (.extract 1)), [(.t 2)]⟩, ⟨(.some 4), none, (.prim .mv), [(.t 3)]⟩, ⟨(.some 5), none, (.prim .mv), [(.t 4)]⟩])
 (.seq (.seq (.region [⟨none, none, (.prim .mv), [(.v 5)]⟩, ⟨(.some 8), none, (.prim (.bin .neq .int)), [(.t 0), (.c (.cv (.int .i64 0)))]⟩])
 (.cond 8 (.seq (.region [⟨none, none, (.prim .mv), [(.v 5)]⟩, ⟨(.some 2), none, (.prim .mv), [(.c (.cv .nils))]⟩, ⟨(.some 3), none, (.prim .mv), [(.t 0)]⟩])
 .ret)
 .skip))
 (.seq (.seq (.region [⟨none, none, (.prim .mv), [(.v 4)]⟩, ⟨(.some 9), none, (.prim (.bin .gtr .int)), [(.t 0), (.c (.cv (.int .i64 0)))]⟩])
 (.cond 9 (.seq (.region [⟨(.some 2), none, (.prim .mv), [(.c (.cv .nils))]⟩, ⟨(.some 3), none, (.prim .mv), [(.c (.cv (.int .i64 0)))]⟩])
 .ret)
 .skip))
 (.seq (.region [⟨(.some 6), none, (.prim .mv), [(.c (.cv .nils))]⟩])
 (.seq (.seq (.region [⟨(.some 7), none, (.prim .mv), [(.c (.cv (.int .i64 1)))]⟩])
 (.block 0 (.loop ic33l0)))
 (.seq (.region [⟨none, none, (.prim .mv), [(.v 6)]⟩, ⟨(.some 2), none, (.prim .mv), [(.t 0)]⟩, ⟨(.some 3), none, (.prim .mv), [(.c (.cv (.int .i64 0)))]⟩])
 .ret)))))))
theorem cc33 : compC Try.prog vs33 Try.f33.ntmps (Try.f33.body.getD .skip) = some ic33 := by kernel_rfl
abbrev rs33 : List RC := [(.v 2), (.v 3)]
theorem fok33 (p : Bool) : FnOk Try.prog 33 ⟨ic33, vs33, 43, rs33, p⟩ := FnOk.mk' Try.func33 hb33 (by kernel_rfl) cc33 (by kernel_rfl) (by kernel_rfl)

theorem hb34 : Try.f34.body = some (Try.f34.body.getD .skip) := by kernel_rfl
abbrev vs34 : List Nat := [0, 1, 2, 3, 4, 8, 9, 10, 11, 12, 13, 15, 22, 30, 34, 44]
def ic34 : IC := (.seq (.region [⟨(.some 4), none, (.prim .box), [(.v 0)]⟩, ⟨(.some 5), none, (.prim .mv), [(.c (.cv (.bool false)))]⟩, ⟨(.some 6), none, (.prim .mv), [(.c (.cv (.int .i64 0)))]⟩])
 (.seq (.region [⟨none, none, (.prim (.loadN 2)), [(.v 4)]⟩, ⟨none, none, .call, [(.c (.fn (.func 53) [])), (.t 0)]⟩, ⟨none, none, (.prim .mv), [(.t 1)]⟩, ⟨none, none, (.prim (.extract 0)), [(.t 2)]⟩, ⟨none, none, (.prim (.extract 1)), [(.t 2)]⟩, ⟨(.some 7), none, (.prim .mv), [(.t 3)]⟩, ⟨(.some 8), none, (.prim .mv), [(.t 4)]⟩])
 (.seq (.seq (.region [⟨none, none, (.prim .mv), [(.v 8)]⟩, ⟨(.some 12), none, (.prim (.bin .neq .int)), [(.t 0), (.c (.cv (.int .i64 0)))]⟩])
 (.cond 12 (.seq (.region [⟨none, none, (.prim .mv), [(.v 8)]⟩, ⟨(.some 5), none, (.prim .mv), [(.c (.cv (.bool false)))]⟩, ⟨(.some 6), none, (.prim .mv), [(.t 0)]⟩])
 .ret)
 .skip))
 (.seq (.region [⟨none, none, (.prim .mv), [(.v 1)]⟩, ⟨none, none, (.prim .mv), [(.v 2)]⟩, ⟨none, none, .call, [(.c (.fn (.func 18) [])), (.t 0), (.t 1)]⟩, ⟨none, none, (.prim .mv), [(.t 2)]⟩, ⟨none, none, (.prim (.extract 0)), [(.t 3)]⟩, ⟨none, none, (.prim (.extract 1)), [(.t 3)]⟩, ⟨(.some 9), none, (.prim .mv), [(.t 4)]⟩, ⟨(.some 8), none, (.prim .mv), [(.t 5)]⟩])
 (.seq (.block 0 (.seq (.region [⟨none, none, (.prim .mv), [(.v 8)]⟩, ⟨none, none, (.prim (.bin .neq .int)), [(.t 0), (.c (.cv (.int .i64 0)))]⟩, ⟨(.some 13), none, (.prim .mv), [(.t 1)]⟩])
 (.cond 13 (.seq (.region [⟨none, none, (.prim .mv), [(.v 8)]⟩, ⟨(.some 5), none, (.prim .mv), [(.c (.cv (.bool false)))]⟩, ⟨(.some 6), none, (.prim .mv), [(.t 0)]⟩])
 .ret)
 (.seq (.region [⟨none, none, (.prim .mv), [(.v 3)]⟩, ⟨none, none, (.prim (.len false)), [(.t 0)]⟩, ⟨none, none, (.prim .mv), [(.v 7)]⟩, ⟨none, none, (.prim .nilck), [(.t 2)]⟩, ⟨none, none, (.prim (.fadd 0)), [(.t 3)]⟩, ⟨none, none, (.prim (.fadd 1)), [(.t 4)]⟩, ⟨none, none, (.prim .load1), [(.t 5)]⟩, ⟨none, none, (.prim (.len false)), [(.t 6)]⟩, ⟨none, none, (.prim (.bin .neq .int)), [(.t 1), (.t 7)]⟩, ⟨(.some 14), none, (.prim .mv), [(.t 8)]⟩])
 (.cond 14 (.seq (.region [⟨(.some 5), none, (.prim .mv), [(.c (.cv (.bool false)))]⟩, ⟨(.some 6), none, (.prim .mv), [(.c (.cv (.int .i64 3)))]⟩])
 .ret)
 (.seq (.region [⟨none, none, (.prim .mv), [(.v 9)]⟩, ⟨none, none, (.prim (.len false)), [(.t 0)]⟩, ⟨none, none, (.prim (.bin .gtr .int)), [(.t 1), (.c (.cv (.int .i64 0)))]⟩, ⟨(.some 15), none, (.prim .mv), [(.t 2)]⟩])
 (.cond 15 (.seq (.region [⟨(.some 5), none, (.prim .mv), [(.c (.cv (.bool false)))]⟩, ⟨(.some 6), none, (.prim .mv), [(.c (.cv (.int .i64 0)))]⟩])
 .ret)
 .skip)))))))
 (.seq (.region [⟨none, none, (.prim .mv), [(.v 2)]⟩, ⟨none, none, .call, [(.c (.fn (.func 21) [])), (.t 0)]⟩, ⟨none, none, (.prim .mv), [(.t 1)]⟩, ⟨none, none, (.prim (.extract 0)), [(.t 2)]⟩, ⟨none, none, (.prim (.extract 1)), [(.t 2)]⟩, ⟨(.some 10), none, (.prim .mv), [(.t 3)]⟩, ⟨none, none, (.prim .mv), [(.t 4)]⟩])
 (.seq (.region [⟨none, none, (.prim .mv), [(.v 7)]⟩, ⟨none, none, (.prim .mv), [(.v 7)]⟩, ⟨none, none, .call, [(.c (.fn (.func 55) [])), (.t 1)]⟩, ⟨none, none, .call, [(.c (.fn (.func 54) [])), (.t 0), (.t 2)]⟩, ⟨(.some 11), none, (.prim .mv), [(.t 3)]⟩])
 (.seq (.region [⟨none, none, (.prim .mv), [(.v 11)]⟩, ⟨none, none, (.prim (.bin .gtr .int)), [(.t 0), (.c (.cv (.int .i64 0)))]⟩, ⟨none, none, (.prim .mv), [(.t 1)]⟩, ⟨none, (.some (2, true)), (.prim .mv), [(.v 7)]⟩, ⟨none, (.some (2, true)), (.prim .mv), [(.v 10)]⟩, ⟨none, (.some (2, true)), (.prim .mv), [(.v 11)]⟩, ⟨none, (.some (2, true)), (.prim .max2), [(.c (.cv (.int .i64 1))), (.t 5)]⟩, ⟨none, (.some (2, true)), (.prim (.bin .rem .int)), [(.t 4), (.t 6)]⟩, ⟨none, (.some (2, true)), .call, [(.c (.fn (.func 58) [])), (.t 3), (.t 7)]⟩, ⟨none, (.some (2, true)), (.prim .mv), [(.v 3)]⟩, ⟨none, (.some (2, true)), .call, [(.c (.fn (.func 71) [])), (.t 8), (.t 9)]⟩, ⟨none, none, (.prim .pick), [(.t 2), (.t 10), (.c (.cv (.bool false)))]⟩, ⟨(.some 5), none, (.prim .mv), [(.t 11)]⟩, ⟨(.some 6), none, (.prim .mv), [(.c (.cv (.int .i64 0)))]⟩])
 .ret))))))))
theorem cc34 : compC Try.prog vs34 Try.f34.ntmps (Try.f34.body.getD .skip) = some ic34 := by kernel_rfl
abbrev rs34 : List RC := [(.v 5), (.v 6)]
theorem fok34 (p : Bool) : FnOk Try.prog 34 ⟨ic34, vs34, 69, rs34, p⟩ := FnOk.mk' Try.func34 hb34 (by kernel_rfl) cc34 (by kernel_rfl) (by kernel_rfl)

theorem hb35 : Try.f35.body = some (Try.f35.body.getD .skip) := by kernel_rfl
abbrev vs35 : List Nat := [0, 1, 2, 3, 4, 8, 9, 10, 11, 12, 20, 33, 35, 50]
def ic35 : IC := (.seq (.region [⟨(.some 4), none, (.prim .box), [(.v 0)]⟩, ⟨(.some 5), none, (.prim .mv), [(.c (.cv (.bool false)))]⟩, ⟨(.some 6), none, (.prim .mv), [(.c (.cv (.int .i64 0)))]⟩])
 (.seq (.region [⟨none, none, (.prim (.loadN 2)), [(.v 4)]⟩, ⟨none, none, .call, [(.c (.fn (.func 27) [])), (.t 0)]⟩, ⟨none, none, (.prim .mv), [(.t 1)]⟩, ⟨none, none, (.prim (.extract 0)), [(.t 2)]⟩, ⟨none, none, (.prim (.extract 1)), [(.t 2)]⟩, ⟨(.some 7), none, (.prim .mv), [(.t 3)]⟩, ⟨(.some 8), none, (.prim .mv), [(.t 4)]⟩])
 (.seq (.seq (.region [⟨none, none, (.prim .mv), [(.v 8)]⟩, ⟨(.some 10), none, (.prim (.bin .eql .int)), [(.t 0), (.c (.cv (.int .i64 0)))]⟩])
 (.cond 10 (.region [⟨none, none, (.prim .mv), [(.v 1)]⟩, ⟨none, none, (.prim .mv), [(.v 2)]⟩, ⟨none, none, .call, [(.c (.fn (.func 51) [])), (.t 0), (.t 1)]⟩, ⟨(.some 8), none, (.prim .mv), [(.t 2)]⟩])
 .skip))
 (.seq (.seq (.region [⟨none, none, (.prim .mv), [(.v 8)]⟩, ⟨none, none, (.prim (.bin .eql .int)), [(.t 0), (.c (.cv (.int .i64 0)))]⟩, ⟨none, none, (.prim .mv), [(.t 1)]⟩, ⟨none, (.some (2, true)), (.prim .mv), [(.v 3)]⟩, ⟨none, (.some (2, true)), (.prim (.len false)), [(.t 3)]⟩, ⟨none, (.some (2, true)), (.prim (.fadd 1)), [(.v 4)]⟩, ⟨none, (.some (2, true)), (.prim .load1), [(.t 5)]⟩, ⟨none, (.some (2, true)), (.prim (.len false)), [(.t 6)]⟩, ⟨none, (.some (2, true)), (.prim (.bin .neq .int)), [(.t 4), (.t 7)]⟩, ⟨(.some 11), none, (.prim .pick), [(.t 2), (.t 8), (.c (.cv (.bool false)))]⟩])
 (.cond 11 (.region [⟨(.some 8), none, (.prim .mv), [(.c (.cv (.int .i64 3)))]⟩])
 .skip))
 (.seq (.seq (.region [⟨none, none, (.prim .mv), [(.v 8)]⟩, ⟨(.some 12), none, (.prim (.bin .neq .int)), [(.t 0), (.c (.cv (.int .i64 0)))]⟩])
 (.cond 12 (.seq (.region [⟨none, none, (.prim .mv), [(.v 8)]⟩, ⟨(.some 5), none, (.prim .mv), [(.c (.cv (.bool false)))]⟩, ⟨(.some 6), none, (.prim .mv), [(.t 0)]⟩])
 .ret)
 .skip))
 (.seq (.region [⟨none, none, (.prim .mv), [(.v 2)]⟩, ⟨none, none, .call, [(.c (.fn (.func 22) [])), (.t 0)]⟩, ⟨none, none, (.prim .mv), [(.t 1)]⟩, ⟨none, none, (.prim (.extract 0)), [(.t 2)]⟩, ⟨none, none, (.prim (.extract 1)), [(.t 2)]⟩, ⟨(.some 9), none, (.prim .mv), [(.t 3)]⟩, ⟨none, none, (.prim .mv), [(.t 4)]⟩])
 (.seq (.seq (.region [⟨none, none, (.prim .mv), [(.v 7)]⟩, ⟨none, none, (.prim (.bin .eql .int)), [(.t 0), (.c (.cv (.int .i64 0)))]⟩, ⟨none, none, (.prim .mv), [(.t 1)]⟩, ⟨none, (.some (2, false)), (.prim .mv), [(.v 1)]⟩, ⟨none, (.some (2, false)), (.prim .mv), [(.v 2)]⟩, ⟨none, (.some (2, false)), .call, [(.c (.fn (.func 52) [])), (.t 3), (.t 4)]⟩, ⟨none, (.some (2, false)), (.prim (.len false)), [(.t 5)]⟩, ⟨none, (.some (2, false)), (.prim (.bin .gtr .int)), [(.t 6), (.c (.cv (.int .i64 0)))]⟩, ⟨(.some 13), none, (.prim .pick), [(.t 2), (.c (.cv (.bool true))), (.t 7)]⟩])
 (.cond 13 (.seq (.region [⟨(.some 5), none, (.prim .mv), [(.c (.cv (.bool false)))]⟩, ⟨(.some 6), none, (.prim .mv), [(.c (.cv (.int .i64 0)))]⟩])
 .ret)
 .skip))
 (.seq (.draw [[], [], [], [1, 2], [0, 3], [], [4, 5, 4], [6, 6, 0, 1, 2, 3, 4, 5, 6], [7, 0, 1, 2, 3, 4, 5, 6, 7]] [⟨none, none, (.prim (.loadN 2)), [(.v 4)]⟩, ⟨none, none, (.prim .mv), [(.v 9)]⟩, ⟨none, none, (.prim .mv), [(.v 7)]⟩, ⟨none, none, (.prim (.bin .rem .int)), [(.t 1), (.t 2)]⟩, ⟨none, none, .call, [(.c (.fn (.func 59) [])), (.t 0), (.t 3)]⟩, ⟨none, none, (.prim .mv), [(.v 3)]⟩, ⟨none, none, .call, [(.c (.fn (.func 20) [])), (.t 4), (.t 5)]⟩, ⟨(.some 5), none, (.prim .mv), [(.t 6)]⟩, ⟨(.some 6), none, (.prim .mv), [(.c (.cv (.int .i64 0)))]⟩] [[], [], [], [1, 2], [0, 3, 1, 2], [], [4, 5, 0, 3, 1, 2], [6, 0, 1, 2, 3, 4, 5], [7, 0, 1, 2, 3, 4, 5, 6]])
 .ret))))))))
theorem cc35 : compC Try.prog vs35 Try.f35.ntmps (Try.f35.body.getD .skip) = some ic35 := by kernel_rfl
abbrev rs35 : List RC := [(.v 5), (.v 6)]
theorem fok35 (p : Bool) : FnOk Try.prog 35 ⟨ic35, vs35, 58, rs35, p⟩ := FnOk.mk' Try.func35 hb35 (by kernel_rfl) cc35 (by kernel_rfl) (by kernel_rfl)

theorem hb36 : Try.f36.body = some (Try.f36.body.getD .skip) := by kernel_rfl
abbrev vs36 : List Nat := [0]
def ic36 : IC := (.seq (.region [⟨(.some 0), none, (.prim (.alloc [(.cv .nils), (.cv .nils)])), []⟩])
 (.seq (.region [⟨none, none, (.prim (.bslice 1 3 [(.cv (.int .i64 0)), (.cv (.int .i64 0)), (.cv (.int .i64 0))] [(0, 1), (1, 1), (2, 1)])), [(.c (.cv (.int .i64 1))), (.c (.cv (.int .i64 1))), (.c (.cv (.int .i64 2)))]⟩, ⟨none, none, (.prim (.bslice 1 4 [(.cv (.int .i64 0)), (.cv (.int .i64 0)), (.cv (.int .i64 0)), (.cv (.int .i64 0))] [(0, 1), (1, 1), (2, 1), (3, 1)])), [(.c (.cv (.int .i64 1))), (.c (.cv (.int .i64 1))), (.c (.cv (.int .i64 6))), (.c (.cv (.int .i64 6)))]⟩, ⟨none, none, (.prim (.build [(.cv .nils), (.cv .nils)] [(0, 1), (1, 1)])), [(.t 0), (.t 1)]⟩, ⟨none, none, (.prim (.store 2)), [(.v 0), (.t 2)]⟩])
 .ret))
theorem cc36 : compC Try.prog vs36 Try.f36.ntmps (Try.f36.body.getD .skip) = some ic36 := by kernel_rfl
abbrev rs36 : List RC := [(.lN 0 2)]
theorem fok36 (p : Bool) : FnOk Try.prog 36 ⟨ic36, vs36, 4, rs36, p⟩ := FnOk.mk' Try.func36 hb36 (by kernel_rfl) cc36 (by kernel_rfl) (by kernel_rfl)

theorem hb37 : Try.f37.body = some (Try.f37.body.getD .skip) := by kernel_rfl
abbrev vs37 : List Nat := [0]
def ic37 : IC := (.seq (.region [⟨(.some 0), none, (.prim (.alloc [(.cv .nils), (.cv .nils)])), []⟩])
 (.seq (.region [⟨none, none, (.prim (.bslice 1 3 [(.cv (.int .i64 0)), (.cv (.int .i64 0)), (.cv (.int .i64 0))] [(0, 1), (1, 1), (2, 1)])), [(.c (.cv (.int .i64 1))), (.c (.cv (.int .i64 1))), (.c (.cv (.int .i64 2)))]⟩, ⟨none, none, (.prim (.bslice 1 3 [(.cv (.int .i64 0)), (.cv (.int .i64 0)), (.cv (.int .i64 0))] [(0, 1), (1, 1), (2, 1)])), [(.c (.cv (.int .i64 1))), (.c (.cv (.int .i64 1))), (.c (.cv (.int .i64 6)))]⟩, ⟨none, none, (.prim (.build [(.cv .nils), (.cv .nils)] [(0, 1), (1, 1)])), [(.t 0), (.t 1)]⟩, ⟨none, none, (.prim (.store 2)), [(.v 0), (.t 2)]⟩])
 .ret))
theorem cc37 : compC Try.prog vs37 Try.f37.ntmps (Try.f37.body.getD .skip) = some ic37 := by kernel_rfl
abbrev rs37 : List RC := [(.lN 0 2)]
theorem fok37 (p : Bool) : FnOk Try.prog 37 ⟨ic37, vs37, 4, rs37, p⟩ := FnOk.mk' Try.func37 hb37 (by kernel_rfl) cc37 (by kernel_rfl) (by kernel_rfl)

theorem hb38 : Try.f38.body = some (Try.f38.body.getD .skip) := by kernel_rfl
abbrev vs38 : List Nat := [0, 1, 2, 5]
def ic38 : IC := (.seq (.region [⟨(.some 1), none, (.prim .box), [(.v 0)]⟩, ⟨(.some 2), none, (.prim .mv), [(.c (.cv (.bool false)))]⟩])
 (.seq (.region [⟨none, none, (.prim (.loadN 2)), [(.v 1)]⟩, ⟨none, none, .call, [(.c (.fn (.func 25) [])), (.t 0)]⟩, ⟨none, none, (.prim .mv), [(.t 1)]⟩, ⟨none, none, (.prim (.extract 0)), [(.t 2)]⟩, ⟨none, none, (.prim (.extract 1)), [(.t 2)]⟩, ⟨none, none, (.prim (.extract 2)), [(.t 2)]⟩, ⟨none, none, (.prim .mv), [(.t 3)]⟩, ⟨none, none, (.prim .mv), [(.t 4)]⟩, ⟨(.some 3), none, (.prim .mv), [(.t 5)]⟩])
 (.seq (.region [⟨none, none, (.prim .mv), [(.v 3)]⟩, ⟨none, none, (.prim (.bin .eql .int)), [(.t 0), (.c (.cv (.int .i64 0)))]⟩, ⟨(.some 2), none, (.prim .mv), [(.t 1)]⟩])
 .ret)))
theorem cc38 : compC Try.prog vs38 Try.f38.ntmps (Try.f38.body.getD .skip) = some ic38 := by kernel_rfl
abbrev rs38 : List RC := [(.v 2)]
theorem fok38 (p : Bool) : FnOk Try.prog 38 ⟨ic38, vs38, 14, rs38, p⟩ := FnOk.mk' Try.func38 hb38 (by kernel_rfl) cc38 (by kernel_rfl) (by kernel_rfl)

theorem hb39 : Try.f39.body = some (Try.f39.body.getD .skip) := by kernel_rfl
abbrev vs39 : List Nat := [0, 1, 2, 4, 5, 6, 7, 8, 9, 10, 11, 20, 26, 43, 50]
def ic39l0 : IC := (.seq (.seq (.region [⟨none, none, (.prim .mv), [(.v 9)]⟩, ⟨none, none, (.prim .mv), [(.v 5)]⟩, ⟨none, none, (.prim (.len false)), [(.t 1)]⟩, ⟨(.some 12), none, (.prim (.bin .lss .int)), [(.t 0), (.t 2)]⟩])
 (.cond 12 .skip
 (.exit 2)))
 (.seq (.block 3 (.seq (.region [⟨none, none, (.prim .mv), [(.v 5)]⟩, ⟨none, none, (.prim .mv), [(.v 9)]⟩, ⟨none, none, (.prim (.iaS 1)), [(.t 0), (.t 1)]⟩, ⟨none, none, (.prim .load1), [(.t 2)]⟩, ⟨none, none, (.prim (.bin .gtr .int)), [(.t 3), (.c (.cv (.int .i64 0)))]⟩, ⟨none, none, (.prim .mv), [(.t 4)]⟩, ⟨none, (.some (5, true)), (.prim (.fadd 1)), [(.v 2)]⟩, ⟨none, (.some (5, true)), (.prim .load1), [(.t 6)]⟩, ⟨none, (.some (5, true)), (.prim .mv), [(.v 7)]⟩, ⟨none, (.some (5, true)), (.prim (.iaS 1)), [(.t 7), (.t 8)]⟩, ⟨none, (.some (5, true)), (.prim .load1), [(.t 9)]⟩, ⟨none, (.some (5, true)), (.prim .mv), [(.v 9)]⟩, ⟨none, (.some (5, true)), .call, [(.c (.fn (.func 45) [])), (.t 10), (.t 11)]⟩, ⟨none, (.some (5, true)), (.prim .not), [(.t 12)]⟩, ⟨(.some 13), none, (.prim .pick), [(.t 5), (.t 13), (.c (.cv (.bool false)))]⟩])
 (.cond 13 (.region [⟨none, none, (.prim .mv), [(.v 8)]⟩, ⟨none, none, (.prim .mv), [(.v 9)]⟩, ⟨none, none, (.prim (.bslice 1 1 [(.cv (.int .i64 0))] [(0, 1)])), [(.t 1)]⟩, ⟨none, none, (.prim (.append 1 8)), [(.t 0), (.t 2)]⟩, ⟨(.some 8), none, (.prim .mv), [(.t 3)]⟩])
 .skip)))
 (.region [⟨none, none, (.prim .mv), [(.v 9)]⟩, ⟨none, none, (.prim (.bin .add .int)), [(.t 0), (.c (.cv (.int .i64 1)))]⟩, ⟨(.some 9), none, (.prim .mv), [(.t 1)]⟩])))
def ic39l1 : IC := (.seq (.seq (.region [⟨none, none, (.prim .mv), [(.v 7)]⟩, ⟨none, none, (.prim (.fadd 1)), [(.v 2)]⟩, ⟨none, none, (.prim .load1), [(.t 1)]⟩, ⟨none, none, (.prim (.len false)), [(.t 2)]⟩, ⟨(.some 11), none, (.prim (.bin .lss .int)), [(.t 0), (.t 3)]⟩])
 (.cond 11 .skip
 (.exit 0)))
 (.seq (.block 1 (.seq (.region [⟨(.some 8), none, (.prim .mv), [(.c (.cv .nils))]⟩])
 (.seq (.seq (.region [⟨(.some 9), none, (.prim .mv), [(.c (.cv (.int .i64 0)))]⟩])
 (.block 2 (.loop ic39l0)))
 (.seq (.seq (.region [⟨none, none, (.prim .mv), [(.v 8)]⟩, ⟨none, none, (.prim (.len false)), [(.t 0)]⟩, ⟨(.some 14), none, (.prim (.bin .eql .int)), [(.t 1), (.c (.cv (.int .i64 0)))]⟩])
 (.cond 14 (.seq (.region [⟨(.some 3), none, (.prim .mv), [(.c (.cv .nils))]⟩, ⟨(.some 4), none, (.prim .mv), [(.c (.cv (.bool false)))]⟩])
 .ret)
 .skip))
 (.seq (.region [⟨none, none, (.prim .mv), [(.v 8)]⟩, ⟨none, none, (.prim .mv), [(.v 1)]⟩, ⟨none, none, (.prim .mv), [(.v 7)]⟩, ⟨none, none, .call, [(.c (.fn (.func 46) [])), (.t 1), (.t 2)]⟩, ⟨none, none, (.prim .mv), [(.v 8)]⟩, ⟨none, none, (.prim (.len false)), [(.t 4)]⟩, ⟨none, none, (.prim (.bin .rem .int)), [(.t 3), (.t 5)]⟩, ⟨none, none, (.prim (.iaS 1)), [(.t 0), (.t 6)]⟩, ⟨none, none, (.prim .load1), [(.t 7)]⟩, ⟨(.some 10), none, (.prim .mv), [(.t 8)]⟩])
 (.seq (.region [⟨none, none, (.prim .mv), [(.v 6)]⟩, ⟨none, none, (.prim .mv), [(.v 10)]⟩, ⟨none, none, (.prim (.bslice 1 1 [(.cv (.int .i64 0))] [(0, 1)])), [(.t 1)]⟩, ⟨none, none, (.prim (.append 1 8)), [(.t 0), (.t 2)]⟩, ⟨(.some 6), none, (.prim .mv), [(.t 3)]⟩])
 (.region [⟨none, none, (.prim .mv), [(.v 5)]⟩, ⟨none, none, (.prim .mv), [(.v 10)]⟩, ⟨none, none, (.prim (.iaS 1)), [(.t 0), (.t 1)]⟩, ⟨none, none, (.prim .load1), [(.t 2)]⟩, ⟨none, none, (.prim (.bin .sub .int)), [(.t 3), (.c (.cv (.int .i64 1)))]⟩, ⟨none, none, (.prim (.iaS 1)), [(.t 0), (.t 1)]⟩, ⟨none, none, (.prim (.store 1)), [(.t 5), (.t 4)]⟩])))))))
 (.region [⟨none, none, (.prim .mv), [(.v 7)]⟩, ⟨none, none, (.prim (.bin .add .int)), [(.t 0), (.c (.cv (.int .i64 1)))]⟩, ⟨(.some 7), none, (.prim .mv), [(.t 1)]⟩])))
def ic39 : IC := (.seq (.region [⟨(.some 2), none, (.prim .box), [(.v 0)]⟩, ⟨(.some 3), none, (.prim .mv), [(.c (.cv .nils))]⟩, ⟨(.some 4), none, (.prim .mv), [(.c (.cv (.bool false)))]⟩])
 (.seq (.region [⟨none, none, (.prim (.bslice 1 0 [] [])), []⟩, ⟨none, none, (.prim (.fadd 0)), [(.v 2)]⟩, ⟨none, none, (.prim .load1), [(.t 1)]⟩, ⟨none, none, (.prim (.append 1 8)), [(.t 0), (.t 2)]⟩, ⟨(.some 5), none, (.prim .mv), [(.t 3)]⟩])
 (.seq (.region [⟨(.some 6), none, (.prim .mv), [(.c (.cv .nils))]⟩])
 (.seq (.seq (.region [⟨(.some 7), none, (.prim .mv), [(.c (.cv (.int .i64 0)))]⟩])
 (.block 0 (.loop ic39l1)))
 (.seq (.region [⟨none, none, (.prim .mv), [(.v 6)]⟩, ⟨(.some 3), none, (.prim .mv), [(.t 0)]⟩, ⟨(.some 4), none, (.prim .mv), [(.c (.cv (.bool true)))]⟩])
 .ret)))))
theorem cc39 : compC Try.prog vs39 Try.f39.ntmps (Try.f39.body.getD .skip) = some ic39 := by kernel_rfl
abbrev rs39 : List RC := [(.v 3), (.v 4)]
theorem fok39 (p : Bool) : FnOk Try.prog 39 ⟨ic39, vs39, 71, rs39, p⟩ := FnOk.mk' Try.func39 hb39 (by kernel_rfl) cc39 (by kernel_rfl) (by kernel_rfl)

theorem hb40 : Try.f40.body = some (Try.f40.body.getD .skip) := by kernel_rfl
abbrev vs40 : List Nat := [0, 1, 2, 4, 5, 6, 7, 8, 14, 18, 30, 34, 40, 51, 75]
def ic40l0 : IC := (.seq (.seq (.region [⟨none, none, (.prim .mv), [(.v 7)]⟩, ⟨none, none, (.prim .mv), [(.v 1)]⟩, ⟨none, none, (.prim (.len false)), [(.t 1)]⟩, ⟨(.some 12), none, (.prim (.bin .lss .int)), [(.t 0), (.t 2)]⟩])
 (.cond 12 .skip
 (.exit 4)))
 (.seq (.block 5 (.seq (.draw [[], [], [0, 1], [2], [], [], [4, 5], [6], [3, 7]] [⟨none, none, (.prim .mv), [(.v 1)]⟩, ⟨none, none, (.prim .mv), [(.v 7)]⟩, ⟨none, none, (.prim (.iaS 1)), [(.t 0), (.t 1)]⟩, ⟨none, none, (.prim .load1), [(.t 2)]⟩, ⟨none, none, (.prim .mv), [(.v 1)]⟩, ⟨none, none, (.prim .mv), [(.v 5)]⟩, ⟨none, none, (.prim (.iaS 1)), [(.t 4), (.t 5)]⟩, ⟨none, none, (.prim .load1), [(.t 6)]⟩, ⟨(.some 13), none, (.prim (.bin .eql .int)), [(.t 3), (.t 7)]⟩] [[], [], [0, 1], [2, 0, 1], [], [], [4, 5], [6, 4, 5], [3, 7, 2, 0, 1, 6, 4, 5]])
 (.cond 13 (.region [⟨none, none, (.prim .mv), [(.v 6)]⟩, ⟨none, none, (.prim (.bin .add .int)), [(.t 0), (.c (.cv (.int .i64 1)))]⟩, ⟨(.some 6), none, (.prim .mv), [(.t 1)]⟩])
 .skip)))
 (.region [⟨none, none, (.prim .mv), [(.v 7)]⟩, ⟨none, none, (.prim (.bin .add .int)), [(.t 0), (.c (.cv (.int .i64 1)))]⟩, ⟨(.some 7), none, (.prim .mv), [(.t 1)]⟩])))
def ic40l1 : IC := (.seq (.seq (.region [⟨none, none, (.prim .mv), [(.v 5)]⟩, ⟨none, none, (.prim .mv), [(.v 1)]⟩, ⟨none, none, (.prim (.len false)), [(.t 1)]⟩, ⟨(.some 11), none, (.prim (.bin .lss .int)), [(.t 0), (.t 2)]⟩])
 (.cond 11 .skip
 (.exit 2)))
 (.seq (.block 3 (.seq (.region [⟨(.some 6), none, (.prim .mv), [(.c (.cv (.int .i64 0)))]⟩])
 (.seq (.seq (.region [⟨(.some 7), none, (.prim .mv), [(.c (.cv (.int .i64 0)))]⟩])
 (.block 4 (.loop ic40l0)))
 (.seq (.draw [[], [0], [], [1, 2], [3], [], [], [5, 6], [7], [4, 8], [9, 9], [10], [10], [12, 10], [10], [10], [14, 15, 10], [16, 10], [13, 17, 10], [18, 10], [11, 19, 10], [10, 20]] [⟨none, none, (.prim (.fadd 1)), [(.v 2)]⟩, ⟨none, none, (.prim .load1), [(.t 0)]⟩, ⟨none, none, (.prim .mv), [(.v 5)]⟩, ⟨none, none, (.prim (.iaS 1)), [(.t 1), (.t 2)]⟩, ⟨none, none, (.prim .load1), [(.t 3)]⟩, ⟨none, none, (.prim .mv), [(.v 1)]⟩, ⟨none, none, (.prim .mv), [(.v 5)]⟩, ⟨none, none, (.prim (.iaS 1)), [(.t 5), (.t 6)]⟩, ⟨none, none, (.prim .load1), [(.t 7)]⟩, ⟨none, none, .call, [(.c (.fn (.func 45) [])), (.t 4), (.t 8)]⟩, ⟨none, none, (.prim .mv), [(.t 9)]⟩, ⟨none, (.some (10, false)), (.prim .mv), [(.v 6)]⟩, ⟨none, (.some (10, false)), (.prim (.fadd 0)), [(.v 2)]⟩, ⟨none, (.some (10, false)), (.prim .load1), [(.t 12)]⟩, ⟨none, (.some (10, false)), (.prim .mv), [(.v 1)]⟩, ⟨none, (.some (10, false)), (.prim .mv), [(.v 5)]⟩, ⟨none, (.some (10, false)), (.prim (.iaS 1)), [(.t 14), (.t 15)]⟩, ⟨none, (.some (10, false)), (.prim .load1), [(.t 16)]⟩, ⟨none, (.some (10, false)), (.prim (.iaS 1)), [(.t 13), (.t 17)]⟩, ⟨none, (.some (10, false)), (.prim .load1), [(.t 18)]⟩, ⟨none, (.some (10, false)), (.prim (.bin .gtr .int)), [(.t 11), (.t 19)]⟩, ⟨(.some 14), none, (.prim .pick), [(.t 10), (.c (.cv (.bool true))), (.t 20)]⟩] [[], [0], [], [1, 2, 0], [3, 1, 2, 0], [], [], [5, 6], [7, 5, 6], [4, 8, 3, 1, 2, 0, 7, 5, 6], [9, 4, 8, 3, 1, 2, 0, 7, 5, 6], [10, 9, 4, 8, 3, 1, 2, 0, 7, 5, 6], [10, 9, 4, 8, 3, 1, 2, 0, 7, 5, 6], [12, 10, 9, 4, 8, 3, 1, 2, 0, 7, 5, 6], [10, 9, 4, 8, 3, 1, 2, 0, 7, 5, 6], [10, 9, 4, 8, 3, 1, 2, 0, 7, 5, 6], [14, 15, 10, 9, 4, 8, 3, 1, 2, 0, 7, 5, 6], [16, 10, 14, 15, 9, 4, 8, 3, 1, 2, 0, 7, 5, 6], [13, 17, 10, 12, 9, 4, 8, 3, 1, 2, 0, 7, 5, 6, 16, 14, 15], [18, 10, 13, 17, 12, 9, 4, 8, 3, 1, 2, 0, 7, 5, 6, 16, 14, 15], [11, 19, 10, 9, 4, 8, 3, 1, 2, 0, 7, 5, 6, 18, 13, 17, 12, 16, 14, 15], [10, 20, 9, 4, 8, 3, 1, 2, 0, 7, 5, 6, 11, 19, 18, 13, 17, 12, 16, 14, 15]])
 (.cond 14 (.seq (.region [⟨(.some 3), none, (.prim .mv), [(.c (.cv (.int .i64 2)))]⟩])
 .ret)
 .skip)))))
 (.region [⟨none, none, (.prim .mv), [(.v 5)]⟩, ⟨none, none, (.prim (.bin .add .int)), [(.t 0), (.c (.cv (.int .i64 1)))]⟩, ⟨(.some 5), none, (.prim .mv), [(.t 1)]⟩])))
def ic40l2 : IC := (.seq (.seq (.region [⟨none, none, (.prim .mv), [(.v 4)]⟩, ⟨none, none, (.prim .mv), [(.v 1)]⟩, ⟨none, none, (.prim (.len false)), [(.t 1)]⟩, ⟨(.some 9), none, (.prim (.bin .lss .int)), [(.t 0), (.t 2)]⟩])
 (.cond 9 .skip
 (.exit 0)))
 (.seq (.block 1 (.seq (.draw [[], [], [0, 1], [2], [], [4], [5], [6], [3, 7], [8]] [⟨none, none, (.prim .mv), [(.v 1)]⟩, ⟨none, none, (.prim .mv), [(.v 4)]⟩, ⟨none, none, (.prim (.iaS 1)), [(.t 0), (.t 1)]⟩, ⟨none, none, (.prim .load1), [(.t 2)]⟩, ⟨none, none, (.prim (.fadd 0)), [(.v 2)]⟩, ⟨none, none, (.prim .load1), [(.t 4)]⟩, ⟨none, none, (.prim (.len false)), [(.t 5)]⟩, ⟨none, none, (.prim (.bin .sub .int)), [(.t 6), (.c (.cv (.int .i64 1)))]⟩, ⟨none, none, .call, [(.c (.fn (.func 48) [])), (.t 3), (.c (.cv (.int .i64 0))), (.t 7)]⟩, ⟨(.some 10), none, (.prim .not), [(.t 8)]⟩] [[], [], [0, 1], [2, 0, 1], [], [4], [5, 4], [6, 5, 4], [3, 7, 2, 0, 1, 6, 5, 4], [8, 3, 7, 2, 0, 1, 6, 5, 4]])
 (.cond 10 (.seq (.region [⟨(.some 3), none, (.prim .mv), [(.c (.cv (.int .i64 4)))]⟩])
 .ret)
 .skip)))
 (.region [⟨none, none, (.prim .mv), [(.v 4)]⟩, ⟨none, none, (.prim (.bin .add .int)), [(.t 0), (.c (.cv (.int .i64 1)))]⟩, ⟨(.some 4), none, (.prim .mv), [(.t 1)]⟩])))
def ic40 : IC := (.seq (.region [⟨(.some 2), none, (.prim .box), [(.v 0)]⟩, ⟨(.some 3), none, (.prim .mv), [(.c (.cv (.int .i64 0)))]⟩])
 (.seq (.seq (.region [⟨none, none, (.prim .mv), [(.v 1)]⟩, ⟨none, none, (.prim (.len false)), [(.t 0)]⟩, ⟨none, none, (.prim (.fadd 1)), [(.v 2)]⟩, ⟨none, none, (.prim .load1), [(.t 2)]⟩, ⟨none, none, (.prim (.len false)), [(.t 3)]⟩, ⟨(.some 8), none, (.prim (.bin .neq .int)), [(.t 1), (.t 4)]⟩])
 (.cond 8 (.seq (.region [⟨(.some 3), none, (.prim .mv), [(.c (.cv (.int .i64 3)))]⟩])
 .ret)
 .skip))
 (.seq (.seq (.region [⟨(.some 4), none, (.prim .mv), [(.c (.cv (.int .i64 0)))]⟩])
 (.block 0 (.loop ic40l2)))
 (.seq (.seq (.region [⟨(.some 5), none, (.prim .mv), [(.c (.cv (.int .i64 0)))]⟩])
 (.block 2 (.loop ic40l1)))
 (.seq (.region [⟨(.some 3), none, (.prim .mv), [(.c (.cv (.int .i64 0)))]⟩])
 .ret)))))
theorem cc40 : compC Try.prog vs40 Try.f40.ntmps (Try.f40.body.getD .skip) = some ic40 := by kernel_rfl
abbrev rs40 : List RC := [(.v 3)]
theorem fok40 (p : Bool) : FnOk Try.prog 40 ⟨ic40, vs40, 76, rs40, p⟩ := FnOk.mk' Try.func40 hb40 (by kernel_rfl) cc40 (by kernel_rfl) (by kernel_rfl)

theorem hb41 : Try.f41.body = some (Try.f41.body.getD .skip) := by kernel_rfl
abbrev vs41 : List Nat := [0, 2, 3, 7, 11, 19]
def ic41l0 : IC := (.seq (.seq (.region [⟨none, none, (.prim .mv), [(.v 2)]⟩, ⟨none, none, (.prim .mv), [(.v 0)]⟩, ⟨none, none, (.prim (.len false)), [(.t 1)]⟩, ⟨(.some 4), none, (.prim (.bin .lss .int)), [(.t 0), (.t 2)]⟩])
 (.cond 4 .skip
 (.exit 0)))
 (.seq (.block 1 (.seq (.region [⟨none, none, (.prim .mv), [(.v 0)]⟩, ⟨none, none, (.prim .mv), [(.v 2)]⟩, ⟨none, none, (.prim (.iaS 1)), [(.t 0), (.t 1)]⟩, ⟨none, none, (.prim .load1), [(.t 2)]⟩, ⟨none, none, .call, [(.c (.fn (.func 48) [])), (.t 3), (.c (.cv (.int .i64 0))), (.c (.cv (.int .i64 1000000000)))]⟩, ⟨(.some 5), none, (.prim .not), [(.t 4)]⟩])
 (.cond 5 (.seq (.region [⟨(.some 1), none, (.prim .mv), [(.c (.cv (.int .i64 7)))]⟩])
 .ret)
 .skip)))
 (.region [⟨none, none, (.prim .mv), [(.v 2)]⟩, ⟨none, none, (.prim (.bin .add .int)), [(.t 0), (.c (.cv (.int .i64 1)))]⟩, ⟨(.some 2), none, (.prim .mv), [(.t 1)]⟩])))
def ic41 : IC := (.seq (.region [⟨(.some 1), none, (.prim .mv), [(.c (.cv (.int .i64 0)))]⟩])
 (.seq (.seq (.region [⟨none, none, (.prim .mv), [(.v 0)]⟩, ⟨none, none, (.prim (.len false)), [(.t 0)]⟩, ⟨none, none, .call, [(.c (.fn (.func 48) [])), (.t 1), (.c (.cv (.int .i64 1))), (.c (.cv (.int .i64 8)))]⟩, ⟨(.some 3), none, (.prim .not), [(.t 2)]⟩])
 (.cond 3 (.seq (.region [⟨(.some 1), none, (.prim .mv), [(.c (.cv (.int .i64 3)))]⟩])
 .ret)
 .skip))
 (.seq (.seq (.region [⟨(.some 2), none, (.prim .mv), [(.c (.cv (.int .i64 0)))]⟩])
 (.block 0 (.loop ic41l0)))
 (.seq (.region [⟨(.some 1), none, (.prim .mv), [(.c (.cv (.int .i64 0)))]⟩])
 .ret))))
theorem cc41 : compC Try.prog vs41 Try.f41.ntmps (Try.f41.body.getD .skip) = some ic41 := by kernel_rfl
abbrev rs41 : List RC := [(.v 1)]
theorem fok41 (p : Bool) : FnOk Try.prog 41 ⟨ic41, vs41, 20, rs41, p⟩ := FnOk.mk' Try.func41 hb41 (by kernel_rfl) cc41 (by kernel_rfl) (by kernel_rfl)

theorem hb42 : Try.f42.body = some (Try.f42.body.getD .skip) := by kernel_rfl
abbrev vs42 : List Nat := [0, 2, 3, 4, 5, 10]
def ic42l0 : IC := (.seq (.seq (.region [⟨none, none, (.prim .mv), [(.v 3)]⟩, ⟨none, none, (.prim .mv), [(.v 0)]⟩, ⟨none, none, (.prim (.len false)), [(.t 1)]⟩, ⟨(.some 5), none, (.prim (.bin .lss .int)), [(.t 0), (.t 2)]⟩])
 (.cond 5 .skip
 (.exit 0)))
 (.seq (.block 1 (.seq (.region [⟨none, none, (.prim .mv), [(.v 3)]⟩, ⟨none, none, (.prim .mv), [(.v 0)]⟩, ⟨none, none, (.prim .mv), [(.v 3)]⟩, ⟨none, none, (.prim (.iaS 1)), [(.t 1), (.t 2)]⟩, ⟨none, none, (.prim .load1), [(.t 3)]⟩, ⟨none, none, .call, [(.c (.fn (.func 16) [])), (.t 0), (.t 4)]⟩, ⟨none, none, (.prim .mv), [(.t 5)]⟩, ⟨none, none, (.prim (.extract 0)), [(.t 6)]⟩, ⟨none, none, (.prim (.extract 1)), [(.t 6)]⟩, ⟨(.some 4), none, (.prim .mv), [(.t 7)]⟩, ⟨none, none, (.prim .mv), [(.t 8)]⟩])
 (.region [⟨none, none, (.prim .mv), [(.v 2)]⟩, ⟨none, none, (.prim .mv), [(.v 4)]⟩, ⟨none, none, (.prim (.bslice 1 1 [(.cv (.int .i64 0))] [(0, 1)])), [(.t 1)]⟩, ⟨none, none, (.prim (.append 1 8)), [(.t 0), (.t 2)]⟩, ⟨(.some 2), none, (.prim .mv), [(.t 3)]⟩])))
 (.region [⟨none, none, (.prim .mv), [(.v 3)]⟩, ⟨none, none, (.prim (.bin .add .int)), [(.t 0), (.c (.cv (.int .i64 1)))]⟩, ⟨(.some 3), none, (.prim .mv), [(.t 1)]⟩])))
def ic42 : IC := (.seq (.region [⟨(.some 1), none, (.prim .mv), [(.c (.cv .nils))]⟩])
 (.seq (.region [⟨(.some 2), none, (.prim .mv), [(.c (.cv .nils))]⟩])
 (.seq (.seq (.region [⟨(.some 3), none, (.prim .mv), [(.c (.cv (.int .i64 0)))]⟩])
 (.block 0 (.loop ic42l0)))
 (.seq (.region [⟨none, none, (.prim .mv), [(.v 2)]⟩, ⟨(.some 1), none, (.prim .mv), [(.t 0)]⟩])
 .ret))))
theorem cc42 : compC Try.prog vs42 Try.f42.ntmps (Try.f42.body.getD .skip) = some ic42 := by kernel_rfl
abbrev rs42 : List RC := [(.v 1)]
theorem fok42 (p : Bool) : FnOk Try.prog 42 ⟨ic42, vs42, 27, rs42, p⟩ := FnOk.mk' Try.func42 hb42 (by kernel_rfl) cc42 (by kernel_rfl) (by kernel_rfl)

theorem hb43 : Try.f43.body = some (Try.f43.body.getD .skip) := by kernel_rfl
abbrev vs43 : List Nat := [0, 1, 2, 4, 5, 6, 7, 8, 9, 10, 15, 20, 27, 34, 53]
def ic43l0 : IC := (.seq (.seq (.region [⟨none, none, (.prim .mv), [(.v 9)]⟩, ⟨none, none, (.prim (.fadd 1)), [(.v 2)]⟩, ⟨none, none, (.prim .load1), [(.t 1)]⟩, ⟨none, none, (.prim (.len false)), [(.t 2)]⟩, ⟨(.some 13), none, (.prim (.bin .lss .int)), [(.t 0), (.t 3)]⟩])
 (.cond 13 .skip
 (.exit 4)))
 (.seq (.block 5 (.region [⟨none, none, (.prim .mv), [(.v 8)]⟩, ⟨none, none, (.prim .mv), [(.t 0)]⟩, ⟨none, (.some (1, false)), (.prim .mv), [(.v 1)]⟩, ⟨none, (.some (1, false)), (.prim .mv), [(.v 9)]⟩, ⟨none, (.some (1, false)), .call, [(.c (.fn (.func 45) [])), (.t 2), (.t 3)]⟩, ⟨none, (.some (1, false)), (.prim .mv), [(.t 4)]⟩, ⟨none, (.some (5, true)), (.prim (.fadd 1)), [(.v 2)]⟩, ⟨none, (.some (5, true)), (.prim .load1), [(.t 6)]⟩, ⟨none, (.some (5, true)), (.prim .mv), [(.v 9)]⟩, ⟨none, (.some (5, true)), (.prim (.iaS 1)), [(.t 7), (.t 8)]⟩, ⟨none, (.some (5, true)), (.prim .load1), [(.t 9)]⟩, ⟨none, (.some (5, true)), (.prim .mv), [(.v 7)]⟩, ⟨none, (.some (5, true)), .call, [(.c (.fn (.func 45) [])), (.t 10), (.t 11)]⟩, ⟨none, (.some (5, true)), (.prim .not), [(.t 12)]⟩, ⟨none, (.some (1, false)), (.prim .pick), [(.t 5), (.t 13), (.c (.cv (.bool false)))]⟩, ⟨none, none, (.prim .pick), [(.t 1), (.c (.cv (.bool true))), (.t 14)]⟩, ⟨(.some 8), none, (.prim .mv), [(.t 15)]⟩]))
 (.region [⟨none, none, (.prim .mv), [(.v 9)]⟩, ⟨none, none, (.prim (.bin .add .int)), [(.t 0), (.c (.cv (.int .i64 1)))]⟩, ⟨(.some 9), none, (.prim .mv), [(.t 1)]⟩])))
def ic43l1 : IC := (.seq (.seq (.region [⟨none, none, (.prim .mv), [(.v 7)]⟩, ⟨none, none, (.prim (.fadd 0)), [(.v 2)]⟩, ⟨none, none, (.prim .load1), [(.t 1)]⟩, ⟨none, none, (.prim (.len false)), [(.t 2)]⟩, ⟨(.some 12), none, (.prim (.bin .lss .int)), [(.t 0), (.t 3)]⟩])
 (.cond 12 .skip
 (.exit 2)))
 (.seq (.block 3 (.seq (.region [⟨(.some 8), none, (.prim .mv), [(.c (.cv (.bool false)))]⟩])
 (.seq (.seq (.region [⟨(.some 9), none, (.prim .mv), [(.c (.cv (.int .i64 0)))]⟩])
 (.block 4 (.loop ic43l0)))
 (.seq (.region [⟨(.some 14), none, (.prim .mv), [(.v 8)]⟩])
 (.cond 14 (.region [⟨none, none, (.prim .mv), [(.v 5)]⟩, ⟨none, none, (.prim (.fadd 0)), [(.v 2)]⟩, ⟨none, none, (.prim .load1), [(.t 1)]⟩, ⟨none, none, (.prim .mv), [(.v 7)]⟩, ⟨none, none, (.prim (.iaS 1)), [(.t 2), (.t 3)]⟩, ⟨none, none, (.prim .load1), [(.t 4)]⟩, ⟨none, none, (.prim (.bin .add .int)), [(.t 0), (.t 5)]⟩, ⟨(.some 5), none, (.prim .mv), [(.t 6)]⟩])
 .skip)))))
 (.region [⟨none, none, (.prim .mv), [(.v 7)]⟩, ⟨none, none, (.prim (.bin .add .int)), [(.t 0), (.c (.cv (.int .i64 1)))]⟩, ⟨(.some 7), none, (.prim .mv), [(.t 1)]⟩])))
def ic43l2 : IC := (.seq (.seq (.region [⟨none, none, (.prim .mv), [(.v 6)]⟩, ⟨none, none, (.prim (.fadd 1)), [(.v 2)]⟩, ⟨none, none, (.prim .load1), [(.t 1)]⟩, ⟨none, none, (.prim (.len false)), [(.t 2)]⟩, ⟨(.some 10), none, (.prim (.bin .lss .int)), [(.t 0), (.t 3)]⟩])
 (.cond 10 .skip
 (.exit 0)))
 (.seq (.block 1 (.seq (.region [⟨none, none, (.prim .mv), [(.v 1)]⟩, ⟨none, none, (.prim .mv), [(.v 6)]⟩, ⟨(.some 11), none, .call, [(.c (.fn (.func 45) [])), (.t 0), (.t 1)]⟩])
 (.cond 11 (.region [⟨none, none, (.prim .mv), [(.v 4)]⟩, ⟨none, none, (.prim (.bin .add .int)), [(.t 0), (.c (.cv (.int .i64 1)))]⟩, ⟨(.some 4), none, (.prim .mv), [(.t 1)]⟩])
 .skip)))
 (.region [⟨none, none, (.prim .mv), [(.v 6)]⟩, ⟨none, none, (.prim (.bin .add .int)), [(.t 0), (.c (.cv (.int .i64 1)))]⟩, ⟨(.some 6), none, (.prim .mv), [(.t 1)]⟩])))
def ic43 : IC := (.seq (.region [⟨(.some 2), none, (.prim .box), [(.v 0)]⟩, ⟨(.some 3), none, (.prim .mv), [(.c (.cv (.bool false)))]⟩])
 (.seq (.region [⟨(.some 4), none, (.prim .mv), [(.c (.cv (.int .i64 0)))]⟩, ⟨(.some 5), none, (.prim .mv), [(.c (.cv (.int .i64 0)))]⟩])
 (.seq (.seq (.region [⟨(.some 6), none, (.prim .mv), [(.c (.cv (.int .i64 0)))]⟩])
 (.block 0 (.loop ic43l2)))
 (.seq (.seq (.region [⟨(.some 7), none, (.prim .mv), [(.c (.cv (.int .i64 0)))]⟩])
 (.block 2 (.loop ic43l1)))
 (.seq (.region [⟨none, none, (.prim .mv), [(.v 5)]⟩, ⟨none, none, (.prim .mv), [(.v 4)]⟩, ⟨none, none, (.prim (.bin .lss .int)), [(.t 0), (.t 1)]⟩, ⟨(.some 3), none, (.prim .mv), [(.t 2)]⟩])
 .ret)))))
theorem cc43 : compC Try.prog vs43 Try.f43.ntmps (Try.f43.body.getD .skip) = some ic43 := by kernel_rfl
abbrev rs43 : List RC := [(.v 3)]
theorem fok43 (p : Bool) : FnOk Try.prog 43 ⟨ic43, vs43, 64, rs43, p⟩ := FnOk.mk' Try.func43 hb43 (by kernel_rfl) cc43 (by kernel_rfl) (by kernel_rfl)

theorem hb44 : Try.f44.body = some (Try.f44.body.getD .skip) := by kernel_rfl
abbrev vs44 : List Nat := [0, 2, 3, 4, 7]
def ic44l0 : IC := (.seq (.seq (.region [⟨none, none, (.prim .mv), [(.v 3)]⟩, ⟨none, none, (.prim .mv), [(.v 0)]⟩, ⟨(.some 4), none, (.prim (.bin .lss .int)), [(.t 0), (.t 1)]⟩])
 (.cond 4 .skip
 (.exit 0)))
 (.seq (.block 1 (.region [⟨none, none, (.prim .mv), [(.v 2)]⟩, ⟨none, none, (.prim (.bin .mul .int)), [(.c (.cv (.int .i64 2))), (.t 0)]⟩, ⟨(.some 2), none, (.prim .mv), [(.t 1)]⟩]))
 (.region [⟨none, none, (.prim .mv), [(.v 3)]⟩, ⟨none, none, (.prim (.bin .add .int)), [(.t 0), (.c (.cv (.int .i64 1)))]⟩, ⟨(.some 3), none, (.prim .mv), [(.t 1)]⟩])))
def ic44 : IC := (.seq (.region [⟨(.some 1), none, (.prim .mv), [(.c (.cv (.int .i64 0)))]⟩])
 (.seq (.region [⟨(.some 2), none, (.prim .mv), [(.c (.cv (.int .i64 1)))]⟩])
 (.seq (.seq (.region [⟨(.some 3), none, (.prim .mv), [(.c (.cv (.int .i64 0)))]⟩])
 (.block 0 (.loop ic44l0)))
 (.seq (.region [⟨none, none, (.prim .mv), [(.v 2)]⟩, ⟨(.some 1), none, (.prim .mv), [(.t 0)]⟩])
 .ret))))
theorem cc44 : compC Try.prog vs44 Try.f44.ntmps (Try.f44.body.getD .skip) = some ic44 := by kernel_rfl
abbrev rs44 : List RC := [(.v 1)]
theorem fok44 (p : Bool) : FnOk Try.prog 44 ⟨ic44, vs44, 13, rs44, p⟩ := FnOk.mk' Try.func44 hb44 (by kernel_rfl) cc44 (by kernel_rfl) (by kernel_rfl)

theorem hb45 : Try.f45.body = some (Try.f45.body.getD .skip) := by kernel_rfl
abbrev vs45 : List Nat := [0, 1, 4]
def ic45 : IC := (.seq (.region [⟨(.some 2), none, (.prim .mv), [(.c (.cv (.bool false)))]⟩])
 (.seq (.region [⟨none, none, (.prim .mv), [(.v 0)]⟩, ⟨none, none, (.prim .mv), [(.v 1)]⟩, ⟨none, none, .call, [(.c (.fn (.func 44) [])), (.t 1)]⟩, ⟨none, none, (.prim (.bin .quo .int)), [(.t 0), (.t 2)]⟩, ⟨none, none, (.prim (.bin .rem .int)), [(.t 3), (.c (.cv (.int .i64 2)))]⟩, ⟨none, none, (.prim (.bin .eql .int)), [(.t 4), (.c (.cv (.int .i64 1)))]⟩, ⟨(.some 2), none, (.prim .mv), [(.t 5)]⟩])
 .ret))
theorem cc45 : compC Try.prog vs45 Try.f45.ntmps (Try.f45.body.getD .skip) = some ic45 := by kernel_rfl
abbrev rs45 : List RC := [(.v 2)]
theorem fok45 (p : Bool) : FnOk Try.prog 45 ⟨ic45, vs45, 11, rs45, p⟩ := FnOk.mk' Try.func45 hb45 (by kernel_rfl) cc45 (by kernel_rfl) (by kernel_rfl)

theorem hb46 : Try.f46.body = some (Try.f46.body.getD .skip) := by kernel_rfl
abbrev vs46 : List Nat := [0, 1, 4, 7]
def ic46 : IC := (.seq (.region [⟨(.some 2), none, (.prim .mv), [(.c (.cv (.int .i64 0)))]⟩])
 (.seq (.seq (.region [⟨none, none, (.prim .mv), [(.v 0)]⟩, ⟨none, none, (.prim (.len false)), [(.t 0)]⟩, ⟨(.some 3), none, (.prim (.bin .eql .int)), [(.t 1), (.c (.cv (.int .i64 0)))]⟩])
 (.cond 3 (.seq (.region [⟨(.some 2), none, (.prim .mv), [(.c (.cv (.int .i64 0)))]⟩])
 .ret)
 .skip))
 (.seq (.region [⟨none, none, (.prim .mv), [(.v 0)]⟩, ⟨none, none, (.prim .mv), [(.v 1)]⟩, ⟨none, none, (.prim .mv), [(.v 0)]⟩, ⟨none, none, (.prim (.len false)), [(.t 2)]⟩, ⟨none, none, (.prim (.bin .rem .int)), [(.t 1), (.t 3)]⟩, ⟨none, none, (.prim (.iaS 1)), [(.t 0), (.t 4)]⟩, ⟨none, none, (.prim .load1), [(.t 5)]⟩, ⟨none, none, (.prim (.conv .i64)), [(.t 6)]⟩, ⟨(.some 2), none, (.prim .mv), [(.t 7)]⟩])
 .ret)))
theorem cc46 : compC Try.prog vs46 Try.f46.ntmps (Try.f46.body.getD .skip) = some ic46 := by kernel_rfl
abbrev rs46 : List RC := [(.v 2)]
theorem fok46 (p : Bool) : FnOk Try.prog 46 ⟨ic46, vs46, 16, rs46, p⟩ := FnOk.mk' Try.func46 hb46 (by kernel_rfl) cc46 (by kernel_rfl) (by kernel_rfl)

theorem hb47 : Try.f47.body = some (Try.f47.body.getD .skip) := by kernel_rfl
abbrev vs47 : List Nat := [0, 1, 2, 3, 4, 6]
def ic47 : IC := (.seq (.region [⟨(.some 3), none, (.prim .box), [(.v 0)]⟩, ⟨(.some 4), none, (.prim .box), [(.v 1)]⟩, ⟨(.some 5), none, (.prim .mv), [(.c (.cv (.bool false)))]⟩])
 (.seq (.region [⟨none, none, (.prim .mv), [(.v 2)]⟩, ⟨none, none, (.prim (.mkfn (.func 73))), [(.v 3), (.v 4)]⟩, ⟨none, none, .call, [(.c (.fn (.func 72) [])), (.t 0), (.t 1)]⟩, ⟨(.some 5), none, (.prim .mv), [(.t 2)]⟩])
 .ret))
theorem cc47 : compC Try.prog vs47 Try.f47.ntmps (Try.f47.body.getD .skip) = some ic47 := by kernel_rfl
abbrev rs47 : List RC := [(.v 5)]
theorem fok47 (p : Bool) : FnOk Try.prog 47 ⟨ic47, vs47, 10, rs47, p⟩ := FnOk.mk' Try.func47 hb47 (by kernel_rfl) cc47 (by kernel_rfl) (by kernel_rfl)

theorem hb48 : Try.f48.body = some (Try.f48.body.getD .skip) := by kernel_rfl
abbrev vs48 : List Nat := [0, 1, 2, 6]
def ic48 : IC := (.seq (.region [⟨(.some 3), none, (.prim .mv), [(.c (.cv (.bool false)))]⟩])
 (.seq (.region [⟨none, none, (.prim .mv), [(.v 0)]⟩, ⟨none, none, (.prim .mv), [(.v 1)]⟩, ⟨none, none, (.prim (.bin .geq .int)), [(.t 0), (.t 1)]⟩, ⟨none, none, (.prim .mv), [(.t 2)]⟩, ⟨none, (.some (3, true)), (.prim .mv), [(.v 0)]⟩, ⟨none, (.some (3, true)), (.prim .mv), [(.v 2)]⟩, ⟨none, (.some (3, true)), (.prim (.bin .leq .int)), [(.t 4), (.t 5)]⟩, ⟨none, none, (.prim .pick), [(.t 3), (.t 6), (.c (.cv (.bool false)))]⟩, ⟨(.some 3), none, (.prim .mv), [(.t 7)]⟩])
 .ret))
theorem cc48 : compC Try.prog vs48 Try.f48.ntmps (Try.f48.body.getD .skip) = some ic48 := by kernel_rfl
abbrev rs48 : List RC := [(.v 3)]
theorem fok48 (p : Bool) : FnOk Try.prog 48 ⟨ic48, vs48, 15, rs48, p⟩ := FnOk.mk' Try.func48 hb48 (by kernel_rfl) cc48 (by kernel_rfl) (by kernel_rfl)

theorem hb49 : Try.f49.body = some (Try.f49.body.getD .skip) := by kernel_rfl
abbrev vs49 : List Nat := [0, 1, 4, 5, 6, 14]
def ic49l0 : IC := (.seq (.seq (.region [⟨none, none, (.prim .mv), [(.v 4)]⟩, ⟨(.some 5), none, (.prim (.bin .lss .int)), [(.t 0), (.c (.cv (.int .i64 2)))]⟩])
 (.cond 5 .skip
 (.exit 0)))
 (.seq (.block 1 (.region [⟨none, none, (.prim .mv), [(.v 3)]⟩, ⟨none, none, (.prim .mv), [(.v 3)]⟩, ⟨none, none, (.prim (.bin .mul .int)), [(.t 0), (.t 1)]⟩, ⟨none, none, (.prim (.bin .add .int)), [(.t 2), (.c (.cv (.int .i64 12345)))]⟩, ⟨none, none, (.prim (.bin .rem .int)), [(.t 3), (.c (.cv (.int .i64 2147483647)))]⟩, ⟨(.some 3), none, (.prim .mv), [(.t 4)]⟩]))
 (.region [⟨none, none, (.prim .mv), [(.v 4)]⟩, ⟨none, none, (.prim (.bin .add .int)), [(.t 0), (.c (.cv (.int .i64 1)))]⟩, ⟨(.some 4), none, (.prim .mv), [(.t 1)]⟩])))
def ic49 : IC := (.seq (.region [⟨(.some 2), none, (.prim .mv), [(.c (.cv (.int .i64 0)))]⟩])
 (.seq (.region [⟨none, none, (.prim .mv), [(.v 1)]⟩, ⟨none, none, (.prim (.bin .add .int)), [(.t 0), (.c (.cv (.int .i64 1)))]⟩, ⟨none, none, (.prim .mv), [(.v 0)]⟩, ⟨none, none, (.prim (.bin .mul .int)), [(.c (.cv (.int .i64 7))), (.t 2)]⟩, ⟨none, none, (.prim (.bin .add .int)), [(.t 1), (.t 3)]⟩, ⟨none, none, (.prim (.bin .rem .int)), [(.t 4), (.c (.cv (.int .i64 2147483647)))]⟩, ⟨(.some 3), none, (.prim .mv), [(.t 5)]⟩])
 (.seq (.seq (.region [⟨(.some 4), none, (.prim .mv), [(.c (.cv (.int .i64 0)))]⟩])
 (.block 0 (.loop ic49l0)))
 (.seq (.region [⟨none, none, (.prim .mv), [(.v 3)]⟩, ⟨(.some 2), none, (.prim .mv), [(.t 0)]⟩])
 .ret))))
theorem cc49 : compC Try.prog vs49 Try.f49.ntmps (Try.f49.body.getD .skip) = some ic49 := by kernel_rfl
abbrev rs49 : List RC := [(.v 2)]
theorem fok49 (p : Bool) : FnOk Try.prog 49 ⟨ic49, vs49, 23, rs49, p⟩ := FnOk.mk' Try.func49 hb49 (by kernel_rfl) cc49 (by kernel_rfl) (by kernel_rfl)

theorem hb50 : Try.f50.body = some (Try.f50.body.getD .skip) := by kernel_rfl
abbrev vs50 : List Nat := [0, 2, 3, 8]
def ic50 : IC := (.seq (.region [⟨(.some 1), none, (.prim .mv), [(.c (.cv (.int .i64 0)))]⟩])
 (.seq (.block 0 (.seq (.region [⟨none, none, (.prim .mv), [(.v 0)]⟩, ⟨none, none, (.prim (.len false)), [(.t 0)]⟩, ⟨none, none, (.prim (.bslice 1 1 [(.cv (.int .i64 0))] [(0, 1)])), [(.t 1)]⟩, ⟨none, none, .call, [(.c (.fn (.func 47) [])), (.c (.cv (.int .i64 1))), (.c (.cv (.int .i64 8))), (.t 2)]⟩, ⟨(.some 2), none, (.prim .mv), [(.t 3)]⟩])
 (.cond 2 (.seq (.region [⟨(.some 1), none, (.prim .mv), [(.c (.cv (.int .i64 3)))]⟩])
 .ret)
 (.seq (.region [⟨none, none, (.prim .mv), [(.v 0)]⟩, ⟨none, none, .call, [(.c (.fn (.func 47) [])), (.c (.cv (.int .i64 0))), (.c (.cv (.int .i64 1000000000))), (.t 0)]⟩, ⟨(.some 3), none, (.prim .mv), [(.t 1)]⟩])
 (.cond 3 (.seq (.region [⟨(.some 1), none, (.prim .mv), [(.c (.cv (.int .i64 7)))]⟩])
 .ret)
 .skip)))))
 (.seq (.region [⟨(.some 1), none, (.prim .mv), [(.c (.cv (.int .i64 0)))]⟩])
 .ret)))
theorem cc50 : compC Try.prog vs50 Try.f50.ntmps (Try.f50.body.getD .skip) = some ic50 := by kernel_rfl
abbrev rs50 : List RC := [(.v 1)]
theorem fok50 (p : Bool) : FnOk Try.prog 50 ⟨ic50, vs50, 11, rs50, p⟩ := FnOk.mk' Try.func50 hb50 (by kernel_rfl) cc50 (by kernel_rfl) (by kernel_rfl)

theorem hb51 : Try.f51.body = some (Try.f51.body.getD .skip) := by kernel_rfl
abbrev vs51 : List Nat := [0, 1, 4, 5, 6, 17, 25, 33]
def ic51l0 : IC := (.seq (.seq (.region [⟨none, none, (.prim .mv), [(.v 4)]⟩, ⟨none, none, (.prim .mv), [(.v 0)]⟩, ⟨none, none, (.prim (.len false)), [(.t 1)]⟩, ⟨none, none, (.prim (.bin .lss .int)), [(.t 0), (.t 2)]⟩, ⟨none, none, (.prim .mv), [(.t 3)]⟩, ⟨none, (.some (4, true)), (.prim .mv), [(.v 3)]⟩, ⟨none, (.some (4, true)), (.prim (.bin .eql .int)), [(.t 5), (.c (.cv (.int .i64 0)))]⟩, ⟨(.some 6), none, (.prim .pick), [(.t 4), (.t 6), (.c (.cv (.bool false)))]⟩])
 (.cond 6 .skip
 (.exit 0)))
 (.seq (.block 1 (.seq (.region [⟨none, none, (.prim .mv), [(.v 0)]⟩, ⟨none, none, (.prim .mv), [(.v 4)]⟩, ⟨none, none, (.prim (.iaS 1)), [(.t 0), (.t 1)]⟩, ⟨none, none, (.prim .load1), [(.t 2)]⟩, ⟨none, none, .call, [(.c (.fn (.func 48) [])), (.t 3), (.c (.cv (.int .i64 0))), (.c (.cv (.int .i64 2147483646)))]⟩, ⟨(.some 7), none, (.prim .not), [(.t 4)]⟩])
 (.cond 7 (.region [⟨(.some 3), none, (.prim .mv), [(.c (.cv (.int .i64 7)))]⟩])
 .skip)))
 (.region [⟨none, none, (.prim .mv), [(.v 4)]⟩, ⟨none, none, (.prim (.bin .add .int)), [(.t 0), (.c (.cv (.int .i64 1)))]⟩, ⟨(.some 4), none, (.prim .mv), [(.t 1)]⟩])))
def ic51 : IC := (.seq (.region [⟨(.some 2), none, (.prim .mv), [(.c (.cv (.int .i64 0)))]⟩])
 (.seq (.region [⟨none, none, (.prim .mv), [(.v 1)]⟩, ⟨none, none, .call, [(.c (.fn (.func 41) [])), (.t 0)]⟩, ⟨(.some 3), none, (.prim .mv), [(.t 1)]⟩])
 (.seq (.seq (.region [⟨none, none, (.prim .mv), [(.v 3)]⟩, ⟨none, none, (.prim (.bin .eql .int)), [(.t 0), (.c (.cv (.int .i64 0)))]⟩, ⟨none, none, (.prim .mv), [(.t 1)]⟩, ⟨none, (.some (2, true)), (.prim .mv), [(.v 0)]⟩, ⟨none, (.some (2, true)), (.prim (.len false)), [(.t 3)]⟩, ⟨none, (.some (2, true)), (.prim .mv), [(.v 1)]⟩, ⟨none, (.some (2, true)), (.prim (.len false)), [(.t 5)]⟩, ⟨none, (.some (2, true)), (.prim (.bin .neq .int)), [(.t 4), (.t 6)]⟩, ⟨(.some 5), none, (.prim .pick), [(.t 2), (.t 7), (.c (.cv (.bool false)))]⟩])
 (.cond 5 (.region [⟨(.some 3), none, (.prim .mv), [(.c (.cv (.int .i64 3)))]⟩])
 .skip))
 (.seq (.seq (.region [⟨(.some 4), none, (.prim .mv), [(.c (.cv (.int .i64 0)))]⟩])
 (.block 0 (.loop ic51l0)))
 (.seq (.region [⟨none, none, (.prim .mv), [(.v 3)]⟩, ⟨(.some 2), none, (.prim .mv), [(.t 0)]⟩])
 .ret)))))
theorem cc51 : compC Try.prog vs51 Try.f51.ntmps (Try.f51.body.getD .skip) = some ic51 := by kernel_rfl
abbrev rs51 : List RC := [(.v 2)]
theorem fok51 (p : Bool) : FnOk Try.prog 51 ⟨ic51, vs51, 35, rs51, p⟩ := FnOk.mk' Try.func51 hb51 (by kernel_rfl) cc51 (by kernel_rfl) (by kernel_rfl)

theorem hb52 : Try.f52.body = some (Try.f52.body.getD .skip) := by kernel_rfl
abbrev vs52 : List Nat := [0, 1, 4, 5, 6, 10, 23]
def ic52l0 : IC := (.seq (.seq (.region [⟨none, none, (.prim .mv), [(.v 4)]⟩, ⟨none, none, (.prim .mv), [(.v 1)]⟩, ⟨none, none, (.prim (.len false)), [(.t 1)]⟩, ⟨(.some 5), none, (.prim (.bin .lss .int)), [(.t 0), (.t 2)]⟩])
 (.cond 5 .skip
 (.exit 0)))
 (.seq (.block 1 (.seq (.draw [[], [], [], [1, 2], [3], [0, 4], [], [], [6, 7], [8], [5, 9]] [⟨none, none, (.prim .mv), [(.v 4)]⟩, ⟨none, none, (.prim .mv), [(.v 1)]⟩, ⟨none, none, (.prim .mv), [(.v 4)]⟩, ⟨none, none, (.prim (.iaS 1)), [(.t 1), (.t 2)]⟩, ⟨none, none, (.prim .load1), [(.t 3)]⟩, ⟨none, none, .call, [(.c (.fn (.func 49) [])), (.t 0), (.t 4)]⟩, ⟨none, none, (.prim .mv), [(.v 0)]⟩, ⟨none, none, (.prim .mv), [(.v 4)]⟩, ⟨none, none, (.prim (.iaS 1)), [(.t 6), (.t 7)]⟩, ⟨none, none, (.prim .load1), [(.t 8)]⟩, ⟨(.some 6), none, (.prim (.bin .neq .int)), [(.t 5), (.t 9)]⟩] [[], [], [], [1, 2], [3, 1, 2], [0, 4, 3, 1, 2], [], [], [6, 7], [8, 6, 7], [5, 9, 0, 4, 3, 1, 2, 8, 6, 7]])
 (.cond 6 (.region [⟨none, none, (.prim .mv), [(.v 3)]⟩, ⟨none, none, (.prim .mv), [(.v 4)]⟩, ⟨none, none, (.prim (.bslice 1 1 [(.cv (.int .i64 0))] [(0, 1)])), [(.t 1)]⟩, ⟨none, none, (.prim (.append 1 8)), [(.t 0), (.t 2)]⟩, ⟨(.some 3), none, (.prim .mv), [(.t 3)]⟩])
 .skip)))
 (.region [⟨none, none, (.prim .mv), [(.v 4)]⟩, ⟨none, none, (.prim (.bin .add .int)), [(.t 0), (.c (.cv (.int .i64 1)))]⟩, ⟨(.some 4), none, (.prim .mv), [(.t 1)]⟩])))
def ic52 : IC := (.seq (.region [⟨(.some 2), none, (.prim .mv), [(.c (.cv .nils))]⟩])
 (.seq (.region [⟨(.some 3), none, (.prim .mv), [(.c (.cv .nils))]⟩])
 (.seq (.seq (.region [⟨(.some 4), none, (.prim .mv), [(.c (.cv (.int .i64 0)))]⟩])
 (.block 0 (.loop ic52l0)))
 (.seq (.region [⟨none, none, (.prim .mv), [(.v 3)]⟩, ⟨(.some 2), none, (.prim .mv), [(.t 0)]⟩])
 .ret))))
theorem cc52 : compC Try.prog vs52 Try.f52.ntmps (Try.f52.body.getD .skip) = some ic52 := by kernel_rfl
abbrev rs52 : List RC := [(.v 2)]
theorem fok52 (p : Bool) : FnOk Try.prog 52 ⟨ic52, vs52, 29, rs52, p⟩ := FnOk.mk' Try.func52 hb52 (by kernel_rfl) cc52 (by kernel_rfl) (by kernel_rfl)

theorem hb53 : Try.f53.body = some (Try.f53.body.getD .skip) := by kernel_rfl
abbrev vs53 : List Nat := [0, 1, 2, 3, 6]
def ic53 : IC := (.seq (.region [⟨(.some 1), none, (.prim .box), [(.v 0)]⟩, ⟨(.some 2), none, (.prim .mv), [(.c (.cv .nilp))]⟩, ⟨(.some 3), none, (.prim .mv), [(.c (.cv (.int .i64 0)))]⟩])
 (.seq (.region [⟨none, none, (.prim (.loadN 2)), [(.v 1)]⟩, ⟨none, none, .call, [(.c (.fn (.func 24) [])), (.t 0)]⟩, ⟨none, none, (.prim .mv), [(.t 1)]⟩, ⟨none, none, (.prim (.extract 0)), [(.t 2)]⟩, ⟨none, none, (.prim (.extract 1)), [(.t 2)]⟩, ⟨none, none, (.prim (.extract 2)), [(.t 2)]⟩, ⟨none, none, (.prim .mv), [(.t 3)]⟩, ⟨none, none, (.prim .mv), [(.t 4)]⟩, ⟨(.some 4), none, (.prim .mv), [(.t 5)]⟩])
 (.seq (.region [⟨none, none, (.prim (.loadN 2)), [(.v 1)]⟩, ⟨none, none, (.prim .mkmap), []⟩, ⟨none, none, (.prim (.build [(.cv .nils), (.cv .nils), (.cv .nilm)] [(0, 2), (2, 1)])), [(.t 0), (.t 1)]⟩, ⟨none, none, (.prim .box), [(.t 2)]⟩, ⟨none, none, (.prim .mv), [(.v 4)]⟩, ⟨(.some 2), none, (.prim .mv), [(.t 3)]⟩, ⟨(.some 3), none, (.prim .mv), [(.t 4)]⟩])
 .ret)))
theorem cc53 : compC Try.prog vs53 Try.f53.ntmps (Try.f53.body.getD .skip) = some ic53 := by kernel_rfl
abbrev rs53 : List RC := [(.v 2), (.v 3)]
theorem fok53 (p : Bool) : FnOk Try.prog 53 ⟨ic53, vs53, 18, rs53, p⟩ := FnOk.mk' Try.func53 hb53 (by kernel_rfl) cc53 (by kernel_rfl) (by kernel_rfl)

theorem hb54 : Try.f54.body = some (Try.f54.body.getD .skip) := by kernel_rfl
abbrev vs54 : List Nat := [0, 1, 2, 3, 4, 5]
def ic54 : IC := (.seq (.region [⟨(.some 2), none, (.prim .box), [(.v 0)]⟩, ⟨(.some 3), none, (.prim .box), [(.v 1)]⟩, ⟨(.some 4), none, (.prim .mv), [(.c (.cv (.int .i64 0)))]⟩])
 (.seq (.region [⟨(.some 5), none, (.prim (.alloc [(.cv .nilf)])), []⟩])
 (.seq (.region [⟨none, none, (.prim (.mkfn (.func 74))), [(.v 2), (.v 5)]⟩, ⟨none, none, (.prim (.store 1)), [(.v 5), (.t 0)]⟩])
 (.seq (.region [⟨none, none, (.prim .load1), [(.v 5)]⟩, ⟨none, none, (.prim (.loadN 7)), [(.v 3)]⟩, ⟨none, none, .call, [(.t 0), (.t 1)]⟩, ⟨(.some 4), none, (.prim .mv), [(.t 2)]⟩])
 .ret))))
theorem cc54 : compC Try.prog vs54 Try.f54.ntmps (Try.f54.body.getD .skip) = some ic54 := by kernel_rfl
abbrev rs54 : List RC := [(.v 4)]
theorem fok54 (p : Bool) : FnOk Try.prog 54 ⟨ic54, vs54, 10, rs54, p⟩ := FnOk.mk' Try.func54 hb54 (by kernel_rfl) cc54 (by kernel_rfl) (by kernel_rfl)

theorem hb55 : Try.f55.body = some (Try.f55.body.getD .skip) := by kernel_rfl
abbrev vs55 : List Nat := [0, 2]
def ic55 : IC := (.seq (.region [⟨(.some 1), none, (.prim (.alloc [(.cv (.int .i64 0)), (.cv (.int .i64 0)), (.cv (.int .i64 0)), (.cv (.int .i64 0)), (.cv (.int .i64 0)), (.cv (.int .i64 0)), (.cv (.int .i64 0))])), []⟩])
 (.seq (.draw [[], [0], [], [2], [3], [4], [5], [1, 6]] [⟨none, none, (.prim (.fadd 1)), [(.v 1)]⟩, ⟨none, none, (.prim (.slA 6 1 false false)), [(.t 0)]⟩, ⟨none, none, (.prim .mv), [(.v 0)]⟩, ⟨none, none, (.prim .nilck), [(.t 2)]⟩, ⟨none, none, (.prim (.fadd 0)), [(.t 3)]⟩, ⟨none, none, (.prim (.fadd 0)), [(.t 4)]⟩, ⟨none, none, (.prim .load1), [(.t 5)]⟩, ⟨none, none, (.prim (.copy 1)), [(.t 1), (.t 6)]⟩] [[], [0], [], [2], [3, 2], [4, 3, 2], [5, 4, 3, 2], [1, 6, 0, 5, 4, 3, 2]])
 (.seq (.region [⟨none, none, (.prim (.loadN 7)), [(.v 1)]⟩, ⟨none, none, (.prim (.store 7)), [(.v 1), (.t 0)]⟩])
 .ret)))
theorem cc55 : compC Try.prog vs55 Try.f55.ntmps (Try.f55.body.getD .skip) = some ic55 := by kernel_rfl
abbrev rs55 : List RC := [(.lN 1 7)]
theorem fok55 (p : Bool) : FnOk Try.prog 55 ⟨ic55, vs55, 12, rs55, p⟩ := FnOk.mk' Try.func55 hb55 (by kernel_rfl) cc55 (by kernel_rfl) (by kernel_rfl)

theorem hb56 : Try.f56.body = some (Try.f56.body.getD .skip) := by kernel_rfl
abbrev vs56 : List Nat := [0, 1, 2, 3, 4, 8, 9, 10, 11, 12, 17, 21, 38, 49, 66]
def ic56l0 : IC := (.seq (.seq (.region [⟨none, none, (.prim .mv), [(.v 9)]⟩, ⟨none, none, (.prim .mv), [(.v 3)]⟩, ⟨none, none, (.prim (.len false)), [(.t 1)]⟩, ⟨(.some 13), none, (.prim (.bin .lss .int)), [(.t 0), (.t 2)]⟩])
 (.cond 13 .skip
 (.exit 2)))
 (.seq (.block 3 (.seq (.region [⟨none, none, (.prim .mv), [(.v 3)]⟩, ⟨none, none, (.prim .mv), [(.v 9)]⟩, ⟨none, none, (.prim (.iaS 1)), [(.t 0), (.t 1)]⟩, ⟨none, none, (.prim .load1), [(.t 2)]⟩, ⟨none, none, (.prim (.bin .gtr .int)), [(.t 3), (.c (.cv (.int .i64 0)))]⟩, ⟨none, none, (.prim .mv), [(.t 4)]⟩, ⟨none, (.some (5, true)), (.prim (.fadd 1)), [(.v 4)]⟩, ⟨none, (.some (5, true)), (.prim .load1), [(.t 6)]⟩, ⟨none, (.some (5, true)), (.prim .mv), [(.v 2)]⟩, ⟨none, (.some (5, true)), (.prim (.iaS 1)), [(.t 7), (.t 8)]⟩, ⟨none, (.some (5, true)), (.prim .load1), [(.t 9)]⟩, ⟨none, (.some (5, true)), (.prim .mv), [(.v 9)]⟩, ⟨none, (.some (5, true)), .call, [(.c (.fn (.func 45) [])), (.t 10), (.t 11)]⟩, ⟨none, (.some (5, true)), (.prim .not), [(.t 12)]⟩, ⟨(.some 14), none, (.prim .pick), [(.t 5), (.t 13), (.c (.cv (.bool false)))]⟩])
 (.cond 14 (.draw [[], [], [], [], [3], [], [], [5, 6], [1, 2, 4, 7, 7], [0, 8], [9, 8, 0, 1, 2, 3, 4, 5, 6, 7, 8, 9]] [⟨none, none, (.prim .mv), [(.v 8)]⟩, ⟨none, none, (.prim (.loadN 2)), [(.v 4)]⟩, ⟨none, none, (.prim .mv), [(.v 1)]⟩, ⟨none, none, (.prim .mv), [(.v 2)]⟩, ⟨none, none, (.prim (.bin .add .int)), [(.t 3), (.c (.cv (.int .i64 1)))]⟩, ⟨none, none, (.prim .mv), [(.v 3)]⟩, ⟨none, none, (.prim .mv), [(.v 9)]⟩, ⟨none, none, .call, [(.c (.fn (.func 61) [])), (.t 5), (.t 6)]⟩, ⟨none, none, .call, [(.c (.fn (.func 56) [])), (.t 1), (.t 2), (.t 4), (.t 7)]⟩, ⟨none, none, (.prim (.bin .add .int)), [(.t 0), (.t 8)]⟩, ⟨(.some 8), none, (.prim .mv), [(.t 9)]⟩] [[], [], [], [], [3], [], [], [5, 6], [1, 2, 4, 7, 3, 5, 6], [0, 8, 1, 2, 4, 7, 3, 5, 6], [9, 8, 0, 1, 2, 3, 4, 5, 6, 7]])
 .skip)))
 (.region [⟨none, none, (.prim .mv), [(.v 9)]⟩, ⟨none, none, (.prim (.bin .add .int)), [(.t 0), (.c (.cv (.int .i64 1)))]⟩, ⟨(.some 9), none, (.prim .mv), [(.t 1)]⟩])))
def ic56l1 : IC := (.seq (.seq (.region [⟨none, none, (.prim .mv), [(.v 7)]⟩, ⟨none, none, (.prim .mv), [(.v 3)]⟩, ⟨none, none, (.prim (.len false)), [(.t 1)]⟩, ⟨(.some 11), none, (.prim (.bin .lss .int)), [(.t 0), (.t 2)]⟩])
 (.cond 11 .skip
 (.exit 0)))
 (.seq (.block 1 (.region [⟨none, none, (.prim .mv), [(.v 6)]⟩, ⟨none, none, (.prim (.bin .mul .int)), [(.t 0), (.c (.cv (.int .i64 5)))]⟩, ⟨none, none, (.prim .mv), [(.v 3)]⟩, ⟨none, none, (.prim .mv), [(.v 7)]⟩, ⟨none, none, (.prim (.iaS 1)), [(.t 2), (.t 3)]⟩, ⟨none, none, (.prim .load1), [(.t 4)]⟩, ⟨none, none, (.prim (.bin .add .int)), [(.t 1), (.t 5)]⟩, ⟨(.some 6), none, (.prim .mv), [(.t 6)]⟩]))
 (.region [⟨none, none, (.prim .mv), [(.v 7)]⟩, ⟨none, none, (.prim (.bin .add .int)), [(.t 0), (.c (.cv (.int .i64 1)))]⟩, ⟨(.some 7), none, (.prim .mv), [(.t 1)]⟩])))
def ic56 : IC := (.seq (.region [⟨(.some 4), none, (.prim .box), [(.v 0)]⟩, ⟨(.some 5), none, (.prim .mv), [(.c (.cv (.int .i64 0)))]⟩])
 (.seq (.seq (.region [⟨none, none, (.prim .mv), [(.v 2)]⟩, ⟨none, none, (.prim (.fadd 1)), [(.v 4)]⟩, ⟨none, none, (.prim .load1), [(.t 1)]⟩, ⟨none, none, (.prim (.len false)), [(.t 2)]⟩, ⟨(.some 10), none, (.prim (.bin .eql .int)), [(.t 0), (.t 3)]⟩])
 (.cond 10 (.seq (.region [⟨(.some 5), none, (.prim .mv), [(.c (.cv (.int .i64 1)))]⟩])
 .ret)
 .skip))
 (.seq (.region [⟨(.some 6), none, (.prim .mv), [(.c (.cv (.int .i64 0)))]⟩])
 (.seq (.seq (.region [⟨(.some 7), none, (.prim .mv), [(.c (.cv (.int .i64 0)))]⟩])
 (.block 0 (.loop ic56l1)))
 (.seq (.seq (.region [⟨none, none, (.prim .mv), [(.v 1)]⟩, ⟨none, none, (.prim .mv), [(.v 2)]⟩, ⟨none, none, (.prim (.iaS 1)), [(.t 0), (.t 1)]⟩, ⟨none, none, (.prim .load1), [(.t 2)]⟩, ⟨none, none, (.prim .mv), [(.v 6)]⟩, ⟨none, none, (.prim (.iaS 1)), [(.t 3), (.t 4)]⟩, ⟨none, none, (.prim .load1), [(.t 5)]⟩, ⟨(.some 12), none, (.prim (.bin .geq .int)), [(.t 6), (.c (.cv (.int .i64 0)))]⟩])
 (.cond 12 (.seq (.region [⟨none, none, (.prim .mv), [(.v 1)]⟩, ⟨none, none, (.prim .mv), [(.v 2)]⟩, ⟨none, none, (.prim (.iaS 1)), [(.t 0), (.t 1)]⟩, ⟨none, none, (.prim .load1), [(.t 2)]⟩, ⟨none, none, (.prim .mv), [(.v 6)]⟩, ⟨none, none, (.prim (.iaS 1)), [(.t 3), (.t 4)]⟩, ⟨none, none, (.prim .load1), [(.t 5)]⟩, ⟨(.some 5), none, (.prim .mv), [(.t 6)]⟩])
 .ret)
 .skip))
 (.seq (.region [⟨(.some 8), none, (.prim .mv), [(.c (.cv (.int .i64 0)))]⟩])
 (.seq (.seq (.region [⟨(.some 9), none, (.prim .mv), [(.c (.cv (.int .i64 0)))]⟩])
 (.block 2 (.loop ic56l0)))
 (.seq (.region [⟨none, none, (.prim .mv), [(.v 1)]⟩, ⟨none, none, (.prim .mv), [(.v 2)]⟩, ⟨none, none, (.prim (.iaS 1)), [(.t 0), (.t 1)]⟩, ⟨none, none, (.prim .load1), [(.t 2)]⟩, ⟨none, none, (.prim .mv), [(.v 6)]⟩, ⟨none, none, (.prim .mv), [(.v 8)]⟩, ⟨none, none, (.prim (.iaS 1)), [(.t 3), (.t 4)]⟩, ⟨none, none, (.prim (.store 1)), [(.t 6), (.t 5)]⟩])
 (.seq (.region [⟨none, none, (.prim .mv), [(.v 8)]⟩, ⟨(.some 5), none, (.prim .mv), [(.t 0)]⟩])
 .ret)))))))))
theorem cc56 : compC Try.prog vs56 Try.f56.ntmps (Try.f56.body.getD .skip) = some ic56 := by kernel_rfl
abbrev rs56 : List RC := [(.v 5)]
theorem fok56 (p : Bool) : FnOk Try.prog 56 ⟨ic56, vs56, 85, rs56, p⟩ := FnOk.mk' Try.func56 hb56 (by kernel_rfl) cc56 (by kernel_rfl) (by kernel_rfl)

theorem hb57 : Try.f57.body = some (Try.f57.body.getD .skip) := by kernel_rfl
abbrev vs57 : List Nat := [0, 1, 2, 3, 4, 5, 6, 7, 12, 24, 34]
def ic57l0 : IC := (.seq (.seq (.region [⟨none, none, (.prim .mv), [(.v 7)]⟩, ⟨none, none, (.prim .mv), [(.v 3)]⟩, ⟨(.some 10), none, (.prim (.bin .lss .int)), [(.t 0), (.t 1)]⟩])
 (.cond 10 .skip
 (.exit 4)))
 (.seq (.block 5 (.region [⟨none, none, (.prim .mv), [(.v 5)]⟩, ⟨none, none, (.prim .mv), [(.v 6)]⟩, ⟨none, none, (.prim (.iaS 1)), [(.t 0), (.t 1)]⟩, ⟨none, none, (.prim .load1), [(.t 2)]⟩, ⟨none, none, (.prim .mv), [(.v 7)]⟩, ⟨none, none, (.prim (.iaS 1)), [(.t 3), (.t 4)]⟩, ⟨none, none, (.prim (.store 1)), [(.t 5), (.c (.cv (.int .i64 (-1))))]⟩]))
 (.region [⟨none, none, (.prim .mv), [(.v 7)]⟩, ⟨none, none, (.prim (.bin .add .int)), [(.t 0), (.c (.cv (.int .i64 1)))]⟩, ⟨(.some 7), none, (.prim .mv), [(.t 1)]⟩])))
def ic57l1 : IC := (.seq (.seq (.region [⟨none, none, (.prim .mv), [(.v 6)]⟩, ⟨none, none, (.prim .mv), [(.v 5)]⟩, ⟨none, none, (.prim (.len false)), [(.t 1)]⟩, ⟨(.some 9), none, (.prim (.bin .lss .int)), [(.t 0), (.t 2)]⟩])
 (.cond 9 .skip
 (.exit 2)))
 (.seq (.block 3 (.seq (.region [⟨none, none, (.prim .mv), [(.v 5)]⟩, ⟨none, none, (.prim .mv), [(.v 6)]⟩, ⟨none, none, (.prim .mv), [(.v 3)]⟩, ⟨none, none, (.prim (.mkslice 1 8 [(.cv (.int .i64 0))])), [(.t 2), (.t 2)]⟩, ⟨none, none, (.prim (.iaS 1)), [(.t 0), (.t 1)]⟩, ⟨none, none, (.prim (.store 1)), [(.t 4), (.t 3)]⟩])
 (.seq (.region [⟨(.some 7), none, (.prim .mv), [(.c (.cv (.int .i64 0)))]⟩])
 (.block 4 (.loop ic57l0)))))
 (.region [⟨none, none, (.prim .mv), [(.v 6)]⟩, ⟨none, none, (.prim (.bin .add .int)), [(.t 0), (.c (.cv (.int .i64 1)))]⟩, ⟨(.some 6), none, (.prim .mv), [(.t 1)]⟩])))
def ic57l2 : IC := (.seq (.seq (.region [⟨none, none, (.prim .mv), [(.v 4)]⟩, ⟨none, none, (.prim (.fadd 0)), [(.v 1)]⟩, ⟨none, none, (.prim .load1), [(.t 1)]⟩, ⟨none, none, (.prim (.len false)), [(.t 2)]⟩, ⟨(.some 8), none, (.prim (.bin .lss .int)), [(.t 0), (.t 3)]⟩])
 (.cond 8 .skip
 (.exit 0)))
 (.seq (.block 1 (.region [⟨none, none, (.prim .mv), [(.v 3)]⟩, ⟨none, none, (.prim (.bin .mul .int)), [(.t 0), (.c (.cv (.int .i64 5)))]⟩, ⟨(.some 3), none, (.prim .mv), [(.t 1)]⟩]))
 (.region [⟨none, none, (.prim .mv), [(.v 4)]⟩, ⟨none, none, (.prim (.bin .add .int)), [(.t 0), (.c (.cv (.int .i64 1)))]⟩, ⟨(.some 4), none, (.prim .mv), [(.t 1)]⟩])))
def ic57 : IC := (.seq (.region [⟨(.some 1), none, (.prim .box), [(.v 0)]⟩, ⟨(.some 2), none, (.prim .mv), [(.c (.cv .nils))]⟩])
 (.seq (.region [⟨(.some 3), none, (.prim .mv), [(.c (.cv (.int .i64 1)))]⟩])
 (.seq (.seq (.region [⟨(.some 4), none, (.prim .mv), [(.c (.cv (.int .i64 0)))]⟩])
 (.block 0 (.loop ic57l2)))
 (.seq (.region [⟨none, none, (.prim (.fadd 1)), [(.v 1)]⟩, ⟨none, none, (.prim .load1), [(.t 0)]⟩, ⟨none, none, (.prim (.len false)), [(.t 1)]⟩, ⟨none, none, (.prim (.mkslice 1 24 [(.cv .nils)])), [(.t 2), (.t 2)]⟩, ⟨(.some 5), none, (.prim .mv), [(.t 3)]⟩])
 (.seq (.seq (.region [⟨(.some 6), none, (.prim .mv), [(.c (.cv (.int .i64 0)))]⟩])
 (.block 2 (.loop ic57l1)))
 (.seq (.region [⟨none, none, (.prim .mv), [(.v 5)]⟩, ⟨(.some 2), none, (.prim .mv), [(.t 0)]⟩])
 .ret))))))
theorem cc57 : compC Try.prog vs57 Try.f57.ntmps (Try.f57.body.getD .skip) = some ic57 := by kernel_rfl
abbrev rs57 : List RC := [(.v 2)]
theorem fok57 (p : Bool) : FnOk Try.prog 57 ⟨ic57, vs57, 44, rs57, p⟩ := FnOk.mk' Try.func57 hb57 (by kernel_rfl) cc57 (by kernel_rfl) (by kernel_rfl)

theorem hb58 : Try.f58.body = some (Try.f58.body.getD .skip) := by kernel_rfl
abbrev vs58 : List Nat := [0, 1, 2, 3, 4, 5, 6, 7, 8, 16, 17, 18, 21, 22, 23, 29]
def ic58l0 (b58 : Code) : IC := (.seq (.region [⟨(.some 11), none, (.prim (.bin .lss .int)), [(.v 10), (.v 9)]⟩])
 (.seq (.cond 11 .skip
 (.exit 0))
 (.seq (.block 1 (.seq (.region [⟨none, none, (.prim .load1), [(.v 2)]⟩, ⟨none, none, (.prim (.loadN 7)), [(.v 5)]⟩, ⟨(.some 12), none, .call, [(.c (.fn (.func 60) [])), (.t 0), (.t 1)]⟩])
 (.block 2 (.rangef (.v 12) #[22, 23] (nav [1, 0, 1, 1, 0, 1, 0, 0, 1, 1, 0, 0, 1, 0, 2] b58) (nav [1, 0, 1, 1, 0, 1, 0, 0, 1, 1, 0, 0, 1, 0, 3] b58) (.seq (.region [⟨(.some 6), none, (.prim .mv), [(.v 13)]⟩])
 (.region [⟨(.some 7), none, (.prim (.alloc [(.cv (.int .i64 0)), (.cv (.int .i64 0)), (.cv (.int .i64 0)), (.cv (.int .i64 0)), (.cv (.int .i64 0)), (.cv (.int .i64 0)), (.cv (.int .i64 0))])), []⟩, ⟨none, none, (.prim (.store 7)), [(.v 7), (.v 14)]⟩]))
 (.block 3 (.seq (.seq (.region [⟨none, none, (.prim .load1), [(.v 2)]⟩, ⟨none, none, (.prim (.loadN 7)), [(.v 7)]⟩, ⟨none, none, .call, [(.c (.fn (.func 54) [])), (.t 0), (.t 1)]⟩, ⟨(.some 8), none, (.prim .mv), [(.t 2)]⟩])
 (.seq (.region [⟨none, none, (.prim .load1), [(.v 3)]⟩, ⟨none, none, (.prim .mv), [(.v 8)]⟩, ⟨(.some 15), none, (.prim (.bin .geq .int)), [(.t 0), (.t 1)]⟩])
 (.cond 15 (.seq (.region [⟨none, none, (.prim .load1), [(.v 3)]⟩, ⟨none, none, (.prim .mv), [(.v 8)]⟩, ⟨none, none, (.prim (.bin .sub .int)), [(.t 0), (.t 1)]⟩, ⟨none, none, (.prim (.store 1)), [(.v 3), (.t 2)]⟩])
 (.exit 3))
 .skip)))
 (.seq (.draw [[], [], [1], [0, 2], [], [3, 3, 0, 1, 2, 3], [4, 5, 0, 1, 2, 3, 4, 5]] [⟨none, none, (.prim .load1), [(.v 4)]⟩, ⟨none, none, (.prim .mv), [(.v 6)]⟩, ⟨none, none, (.prim (.bslice 1 1 [(.cv (.int .i64 0))] [(0, 1)])), [(.t 1)]⟩, ⟨none, none, (.prim (.append 1 8)), [(.t 0), (.t 2)]⟩, ⟨none, none, (.prim (.loadN 7)), [(.v 7)]⟩, ⟨none, none, (.prim (.store 1)), [(.v 4), (.t 3)]⟩, ⟨none, none, (.prim (.store 7)), [(.v 5), (.t 4)]⟩] [[], [], [1], [0, 2, 1], [], [3, 0, 1, 2], [4, 5, 0, 1, 2, 3]])
 (.exit 1))))))))
 (.region [⟨none, none, (.prim (.bin .add .int)), [(.v 10), (.c (.cv (.int .i64 1)))]⟩, ⟨(.some 10), none, (.prim .mv), [(.t 0)]⟩]))))
def ic58 (b58 : Code) : IC := (.seq (.region [⟨(.some 2), none, (.prim .box), [(.v 0)]⟩, ⟨(.some 3), none, (.prim .box), [(.v 1)]⟩, ⟨(.some 4), none, (.prim (.alloc [(.cv .nils)])), []⟩])
 (.scope (.seq (.region [⟨none, none, (.prim .load1), [(.v 2)]⟩, ⟨none, none, .call, [(.c (.fn (.func 55) [])), (.t 0)]⟩, ⟨(.some 5), none, (.prim (.alloc [(.cv (.int .i64 0)), (.cv (.int .i64 0)), (.cv (.int .i64 0)), (.cv (.int .i64 0)), (.cv (.int .i64 0)), (.cv (.int .i64 0)), (.cv (.int .i64 0))])), []⟩, ⟨none, none, (.prim (.store 7)), [(.v 5), (.t 1)]⟩])
 (.seq (.label 0)
 (.seq (.seq (.region [⟨none, none, (.prim .load1), [(.v 2)]⟩, ⟨none, none, (.prim .nilck), [(.t 0)]⟩, ⟨none, none, (.prim (.fadd 0)), [(.t 1)]⟩, ⟨none, none, (.prim (.fadd 1)), [(.t 2)]⟩, ⟨none, none, (.prim .load1), [(.t 3)]⟩, ⟨(.some 9), none, (.prim (.len false)), [(.t 4)]⟩, ⟨(.some 10), none, (.prim .mv), [(.c (.cv (.int .i64 0)))]⟩])
 (.block 0 (.loop  (ic58l0 b58))))
 (.seq (.region [⟨none, none, (.prim .load1), [(.v 4)]⟩, ⟨none, none, (.prim (.store 1)), [(.v 4), (.t 0)]⟩])
 .ret))))))
theorem cc58 : compC Try.prog vs58 Try.f58.ntmps (Try.f58.body.getD .skip) = some (ic58 (Try.f58.body.getD .skip)) := by kernel_rfl
abbrev rs58 : List RC := [(.l1 4)]
theorem fok58 (p : Bool) : FnOk Try.prog 58 ⟨ic58 (Try.f58.body.getD .skip), vs58, 40, rs58, p⟩ := FnOk.mk' Try.func58 hb58 (by kernel_rfl) cc58 (by kernel_rfl) (by kernel_rfl)

theorem hb59 : Try.f59.body = some (Try.f59.body.getD .skip) := by kernel_rfl
abbrev vs59 : List Nat := [0, 1, 2, 4, 5, 6, 7, 8, 9, 10, 19, 25, 41, 52]
def ic59l0 : IC := (.seq (.seq (.region [⟨none, none, (.prim .mv), [(.v 8)]⟩, ⟨none, none, (.prim .mv), [(.v 5)]⟩, ⟨none, none, (.prim (.len false)), [(.t 1)]⟩, ⟨(.some 11), none, (.prim (.bin .lss .int)), [(.t 0), (.t 2)]⟩])
 (.cond 11 .skip
 (.exit 2)))
 (.seq (.block 3 (.seq (.seq (.region [⟨none, none, (.prim .mv), [(.v 5)]⟩, ⟨none, none, (.prim .mv), [(.v 8)]⟩, ⟨none, none, (.prim (.iaS 1)), [(.t 0), (.t 1)]⟩, ⟨none, none, (.prim .load1), [(.t 2)]⟩, ⟨none, none, (.prim (.bin .eql .int)), [(.t 3), (.c (.cv (.int .i64 0)))]⟩, ⟨none, none, (.prim .mv), [(.t 4)]⟩, ⟨none, (.some (5, false)), (.prim (.fadd 1)), [(.v 2)]⟩, ⟨none, (.some (5, false)), (.prim .load1), [(.t 6)]⟩, ⟨none, (.some (5, false)), (.prim .mv), [(.v 7)]⟩, ⟨none, (.some (5, false)), (.prim (.iaS 1)), [(.t 7), (.t 8)]⟩, ⟨none, (.some (5, false)), (.prim .load1), [(.t 9)]⟩, ⟨none, (.some (5, false)), (.prim .mv), [(.v 8)]⟩, ⟨none, (.some (5, false)), .call, [(.c (.fn (.func 45) [])), (.t 10), (.t 11)]⟩, ⟨(.some 12), none, (.prim .pick), [(.t 5), (.c (.cv (.bool true))), (.t 12)]⟩])
 (.cond 12 (.exit 3)
 .skip))
 (.seq (.draw [[], [], [], [2], [], [], [4, 5], [0, 1, 3, 6, 6], [7, 7, 0, 1, 2, 3, 4, 5, 6, 7]] [⟨none, none, (.prim (.loadN 2)), [(.v 2)]⟩, ⟨none, none, (.prim .mv), [(.v 4)]⟩, ⟨none, none, (.prim .mv), [(.v 7)]⟩, ⟨none, none, (.prim (.bin .add .int)), [(.t 2), (.c (.cv (.int .i64 1)))]⟩, ⟨none, none, (.prim .mv), [(.v 5)]⟩, ⟨none, none, (.prim .mv), [(.v 8)]⟩, ⟨none, none, .call, [(.c (.fn (.func 61) [])), (.t 4), (.t 5)]⟩, ⟨none, none, .call, [(.c (.fn (.func 56) [])), (.t 0), (.t 1), (.t 3), (.t 6)]⟩, ⟨(.some 9), none, (.prim .mv), [(.t 7)]⟩] [[], [], [], [2], [], [], [4, 5], [0, 1, 3, 6, 2, 4, 5], [7, 0, 1, 2, 3, 4, 5, 6]])
 (.seq (.seq (.region [⟨none, none, (.prim .mv), [(.v 1)]⟩, ⟨none, none, (.prim .mv), [(.v 9)]⟩, ⟨(.some 13), none, (.prim (.bin .lss .int)), [(.t 0), (.t 1)]⟩])
 (.cond 13 (.seq (.region [⟨none, none, (.prim .mv), [(.v 6)]⟩, ⟨none, none, (.prim .mv), [(.v 8)]⟩, ⟨none, none, (.prim (.bslice 1 1 [(.cv (.int .i64 0))] [(0, 1)])), [(.t 1)]⟩, ⟨none, none, (.prim (.append 1 8)), [(.t 0), (.t 2)]⟩, ⟨none, none, (.prim .mv), [(.v 5)]⟩, ⟨none, none, (.prim .mv), [(.v 8)]⟩, ⟨none, none, .call, [(.c (.fn (.func 61) [])), (.t 4), (.t 5)]⟩, ⟨(.some 6), none, (.prim .mv), [(.t 3)]⟩, ⟨(.some 5), none, (.prim .mv), [(.t 6)]⟩])
 (.exit 2))
 .skip))
 (.region [⟨none, none, (.prim .mv), [(.v 1)]⟩, ⟨none, none, (.prim .mv), [(.v 9)]⟩, ⟨none, none, (.prim (.bin .sub .int)), [(.t 0), (.t 1)]⟩, ⟨(.some 1), none, (.prim .mv), [(.t 2)]⟩])))))
 (.region [⟨none, none, (.prim .mv), [(.v 8)]⟩, ⟨none, none, (.prim (.bin .add .int)), [(.t 0), (.c (.cv (.int .i64 1)))]⟩, ⟨(.some 8), none, (.prim .mv), [(.t 1)]⟩])))
def ic59l1 : IC := (.seq (.seq (.region [⟨none, none, (.prim .mv), [(.v 7)]⟩, ⟨none, none, (.prim (.fadd 1)), [(.v 2)]⟩, ⟨none, none, (.prim .load1), [(.t 1)]⟩, ⟨none, none, (.prim (.len false)), [(.t 2)]⟩, ⟨(.some 10), none, (.prim (.bin .lss .int)), [(.t 0), (.t 3)]⟩])
 (.cond 10 .skip
 (.exit 0)))
 (.seq (.block 1 (.seq (.region [⟨(.some 8), none, (.prim .mv), [(.c (.cv (.int .i64 0)))]⟩])
 (.block 2 (.loop ic59l0))))
 (.region [⟨none, none, (.prim .mv), [(.v 7)]⟩, ⟨none, none, (.prim (.bin .add .int)), [(.t 0), (.c (.cv (.int .i64 1)))]⟩, ⟨(.some 7), none, (.prim .mv), [(.t 1)]⟩])))
def ic59 : IC := (.seq (.region [⟨(.some 2), none, (.prim .box), [(.v 0)]⟩, ⟨(.some 3), none, (.prim .mv), [(.c (.cv .nils))]⟩])
 (.seq (.region [⟨none, none, (.prim (.loadN 2)), [(.v 2)]⟩, ⟨none, none, .call, [(.c (.fn (.func 57) [])), (.t 0)]⟩, ⟨(.some 4), none, (.prim .mv), [(.t 1)]⟩])
 (.seq (.region [⟨none, none, (.prim (.fadd 0)), [(.v 2)]⟩, ⟨none, none, (.prim .load1), [(.t 0)]⟩, ⟨(.some 5), none, (.prim .mv), [(.t 1)]⟩])
 (.seq (.region [⟨(.some 6), none, (.prim .mv), [(.c (.cv .nils))]⟩])
 (.seq (.seq (.region [⟨(.some 7), none, (.prim .mv), [(.c (.cv (.int .i64 0)))]⟩])
 (.block 0 (.loop ic59l1)))
 (.seq (.region [⟨none, none, (.prim .mv), [(.v 6)]⟩, ⟨(.some 3), none, (.prim .mv), [(.t 0)]⟩])
 .ret))))))
theorem cc59 : compC Try.prog vs59 Try.f59.ntmps (Try.f59.body.getD .skip) = some ic59 := by kernel_rfl
abbrev rs59 : List RC := [(.v 3)]
theorem fok59 (p : Bool) : FnOk Try.prog 59 ⟨ic59, vs59, 64, rs59, p⟩ := FnOk.mk' Try.func59 hb59 (by kernel_rfl) cc59 (by kernel_rfl) (by kernel_rfl)

theorem hb60 : Try.f60.body = some (Try.f60.body.getD .skip) := by kernel_rfl
abbrev vs60 : List Nat := [0, 1, 2, 3, 4]
def ic60 : IC := (.seq (.region [⟨(.some 2), none, (.prim .box), [(.v 0)]⟩, ⟨(.some 3), none, (.prim .box), [(.v 1)]⟩, ⟨(.some 4), none, (.prim .mv), [(.c (.cv .nilf))]⟩])
 (.seq (.region [⟨none, none, (.prim (.mkfn (.func 75))), [(.v 2), (.v 3)]⟩, ⟨(.some 4), none, (.prim .mv), [(.t 0)]⟩])
 .ret))
theorem cc60 : compC Try.prog vs60 Try.f60.ntmps (Try.f60.body.getD .skip) = some ic60 := by kernel_rfl
abbrev rs60 : List RC := [(.v 4)]
theorem fok60 (p : Bool) : FnOk Try.prog 60 ⟨ic60, vs60, 6, rs60, p⟩ := FnOk.mk' Try.func60 hb60 (by kernel_rfl) cc60 (by kernel_rfl) (by kernel_rfl)

theorem hb61 : Try.f61.body = some (Try.f61.body.getD .skip) := by kernel_rfl
abbrev vs61 : List Nat := [0, 1, 4, 5]
def ic61 : IC := (.seq (.region [⟨(.some 2), none, (.prim .mv), [(.c (.cv .nils))]⟩])
 (.seq (.region [⟨none, none, (.prim (.bslice 1 0 [] [])), []⟩, ⟨none, none, (.prim .mv), [(.v 0)]⟩, ⟨none, none, (.prim (.append 1 8)), [(.t 0), (.t 1)]⟩, ⟨(.some 3), none, (.prim .mv), [(.t 2)]⟩])
 (.seq (.region [⟨none, none, (.prim .mv), [(.v 3)]⟩, ⟨none, none, (.prim .mv), [(.v 1)]⟩, ⟨none, none, (.prim (.iaS 1)), [(.t 0), (.t 1)]⟩, ⟨none, none, (.prim .load1), [(.t 2)]⟩, ⟨none, none, (.prim (.bin .sub .int)), [(.t 3), (.c (.cv (.int .i64 1)))]⟩, ⟨none, none, (.prim (.iaS 1)), [(.t 0), (.t 1)]⟩, ⟨none, none, (.prim (.store 1)), [(.t 5), (.t 4)]⟩])
 (.seq (.region [⟨none, none, (.prim .mv), [(.v 3)]⟩, ⟨(.some 2), none, (.prim .mv), [(.t 0)]⟩])
 .ret))))
theorem cc61 : compC Try.prog vs61 Try.f61.ntmps (Try.f61.body.getD .skip) = some ic61 := by kernel_rfl
abbrev rs61 : List RC := [(.v 2)]
theorem fok61 (p : Bool) : FnOk Try.prog 61 ⟨ic61, vs61, 16, rs61, p⟩ := FnOk.mk' Try.func61 hb61 (by kernel_rfl) cc61 (by kernel_rfl) (by kernel_rfl)

end Go.Proofs.Ytphdemhopihpnaa.AM

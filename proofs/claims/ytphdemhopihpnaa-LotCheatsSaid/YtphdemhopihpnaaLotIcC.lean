/- Compiled code of functions 62 to 97, written by program (gen.py) and checked by the kernel. -/
import Derived.Test.YtphdemhopihpnaaAmEc
namespace Go.Proofs.Ytphdemhopihpnaa.AM
open Go
set_option linter.unusedVariables false

theorem hb62 : Try.f62.body = some (Try.f62.body.getD .skip) := by kernel_rfl
abbrev vs62 : List Nat := [0, 1, 4]
def ic62 : IC := (.seq (.region [⟨none, none, (.prim .mv), [(.v 0)]⟩, ⟨none, none, (.prim (.len false)), [(.t 0)]⟩, ⟨(.some 2), none, (.prim .mv), [(.t 1)]⟩])
 (.region [⟨none, none, (.prim .mv), [(.v 0)]⟩, ⟨none, none, (.prim .mv), [(.v 2)]⟩, ⟨none, none, (.prim .mv), [(.v 2)]⟩, ⟨none, none, (.prim (.conv .u64)), [(.t 2)]⟩, ⟨none, none, .call, [(.c (.fn (.func 77) [])), (.t 3)]⟩, ⟨none, none, (.prim .mv), [(.v 1)]⟩, ⟨none, none, .call, [(.c (.fn (.func 76) [])), (.t 0), (.c (.cv (.int .i64 0))), (.t 1), (.t 4), (.t 5)]⟩]))
theorem cc62 : compC Try.prog vs62 Try.f62.ntmps (Try.f62.body.getD .skip) = some ic62 := by kernel_rfl
abbrev rs62 : List RC := []
theorem fok62 (p : Bool) : FnOk Try.prog 62 ⟨ic62, vs62, 14, rs62, p⟩ := FnOk.mk' Try.func62 hb62 (by kernel_rfl) cc62 (by kernel_rfl) (by kernel_rfl)

theorem hb63 : Try.f63.body = some (Try.f63.body.getD .skip) := by kernel_rfl
abbrev vs63 : List Nat := [0, 1, 4]
def ic63 : IC := (.seq (.region [⟨(.some 2), none, (.prim .mv), [(.c (.cv (.int .i64 0)))]⟩])
 (.seq (.region [⟨none, none, (.prim .mv), [(.v 0)]⟩, ⟨none, none, (.prim (.len false)), [(.t 0)]⟩, ⟨none, none, (.prim .mv), [(.v 1)]⟩, ⟨none, none, (.prim (.len false)), [(.t 2)]⟩, ⟨none, none, .call, [(.c (.fn (.func 65) [])), (.t 1), (.t 3)]⟩, ⟨none, none, (.prim .mv), [(.v 0)]⟩, ⟨none, none, (.prim .mv), [(.v 1)]⟩, ⟨none, none, .call, [(.c (.fn (.func 66) [])), (.t 5), (.t 6)]⟩, ⟨none, none, (.prim (.bslice 1 2 [(.cv (.int .i64 0)), (.cv (.int .i64 0))] [(0, 1), (1, 1)])), [(.t 4), (.t 7)]⟩, ⟨none, none, .call, [(.c (.fn (.func 64) [])), (.t 8)]⟩, ⟨(.some 2), none, (.prim .mv), [(.t 9)]⟩])
 .ret))
theorem cc63 : compC Try.prog vs63 Try.f63.ntmps (Try.f63.body.getD .skip) = some ic63 := by kernel_rfl
abbrev rs63 : List RC := [(.v 2)]
theorem fok63 (p : Bool) : FnOk Try.prog 63 ⟨ic63, vs63, 15, rs63, p⟩ := FnOk.mk' Try.func63 hb63 (by kernel_rfl) cc63 (by kernel_rfl) (by kernel_rfl)

theorem hb64 : Try.f64.body = some (Try.f64.body.getD .skip) := by kernel_rfl
abbrev vs64 : List Nat := [0, 2, 3, 5, 6, 7, 8, 9, 14]
def ic64l0 : IC := (.seq (.region [⟨(.some 7), none, (.prim (.bin .lss .int)), [(.v 6), (.v 5)]⟩])
 (.seq (.cond 7 .skip
 (.exit 0))
 (.seq (.block 1 (.seq (.region [⟨none, none, (.prim (.iaS 1)), [(.v 4), (.v 6)]⟩, ⟨none, none, (.prim .load1), [(.t 0)]⟩, ⟨(.some 3), none, (.prim .mv), [(.t 1)]⟩])
 (.seq (.region [⟨none, none, (.prim .mv), [(.v 3)]⟩, ⟨none, none, (.prim .mv), [(.v 2)]⟩, ⟨(.some 8), none, (.prim (.bin .neq .int)), [(.t 0), (.t 1)]⟩])
 (.cond 8 (.seq (.region [⟨none, none, (.prim .mv), [(.v 3)]⟩, ⟨(.some 1), none, (.prim .mv), [(.t 0)]⟩])
 .ret)
 .skip))))
 (.region [⟨none, none, (.prim (.bin .add .int)), [(.v 6), (.c (.cv (.int .i64 1)))]⟩, ⟨(.some 6), none, (.prim .mv), [(.t 0)]⟩]))))
def ic64 : IC := (.seq (.region [⟨(.some 1), none, (.prim .mv), [(.c (.cv (.int .i64 0)))]⟩])
 (.seq (.region [⟨(.some 2), none, (.prim .mv), [(.c (.cv (.int .i64 0)))]⟩])
 (.seq (.seq (.region [⟨(.some 4), none, (.prim .mv), [(.v 0)]⟩, ⟨(.some 5), none, (.prim (.len false)), [(.v 4)]⟩, ⟨(.some 6), none, (.prim .mv), [(.c (.cv (.int .i64 0)))]⟩])
 (.block 0 (.loop ic64l0)))
 (.seq (.region [⟨none, none, (.prim .mv), [(.v 2)]⟩, ⟨(.some 1), none, (.prim .mv), [(.t 0)]⟩])
 .ret))))
theorem cc64 : compC Try.prog vs64 Try.f64.ntmps (Try.f64.body.getD .skip) = some ic64 := by kernel_rfl
abbrev rs64 : List RC := [(.v 1)]
theorem fok64 (p : Bool) : FnOk Try.prog 64 ⟨ic64, vs64, 18, rs64, p⟩ := FnOk.mk' Try.func64 hb64 (by kernel_rfl) cc64 (by kernel_rfl) (by kernel_rfl)

theorem hb65 : Try.f65.body = some (Try.f65.body.getD .skip) := by kernel_rfl
abbrev vs65 : List Nat := [0, 1, 4, 5, 6, 11, 12, 13, 16, 19]
def ic65 : IC := (.seq (.region [⟨(.some 2), none, (.prim .mv), [(.c (.cv (.int .i64 0)))]⟩])
 (.seq (.region [⟨none, none, (.prim .mv), [(.v 0)]⟩, ⟨none, none, .call, [(.c (.fn (.func 78) [])), (.t 0)]⟩, ⟨(.some 3), none, (.prim .mv), [(.t 1)]⟩])
 (.seq (.region [⟨none, none, (.prim .mv), [(.v 1)]⟩, ⟨none, none, .call, [(.c (.fn (.func 78) [])), (.t 0)]⟩, ⟨(.some 4), none, (.prim .mv), [(.t 1)]⟩])
 (.seq (.seq (.region [⟨(.some 5), none, (.prim .mv), [(.v 3)]⟩])
 (.cond 5 (.seq (.seq (.region [⟨(.some 6), none, (.prim .mv), [(.v 4)]⟩])
 (.cond 6 (.seq (.region [⟨(.some 2), none, (.prim .mv), [(.c (.cv (.int .i64 0)))]⟩])
 .ret)
 .skip))
 (.seq (.region [⟨(.some 2), none, (.prim .mv), [(.c (.cv (.int .i64 (-1))))]⟩])
 .ret))
 .skip))
 (.seq (.seq (.region [⟨(.some 7), none, (.prim .mv), [(.v 4)]⟩])
 (.cond 7 (.seq (.region [⟨(.some 2), none, (.prim .mv), [(.c (.cv (.int .i64 1)))]⟩])
 .ret)
 .skip))
 (.seq (.seq (.region [⟨none, none, (.prim .mv), [(.v 0)]⟩, ⟨none, none, (.prim .mv), [(.v 1)]⟩, ⟨(.some 8), none, (.prim (.bin .lss .int)), [(.t 0), (.t 1)]⟩])
 (.cond 8 (.seq (.region [⟨(.some 2), none, (.prim .mv), [(.c (.cv (.int .i64 (-1))))]⟩])
 .ret)
 .skip))
 (.seq (.seq (.region [⟨none, none, (.prim .mv), [(.v 0)]⟩, ⟨none, none, (.prim .mv), [(.v 1)]⟩, ⟨(.some 9), none, (.prim (.bin .gtr .int)), [(.t 0), (.t 1)]⟩])
 (.cond 9 (.seq (.region [⟨(.some 2), none, (.prim .mv), [(.c (.cv (.int .i64 1)))]⟩])
 .ret)
 .skip))
 (.seq (.region [⟨(.some 2), none, (.prim .mv), [(.c (.cv (.int .i64 0)))]⟩])
 .ret))))))))
theorem cc65 : compC Try.prog vs65 Try.f65.ntmps (Try.f65.body.getD .skip) = some ic65 := by kernel_rfl
abbrev rs65 : List RC := [(.v 2)]
theorem fok65 (p : Bool) : FnOk Try.prog 65 ⟨ic65, vs65, 20, rs65, p⟩ := FnOk.mk' Try.func65 hb65 (by kernel_rfl) cc65 (by kernel_rfl) (by kernel_rfl)

theorem hb66 : Try.f66.body = some (Try.f66.body.getD .skip) := by kernel_rfl
abbrev vs66 : List Nat := [0, 1, 4, 5, 6, 7, 8, 9, 10, 11, 12, 19, 28, 35]
def ic66l0 : IC := (.seq (.region [⟨(.some 10), none, (.prim (.bin .lss .int)), [(.v 9), (.v 8)]⟩])
 (.seq (.cond 10 .skip
 (.exit 0))
 (.seq (.block 1 (.seq (.region [⟨none, none, (.prim .mv), [(.v 9)]⟩, ⟨none, none, (.prim (.iaS 1)), [(.v 7), (.v 9)]⟩, ⟨none, none, (.prim .load1), [(.t 1)]⟩, ⟨(.some 3), none, (.prim .mv), [(.t 0)]⟩, ⟨(.some 4), none, (.prim .mv), [(.t 2)]⟩])
 (.seq (.seq (.region [⟨none, none, (.prim .mv), [(.v 3)]⟩, ⟨none, none, (.prim .mv), [(.v 1)]⟩, ⟨none, none, (.prim (.len false)), [(.t 1)]⟩, ⟨(.some 11), none, (.prim (.bin .geq .int)), [(.t 0), (.t 2)]⟩])
 (.cond 11 (.seq (.region [⟨(.some 2), none, (.prim .mv), [(.c (.cv (.int .i64 1)))]⟩])
 .ret)
 .skip))
 (.seq (.region [⟨none, none, (.prim .mv), [(.v 1)]⟩, ⟨none, none, (.prim .mv), [(.v 3)]⟩, ⟨none, none, (.prim (.iaS 1)), [(.t 0), (.t 1)]⟩, ⟨none, none, (.prim .load1), [(.t 2)]⟩, ⟨(.some 5), none, (.prim .mv), [(.t 3)]⟩])
 (.seq (.region [⟨none, none, (.prim .mv), [(.v 4)]⟩, ⟨none, none, (.prim .mv), [(.v 5)]⟩, ⟨none, none, .call, [(.c (.fn (.func 65) [])), (.t 0), (.t 1)]⟩, ⟨(.some 6), none, (.prim .mv), [(.t 2)]⟩])
 (.seq (.region [⟨none, none, (.prim .mv), [(.v 6)]⟩, ⟨(.some 12), none, (.prim (.bin .neq .int)), [(.t 0), (.c (.cv (.int .i64 0)))]⟩])
 (.cond 12 (.seq (.region [⟨none, none, (.prim .mv), [(.v 6)]⟩, ⟨(.some 2), none, (.prim .mv), [(.t 0)]⟩])
 .ret)
 .skip)))))))
 (.region [⟨none, none, (.prim (.bin .add .int)), [(.v 9), (.c (.cv (.int .i64 1)))]⟩, ⟨(.some 9), none, (.prim .mv), [(.t 0)]⟩]))))
def ic66 : IC := (.seq (.region [⟨(.some 2), none, (.prim .mv), [(.c (.cv (.int .i64 0)))]⟩])
 (.seq (.seq (.region [⟨(.some 7), none, (.prim .mv), [(.v 0)]⟩, ⟨(.some 8), none, (.prim (.len false)), [(.v 7)]⟩, ⟨(.some 9), none, (.prim .mv), [(.c (.cv (.int .i64 0)))]⟩])
 (.block 0 (.loop ic66l0)))
 (.seq (.seq (.region [⟨none, none, (.prim .mv), [(.v 0)]⟩, ⟨none, none, (.prim (.len false)), [(.t 0)]⟩, ⟨none, none, (.prim .mv), [(.v 1)]⟩, ⟨none, none, (.prim (.len false)), [(.t 2)]⟩, ⟨(.some 13), none, (.prim (.bin .lss .int)), [(.t 1), (.t 3)]⟩])
 (.cond 13 (.seq (.region [⟨(.some 2), none, (.prim .mv), [(.c (.cv (.int .i64 (-1))))]⟩])
 .ret)
 .skip))
 (.seq (.region [⟨(.some 2), none, (.prim .mv), [(.c (.cv (.int .i64 0)))]⟩])
 .ret))))
theorem cc66 : compC Try.prog vs66 Try.f66.ntmps (Try.f66.body.getD .skip) = some ic66 := by kernel_rfl
abbrev rs66 : List RC := [(.v 2)]
theorem fok66 (p : Bool) : FnOk Try.prog 66 ⟨ic66, vs66, 36, rs66, p⟩ := FnOk.mk' Try.func66 hb66 (by kernel_rfl) cc66 (by kernel_rfl) (by kernel_rfl)

theorem hb67 : Try.f67.body = some (Try.f67.body.getD .skip) := by kernel_rfl
abbrev vs67 : List Nat := [0, 1, 4, 5, 10]
def ic67 : IC := (.seq (.region [⟨(.some 2), none, (.prim .mv), [(.c (.cv .nils))]⟩])
 (.seq (.seq (.region [⟨none, none, (.prim .mv), [(.v 0)]⟩, ⟨none, none, (.prim .mv), [(.v 1)]⟩, ⟨none, none, .call, [(.c (.fn (.func 79) [])), (.t 0), (.t 1)]⟩, ⟨(.some 3), none, (.prim .mv), [(.t 2)]⟩])
 (.seq (.region [⟨none, none, (.prim .mv), [(.v 3)]⟩, ⟨(.some 4), none, (.prim (.bin .geq .int)), [(.t 0), (.c (.cv (.int .i64 0)))]⟩])
 (.cond 4 (.region [⟨none, none, (.prim .mv), [(.v 0)]⟩, ⟨none, none, (.prim .mv), [(.v 3)]⟩, ⟨none, none, (.prim (.iaS 1)), [(.t 0), (.t 1)]⟩, ⟨none, none, (.prim .load1), [(.t 2)]⟩, ⟨(.some 2), none, (.prim .mv), [(.t 3)]⟩])
 .skip)))
 (.seq (.region [⟨none, none, (.prim .mv), [(.v 2)]⟩, ⟨(.some 2), none, (.prim .mv), [(.t 0)]⟩])
 .ret)))
theorem cc67 : compC Try.prog vs67 Try.f67.ntmps (Try.f67.body.getD .skip) = some ic67 := by kernel_rfl
abbrev rs67 : List RC := [(.v 2)]
theorem fok67 (p : Bool) : FnOk Try.prog 67 ⟨ic67, vs67, 16, rs67, p⟩ := FnOk.mk' Try.func67 hb67 (by kernel_rfl) cc67 (by kernel_rfl) (by kernel_rfl)

theorem hb68 : Try.f68.body = some (Try.f68.body.getD .skip) := by kernel_rfl
abbrev vs68 : List Nat := [0, 1, 2, 4, 5, 6, 7, 14, 15, 16, 17, 23]
def ic68l0 : IC := (.seq (.region [⟨(.some 10), none, (.prim (.bin .lss .int)), [(.v 9), (.v 8)]⟩])
 (.seq (.cond 10 .skip
 (.exit 0))
 (.seq (.block 1 (.seq (.region [⟨none, none, (.prim .mv), [(.v 9)]⟩, ⟨none, none, (.prim (.iaS 1)), [(.v 7), (.v 9)]⟩, ⟨none, none, (.prim .load1), [(.t 1)]⟩, ⟨(.some 5), none, (.prim (.alloc [(.cv (.int .i64 0))])), []⟩, ⟨none, none, (.prim (.store 1)), [(.v 5), (.t 0)]⟩, ⟨(.some 6), none, (.prim .mv), [(.t 2)]⟩])
 (.seq (.region [⟨none, none, (.prim .mv), [(.v 1)]⟩, ⟨none, none, (.prim (.mkfn (.func 80))), [(.v 2), (.v 5)]⟩, ⟨(.some 11), none, .call, [(.c (.fn (.func 72) [])), (.t 0), (.t 1)]⟩])
 (.cond 11 (.region [⟨none, none, (.prim .mv), [(.v 4)]⟩, ⟨none, none, (.prim .mv), [(.v 6)]⟩, ⟨none, none, (.prim (.bin .sub .int)), [(.t 0), (.t 1)]⟩, ⟨(.some 4), none, (.prim .mv), [(.t 2)]⟩])
 .skip))))
 (.region [⟨none, none, (.prim (.bin .add .int)), [(.v 9), (.c (.cv (.int .i64 1)))]⟩, ⟨(.some 9), none, (.prim .mv), [(.t 0)]⟩]))))
def ic68 : IC := (.seq (.region [⟨(.some 2), none, (.prim .box), [(.v 0)]⟩, ⟨(.some 3), none, (.prim .mv), [(.c (.cv (.bool false)))]⟩])
 (.seq (.region [⟨none, none, (.prim .mv), [(.v 1)]⟩, ⟨none, none, (.prim (.len false)), [(.t 0)]⟩, ⟨(.some 4), none, (.prim .mv), [(.t 1)]⟩])
 (.seq (.seq (.region [⟨none, none, (.prim .load1), [(.v 2)]⟩, ⟨none, none, (.prim .nilck), [(.t 0)]⟩, ⟨none, none, (.prim (.fadd 0)), [(.t 1)]⟩, ⟨none, none, (.prim (.fadd 0)), [(.t 2)]⟩, ⟨(.some 7), none, (.prim .load1), [(.t 3)]⟩, ⟨(.some 8), none, (.prim (.len false)), [(.v 7)]⟩, ⟨(.some 9), none, (.prim .mv), [(.c (.cv (.int .i64 0)))]⟩])
 (.block 0 (.loop ic68l0)))
 (.seq (.region [⟨none, none, (.prim .mv), [(.v 4)]⟩, ⟨none, none, (.prim (.bin .gtr .int)), [(.t 0), (.c (.cv (.int .i64 0)))]⟩, ⟨(.some 3), none, (.prim .mv), [(.t 1)]⟩])
 .ret))))
theorem cc68 : compC Try.prog vs68 Try.f68.ntmps (Try.f68.body.getD .skip) = some ic68 := by kernel_rfl
abbrev rs68 : List RC := [(.v 3)]
theorem fok68 (p : Bool) : FnOk Try.prog 68 ⟨ic68, vs68, 30, rs68, p⟩ := FnOk.mk' Try.func68 hb68 (by kernel_rfl) cc68 (by kernel_rfl) (by kernel_rfl)

theorem hb69 : Try.f69.body = some (Try.f69.body.getD .skip) := by kernel_rfl
abbrev vs69 : List Nat := [0, 1, 4, 5, 10, 19, 30]
def ic69l0 : IC := (.seq (.seq (.region [⟨none, none, (.prim .mv), [(.v 3)]⟩, ⟨none, none, (.prim .mv), [(.v 0)]⟩, ⟨none, none, (.prim (.len false)), [(.t 1)]⟩, ⟨(.some 5), none, (.prim (.bin .lss .int)), [(.t 0), (.t 2)]⟩])
 (.cond 5 .skip
 (.exit 0)))
 (.seq (.block 1 (.seq (.draw [[], [], [0, 1], [2], [], [], [4, 5], [6], [3, 7]] [⟨none, none, (.prim .mv), [(.v 0)]⟩, ⟨none, none, (.prim .mv), [(.v 3)]⟩, ⟨none, none, (.prim (.iaS 1)), [(.t 0), (.t 1)]⟩, ⟨none, none, (.prim .load1), [(.t 2)]⟩, ⟨none, none, (.prim .mv), [(.v 1)]⟩, ⟨none, none, (.prim .mv), [(.v 3)]⟩, ⟨none, none, (.prim (.iaS 1)), [(.t 4), (.t 5)]⟩, ⟨none, none, (.prim .load1), [(.t 6)]⟩, ⟨(.some 6), none, (.prim (.bin .neq .int)), [(.t 3), (.t 7)]⟩] [[], [], [0, 1], [2, 0, 1], [], [], [4, 5], [6, 4, 5], [3, 7, 2, 0, 1, 6, 4, 5]])
 (.cond 6 (.seq (.draw [[], [], [0, 1], [2], [], [], [4, 5], [6], [3, 7], [8, 0, 1, 2, 3, 4, 5, 6, 7, 8]] [⟨none, none, (.prim .mv), [(.v 0)]⟩, ⟨none, none, (.prim .mv), [(.v 3)]⟩, ⟨none, none, (.prim (.iaS 1)), [(.t 0), (.t 1)]⟩, ⟨none, none, (.prim .load1), [(.t 2)]⟩, ⟨none, none, (.prim .mv), [(.v 1)]⟩, ⟨none, none, (.prim .mv), [(.v 3)]⟩, ⟨none, none, (.prim (.iaS 1)), [(.t 4), (.t 5)]⟩, ⟨none, none, (.prim .load1), [(.t 6)]⟩, ⟨none, none, (.prim (.bin .lss .int)), [(.t 3), (.t 7)]⟩, ⟨(.some 2), none, (.prim .mv), [(.t 8)]⟩] [[], [], [0, 1], [2, 0, 1], [], [], [4, 5], [6, 4, 5], [3, 7, 2, 0, 1, 6, 4, 5], [8, 0, 1, 2, 3, 4, 5, 6, 7]])
 .ret)
 .skip)))
 (.region [⟨none, none, (.prim .mv), [(.v 3)]⟩, ⟨none, none, (.prim (.bin .add .int)), [(.t 0), (.c (.cv (.int .i64 1)))]⟩, ⟨(.some 3), none, (.prim .mv), [(.t 1)]⟩])))
def ic69 : IC := (.seq (.region [⟨(.some 2), none, (.prim .mv), [(.c (.cv (.bool false)))]⟩])
 (.seq (.seq (.region [⟨none, none, (.prim .mv), [(.v 0)]⟩, ⟨none, none, (.prim (.len false)), [(.t 0)]⟩, ⟨none, none, (.prim .mv), [(.v 1)]⟩, ⟨none, none, (.prim (.len false)), [(.t 2)]⟩, ⟨(.some 4), none, (.prim (.bin .neq .int)), [(.t 1), (.t 3)]⟩])
 (.cond 4 (.seq (.region [⟨none, none, (.prim .mv), [(.v 0)]⟩, ⟨none, none, (.prim (.len false)), [(.t 0)]⟩, ⟨none, none, (.prim .mv), [(.v 1)]⟩, ⟨none, none, (.prim (.len false)), [(.t 2)]⟩, ⟨none, none, (.prim (.bin .lss .int)), [(.t 1), (.t 3)]⟩, ⟨(.some 2), none, (.prim .mv), [(.t 4)]⟩])
 .ret)
 .skip))
 (.seq (.seq (.region [⟨(.some 3), none, (.prim .mv), [(.c (.cv (.int .i64 0)))]⟩])
 (.block 0 (.loop ic69l0)))
 (.seq (.region [⟨(.some 2), none, (.prim .mv), [(.c (.cv (.bool false)))]⟩])
 .ret))))
theorem cc69 : compC Try.prog vs69 Try.f69.ntmps (Try.f69.body.getD .skip) = some ic69 := by kernel_rfl
abbrev rs69 : List RC := [(.v 2)]
theorem fok69 (p : Bool) : FnOk Try.prog 69 ⟨ic69, vs69, 40, rs69, p⟩ := FnOk.mk' Try.func69 hb69 (by kernel_rfl) cc69 (by kernel_rfl) (by kernel_rfl)

theorem hb70 : Try.f70.body = some (Try.f70.body.getD .skip) := by kernel_rfl
abbrev vs70 : List Nat := [0, 2, 3, 4, 6, 11]
def ic70l0 : IC := (.seq (.seq (.region [⟨none, none, (.prim .mv), [(.v 3)]⟩, ⟨(.some 4), none, (.prim (.bin .lss .int)), [(.t 0), (.c (.cv (.int .i64 8)))]⟩])
 (.cond 4 .skip
 (.exit 0)))
 (.seq (.block 1 (.seq (.region [⟨none, none, (.prim .mv), [(.v 0)]⟩, ⟨none, none, (.prim .mv), [(.v 3)]⟩, ⟨(.some 5), none, .call, [(.c (.fn (.func 45) [])), (.t 0), (.t 1)]⟩])
 (.cond 5 (.region [⟨none, none, (.prim .mv), [(.v 2)]⟩, ⟨none, none, (.prim .mv), [(.v 3)]⟩, ⟨none, none, (.prim (.bslice 1 1 [(.cv (.int .i64 0))] [(0, 1)])), [(.t 1)]⟩, ⟨none, none, (.prim (.append 1 8)), [(.t 0), (.t 2)]⟩, ⟨(.some 2), none, (.prim .mv), [(.t 3)]⟩])
 .skip)))
 (.region [⟨none, none, (.prim .mv), [(.v 3)]⟩, ⟨none, none, (.prim (.bin .add .int)), [(.t 0), (.c (.cv (.int .i64 1)))]⟩, ⟨(.some 3), none, (.prim .mv), [(.t 1)]⟩])))
def ic70 : IC := (.seq (.region [⟨(.some 1), none, (.prim .mv), [(.c (.cv .nils))]⟩])
 (.seq (.region [⟨(.some 2), none, (.prim .mv), [(.c (.cv .nils))]⟩])
 (.seq (.seq (.region [⟨(.some 3), none, (.prim .mv), [(.c (.cv (.int .i64 0)))]⟩])
 (.block 0 (.loop ic70l0)))
 (.seq (.region [⟨none, none, (.prim .mv), [(.v 2)]⟩, ⟨(.some 1), none, (.prim .mv), [(.t 0)]⟩])
 .ret))))
theorem cc70 : compC Try.prog vs70 Try.f70.ntmps (Try.f70.body.getD .skip) = some ic70 := by kernel_rfl
abbrev rs70 : List RC := [(.v 1)]
theorem fok70 (p : Bool) : FnOk Try.prog 70 ⟨ic70, vs70, 17, rs70, p⟩ := FnOk.mk' Try.func70 hb70 (by kernel_rfl) cc70 (by kernel_rfl) (by kernel_rfl)

theorem hb71 : Try.f71.body = some (Try.f71.body.getD .skip) := by kernel_rfl
abbrev vs71 : List Nat := [0, 1, 4, 5, 10, 12, 13, 14, 24]
def ic71l0 : IC := (.seq (.region [⟨(.some 7), none, (.prim (.bin .lss .int)), [(.v 6), (.v 5)]⟩])
 (.seq (.cond 7 .skip
 (.exit 0))
 (.seq (.block 1 (.seq (.region [⟨none, none, (.prim .mv), [(.v 6)]⟩, ⟨(.some 3), none, (.prim .mv), [(.t 0)]⟩])
 (.seq (.draw [[], [], [0, 1], [2], [], [], [4, 5], [6], [3, 7]] [⟨none, none, (.prim .mv), [(.v 0)]⟩, ⟨none, none, (.prim .mv), [(.v 3)]⟩, ⟨none, none, (.prim (.iaS 1)), [(.t 0), (.t 1)]⟩, ⟨none, none, (.prim .load1), [(.t 2)]⟩, ⟨none, none, (.prim .mv), [(.v 1)]⟩, ⟨none, none, (.prim .mv), [(.v 3)]⟩, ⟨none, none, (.prim (.iaS 1)), [(.t 4), (.t 5)]⟩, ⟨none, none, (.prim .load1), [(.t 6)]⟩, ⟨(.some 8), none, (.prim (.bin .neq .int)), [(.t 3), (.t 7)]⟩] [[], [], [0, 1], [2, 0, 1], [], [], [4, 5], [6, 4, 5], [3, 7, 2, 0, 1, 6, 4, 5]])
 (.cond 8 (.seq (.region [⟨(.some 2), none, (.prim .mv), [(.c (.cv (.bool false)))]⟩])
 .ret)
 .skip))))
 (.region [⟨none, none, (.prim (.bin .add .int)), [(.v 6), (.c (.cv (.int .i64 1)))]⟩, ⟨(.some 6), none, (.prim .mv), [(.t 0)]⟩]))))
def ic71 : IC := (.seq (.region [⟨(.some 2), none, (.prim .mv), [(.c (.cv (.bool false)))]⟩])
 (.seq (.seq (.region [⟨none, none, (.prim .mv), [(.v 0)]⟩, ⟨none, none, (.prim (.len false)), [(.t 0)]⟩, ⟨none, none, (.prim .mv), [(.v 1)]⟩, ⟨none, none, (.prim (.len false)), [(.t 2)]⟩, ⟨(.some 4), none, (.prim (.bin .neq .int)), [(.t 1), (.t 3)]⟩])
 (.cond 4 (.seq (.region [⟨(.some 2), none, (.prim .mv), [(.c (.cv (.bool false)))]⟩])
 .ret)
 .skip))
 (.seq (.seq (.region [⟨none, none, (.prim .mv), [(.v 0)]⟩, ⟨(.some 5), none, (.prim (.len false)), [(.t 0)]⟩, ⟨(.some 6), none, (.prim .mv), [(.c (.cv (.int .i64 0)))]⟩])
 (.block 0 (.loop ic71l0)))
 (.seq (.region [⟨(.some 2), none, (.prim .mv), [(.c (.cv (.bool true)))]⟩])
 .ret))))
theorem cc71 : compC Try.prog vs71 Try.f71.ntmps (Try.f71.body.getD .skip) = some ic71 := by kernel_rfl
abbrev rs71 : List RC := [(.v 2)]
theorem fok71 (p : Bool) : FnOk Try.prog 71 ⟨ic71, vs71, 26, rs71, p⟩ := FnOk.mk' Try.func71 hb71 (by kernel_rfl) cc71 (by kernel_rfl) (by kernel_rfl)

theorem hb72 : Try.f72.body = some (Try.f72.body.getD .skip) := by kernel_rfl
abbrev vs72 : List Nat := [0, 1, 4]
def ic72 : IC := (.seq (.region [⟨(.some 2), none, (.prim .mv), [(.c (.cv (.bool false)))]⟩])
 (.seq (.region [⟨none, none, (.prim .mv), [(.v 0)]⟩, ⟨none, none, (.prim .mv), [(.v 1)]⟩, ⟨none, none, .call, [(.c (.fn (.func 81) [])), (.t 0), (.t 1)]⟩, ⟨none, none, (.prim (.bin .geq .int)), [(.t 2), (.c (.cv (.int .i64 0)))]⟩, ⟨(.some 2), none, (.prim .mv), [(.t 3)]⟩])
 .ret))
theorem cc72 : compC Try.prog vs72 Try.f72.ntmps (Try.f72.body.getD .skip) = some ic72 := by kernel_rfl
abbrev rs72 : List RC := [(.v 2)]
theorem fok72 (p : Bool) : FnOk Try.prog 72 ⟨ic72, vs72, 9, rs72, p⟩ := FnOk.mk' Try.func72 hb72 (by kernel_rfl) cc72 (by kernel_rfl) (by kernel_rfl)

theorem hb73 : Try.f73.body = some (Try.f73.body.getD .skip) := by kernel_rfl
abbrev vs73 : List Nat := [0, 1, 2, 4]
def ic73 : IC := (.seq (.region [⟨(.some 3), none, (.prim .mv), [(.c (.cv (.bool false)))]⟩])
 (.seq (.region [⟨none, none, (.prim .mv), [(.v 0)]⟩, ⟨none, none, (.prim .load1), [(.v 1)]⟩, ⟨none, none, (.prim (.bin .lss .int)), [(.t 0), (.t 1)]⟩, ⟨none, none, (.prim .mv), [(.t 2)]⟩, ⟨none, (.some (3, false)), (.prim .mv), [(.v 0)]⟩, ⟨none, (.some (3, false)), (.prim .load1), [(.v 2)]⟩, ⟨none, (.some (3, false)), (.prim (.bin .gtr .int)), [(.t 4), (.t 5)]⟩, ⟨none, none, (.prim .pick), [(.t 3), (.c (.cv (.bool true))), (.t 6)]⟩, ⟨(.some 3), none, (.prim .mv), [(.t 7)]⟩])
 .ret))
theorem cc73 : compC Try.prog vs73 Try.f73.ntmps (Try.f73.body.getD .skip) = some ic73 := by kernel_rfl
abbrev rs73 : List RC := [(.v 3)]
theorem fok73 (p : Bool) : FnOk Try.prog 73 ⟨ic73, vs73, 13, rs73, p⟩ := FnOk.mk' Try.func73 hb73 (by kernel_rfl) cc73 (by kernel_rfl) (by kernel_rfl)

theorem hb74 : Try.f74.body = some (Try.f74.body.getD .skip) := by kernel_rfl
abbrev vs74 : List Nat := [0, 1, 2, 3, 4, 5, 7, 16, 26, 30, 31, 32]
def ic74 (b74 : Code) : IC := (.seq (.region [⟨(.some 3), none, (.prim .box), [(.v 0)]⟩, ⟨(.some 4), none, (.prim (.alloc [(.cv (.int .i64 0))])), []⟩])
 (.seq (.seq (.draw [[], [0], [], [2], [3], [4], [5], [6], [1, 7]] [⟨none, none, (.prim (.fadd 0)), [(.v 3)]⟩, ⟨none, none, (.prim .load1), [(.t 0)]⟩, ⟨none, none, (.prim .load1), [(.v 1)]⟩, ⟨none, none, (.prim .nilck), [(.t 2)]⟩, ⟨none, none, (.prim (.fadd 0)), [(.t 3)]⟩, ⟨none, none, (.prim (.fadd 1)), [(.t 4)]⟩, ⟨none, none, (.prim .load1), [(.t 5)]⟩, ⟨none, none, (.prim (.len false)), [(.t 6)]⟩, ⟨(.some 7), none, (.prim (.bin .eql .int)), [(.t 1), (.t 7)]⟩] [[], [0], [], [2], [3, 2], [4, 3, 2], [5, 4, 3, 2], [6, 5, 4, 3, 2], [1, 7, 0, 6, 5, 4, 3, 2]])
 (.cond 7 (.seq (.region [⟨none, none, (.prim (.store 1)), [(.v 4), (.c (.cv (.int .i64 1)))]⟩])
 .ret)
 .skip))
 (.seq (.draw [[], [0], [1], [2], [], [3, 4], [5], [6], [6], [7, 0, 1, 2, 3, 4, 5, 6, 7], [8, 9, 0, 1, 2, 3, 4, 5, 6, 7, 8, 9]] [⟨none, none, (.prim .load1), [(.v 1)]⟩, ⟨none, none, (.prim .nilck), [(.t 0)]⟩, ⟨none, none, (.prim (.fadd 2)), [(.t 1)]⟩, ⟨none, none, (.prim .load1), [(.t 2)]⟩, ⟨none, none, (.prim (.loadN 7)), [(.v 3)]⟩, ⟨none, none, (.prim (.lookup (true, [(.int .i64), (.int .i64), (.int .i64), (.int .i64), (.int .i64), (.int .i64), (.int .i64)]) (.cv (.int .i64 0)) true)), [(.t 3), (.t 4)]⟩, ⟨none, none, (.prim .mv), [(.t 5)]⟩, ⟨none, none, (.prim (.extract 0)), [(.t 6)]⟩, ⟨none, none, (.prim (.extract 1)), [(.t 6)]⟩, ⟨none, none, (.prim (.store 1)), [(.v 4), (.t 7)]⟩, ⟨(.some 5), none, (.prim .mv), [(.t 8)]⟩] [[], [0], [1, 0], [2, 1, 0], [], [3, 4, 2, 1, 0], [5, 3, 4, 2, 1, 0], [6, 5, 3, 4, 2, 1, 0], [6, 5, 3, 4, 2, 1, 0], [7, 0, 1, 2, 3, 4, 5, 6], [8, 9, 0, 1, 2, 3, 4, 5, 6, 7]])
 (.seq (.seq (.region [⟨(.some 8), none, (.prim .mv), [(.v 5)]⟩])
 (.cond 8 (.seq (.region [⟨none, none, (.prim .load1), [(.v 4)]⟩, ⟨none, none, (.prim (.store 1)), [(.v 4), (.t 0)]⟩])
 .ret)
 .skip))
 (.seq (.seq (.region [⟨none, none, (.prim .load1), [(.v 1)]⟩, ⟨none, none, (.prim (.loadN 7)), [(.v 3)]⟩, ⟨(.some 9), none, .call, [(.c (.fn (.func 60) [])), (.t 0), (.t 1)]⟩])
 (.block 0 (.rangef (.v 9) #[31, 32] (nav [1, 1, 1, 1, 0, 1, 0, 2] b74) (nav [1, 1, 1, 1, 0, 1, 0, 3] b74) (.region [⟨(.some 6), none, (.prim (.alloc [(.cv (.int .i64 0)), (.cv (.int .i64 0)), (.cv (.int .i64 0)), (.cv (.int .i64 0)), (.cv (.int .i64 0)), (.cv (.int .i64 0)), (.cv (.int .i64 0))])), []⟩, ⟨none, none, (.prim (.store 7)), [(.v 6), (.v 11)]⟩])
 (.block 1 (.draw [[], [], [], [1, 2], [0, 3], [4, 3, 0, 1, 2, 3, 4]] [⟨none, none, (.prim .load1), [(.v 4)]⟩, ⟨none, none, (.prim .load1), [(.v 2)]⟩, ⟨none, none, (.prim (.loadN 7)), [(.v 6)]⟩, ⟨none, none, .call, [(.t 1), (.t 2)]⟩, ⟨none, none, (.prim (.bin .add .int)), [(.t 0), (.t 3)]⟩, ⟨none, none, (.prim (.store 1)), [(.v 4), (.t 4)]⟩] [[], [], [], [1, 2], [0, 3, 1, 2], [4, 3, 0, 1, 2]])))))
 (.seq (.draw [[], [0], [1], [2], [], [], [3, 4, 5, 0, 1, 2, 3, 4, 5]] [⟨none, none, (.prim .load1), [(.v 1)]⟩, ⟨none, none, (.prim .nilck), [(.t 0)]⟩, ⟨none, none, (.prim (.fadd 2)), [(.t 1)]⟩, ⟨none, none, (.prim .load1), [(.t 2)]⟩, ⟨none, none, (.prim (.loadN 7)), [(.v 3)]⟩, ⟨none, none, (.prim .load1), [(.v 4)]⟩, ⟨none, none, (.prim (.mapset (true, [(.int .i64), (.int .i64), (.int .i64), (.int .i64), (.int .i64), (.int .i64), (.int .i64)]))), [(.t 3), (.t 4), (.t 5)]⟩] [[], [0], [1, 0], [2, 1, 0], [], [], [3, 4, 5, 0, 1, 2]])
 (.seq (.region [⟨none, none, (.prim .load1), [(.v 4)]⟩, ⟨none, none, (.prim (.store 1)), [(.v 4), (.t 0)]⟩])
 .ret)))))))
theorem cc74 : compC Try.prog vs74 Try.f74.ntmps (Try.f74.body.getD .skip) = some (ic74 (Try.f74.body.getD .skip)) := by kernel_rfl
abbrev rs74 : List RC := [(.l1 4)]
theorem fok74 (p : Bool) : FnOk Try.prog 74 ⟨ic74 (Try.f74.body.getD .skip), vs74, 45, rs74, p⟩ := FnOk.mk' Try.func74 hb74 (by kernel_rfl) cc74 (by kernel_rfl) (by kernel_rfl)

theorem hb75 : Try.f75.body = some (Try.f75.body.getD .skip) := by kernel_rfl
abbrev vs75 : List Nat := [0, 1, 2, 4, 5, 11, 12, 13, 54]
def ic75l0 : IC := (.seq (.region [⟨(.some 7), none, (.prim (.bin .lss .int)), [(.v 6), (.v 5)]⟩])
 (.seq (.cond 7 .skip
 (.exit 0))
 (.seq (.block 1 (.seq (.region [⟨none, none, (.prim .mv), [(.v 6)]⟩, ⟨(.some 3), none, (.prim .mv), [(.t 0)]⟩])
 (.seq (.region [⟨none, none, (.prim (.fadd 0)), [(.v 2)]⟩, ⟨none, none, (.prim .load1), [(.t 0)]⟩, ⟨none, none, (.prim (.bin .add .int)), [(.t 1), (.c (.cv (.int .i64 1)))]⟩, ⟨none, none, (.prim (.fadd 1)), [(.v 2)]⟩, ⟨none, none, (.prim (.loadN 6)), [(.t 3)]⟩, ⟨none, none, (.prim (.build [(.cv (.int .i64 0)), (.cv (.int .i64 0)), (.cv (.int .i64 0)), (.cv (.int .i64 0)), (.cv (.int .i64 0)), (.cv (.int .i64 0)), (.cv (.int .i64 0))] [(0, 1), (1, 6)])), [(.t 2), (.t 4)]⟩, ⟨(.some 4), none, (.prim (.alloc [(.cv (.int .i64 0)), (.cv (.int .i64 0)), (.cv (.int .i64 0)), (.cv (.int .i64 0)), (.cv (.int .i64 0)), (.cv (.int .i64 0)), (.cv (.int .i64 0))])), []⟩, ⟨none, none, (.prim (.store 7)), [(.v 4), (.t 5)]⟩])
 (.seq (.region [⟨none, none, (.prim .mv), [(.v 3)]⟩, ⟨none, none, (.prim (.fadd 1)), [(.v 4)]⟩, ⟨none, none, (.prim (.iaA 6 1)), [(.t 1), (.t 0)]⟩, ⟨none, none, (.prim .load1), [(.t 2)]⟩, ⟨none, none, (.prim (.bin .sub .int)), [(.t 3), (.c (.cv (.int .i64 1)))]⟩, ⟨none, none, (.prim (.fadd 1)), [(.v 4)]⟩, ⟨none, none, (.prim (.iaA 6 1)), [(.t 5), (.t 0)]⟩, ⟨none, none, (.prim (.store 1)), [(.t 6), (.t 4)]⟩])
 (.seq (.draw [[], [0], [1], [2], [3], [], [5], [4, 6], [7], [], [8, 9], [10], [11], [12], [13], [13], [15, 14, 13], [16, 13], [17, 13], [13, 18], [19, 13], [20], [20], [20], [21, 22, 23, 20, 20], [24, 20], [20, 25]] [⟨none, none, (.prim .load1), [(.v 1)]⟩, ⟨none, none, (.prim .nilck), [(.t 0)]⟩, ⟨none, none, (.prim (.fadd 0)), [(.t 1)]⟩, ⟨none, none, (.prim (.fadd 1)), [(.t 2)]⟩, ⟨none, none, (.prim .load1), [(.t 3)]⟩, ⟨none, none, (.prim (.fadd 0)), [(.v 2)]⟩, ⟨none, none, (.prim .load1), [(.t 5)]⟩, ⟨none, none, (.prim (.iaS 1)), [(.t 4), (.t 6)]⟩, ⟨none, none, (.prim .load1), [(.t 7)]⟩, ⟨none, none, (.prim .mv), [(.v 3)]⟩, ⟨none, none, (.prim (.bin .shr .int)), [(.t 8), (.t 9)]⟩, ⟨none, none, (.prim (.bin .and .int)), [(.t 10), (.c (.cv (.int .i64 1)))]⟩, ⟨none, none, (.prim (.bin .eql .int)), [(.t 11), (.c (.cv (.int .i64 0)))]⟩, ⟨none, none, (.prim .mv), [(.t 12)]⟩, ⟨none, (.some (13, true)), (.prim .mv), [(.v 3)]⟩, ⟨none, (.some (13, true)), (.prim (.fadd 1)), [(.v 4)]⟩, ⟨none, (.some (13, true)), (.prim (.iaA 6 1)), [(.t 15), (.t 14)]⟩, ⟨none, (.some (13, true)), (.prim .load1), [(.t 16)]⟩, ⟨none, (.some (13, true)), (.prim (.bin .geq .int)), [(.t 17), (.c (.cv (.int .i64 0)))]⟩, ⟨none, none, (.prim .pick), [(.t 13), (.t 18), (.c (.cv (.bool false)))]⟩, ⟨none, none, (.prim .mv), [(.t 19)]⟩, ⟨none, (.some (20, true)), (.prim .mv), [(.v 0)]⟩, ⟨none, (.some (20, true)), (.prim .mv), [(.v 3)]⟩, ⟨none, (.some (20, true)), (.prim (.loadN 7)), [(.v 4)]⟩, ⟨none, (.some (20, true)), .call, [(.t 21), (.t 22), (.t 23)]⟩, ⟨none, (.some (20, true)), (.prim .not), [(.t 24)]⟩, ⟨(.some 8), none, (.prim .pick), [(.t 20), (.t 25), (.c (.cv (.bool false)))]⟩] [[], [0], [1, 0], [2, 1, 0], [3, 2, 1, 0], [], [5], [4, 6, 3, 2, 1, 0, 5], [7, 4, 6, 3, 2, 1, 0, 5], [], [8, 9, 7, 4, 6, 3, 2, 1, 0, 5], [10, 8, 9, 7, 4, 6, 3, 2, 1, 0, 5], [11, 10, 8, 9, 7, 4, 6, 3, 2, 1, 0, 5], [12, 11, 10, 8, 9, 7, 4, 6, 3, 2, 1, 0, 5], [13, 12, 11, 10, 8, 9, 7, 4, 6, 3, 2, 1, 0, 5], [13, 12, 11, 10, 8, 9, 7, 4, 6, 3, 2, 1, 0, 5], [15, 14, 13, 12, 11, 10, 8, 9, 7, 4, 6, 3, 2, 1, 0, 5], [16, 13, 15, 14, 12, 11, 10, 8, 9, 7, 4, 6, 3, 2, 1, 0, 5], [17, 13, 16, 15, 14, 12, 11, 10, 8, 9, 7, 4, 6, 3, 2, 1, 0, 5], [13, 18, 12, 11, 10, 8, 9, 7, 4, 6, 3, 2, 1, 0, 5, 17, 16, 15, 14], [19, 13, 18, 12, 11, 10, 8, 9, 7, 4, 6, 3, 2, 1, 0, 5, 17, 16, 15, 14], [20, 19, 13, 18, 12, 11, 10, 8, 9, 7, 4, 6, 3, 2, 1, 0, 5, 17, 16, 15, 14], [20, 19, 13, 18, 12, 11, 10, 8, 9, 7, 4, 6, 3, 2, 1, 0, 5, 17, 16, 15, 14], [20, 19, 13, 18, 12, 11, 10, 8, 9, 7, 4, 6, 3, 2, 1, 0, 5, 17, 16, 15, 14], [21, 22, 23, 20, 19, 13, 18, 12, 11, 10, 8, 9, 7, 4, 6, 3, 2, 1, 0, 5, 17, 16, 15, 14], [24, 20, 21, 22, 23, 19, 13, 18, 12, 11, 10, 8, 9, 7, 4, 6, 3, 2, 1, 0, 5, 17, 16, 15, 14], [20, 25, 19, 13, 18, 12, 11, 10, 8, 9, 7, 4, 6, 3, 2, 1, 0, 5, 17, 16, 15, 14, 24, 21, 22, 23]])
 (.cond 8 .ret
 .skip))))))
 (.region [⟨none, none, (.prim (.bin .add .int)), [(.v 6), (.c (.cv (.int .i64 1)))]⟩, ⟨(.some 6), none, (.prim .mv), [(.t 0)]⟩]))))
def ic75 : IC := (.seq (.region [⟨none, none, (.prim .load1), [(.v 1)]⟩, ⟨none, none, (.prim .nilck), [(.t 0)]⟩, ⟨none, none, (.prim (.fadd 0)), [(.t 1)]⟩, ⟨none, none, (.prim (.fadd 0)), [(.t 2)]⟩, ⟨none, none, (.prim .load1), [(.t 3)]⟩, ⟨(.some 5), none, (.prim (.len false)), [(.t 4)]⟩, ⟨(.some 6), none, (.prim .mv), [(.c (.cv (.int .i64 0)))]⟩])
 (.block 0 (.loop ic75l0)))
theorem cc75 : compC Try.prog vs75 Try.f75.ntmps (Try.f75.body.getD .skip) = some ic75 := by kernel_rfl
abbrev rs75 : List RC := []
theorem fok75 (p : Bool) : FnOk Try.prog 75 ⟨ic75, vs75, 56, rs75, p⟩ := FnOk.mk' Try.func75 hb75 (by kernel_rfl) cc75 (by kernel_rfl) (by kernel_rfl)

theorem hb76 : Try.f76.body = some (Try.f76.body.getD .skip) := by kernel_rfl
abbrev vs76 : List Nat := [0, 1, 2, 3, 4, 10, 11, 12, 13, 14, 15, 16, 17, 18, 19, 20, 25, 32, 39, 56, 75, 80, 97, 125]
def ic76l0 : IC := (.block 1 (.seq (.region [⟨none, none, (.prim .mv), [(.v 2)]⟩, ⟨none, none, (.prim .mv), [(.v 1)]⟩, ⟨none, none, (.prim (.bin .sub .int)), [(.t 0), (.t 1)]⟩, ⟨(.some 7), none, (.prim .mv), [(.t 2)]⟩])
 (.seq (.seq (.region [⟨none, none, (.prim .mv), [(.v 7)]⟩, ⟨(.some 16), none, (.prim (.bin .leq .int)), [(.t 0), (.c (.cv (.int .i64 12)))]⟩])
 (.cond 16 (.seq (.region [⟨none, none, (.prim .mv), [(.v 0)]⟩, ⟨none, none, (.prim .mv), [(.v 1)]⟩, ⟨none, none, (.prim .mv), [(.v 2)]⟩, ⟨none, none, (.prim .mv), [(.v 4)]⟩, ⟨none, none, .call, [(.c (.fn (.func 82) [])), (.t 0), (.t 1), (.t 2), (.t 3)]⟩])
 .ret)
 .skip))
 (.seq (.seq (.region [⟨none, none, (.prim .mv), [(.v 3)]⟩, ⟨(.some 17), none, (.prim (.bin .eql .int)), [(.t 0), (.c (.cv (.int .i64 0)))]⟩])
 (.cond 17 (.seq (.region [⟨none, none, (.prim .mv), [(.v 0)]⟩, ⟨none, none, (.prim .mv), [(.v 1)]⟩, ⟨none, none, (.prim .mv), [(.v 2)]⟩, ⟨none, none, (.prim .mv), [(.v 4)]⟩, ⟨none, none, .call, [(.c (.fn (.func 83) [])), (.t 0), (.t 1), (.t 2), (.t 3)]⟩])
 .ret)
 .skip))
 (.seq (.seq (.region [⟨none, none, (.prim .mv), [(.v 5)]⟩, ⟨(.some 18), none, (.prim .not), [(.t 0)]⟩])
 (.cond 18 (.seq (.region [⟨none, none, (.prim .mv), [(.v 0)]⟩, ⟨none, none, (.prim .mv), [(.v 1)]⟩, ⟨none, none, (.prim .mv), [(.v 2)]⟩, ⟨none, none, (.prim .mv), [(.v 4)]⟩, ⟨none, none, .call, [(.c (.fn (.func 84) [])), (.t 0), (.t 1), (.t 2), (.t 3)]⟩])
 (.region [⟨none, none, (.prim .mv), [(.v 3)]⟩, ⟨none, none, (.prim (.bin .sub .int)), [(.t 0), (.c (.cv (.int .i64 1)))]⟩, ⟨(.some 3), none, (.prim .mv), [(.t 1)]⟩]))
 .skip))
 (.seq (.region [⟨none, none, (.prim .mv), [(.v 0)]⟩, ⟨none, none, (.prim .mv), [(.v 1)]⟩, ⟨none, none, (.prim .mv), [(.v 2)]⟩, ⟨none, none, (.prim .mv), [(.v 4)]⟩, ⟨none, none, .call, [(.c (.fn (.func 85) [])), (.t 0), (.t 1), (.t 2), (.t 3)]⟩, ⟨none, none, (.prim .mv), [(.t 4)]⟩, ⟨none, none, (.prim (.extract 0)), [(.t 5)]⟩, ⟨none, none, (.prim (.extract 1)), [(.t 5)]⟩, ⟨(.some 8), none, (.prim .mv), [(.t 6)]⟩, ⟨(.some 9), none, (.prim .mv), [(.t 7)]⟩])
 (.seq (.seq (.region [⟨none, none, (.prim .mv), [(.v 9)]⟩, ⟨(.some 19), none, (.prim (.bin .eql .int)), [(.t 0), (.c (.cv (.int .i64 2)))]⟩])
 (.cond 19 (.seq (.region [⟨none, none, (.prim .mv), [(.v 0)]⟩, ⟨none, none, (.prim .mv), [(.v 1)]⟩, ⟨none, none, (.prim .mv), [(.v 2)]⟩, ⟨none, none, (.prim .mv), [(.v 4)]⟩, ⟨none, none, .call, [(.c (.fn (.func 86) [])), (.t 0), (.t 1), (.t 2), (.t 3)]⟩])
 (.seq (.region [⟨none, none, (.prim .mv), [(.v 2)]⟩, ⟨none, none, (.prim (.bin .sub .int)), [(.t 0), (.c (.cv (.int .i64 1)))]⟩, ⟨none, none, (.prim .mv), [(.v 8)]⟩, ⟨none, none, (.prim .mv), [(.v 1)]⟩, ⟨none, none, (.prim (.bin .sub .int)), [(.t 2), (.t 3)]⟩, ⟨none, none, (.prim (.bin .sub .int)), [(.t 1), (.t 4)]⟩, ⟨(.some 8), none, (.prim .mv), [(.t 5)]⟩])
 (.region [⟨(.some 9), none, (.prim .mv), [(.c (.cv (.int .i64 1)))]⟩])))
 .skip))
 (.seq (.seq (.region [⟨none, none, (.prim .mv), [(.v 5)]⟩, ⟨none, none, (.prim .mv), [(.t 0)]⟩, ⟨none, (.some (1, true)), (.prim .mv), [(.v 6)]⟩, ⟨none, none, (.prim .pick), [(.t 1), (.t 2), (.c (.cv (.bool false)))]⟩, ⟨none, none, (.prim .mv), [(.t 3)]⟩, ⟨none, (.some (4, true)), (.prim .mv), [(.v 9)]⟩, ⟨none, (.some (4, true)), (.prim (.bin .eql .int)), [(.t 5), (.c (.cv (.int .i64 1)))]⟩, ⟨(.some 20), none, (.prim .pick), [(.t 4), (.t 6), (.c (.cv (.bool false)))]⟩])
 (.cond 20 (.seq (.region [⟨none, none, (.prim .mv), [(.v 0)]⟩, ⟨none, none, (.prim .mv), [(.v 1)]⟩, ⟨none, none, (.prim .mv), [(.v 2)]⟩, ⟨none, none, (.prim .mv), [(.v 4)]⟩, ⟨(.some 21), none, .call, [(.c (.fn (.func 87) [])), (.t 0), (.t 1), (.t 2), (.t 3)]⟩])
 (.cond 21 .ret
 .skip))
 .skip))
 (.seq (.seq (.draw [[], [0], [1], [2], [2], [2], [5, 2], [4, 6, 2], [7, 2], [2], [2], [9, 10, 2], [11, 2], [3, 8, 12, 2, 2], [13, 2], [14, 2], [2, 15]] [⟨none, none, (.prim .mv), [(.v 1)]⟩, ⟨none, none, (.prim (.bin .gtr .int)), [(.t 0), (.c (.cv (.int .i64 0)))]⟩, ⟨none, none, (.prim .mv), [(.t 1)]⟩, ⟨none, (.some (2, true)), (.prim .mv), [(.v 4)]⟩, ⟨none, (.some (2, true)), (.prim .mv), [(.v 0)]⟩, ⟨none, (.some (2, true)), (.prim .mv), [(.v 1)]⟩, ⟨none, (.some (2, true)), (.prim (.bin .sub .int)), [(.t 5), (.c (.cv (.int .i64 1)))]⟩, ⟨none, (.some (2, true)), (.prim (.iaS 1)), [(.t 4), (.t 6)]⟩, ⟨none, (.some (2, true)), (.prim .load1), [(.t 7)]⟩, ⟨none, (.some (2, true)), (.prim .mv), [(.v 0)]⟩, ⟨none, (.some (2, true)), (.prim .mv), [(.v 8)]⟩, ⟨none, (.some (2, true)), (.prim (.iaS 1)), [(.t 9), (.t 10)]⟩, ⟨none, (.some (2, true)), (.prim .load1), [(.t 11)]⟩, ⟨none, (.some (2, true)), .call, [(.t 3), (.t 8), (.t 12)]⟩, ⟨none, (.some (2, true)), (.prim (.bin .lss .int)), [(.t 13), (.c (.cv (.int .i64 0)))]⟩, ⟨none, (.some (2, true)), (.prim .not), [(.t 14)]⟩, ⟨(.some 22), none, (.prim .pick), [(.t 2), (.t 15), (.c (.cv (.bool false)))]⟩] [[], [0], [1, 0], [2, 1, 0], [2, 1, 0], [2, 1, 0], [5, 2, 1, 0], [4, 6, 2, 1, 0, 5], [7, 2, 4, 6, 1, 0, 5], [2, 1, 0], [2, 1, 0], [9, 10, 2, 1, 0], [11, 2, 9, 10, 1, 0], [3, 8, 12, 2, 1, 0, 7, 4, 6, 5, 11, 9, 10], [13, 2, 3, 8, 12, 1, 0, 7, 4, 6, 5, 11, 9, 10], [14, 2, 13, 3, 8, 12, 1, 0, 7, 4, 6, 5, 11, 9, 10], [2, 15, 1, 0, 14, 13, 3, 8, 12, 7, 4, 6, 5, 11, 9, 10]])
 (.cond 22 (.seq (.region [⟨none, none, (.prim .mv), [(.v 0)]⟩, ⟨none, none, (.prim .mv), [(.v 1)]⟩, ⟨none, none, (.prim .mv), [(.v 2)]⟩, ⟨none, none, (.prim .mv), [(.v 8)]⟩, ⟨none, none, (.prim .mv), [(.v 4)]⟩, ⟨none, none, .call, [(.c (.fn (.func 88) [])), (.t 0), (.t 1), (.t 2), (.t 3), (.t 4)]⟩, ⟨(.some 10), none, (.prim .mv), [(.t 5)]⟩])
 (.seq (.region [⟨none, none, (.prim .mv), [(.v 10)]⟩, ⟨(.some 1), none, (.prim .mv), [(.t 0)]⟩])
 (.exit 1)))
 .skip))
 (.seq (.region [⟨none, none, (.prim .mv), [(.v 0)]⟩, ⟨none, none, (.prim .mv), [(.v 1)]⟩, ⟨none, none, (.prim .mv), [(.v 2)]⟩, ⟨none, none, (.prim .mv), [(.v 8)]⟩, ⟨none, none, (.prim .mv), [(.v 4)]⟩, ⟨none, none, .call, [(.c (.fn (.func 89) [])), (.t 0), (.t 1), (.t 2), (.t 3), (.t 4)]⟩, ⟨none, none, (.prim .mv), [(.t 5)]⟩, ⟨none, none, (.prim (.extract 0)), [(.t 6)]⟩, ⟨none, none, (.prim (.extract 1)), [(.t 6)]⟩, ⟨(.some 11), none, (.prim .mv), [(.t 7)]⟩, ⟨(.some 12), none, (.prim .mv), [(.t 8)]⟩])
 (.seq (.region [⟨none, none, (.prim .mv), [(.v 12)]⟩, ⟨(.some 6), none, (.prim .mv), [(.t 0)]⟩])
 (.seq (.region [⟨none, none, (.prim .mv), [(.v 11)]⟩, ⟨none, none, (.prim .mv), [(.v 1)]⟩, ⟨none, none, (.prim (.bin .sub .int)), [(.t 0), (.t 1)]⟩, ⟨none, none, (.prim .mv), [(.v 2)]⟩, ⟨none, none, (.prim .mv), [(.v 11)]⟩, ⟨none, none, (.prim (.bin .sub .int)), [(.t 3), (.t 4)]⟩, ⟨(.some 13), none, (.prim .mv), [(.t 2)]⟩, ⟨(.some 14), none, (.prim .mv), [(.t 5)]⟩])
 (.seq (.region [⟨none, none, (.prim .mv), [(.v 7)]⟩, ⟨none, none, (.prim (.bin .quo .int)), [(.t 0), (.c (.cv (.int .i64 8)))]⟩, ⟨(.some 15), none, (.prim .mv), [(.t 1)]⟩])
 (.seq (.region [⟨none, none, (.prim .mv), [(.v 13)]⟩, ⟨none, none, (.prim .mv), [(.v 14)]⟩, ⟨(.some 23), none, (.prim (.bin .lss .int)), [(.t 0), (.t 1)]⟩])
 (.cond 23 (.seq (.region [⟨none, none, (.prim .mv), [(.v 13)]⟩, ⟨none, none, (.prim .mv), [(.v 15)]⟩, ⟨none, none, (.prim (.bin .geq .int)), [(.t 0), (.t 1)]⟩, ⟨(.some 5), none, (.prim .mv), [(.t 2)]⟩])
 (.seq (.region [⟨none, none, (.prim .mv), [(.v 0)]⟩, ⟨none, none, (.prim .mv), [(.v 1)]⟩, ⟨none, none, (.prim .mv), [(.v 11)]⟩, ⟨none, none, (.prim .mv), [(.v 3)]⟩, ⟨none, none, (.prim .mv), [(.v 4)]⟩, ⟨none, none, .call, [(.c (.fn (.func 76) [])), (.t 0), (.t 1), (.t 2), (.t 3), (.t 4)]⟩])
 (.region [⟨none, none, (.prim .mv), [(.v 11)]⟩, ⟨none, none, (.prim (.bin .add .int)), [(.t 0), (.c (.cv (.int .i64 1)))]⟩, ⟨(.some 1), none, (.prim .mv), [(.t 1)]⟩])))
 (.seq (.region [⟨none, none, (.prim .mv), [(.v 14)]⟩, ⟨none, none, (.prim .mv), [(.v 15)]⟩, ⟨none, none, (.prim (.bin .geq .int)), [(.t 0), (.t 1)]⟩, ⟨(.some 5), none, (.prim .mv), [(.t 2)]⟩])
 (.seq (.region [⟨none, none, (.prim .mv), [(.v 0)]⟩, ⟨none, none, (.prim .mv), [(.v 11)]⟩, ⟨none, none, (.prim (.bin .add .int)), [(.t 1), (.c (.cv (.int .i64 1)))]⟩, ⟨none, none, (.prim .mv), [(.v 2)]⟩, ⟨none, none, (.prim .mv), [(.v 3)]⟩, ⟨none, none, (.prim .mv), [(.v 4)]⟩, ⟨none, none, .call, [(.c (.fn (.func 76) [])), (.t 0), (.t 2), (.t 3), (.t 4), (.t 5)]⟩])
 (.region [⟨none, none, (.prim .mv), [(.v 11)]⟩, ⟨(.some 2), none, (.prim .mv), [(.t 0)]⟩]))))))))))))))))))
def ic76 : IC := (.seq (.region [⟨(.some 5), none, (.prim .mv), [(.c (.cv (.bool true)))]⟩])
 (.seq (.region [⟨(.some 6), none, (.prim .mv), [(.c (.cv (.bool true)))]⟩])
 (.block 0 (.loop ic76l0))))
theorem cc76 : compC Try.prog vs76 Try.f76.ntmps (Try.f76.body.getD .skip) = some ic76 := by kernel_rfl
abbrev rs76 : List RC := []
theorem fok76 (p : Bool) : FnOk Try.prog 76 ⟨ic76, vs76, 148, rs76, p⟩ := FnOk.mk' Try.func76 hb76 (by kernel_rfl) cc76 (by kernel_rfl) (by kernel_rfl)

theorem hb77 : Try.f77.body = some (Try.f77.body.getD .skip) := by kernel_rfl
abbrev vs77 : List Nat := [0, 2]
def ic77 : IC := (.seq (.region [⟨(.some 1), none, (.prim .mv), [(.c (.cv (.int .i64 0)))]⟩])
 (.seq .skip
 (.seq (.region [⟨none, none, (.prim .mv), [(.v 0)]⟩, ⟨none, none, .call, [(.c (.fn (.func 91) [])), (.t 0)]⟩, ⟨(.some 1), none, (.prim .mv), [(.t 1)]⟩])
 .ret)))
theorem cc77 : compC Try.prog vs77 Try.f77.ntmps (Try.f77.body.getD .skip) = some ic77 := by kernel_rfl
abbrev rs77 : List RC := [(.v 1)]
theorem fok77 (p : Bool) : FnOk Try.prog 77 ⟨ic77, vs77, 8, rs77, p⟩ := FnOk.mk' Try.func77 hb77 (by kernel_rfl) cc77 (by kernel_rfl) (by kernel_rfl)

theorem hb78 : Try.f78.body = some (Try.f78.body.getD .skip) := by kernel_rfl
abbrev vs78 : List Nat := [0, 2]
def ic78 : IC := (.seq (.region [⟨(.some 1), none, (.prim .mv), [(.c (.cv (.bool false)))]⟩])
 (.seq (.region [⟨none, none, (.prim .mv), [(.v 0)]⟩, ⟨none, none, (.prim .mv), [(.v 0)]⟩, ⟨none, none, (.prim (.bin .neq .int)), [(.t 0), (.t 1)]⟩, ⟨(.some 1), none, (.prim .mv), [(.t 2)]⟩])
 .ret))
theorem cc78 : compC Try.prog vs78 Try.f78.ntmps (Try.f78.body.getD .skip) = some ic78 := by kernel_rfl
abbrev rs78 : List RC := [(.v 1)]
theorem fok78 (p : Bool) : FnOk Try.prog 78 ⟨ic78, vs78, 6, rs78, p⟩ := FnOk.mk' Try.func78 hb78 (by kernel_rfl) cc78 (by kernel_rfl) (by kernel_rfl)

theorem hb79 : Try.f79.body = some (Try.f79.body.getD .skip) := by kernel_rfl
abbrev vs79 : List Nat := [0, 1, 4, 5, 7, 8, 9, 16]
def ic79l0 : IC := (.seq (.region [⟨(.some 6), none, (.prim (.bin .lss .int)), [(.v 5), (.v 4)]⟩])
 (.seq (.cond 6 .skip
 (.exit 0))
 (.seq (.block 1 (.seq (.region [⟨none, none, (.prim .mv), [(.v 5)]⟩, ⟨(.some 3), none, (.prim .mv), [(.t 0)]⟩])
 (.seq (.region [⟨none, none, (.prim .mv), [(.v 1)]⟩, ⟨none, none, (.prim .mv), [(.v 0)]⟩, ⟨none, none, (.prim .mv), [(.v 3)]⟩, ⟨none, none, (.prim (.iaS 1)), [(.t 1), (.t 2)]⟩, ⟨none, none, (.prim .load1), [(.t 3)]⟩, ⟨(.some 7), none, .call, [(.t 0), (.t 4)]⟩])
 (.cond 7 (.seq (.region [⟨none, none, (.prim .mv), [(.v 3)]⟩, ⟨(.some 2), none, (.prim .mv), [(.t 0)]⟩])
 .ret)
 .skip))))
 (.region [⟨none, none, (.prim (.bin .add .int)), [(.v 5), (.c (.cv (.int .i64 1)))]⟩, ⟨(.some 5), none, (.prim .mv), [(.t 0)]⟩]))))
def ic79 : IC := (.seq (.region [⟨(.some 2), none, (.prim .mv), [(.c (.cv (.int .i64 0)))]⟩])
 (.seq (.seq (.region [⟨none, none, (.prim .mv), [(.v 0)]⟩, ⟨(.some 4), none, (.prim (.len false)), [(.t 0)]⟩, ⟨(.some 5), none, (.prim .mv), [(.c (.cv (.int .i64 0)))]⟩])
 (.block 0 (.loop ic79l0)))
 (.seq (.region [⟨(.some 2), none, (.prim .mv), [(.c (.cv (.int .i64 (-1))))]⟩])
 .ret)))
theorem cc79 : compC Try.prog vs79 Try.f79.ntmps (Try.f79.body.getD .skip) = some ic79 := by kernel_rfl
abbrev rs79 : List RC := [(.v 2)]
theorem fok79 (p : Bool) : FnOk Try.prog 79 ⟨ic79, vs79, 19, rs79, p⟩ := FnOk.mk' Try.func79 hb79 (by kernel_rfl) cc79 (by kernel_rfl) (by kernel_rfl)

theorem hb80 : Try.f80.body = some (Try.f80.body.getD .skip) := by kernel_rfl
abbrev vs80 : List Nat := [0, 1, 2, 4]
def ic80 : IC := (.seq (.region [⟨(.some 3), none, (.prim .mv), [(.c (.cv (.bool false)))]⟩])
 (.seq (.draw [[], [0], [1], [2], [3], [], [4, 5], [6], [], [7, 8], [9], [10], [11, 0, 1, 2, 3, 4, 5, 6, 7, 8, 9, 10, 11]] [⟨none, none, (.prim .load1), [(.v 1)]⟩, ⟨none, none, (.prim .nilck), [(.t 0)]⟩, ⟨none, none, (.prim (.fadd 0)), [(.t 1)]⟩, ⟨none, none, (.prim (.fadd 1)), [(.t 2)]⟩, ⟨none, none, (.prim .load1), [(.t 3)]⟩, ⟨none, none, (.prim .mv), [(.v 0)]⟩, ⟨none, none, (.prim (.iaS 1)), [(.t 4), (.t 5)]⟩, ⟨none, none, (.prim .load1), [(.t 6)]⟩, ⟨none, none, (.prim .load1), [(.v 2)]⟩, ⟨none, none, (.prim (.bin .shr .int)), [(.t 7), (.t 8)]⟩, ⟨none, none, (.prim (.bin .and .int)), [(.t 9), (.c (.cv (.int .i64 1)))]⟩, ⟨none, none, (.prim (.bin .eql .int)), [(.t 10), (.c (.cv (.int .i64 0)))]⟩, ⟨(.some 3), none, (.prim .mv), [(.t 11)]⟩] [[], [0], [1, 0], [2, 1, 0], [3, 2, 1, 0], [], [4, 5, 3, 2, 1, 0], [6, 4, 5, 3, 2, 1, 0], [], [7, 8, 6, 4, 5, 3, 2, 1, 0], [9, 7, 8, 6, 4, 5, 3, 2, 1, 0], [10, 9, 7, 8, 6, 4, 5, 3, 2, 1, 0], [11, 0, 1, 2, 3, 4, 5, 6, 7, 8, 9, 10]])
 .ret))
theorem cc80 : compC Try.prog vs80 Try.f80.ntmps (Try.f80.body.getD .skip) = some ic80 := by kernel_rfl
abbrev rs80 : List RC := [(.v 3)]
theorem fok80 (p : Bool) : FnOk Try.prog 80 ⟨ic80, vs80, 17, rs80, p⟩ := FnOk.mk' Try.func80 hb80 (by kernel_rfl) cc80 (by kernel_rfl) (by kernel_rfl)

theorem hb81 : Try.f81.body = some (Try.f81.body.getD .skip) := by kernel_rfl
abbrev vs81 : List Nat := [0, 1, 4, 5, 7, 8, 9, 16]
def ic81l0 : IC := (.seq (.region [⟨(.some 6), none, (.prim (.bin .lss .int)), [(.v 5), (.v 4)]⟩])
 (.seq (.cond 6 .skip
 (.exit 0))
 (.seq (.block 1 (.seq (.region [⟨none, none, (.prim .mv), [(.v 5)]⟩, ⟨(.some 3), none, (.prim .mv), [(.t 0)]⟩])
 (.seq (.region [⟨none, none, (.prim .mv), [(.v 1)]⟩, ⟨none, none, (.prim .mv), [(.v 0)]⟩, ⟨none, none, (.prim .mv), [(.v 3)]⟩, ⟨none, none, (.prim (.iaS 1)), [(.t 1), (.t 2)]⟩, ⟨none, none, (.prim .load1), [(.t 3)]⟩, ⟨(.some 7), none, .call, [(.t 0), (.t 4)]⟩])
 (.cond 7 (.seq (.region [⟨none, none, (.prim .mv), [(.v 3)]⟩, ⟨(.some 2), none, (.prim .mv), [(.t 0)]⟩])
 .ret)
 .skip))))
 (.region [⟨none, none, (.prim (.bin .add .int)), [(.v 5), (.c (.cv (.int .i64 1)))]⟩, ⟨(.some 5), none, (.prim .mv), [(.t 0)]⟩]))))
def ic81 : IC := (.seq (.region [⟨(.some 2), none, (.prim .mv), [(.c (.cv (.int .i64 0)))]⟩])
 (.seq (.seq (.region [⟨none, none, (.prim .mv), [(.v 0)]⟩, ⟨(.some 4), none, (.prim (.len false)), [(.t 0)]⟩, ⟨(.some 5), none, (.prim .mv), [(.c (.cv (.int .i64 0)))]⟩])
 (.block 0 (.loop ic81l0)))
 (.seq (.region [⟨(.some 2), none, (.prim .mv), [(.c (.cv (.int .i64 (-1))))]⟩])
 .ret)))
theorem cc81 : compC Try.prog vs81 Try.f81.ntmps (Try.f81.body.getD .skip) = some ic81 := by kernel_rfl
abbrev rs81 : List RC := [(.v 2)]
theorem fok81 (p : Bool) : FnOk Try.prog 81 ⟨ic81, vs81, 19, rs81, p⟩ := FnOk.mk' Try.func81 hb81 (by kernel_rfl) cc81 (by kernel_rfl) (by kernel_rfl)

theorem hb82 : Try.f82.body = some (Try.f82.body.getD .skip) := by kernel_rfl
abbrev vs82 : List Nat := [0, 1, 2, 3, 8, 9, 14, 34]
def ic82l0 : IC := (.seq (.seq (.draw [[], [], [0, 1], [2], [3], [3], [3], [5, 6, 3], [7, 3], [3], [3], [10, 3], [9, 11, 3], [12, 3], [4, 8, 13, 3, 3], [14, 3], [3, 15]] [⟨none, none, (.prim .mv), [(.v 5)]⟩, ⟨none, none, (.prim .mv), [(.v 1)]⟩, ⟨none, none, (.prim (.bin .gtr .int)), [(.t 0), (.t 1)]⟩, ⟨none, none, (.prim .mv), [(.t 2)]⟩, ⟨none, (.some (3, true)), (.prim .mv), [(.v 3)]⟩, ⟨none, (.some (3, true)), (.prim .mv), [(.v 0)]⟩, ⟨none, (.some (3, true)), (.prim .mv), [(.v 5)]⟩, ⟨none, (.some (3, true)), (.prim (.iaS 1)), [(.t 5), (.t 6)]⟩, ⟨none, (.some (3, true)), (.prim .load1), [(.t 7)]⟩, ⟨none, (.some (3, true)), (.prim .mv), [(.v 0)]⟩, ⟨none, (.some (3, true)), (.prim .mv), [(.v 5)]⟩, ⟨none, (.some (3, true)), (.prim (.bin .sub .int)), [(.t 10), (.c (.cv (.int .i64 1)))]⟩, ⟨none, (.some (3, true)), (.prim (.iaS 1)), [(.t 9), (.t 11)]⟩, ⟨none, (.some (3, true)), (.prim .load1), [(.t 12)]⟩, ⟨none, (.some (3, true)), .call, [(.t 4), (.t 8), (.t 13)]⟩, ⟨none, (.some (3, true)), (.prim (.bin .lss .int)), [(.t 14), (.c (.cv (.int .i64 0)))]⟩, ⟨(.some 7), none, (.prim .pick), [(.t 3), (.t 15), (.c (.cv (.bool false)))]⟩] [[], [], [0, 1], [2, 0, 1], [3, 2, 0, 1], [3, 2, 0, 1], [3, 2, 0, 1], [5, 6, 3, 2, 0, 1], [7, 3, 5, 6, 2, 0, 1], [3, 2, 0, 1], [3, 2, 0, 1], [10, 3, 2, 0, 1], [9, 11, 3, 2, 0, 1, 10], [12, 3, 9, 11, 2, 0, 1, 10], [4, 8, 13, 3, 2, 0, 1, 7, 5, 6, 12, 9, 11, 10], [14, 3, 4, 8, 13, 2, 0, 1, 7, 5, 6, 12, 9, 11, 10], [3, 15, 2, 0, 1, 14, 4, 8, 13, 7, 5, 6, 12, 9, 11, 10]])
 (.cond 7 .skip
 (.exit 2)))
 (.seq (.block 3 (.draw [[], [], [], [], [3], [], [], [6], [5, 7], [8], [], [], [10, 11], [12], [0, 1, 0, 1, 5, 6, 7, 8, 9, 13], [14, 9, 0, 1, 5, 6, 7, 8, 9, 13], [2, 4, 0, 1, 2, 3, 4, 5, 6, 7, 8, 9, 10, 11, 12, 13, 14, 15], [16, 13, 15, 0, 1, 2, 3, 4, 5, 6, 7, 8, 9, 10, 11, 12, 13, 14, 15]] [⟨none, none, (.prim .mv), [(.v 0)]⟩, ⟨none, none, (.prim .mv), [(.v 5)]⟩, ⟨none, none, (.prim .mv), [(.v 0)]⟩, ⟨none, none, (.prim .mv), [(.v 5)]⟩, ⟨none, none, (.prim (.bin .sub .int)), [(.t 3), (.c (.cv (.int .i64 1)))]⟩, ⟨none, none, (.prim .mv), [(.v 0)]⟩, ⟨none, none, (.prim .mv), [(.v 5)]⟩, ⟨none, none, (.prim (.bin .sub .int)), [(.t 6), (.c (.cv (.int .i64 1)))]⟩, ⟨none, none, (.prim (.iaS 1)), [(.t 5), (.t 7)]⟩, ⟨none, none, (.prim .load1), [(.t 8)]⟩, ⟨none, none, (.prim .mv), [(.v 0)]⟩, ⟨none, none, (.prim .mv), [(.v 5)]⟩, ⟨none, none, (.prim (.iaS 1)), [(.t 10), (.t 11)]⟩, ⟨none, none, (.prim .load1), [(.t 12)]⟩, ⟨none, none, (.prim (.iaS 1)), [(.t 0), (.t 1)]⟩, ⟨none, none, (.prim (.store 1)), [(.t 14), (.t 9)]⟩, ⟨none, none, (.prim (.iaS 1)), [(.t 2), (.t 4)]⟩, ⟨none, none, (.prim (.store 1)), [(.t 16), (.t 13)]⟩] [[], [], [], [], [3], [], [], [6], [5, 7, 6], [8, 5, 7, 6], [], [], [10, 11], [12, 10, 11], [0, 1, 5, 6, 7, 8, 9, 13, 12, 10, 11], [14, 9, 0, 1, 5, 6, 7, 8, 13, 12, 10, 11], [2, 4, 0, 1, 3, 5, 6, 7, 8, 9, 10, 11, 12, 13, 14, 15], [16, 13, 15, 0, 1, 2, 3, 4, 5, 6, 7, 8, 9, 10, 11, 12, 14]]))
 (.region [⟨none, none, (.prim .mv), [(.v 5)]⟩, ⟨none, none, (.prim (.bin .sub .int)), [(.t 0), (.c (.cv (.int .i64 1)))]⟩, ⟨(.some 5), none, (.prim .mv), [(.t 1)]⟩])))
def ic82l1 : IC := (.seq (.seq (.region [⟨none, none, (.prim .mv), [(.v 4)]⟩, ⟨none, none, (.prim .mv), [(.v 2)]⟩, ⟨(.some 6), none, (.prim (.bin .lss .int)), [(.t 0), (.t 1)]⟩])
 (.cond 6 .skip
 (.exit 0)))
 (.seq (.block 1 (.seq (.region [⟨none, none, (.prim .mv), [(.v 4)]⟩, ⟨(.some 5), none, (.prim .mv), [(.t 0)]⟩])
 (.block 2 (.loop ic82l0))))
 (.region [⟨none, none, (.prim .mv), [(.v 4)]⟩, ⟨none, none, (.prim (.bin .add .int)), [(.t 0), (.c (.cv (.int .i64 1)))]⟩, ⟨(.some 4), none, (.prim .mv), [(.t 1)]⟩])))
def ic82 : IC := (.seq (.region [⟨none, none, (.prim .mv), [(.v 1)]⟩, ⟨none, none, (.prim (.bin .add .int)), [(.t 0), (.c (.cv (.int .i64 1)))]⟩, ⟨(.some 4), none, (.prim .mv), [(.t 1)]⟩])
 (.block 0 (.loop ic82l1)))
theorem cc82 : compC Try.prog vs82 Try.f82.ntmps (Try.f82.body.getD .skip) = some ic82 := by kernel_rfl
abbrev rs82 : List RC := []
theorem fok82 (p : Bool) : FnOk Try.prog 82 ⟨ic82, vs82, 53, rs82, p⟩ := FnOk.mk' Try.func82 hb82 (by kernel_rfl) cc82 (by kernel_rfl) (by kernel_rfl)

theorem hb83 : Try.f83.body = some (Try.f83.body.getD .skip) := by kernel_rfl
abbrev vs83 : List Nat := [0, 1, 2, 3, 8, 9, 10, 11, 12, 21, 33]
def ic83l0 : IC := (.seq (.seq (.region [⟨none, none, (.prim .mv), [(.v 8)]⟩, ⟨(.some 10), none, (.prim (.bin .geq .int)), [(.t 0), (.c (.cv (.int .i64 0)))]⟩])
 (.cond 10 .skip
 (.exit 2)))
 (.seq (.block 3 (.seq (.draw [[], [], [], [], [], [3, 4], [], [], [], [7, 8], [6, 9], [10], [], [], [12, 13], [14], [0, 1, 0, 1, 6, 7, 8, 9, 10, 11, 15], [16, 11, 0, 1, 6, 7, 8, 9, 10, 11, 15], [2, 5, 0, 1, 2, 3, 4, 5, 6, 7, 8, 9, 10, 11, 12, 13, 14, 15, 16, 17], [18, 15, 17, 0, 1, 2, 3, 4, 5, 6, 7, 8, 9, 10, 11, 12, 13, 14, 15, 16, 17]] [⟨none, none, (.prim .mv), [(.v 0)]⟩, ⟨none, none, (.prim .mv), [(.v 4)]⟩, ⟨none, none, (.prim .mv), [(.v 0)]⟩, ⟨none, none, (.prim .mv), [(.v 4)]⟩, ⟨none, none, (.prim .mv), [(.v 8)]⟩, ⟨none, none, (.prim (.bin .add .int)), [(.t 3), (.t 4)]⟩, ⟨none, none, (.prim .mv), [(.v 0)]⟩, ⟨none, none, (.prim .mv), [(.v 4)]⟩, ⟨none, none, (.prim .mv), [(.v 8)]⟩, ⟨none, none, (.prim (.bin .add .int)), [(.t 7), (.t 8)]⟩, ⟨none, none, (.prim (.iaS 1)), [(.t 6), (.t 9)]⟩, ⟨none, none, (.prim .load1), [(.t 10)]⟩, ⟨none, none, (.prim .mv), [(.v 0)]⟩, ⟨none, none, (.prim .mv), [(.v 4)]⟩, ⟨none, none, (.prim (.iaS 1)), [(.t 12), (.t 13)]⟩, ⟨none, none, (.prim .load1), [(.t 14)]⟩, ⟨none, none, (.prim (.iaS 1)), [(.t 0), (.t 1)]⟩, ⟨none, none, (.prim (.store 1)), [(.t 16), (.t 11)]⟩, ⟨none, none, (.prim (.iaS 1)), [(.t 2), (.t 5)]⟩, ⟨none, none, (.prim (.store 1)), [(.t 18), (.t 15)]⟩] [[], [], [], [], [], [3, 4], [], [], [], [7, 8], [6, 9, 7, 8], [10, 6, 9, 7, 8], [], [], [12, 13], [14, 12, 13], [0, 1, 6, 7, 8, 9, 10, 11, 15, 14, 12, 13], [16, 11, 0, 1, 6, 7, 8, 9, 10, 15, 14, 12, 13], [2, 5, 0, 1, 3, 4, 6, 7, 8, 9, 10, 11, 12, 13, 14, 15, 16, 17], [18, 15, 17, 0, 1, 2, 3, 4, 5, 6, 7, 8, 9, 10, 11, 12, 13, 14, 16]])
 (.region [⟨none, none, (.prim .mv), [(.v 0)]⟩, ⟨none, none, (.prim .mv), [(.v 5)]⟩, ⟨none, none, (.prim .mv), [(.v 8)]⟩, ⟨none, none, (.prim .mv), [(.v 4)]⟩, ⟨none, none, (.prim .mv), [(.v 3)]⟩, ⟨none, none, .call, [(.c (.fn (.func 92) [])), (.t 0), (.t 1), (.t 2), (.t 3), (.t 4)]⟩])))
 (.region [⟨none, none, (.prim .mv), [(.v 8)]⟩, ⟨none, none, (.prim (.bin .sub .int)), [(.t 0), (.c (.cv (.int .i64 1)))]⟩, ⟨(.some 8), none, (.prim .mv), [(.t 1)]⟩])))
def ic83l1 : IC := (.seq (.seq (.region [⟨none, none, (.prim .mv), [(.v 7)]⟩, ⟨(.some 9), none, (.prim (.bin .geq .int)), [(.t 0), (.c (.cv (.int .i64 0)))]⟩])
 (.cond 9 .skip
 (.exit 0)))
 (.seq (.block 1 (.region [⟨none, none, (.prim .mv), [(.v 0)]⟩, ⟨none, none, (.prim .mv), [(.v 7)]⟩, ⟨none, none, (.prim .mv), [(.v 6)]⟩, ⟨none, none, (.prim .mv), [(.v 4)]⟩, ⟨none, none, (.prim .mv), [(.v 3)]⟩, ⟨none, none, .call, [(.c (.fn (.func 92) [])), (.t 0), (.t 1), (.t 2), (.t 3), (.t 4)]⟩]))
 (.region [⟨none, none, (.prim .mv), [(.v 7)]⟩, ⟨none, none, (.prim (.bin .sub .int)), [(.t 0), (.c (.cv (.int .i64 1)))]⟩, ⟨(.some 7), none, (.prim .mv), [(.t 1)]⟩])))
def ic83 : IC := (.seq (.region [⟨none, none, (.prim .mv), [(.v 1)]⟩, ⟨(.some 4), none, (.prim .mv), [(.t 0)]⟩])
 (.seq (.region [⟨(.some 5), none, (.prim .mv), [(.c (.cv (.int .i64 0)))]⟩])
 (.seq (.region [⟨none, none, (.prim .mv), [(.v 2)]⟩, ⟨none, none, (.prim .mv), [(.v 1)]⟩, ⟨none, none, (.prim (.bin .sub .int)), [(.t 0), (.t 1)]⟩, ⟨(.some 6), none, (.prim .mv), [(.t 2)]⟩])
 (.seq (.seq (.region [⟨none, none, (.prim .mv), [(.v 6)]⟩, ⟨none, none, (.prim (.bin .sub .int)), [(.t 0), (.c (.cv (.int .i64 1)))]⟩, ⟨none, none, (.prim (.bin .quo .int)), [(.t 1), (.c (.cv (.int .i64 2)))]⟩, ⟨(.some 7), none, (.prim .mv), [(.t 2)]⟩])
 (.block 0 (.loop ic83l1)))
 (.seq (.region [⟨none, none, (.prim .mv), [(.v 6)]⟩, ⟨none, none, (.prim (.bin .sub .int)), [(.t 0), (.c (.cv (.int .i64 1)))]⟩, ⟨(.some 8), none, (.prim .mv), [(.t 1)]⟩])
 (.block 2 (.loop ic83l0)))))))
theorem cc83 : compC Try.prog vs83 Try.f83.ntmps (Try.f83.body.getD .skip) = some ic83 := by kernel_rfl
abbrev rs83 : List RC := []
theorem fok83 (p : Bool) : FnOk Try.prog 83 ⟨ic83, vs83, 60, rs83, p⟩ := FnOk.mk' Try.func83 hb83 (by kernel_rfl) cc83 (by kernel_rfl) (by kernel_rfl)

theorem hb84 : Try.f84.body = some (Try.f84.body.getD .skip) := by kernel_rfl
abbrev vs84 : List Nat := [0, 1, 2, 3, 8, 9, 10, 11, 12, 17, 35, 45]
def ic84l0 : IC := (.seq (.seq (.region [⟨none, none, (.prim .mv), [(.v 7)]⟩, ⟨none, none, (.prim .mv), [(.v 1)]⟩, ⟨none, none, (.prim .mv), [(.v 4)]⟩, ⟨none, none, (.prim (.bin .quo .int)), [(.t 2), (.c (.cv (.int .i64 4)))]⟩, ⟨none, none, (.prim (.bin .mul .int)), [(.t 3), (.c (.cv (.int .i64 2)))]⟩, ⟨none, none, (.prim (.bin .add .int)), [(.t 1), (.t 4)]⟩, ⟨none, none, (.prim (.bin .add .int)), [(.t 5), (.c (.cv (.int .i64 1)))]⟩, ⟨(.some 10), none, (.prim (.bin .leq .int)), [(.t 0), (.t 6)]⟩])
 (.cond 10 .skip
 (.exit 0)))
 (.seq (.block 1 (.seq (.region [⟨none, none, .call, [(.c (.fn (.func 94) [])), (.v 5)]⟩, ⟨none, none, (.prim .mv), [(.v 6)]⟩, ⟨none, none, (.prim (.bin .sub .int)), [(.t 1), (.c (.cv (.int .u64 1)))]⟩, ⟨none, none, (.prim (.bin .and .int)), [(.t 0), (.t 2)]⟩, ⟨none, none, (.prim (.conv .i64)), [(.t 3)]⟩, ⟨(.some 8), none, (.prim .mv), [(.t 4)]⟩])
 (.seq (.seq (.region [⟨none, none, (.prim .mv), [(.v 8)]⟩, ⟨none, none, (.prim .mv), [(.v 4)]⟩, ⟨(.some 11), none, (.prim (.bin .geq .int)), [(.t 0), (.t 1)]⟩])
 (.cond 11 (.region [⟨none, none, (.prim .mv), [(.v 8)]⟩, ⟨none, none, (.prim .mv), [(.v 4)]⟩, ⟨none, none, (.prim (.bin .sub .int)), [(.t 0), (.t 1)]⟩, ⟨(.some 8), none, (.prim .mv), [(.t 2)]⟩])
 .skip))
 (.draw [[], [], [], [], [], [3, 4], [], [], [], [7, 8], [6, 9], [10], [], [], [12, 13], [14], [0, 1, 0, 1, 6, 7, 8, 9, 10, 11, 15], [16, 11, 0, 1, 6, 7, 8, 9, 10, 11, 15], [2, 5, 0, 1, 2, 3, 4, 5, 6, 7, 8, 9, 10, 11, 12, 13, 14, 15, 16, 17], [18, 15, 17, 0, 1, 2, 3, 4, 5, 6, 7, 8, 9, 10, 11, 12, 13, 14, 15, 16, 17]] [⟨none, none, (.prim .mv), [(.v 0)]⟩, ⟨none, none, (.prim .mv), [(.v 7)]⟩, ⟨none, none, (.prim .mv), [(.v 0)]⟩, ⟨none, none, (.prim .mv), [(.v 1)]⟩, ⟨none, none, (.prim .mv), [(.v 8)]⟩, ⟨none, none, (.prim (.bin .add .int)), [(.t 3), (.t 4)]⟩, ⟨none, none, (.prim .mv), [(.v 0)]⟩, ⟨none, none, (.prim .mv), [(.v 1)]⟩, ⟨none, none, (.prim .mv), [(.v 8)]⟩, ⟨none, none, (.prim (.bin .add .int)), [(.t 7), (.t 8)]⟩, ⟨none, none, (.prim (.iaS 1)), [(.t 6), (.t 9)]⟩, ⟨none, none, (.prim .load1), [(.t 10)]⟩, ⟨none, none, (.prim .mv), [(.v 0)]⟩, ⟨none, none, (.prim .mv), [(.v 7)]⟩, ⟨none, none, (.prim (.iaS 1)), [(.t 12), (.t 13)]⟩, ⟨none, none, (.prim .load1), [(.t 14)]⟩, ⟨none, none, (.prim (.iaS 1)), [(.t 0), (.t 1)]⟩, ⟨none, none, (.prim (.store 1)), [(.t 16), (.t 11)]⟩, ⟨none, none, (.prim (.iaS 1)), [(.t 2), (.t 5)]⟩, ⟨none, none, (.prim (.store 1)), [(.t 18), (.t 15)]⟩] [[], [], [], [], [], [3, 4], [], [], [], [7, 8], [6, 9, 7, 8], [10, 6, 9, 7, 8], [], [], [12, 13], [14, 12, 13], [0, 1, 6, 7, 8, 9, 10, 11, 15, 14, 12, 13], [16, 11, 0, 1, 6, 7, 8, 9, 10, 15, 14, 12, 13], [2, 5, 0, 1, 3, 4, 6, 7, 8, 9, 10, 11, 12, 13, 14, 15, 16, 17], [18, 15, 17, 0, 1, 2, 3, 4, 5, 6, 7, 8, 9, 10, 11, 12, 13, 14, 16]]))))
 (.region [⟨none, none, (.prim .mv), [(.v 7)]⟩, ⟨none, none, (.prim (.bin .add .int)), [(.t 0), (.c (.cv (.int .i64 1)))]⟩, ⟨(.some 7), none, (.prim .mv), [(.t 1)]⟩])))
def ic84 : IC := (.seq (.region [⟨none, none, (.prim .mv), [(.v 2)]⟩, ⟨none, none, (.prim .mv), [(.v 1)]⟩, ⟨none, none, (.prim (.bin .sub .int)), [(.t 0), (.t 1)]⟩, ⟨(.some 4), none, (.prim .mv), [(.t 2)]⟩])
 (.seq (.region [⟨none, none, (.prim .mv), [(.v 4)]⟩, ⟨(.some 9), none, (.prim (.bin .geq .int)), [(.t 0), (.c (.cv (.int .i64 8)))]⟩])
 (.cond 9 (.seq (.region [⟨none, none, (.prim .mv), [(.v 4)]⟩, ⟨none, none, (.prim (.conv .u64)), [(.t 0)]⟩, ⟨(.some 5), none, (.prim (.alloc [(.cv (.int .u64 0))])), []⟩, ⟨none, none, (.prim (.store 1)), [(.v 5), (.t 1)]⟩])
 (.seq (.region [⟨none, none, (.prim .mv), [(.v 4)]⟩, ⟨none, none, .call, [(.c (.fn (.func 93) [])), (.t 0)]⟩, ⟨(.some 6), none, (.prim .mv), [(.t 1)]⟩])
 (.seq (.region [⟨none, none, (.prim .mv), [(.v 1)]⟩, ⟨none, none, (.prim .mv), [(.v 4)]⟩, ⟨none, none, (.prim (.bin .quo .int)), [(.t 1), (.c (.cv (.int .i64 4)))]⟩, ⟨none, none, (.prim (.bin .mul .int)), [(.t 2), (.c (.cv (.int .i64 2)))]⟩, ⟨none, none, (.prim (.bin .add .int)), [(.t 0), (.t 3)]⟩, ⟨none, none, (.prim (.bin .sub .int)), [(.t 4), (.c (.cv (.int .i64 1)))]⟩, ⟨(.some 7), none, (.prim .mv), [(.t 5)]⟩])
 (.block 0 (.loop ic84l0)))))
 .skip)))
theorem cc84 : compC Try.prog vs84 Try.f84.ntmps (Try.f84.body.getD .skip) = some ic84 := by kernel_rfl
abbrev rs84 : List RC := []
theorem fok84 (p : Bool) : FnOk Try.prog 84 ⟨ic84, vs84, 67, rs84, p⟩ := FnOk.mk' Try.func84 hb84 (by kernel_rfl) cc84 (by kernel_rfl) (by kernel_rfl)

theorem hb85 : Try.f85.body = some (Try.f85.body.getD .skip) := by kernel_rfl
abbrev vs85 : List Nat := [0, 1, 2, 3, 8, 9, 10, 11, 12, 13, 14, 34, 36, 55, 57, 60]
def ic85 : IC := (.seq (.region [⟨(.some 4), none, (.prim .mv), [(.c (.cv (.int .i64 0)))]⟩, ⟨(.some 5), none, (.prim .mv), [(.c (.cv (.int .i64 0)))]⟩])
 (.seq (.region [⟨none, none, (.prim .mv), [(.v 2)]⟩, ⟨none, none, (.prim .mv), [(.v 1)]⟩, ⟨none, none, (.prim (.bin .sub .int)), [(.t 0), (.t 1)]⟩, ⟨(.some 6), none, (.prim .mv), [(.t 2)]⟩])
 (.seq (.region [⟨(.some 7), none, (.prim (.alloc [(.cv (.int .i64 0))])), []⟩])
 (.seq (.region [⟨none, none, (.prim .mv), [(.v 1)]⟩, ⟨none, none, (.prim .mv), [(.v 6)]⟩, ⟨none, none, (.prim (.bin .quo .int)), [(.t 1), (.c (.cv (.int .i64 4)))]⟩, ⟨none, none, (.prim (.bin .mul .int)), [(.t 2), (.c (.cv (.int .i64 1)))]⟩, ⟨none, none, (.prim (.bin .add .int)), [(.t 0), (.t 3)]⟩, ⟨(.some 8), none, (.prim .mv), [(.t 4)]⟩])
 (.seq (.region [⟨none, none, (.prim .mv), [(.v 1)]⟩, ⟨none, none, (.prim .mv), [(.v 6)]⟩, ⟨none, none, (.prim (.bin .quo .int)), [(.t 1), (.c (.cv (.int .i64 4)))]⟩, ⟨none, none, (.prim (.bin .mul .int)), [(.t 2), (.c (.cv (.int .i64 2)))]⟩, ⟨none, none, (.prim (.bin .add .int)), [(.t 0), (.t 3)]⟩, ⟨(.some 9), none, (.prim .mv), [(.t 4)]⟩])
 (.seq (.region [⟨none, none, (.prim .mv), [(.v 1)]⟩, ⟨none, none, (.prim .mv), [(.v 6)]⟩, ⟨none, none, (.prim (.bin .quo .int)), [(.t 1), (.c (.cv (.int .i64 4)))]⟩, ⟨none, none, (.prim (.bin .mul .int)), [(.t 2), (.c (.cv (.int .i64 3)))]⟩, ⟨none, none, (.prim (.bin .add .int)), [(.t 0), (.t 3)]⟩, ⟨(.some 10), none, (.prim .mv), [(.t 4)]⟩])
 (.seq (.seq (.region [⟨none, none, (.prim .mv), [(.v 6)]⟩, ⟨(.some 11), none, (.prim (.bin .geq .int)), [(.t 0), (.c (.cv (.int .i64 8)))]⟩])
 (.cond 11 (.seq (.seq (.region [⟨none, none, (.prim .mv), [(.v 6)]⟩, ⟨(.some 12), none, (.prim (.bin .geq .int)), [(.t 0), (.c (.cv (.int .i64 50)))]⟩])
 (.cond 12 (.seq (.region [⟨none, none, (.prim .mv), [(.v 0)]⟩, ⟨none, none, (.prim .mv), [(.v 8)]⟩, ⟨none, none, (.prim .mv), [(.v 3)]⟩, ⟨none, none, .call, [(.c (.fn (.func 95) [])), (.t 0), (.t 1), (.v 7), (.t 2)]⟩, ⟨(.some 8), none, (.prim .mv), [(.t 3)]⟩])
 (.seq (.region [⟨none, none, (.prim .mv), [(.v 0)]⟩, ⟨none, none, (.prim .mv), [(.v 9)]⟩, ⟨none, none, (.prim .mv), [(.v 3)]⟩, ⟨none, none, .call, [(.c (.fn (.func 95) [])), (.t 0), (.t 1), (.v 7), (.t 2)]⟩, ⟨(.some 9), none, (.prim .mv), [(.t 3)]⟩])
 (.region [⟨none, none, (.prim .mv), [(.v 0)]⟩, ⟨none, none, (.prim .mv), [(.v 10)]⟩, ⟨none, none, (.prim .mv), [(.v 3)]⟩, ⟨none, none, .call, [(.c (.fn (.func 95) [])), (.t 0), (.t 1), (.v 7), (.t 2)]⟩, ⟨(.some 10), none, (.prim .mv), [(.t 3)]⟩])))
 .skip))
 (.region [⟨none, none, (.prim .mv), [(.v 0)]⟩, ⟨none, none, (.prim .mv), [(.v 8)]⟩, ⟨none, none, (.prim .mv), [(.v 9)]⟩, ⟨none, none, (.prim .mv), [(.v 10)]⟩, ⟨none, none, (.prim .mv), [(.v 3)]⟩, ⟨none, none, .call, [(.c (.fn (.func 96) [])), (.t 0), (.t 1), (.t 2), (.t 3), (.v 7), (.t 4)]⟩, ⟨(.some 9), none, (.prim .mv), [(.t 5)]⟩]))
 .skip))
 (.seq (.region [⟨(.some 13), none, (.prim .load1), [(.v 7)]⟩])
 (.block 0 (.seq (.region [⟨none, none, (.prim (.bin .eql .int)), [(.v 13), (.c (.cv (.int .i64 0)))]⟩, ⟨(.some 14), none, (.prim .mv), [(.t 0)]⟩])
 (.cond 14 (.seq (.region [⟨none, none, (.prim .mv), [(.v 9)]⟩, ⟨(.some 4), none, (.prim .mv), [(.t 0)]⟩, ⟨(.some 5), none, (.prim .mv), [(.c (.cv (.int .i64 1)))]⟩])
 .ret)
 (.seq (.region [⟨none, none, (.prim (.bin .eql .int)), [(.v 13), (.c (.cv (.int .i64 12)))]⟩, ⟨(.some 15), none, (.prim .mv), [(.t 0)]⟩])
 (.cond 15 (.seq (.region [⟨none, none, (.prim .mv), [(.v 9)]⟩, ⟨(.some 4), none, (.prim .mv), [(.t 0)]⟩, ⟨(.some 5), none, (.prim .mv), [(.c (.cv (.int .i64 2)))]⟩])
 .ret)
 (.seq (.region [⟨none, none, (.prim .mv), [(.v 9)]⟩, ⟨(.some 4), none, (.prim .mv), [(.t 0)]⟩, ⟨(.some 5), none, (.prim .mv), [(.c (.cv (.int .i64 0)))]⟩])
 .ret))))))))))))))
theorem cc85 : compC Try.prog vs85 Try.f85.ntmps (Try.f85.body.getD .skip) = some ic85 := by kernel_rfl
abbrev rs85 : List RC := [(.v 4), (.v 5)]
theorem fok85 (p : Bool) : FnOk Try.prog 85 ⟨ic85, vs85, 63, rs85, p⟩ := FnOk.mk' Try.func85 hb85 (by kernel_rfl) cc85 (by kernel_rfl) (by kernel_rfl)

theorem hb86 : Try.f86.body = some (Try.f86.body.getD .skip) := by kernel_rfl
abbrev vs86 : List Nat := [0, 1, 2, 3, 8, 9, 15]
def ic86l0 : IC := (.seq (.seq (.region [⟨none, none, (.prim .mv), [(.v 4)]⟩, ⟨none, none, (.prim .mv), [(.v 5)]⟩, ⟨(.some 6), none, (.prim (.bin .lss .int)), [(.t 0), (.t 1)]⟩])
 (.cond 6 .skip
 (.exit 0)))
 (.block 1 (.seq (.draw [[], [], [], [], [], [], [4, 5], [6], [], [], [8, 9], [10], [0, 1, 0, 1, 4, 5, 6, 7, 11], [12, 7, 0, 1, 4, 5, 6, 7, 11], [2, 3, 0, 1, 2, 3, 4, 5, 6, 7, 8, 9, 10, 11, 12, 13], [14, 11, 13, 0, 1, 2, 3, 4, 5, 6, 7, 8, 9, 10, 11, 12, 13]] [⟨none, none, (.prim .mv), [(.v 0)]⟩, ⟨none, none, (.prim .mv), [(.v 4)]⟩, ⟨none, none, (.prim .mv), [(.v 0)]⟩, ⟨none, none, (.prim .mv), [(.v 5)]⟩, ⟨none, none, (.prim .mv), [(.v 0)]⟩, ⟨none, none, (.prim .mv), [(.v 5)]⟩, ⟨none, none, (.prim (.iaS 1)), [(.t 4), (.t 5)]⟩, ⟨none, none, (.prim .load1), [(.t 6)]⟩, ⟨none, none, (.prim .mv), [(.v 0)]⟩, ⟨none, none, (.prim .mv), [(.v 4)]⟩, ⟨none, none, (.prim (.iaS 1)), [(.t 8), (.t 9)]⟩, ⟨none, none, (.prim .load1), [(.t 10)]⟩, ⟨none, none, (.prim (.iaS 1)), [(.t 0), (.t 1)]⟩, ⟨none, none, (.prim (.store 1)), [(.t 12), (.t 7)]⟩, ⟨none, none, (.prim (.iaS 1)), [(.t 2), (.t 3)]⟩, ⟨none, none, (.prim (.store 1)), [(.t 14), (.t 11)]⟩] [[], [], [], [], [], [], [4, 5], [6, 4, 5], [], [], [8, 9], [10, 8, 9], [0, 1, 4, 5, 6, 7, 11, 10, 8, 9], [12, 7, 0, 1, 4, 5, 6, 11, 10, 8, 9], [2, 3, 0, 1, 4, 5, 6, 7, 8, 9, 10, 11, 12, 13], [14, 11, 13, 0, 1, 2, 3, 4, 5, 6, 7, 8, 9, 10, 12]])
 (.seq (.region [⟨none, none, (.prim .mv), [(.v 4)]⟩, ⟨none, none, (.prim (.bin .add .int)), [(.t 0), (.c (.cv (.int .i64 1)))]⟩, ⟨(.some 4), none, (.prim .mv), [(.t 1)]⟩])
 (.region [⟨none, none, (.prim .mv), [(.v 5)]⟩, ⟨none, none, (.prim (.bin .sub .int)), [(.t 0), (.c (.cv (.int .i64 1)))]⟩, ⟨(.some 5), none, (.prim .mv), [(.t 1)]⟩])))))
def ic86 : IC := (.seq (.region [⟨none, none, (.prim .mv), [(.v 1)]⟩, ⟨(.some 4), none, (.prim .mv), [(.t 0)]⟩])
 (.seq (.region [⟨none, none, (.prim .mv), [(.v 2)]⟩, ⟨none, none, (.prim (.bin .sub .int)), [(.t 0), (.c (.cv (.int .i64 1)))]⟩, ⟨(.some 5), none, (.prim .mv), [(.t 1)]⟩])
 (.block 0 (.loop ic86l0))))
theorem cc86 : compC Try.prog vs86 Try.f86.ntmps (Try.f86.body.getD .skip) = some ic86 := by kernel_rfl
abbrev rs86 : List RC := []
theorem fok86 (p : Bool) : FnOk Try.prog 86 ⟨ic86, vs86, 34, rs86, p⟩ := FnOk.mk' Try.func86 hb86 (by kernel_rfl) cc86 (by kernel_rfl) (by kernel_rfl)

theorem hb87 : Try.f87.body = some (Try.f87.body.getD .skip) := by kernel_rfl
abbrev vs87 : List Nat := [0, 1, 2, 3, 8, 9, 10, 11, 12, 16, 36, 41, 45, 65, 69, 84, 104, 109, 124]
def ic87l0 : IC := (.seq (.seq (.region [⟨none, none, (.prim .mv), [(.v 8)]⟩, ⟨none, none, (.prim .mv), [(.v 2)]⟩, ⟨(.some 17), none, (.prim (.bin .lss .int)), [(.t 0), (.t 1)]⟩])
 (.cond 17 .skip
 (.exit 6)))
 (.seq (.block 7 (.seq (.seq (.draw [[], [], [], [1, 2], [3], [], [], [6], [5, 7], [8], [0, 4, 9], [10], [11]] [⟨none, none, (.prim .mv), [(.v 3)]⟩, ⟨none, none, (.prim .mv), [(.v 0)]⟩, ⟨none, none, (.prim .mv), [(.v 8)]⟩, ⟨none, none, (.prim (.iaS 1)), [(.t 1), (.t 2)]⟩, ⟨none, none, (.prim .load1), [(.t 3)]⟩, ⟨none, none, (.prim .mv), [(.v 0)]⟩, ⟨none, none, (.prim .mv), [(.v 8)]⟩, ⟨none, none, (.prim (.bin .sub .int)), [(.t 6), (.c (.cv (.int .i64 1)))]⟩, ⟨none, none, (.prim (.iaS 1)), [(.t 5), (.t 7)]⟩, ⟨none, none, (.prim .load1), [(.t 8)]⟩, ⟨none, none, .call, [(.t 0), (.t 4), (.t 9)]⟩, ⟨none, none, (.prim (.bin .lss .int)), [(.t 10), (.c (.cv (.int .i64 0)))]⟩, ⟨(.some 18), none, (.prim .not), [(.t 11)]⟩] [[], [], [], [1, 2], [3, 1, 2], [], [], [6], [5, 7, 6], [8, 5, 7, 6], [0, 4, 9, 3, 1, 2, 8, 5, 7, 6], [10, 0, 4, 9, 3, 1, 2, 8, 5, 7, 6], [11, 10, 0, 4, 9, 3, 1, 2, 8, 5, 7, 6]])
 (.cond 18 (.exit 6)
 .skip))
 (.draw [[], [], [], [], [3], [], [], [6], [5, 7], [8], [], [], [10, 11], [12], [0, 1, 0, 1, 5, 6, 7, 8, 9, 13], [14, 9, 0, 1, 5, 6, 7, 8, 9, 13], [2, 4, 0, 1, 2, 3, 4, 5, 6, 7, 8, 9, 10, 11, 12, 13, 14, 15], [16, 13, 15, 0, 1, 2, 3, 4, 5, 6, 7, 8, 9, 10, 11, 12, 13, 14, 15]] [⟨none, none, (.prim .mv), [(.v 0)]⟩, ⟨none, none, (.prim .mv), [(.v 8)]⟩, ⟨none, none, (.prim .mv), [(.v 0)]⟩, ⟨none, none, (.prim .mv), [(.v 8)]⟩, ⟨none, none, (.prim (.bin .sub .int)), [(.t 3), (.c (.cv (.int .i64 1)))]⟩, ⟨none, none, (.prim .mv), [(.v 0)]⟩, ⟨none, none, (.prim .mv), [(.v 8)]⟩, ⟨none, none, (.prim (.bin .sub .int)), [(.t 6), (.c (.cv (.int .i64 1)))]⟩, ⟨none, none, (.prim (.iaS 1)), [(.t 5), (.t 7)]⟩, ⟨none, none, (.prim .load1), [(.t 8)]⟩, ⟨none, none, (.prim .mv), [(.v 0)]⟩, ⟨none, none, (.prim .mv), [(.v 8)]⟩, ⟨none, none, (.prim (.iaS 1)), [(.t 10), (.t 11)]⟩, ⟨none, none, (.prim .load1), [(.t 12)]⟩, ⟨none, none, (.prim (.iaS 1)), [(.t 0), (.t 1)]⟩, ⟨none, none, (.prim (.store 1)), [(.t 14), (.t 9)]⟩, ⟨none, none, (.prim (.iaS 1)), [(.t 2), (.t 4)]⟩, ⟨none, none, (.prim (.store 1)), [(.t 16), (.t 13)]⟩] [[], [], [], [], [3], [], [], [6], [5, 7, 6], [8, 5, 7, 6], [], [], [10, 11], [12, 10, 11], [0, 1, 5, 6, 7, 8, 9, 13, 12, 10, 11], [14, 9, 0, 1, 5, 6, 7, 8, 13, 12, 10, 11], [2, 4, 0, 1, 3, 5, 6, 7, 8, 9, 10, 11, 12, 13, 14, 15], [16, 13, 15, 0, 1, 2, 3, 4, 5, 6, 7, 8, 9, 10, 11, 12, 14]])))
 (.region [⟨none, none, (.prim .mv), [(.v 8)]⟩, ⟨none, none, (.prim (.bin .add .int)), [(.t 0), (.c (.cv (.int .i64 1)))]⟩, ⟨(.some 8), none, (.prim .mv), [(.t 1)]⟩])))
def ic87l1 : IC := (.seq (.seq (.region [⟨none, none, (.prim .mv), [(.v 7)]⟩, ⟨(.some 14), none, (.prim (.bin .geq .int)), [(.t 0), (.c (.cv (.int .i64 1)))]⟩])
 (.cond 14 .skip
 (.exit 4)))
 (.seq (.block 5 (.seq (.seq (.draw [[], [], [], [1, 2], [3], [], [], [6], [5, 7], [8], [0, 4, 9], [10], [11]] [⟨none, none, (.prim .mv), [(.v 3)]⟩, ⟨none, none, (.prim .mv), [(.v 0)]⟩, ⟨none, none, (.prim .mv), [(.v 7)]⟩, ⟨none, none, (.prim (.iaS 1)), [(.t 1), (.t 2)]⟩, ⟨none, none, (.prim .load1), [(.t 3)]⟩, ⟨none, none, (.prim .mv), [(.v 0)]⟩, ⟨none, none, (.prim .mv), [(.v 7)]⟩, ⟨none, none, (.prim (.bin .sub .int)), [(.t 6), (.c (.cv (.int .i64 1)))]⟩, ⟨none, none, (.prim (.iaS 1)), [(.t 5), (.t 7)]⟩, ⟨none, none, (.prim .load1), [(.t 8)]⟩, ⟨none, none, .call, [(.t 0), (.t 4), (.t 9)]⟩, ⟨none, none, (.prim (.bin .lss .int)), [(.t 10), (.c (.cv (.int .i64 0)))]⟩, ⟨(.some 15), none, (.prim .not), [(.t 11)]⟩] [[], [], [], [1, 2], [3, 1, 2], [], [], [6], [5, 7, 6], [8, 5, 7, 6], [0, 4, 9, 3, 1, 2, 8, 5, 7, 6], [10, 0, 4, 9, 3, 1, 2, 8, 5, 7, 6], [11, 10, 0, 4, 9, 3, 1, 2, 8, 5, 7, 6]])
 (.cond 15 (.exit 4)
 .skip))
 (.draw [[], [], [], [], [3], [], [], [6], [5, 7], [8], [], [], [10, 11], [12], [0, 1, 0, 1, 5, 6, 7, 8, 9, 13], [14, 9, 0, 1, 5, 6, 7, 8, 9, 13], [2, 4, 0, 1, 2, 3, 4, 5, 6, 7, 8, 9, 10, 11, 12, 13, 14, 15], [16, 13, 15, 0, 1, 2, 3, 4, 5, 6, 7, 8, 9, 10, 11, 12, 13, 14, 15]] [⟨none, none, (.prim .mv), [(.v 0)]⟩, ⟨none, none, (.prim .mv), [(.v 7)]⟩, ⟨none, none, (.prim .mv), [(.v 0)]⟩, ⟨none, none, (.prim .mv), [(.v 7)]⟩, ⟨none, none, (.prim (.bin .sub .int)), [(.t 3), (.c (.cv (.int .i64 1)))]⟩, ⟨none, none, (.prim .mv), [(.v 0)]⟩, ⟨none, none, (.prim .mv), [(.v 7)]⟩, ⟨none, none, (.prim (.bin .sub .int)), [(.t 6), (.c (.cv (.int .i64 1)))]⟩, ⟨none, none, (.prim (.iaS 1)), [(.t 5), (.t 7)]⟩, ⟨none, none, (.prim .load1), [(.t 8)]⟩, ⟨none, none, (.prim .mv), [(.v 0)]⟩, ⟨none, none, (.prim .mv), [(.v 7)]⟩, ⟨none, none, (.prim (.iaS 1)), [(.t 10), (.t 11)]⟩, ⟨none, none, (.prim .load1), [(.t 12)]⟩, ⟨none, none, (.prim (.iaS 1)), [(.t 0), (.t 1)]⟩, ⟨none, none, (.prim (.store 1)), [(.t 14), (.t 9)]⟩, ⟨none, none, (.prim (.iaS 1)), [(.t 2), (.t 4)]⟩, ⟨none, none, (.prim (.store 1)), [(.t 16), (.t 13)]⟩] [[], [], [], [], [3], [], [], [6], [5, 7, 6], [8, 5, 7, 6], [], [], [10, 11], [12, 10, 11], [0, 1, 5, 6, 7, 8, 9, 13, 12, 10, 11], [14, 9, 0, 1, 5, 6, 7, 8, 13, 12, 10, 11], [2, 4, 0, 1, 3, 5, 6, 7, 8, 9, 10, 11, 12, 13, 14, 15], [16, 13, 15, 0, 1, 2, 3, 4, 5, 6, 7, 8, 9, 10, 11, 12, 14]])))
 (.region [⟨none, none, (.prim .mv), [(.v 7)]⟩, ⟨none, none, (.prim (.bin .sub .int)), [(.t 0), (.c (.cv (.int .i64 1)))]⟩, ⟨(.some 7), none, (.prim .mv), [(.t 1)]⟩])))
def ic87l2 : IC := (.seq (.seq (.draw [[], [], [0, 1], [2], [3], [3], [3], [5, 6, 3], [7, 3], [3], [3], [10, 3], [9, 11, 3], [12, 3], [4, 8, 13, 3, 3], [14, 3], [15, 3], [3, 16]] [⟨none, none, (.prim .mv), [(.v 5)]⟩, ⟨none, none, (.prim .mv), [(.v 2)]⟩, ⟨none, none, (.prim (.bin .lss .int)), [(.t 0), (.t 1)]⟩, ⟨none, none, (.prim .mv), [(.t 2)]⟩, ⟨none, (.some (3, true)), (.prim .mv), [(.v 3)]⟩, ⟨none, (.some (3, true)), (.prim .mv), [(.v 0)]⟩, ⟨none, (.some (3, true)), (.prim .mv), [(.v 5)]⟩, ⟨none, (.some (3, true)), (.prim (.iaS 1)), [(.t 5), (.t 6)]⟩, ⟨none, (.some (3, true)), (.prim .load1), [(.t 7)]⟩, ⟨none, (.some (3, true)), (.prim .mv), [(.v 0)]⟩, ⟨none, (.some (3, true)), (.prim .mv), [(.v 5)]⟩, ⟨none, (.some (3, true)), (.prim (.bin .sub .int)), [(.t 10), (.c (.cv (.int .i64 1)))]⟩, ⟨none, (.some (3, true)), (.prim (.iaS 1)), [(.t 9), (.t 11)]⟩, ⟨none, (.some (3, true)), (.prim .load1), [(.t 12)]⟩, ⟨none, (.some (3, true)), .call, [(.t 4), (.t 8), (.t 13)]⟩, ⟨none, (.some (3, true)), (.prim (.bin .lss .int)), [(.t 14), (.c (.cv (.int .i64 0)))]⟩, ⟨none, (.some (3, true)), (.prim .not), [(.t 15)]⟩, ⟨(.some 10), none, (.prim .pick), [(.t 3), (.t 16), (.c (.cv (.bool false)))]⟩] [[], [], [0, 1], [2, 0, 1], [3, 2, 0, 1], [3, 2, 0, 1], [3, 2, 0, 1], [5, 6, 3, 2, 0, 1], [7, 3, 5, 6, 2, 0, 1], [3, 2, 0, 1], [3, 2, 0, 1], [10, 3, 2, 0, 1], [9, 11, 3, 2, 0, 1, 10], [12, 3, 9, 11, 2, 0, 1, 10], [4, 8, 13, 3, 2, 0, 1, 7, 5, 6, 12, 9, 11, 10], [14, 3, 4, 8, 13, 2, 0, 1, 7, 5, 6, 12, 9, 11, 10], [15, 3, 14, 4, 8, 13, 2, 0, 1, 7, 5, 6, 12, 9, 11, 10], [3, 16, 2, 0, 1, 15, 14, 4, 8, 13, 7, 5, 6, 12, 9, 11, 10]])
 (.cond 10 .skip
 (.exit 2)))
 (.block 3 (.region [⟨none, none, (.prim .mv), [(.v 5)]⟩, ⟨none, none, (.prim (.bin .add .int)), [(.t 0), (.c (.cv (.int .i64 1)))]⟩, ⟨(.some 5), none, (.prim .mv), [(.t 1)]⟩])))
def ic87l3 : IC := (.seq (.seq (.region [⟨none, none, (.prim .mv), [(.v 6)]⟩, ⟨(.some 9), none, (.prim (.bin .lss .int)), [(.t 0), (.c (.cv (.int .i64 5)))]⟩])
 (.cond 9 .skip
 (.exit 0)))
 (.seq (.block 1 (.seq (.block 2 (.loop ic87l2))
 (.seq (.seq (.region [⟨none, none, (.prim .mv), [(.v 5)]⟩, ⟨none, none, (.prim .mv), [(.v 2)]⟩, ⟨(.some 11), none, (.prim (.bin .eql .int)), [(.t 0), (.t 1)]⟩])
 (.cond 11 (.seq (.region [⟨(.some 4), none, (.prim .mv), [(.c (.cv (.bool true)))]⟩])
 .ret)
 .skip))
 (.seq (.seq (.region [⟨none, none, (.prim .mv), [(.v 2)]⟩, ⟨none, none, (.prim .mv), [(.v 1)]⟩, ⟨none, none, (.prim (.bin .sub .int)), [(.t 0), (.t 1)]⟩, ⟨(.some 12), none, (.prim (.bin .lss .int)), [(.t 2), (.c (.cv (.int .i64 50)))]⟩])
 (.cond 12 (.seq (.region [⟨(.some 4), none, (.prim .mv), [(.c (.cv (.bool false)))]⟩])
 .ret)
 .skip))
 (.seq (.draw [[], [], [], [], [3], [], [], [6], [5, 7], [8], [], [], [10, 11], [12], [0, 1, 0, 1, 5, 6, 7, 8, 9, 13], [14, 9, 0, 1, 5, 6, 7, 8, 9, 13], [2, 4, 0, 1, 2, 3, 4, 5, 6, 7, 8, 9, 10, 11, 12, 13, 14, 15], [16, 13, 15, 0, 1, 2, 3, 4, 5, 6, 7, 8, 9, 10, 11, 12, 13, 14, 15]] [⟨none, none, (.prim .mv), [(.v 0)]⟩, ⟨none, none, (.prim .mv), [(.v 5)]⟩, ⟨none, none, (.prim .mv), [(.v 0)]⟩, ⟨none, none, (.prim .mv), [(.v 5)]⟩, ⟨none, none, (.prim (.bin .sub .int)), [(.t 3), (.c (.cv (.int .i64 1)))]⟩, ⟨none, none, (.prim .mv), [(.v 0)]⟩, ⟨none, none, (.prim .mv), [(.v 5)]⟩, ⟨none, none, (.prim (.bin .sub .int)), [(.t 6), (.c (.cv (.int .i64 1)))]⟩, ⟨none, none, (.prim (.iaS 1)), [(.t 5), (.t 7)]⟩, ⟨none, none, (.prim .load1), [(.t 8)]⟩, ⟨none, none, (.prim .mv), [(.v 0)]⟩, ⟨none, none, (.prim .mv), [(.v 5)]⟩, ⟨none, none, (.prim (.iaS 1)), [(.t 10), (.t 11)]⟩, ⟨none, none, (.prim .load1), [(.t 12)]⟩, ⟨none, none, (.prim (.iaS 1)), [(.t 0), (.t 1)]⟩, ⟨none, none, (.prim (.store 1)), [(.t 14), (.t 9)]⟩, ⟨none, none, (.prim (.iaS 1)), [(.t 2), (.t 4)]⟩, ⟨none, none, (.prim (.store 1)), [(.t 16), (.t 13)]⟩] [[], [], [], [], [3], [], [], [6], [5, 7, 6], [8, 5, 7, 6], [], [], [10, 11], [12, 10, 11], [0, 1, 5, 6, 7, 8, 9, 13, 12, 10, 11], [14, 9, 0, 1, 5, 6, 7, 8, 13, 12, 10, 11], [2, 4, 0, 1, 3, 5, 6, 7, 8, 9, 10, 11, 12, 13, 14, 15], [16, 13, 15, 0, 1, 2, 3, 4, 5, 6, 7, 8, 9, 10, 11, 12, 14]])
 (.seq (.seq (.region [⟨none, none, (.prim .mv), [(.v 5)]⟩, ⟨none, none, (.prim .mv), [(.v 1)]⟩, ⟨none, none, (.prim (.bin .sub .int)), [(.t 0), (.t 1)]⟩, ⟨(.some 13), none, (.prim (.bin .geq .int)), [(.t 2), (.c (.cv (.int .i64 2)))]⟩])
 (.cond 13 (.seq (.region [⟨none, none, (.prim .mv), [(.v 5)]⟩, ⟨none, none, (.prim (.bin .sub .int)), [(.t 0), (.c (.cv (.int .i64 1)))]⟩, ⟨(.some 7), none, (.prim .mv), [(.t 1)]⟩])
 (.block 4 (.loop ic87l1)))
 .skip))
 (.seq (.region [⟨none, none, (.prim .mv), [(.v 2)]⟩, ⟨none, none, (.prim .mv), [(.v 5)]⟩, ⟨none, none, (.prim (.bin .sub .int)), [(.t 0), (.t 1)]⟩, ⟨(.some 16), none, (.prim (.bin .geq .int)), [(.t 2), (.c (.cv (.int .i64 2)))]⟩])
 (.cond 16 (.seq (.region [⟨none, none, (.prim .mv), [(.v 5)]⟩, ⟨none, none, (.prim (.bin .add .int)), [(.t 0), (.c (.cv (.int .i64 1)))]⟩, ⟨(.some 8), none, (.prim .mv), [(.t 1)]⟩])
 (.block 6 (.loop ic87l0)))
 .skip))))))))
 (.region [⟨none, none, (.prim .mv), [(.v 6)]⟩, ⟨none, none, (.prim (.bin .add .int)), [(.t 0), (.c (.cv (.int .i64 1)))]⟩, ⟨(.some 6), none, (.prim .mv), [(.t 1)]⟩])))
def ic87 : IC := (.seq (.region [⟨(.some 4), none, (.prim .mv), [(.c (.cv (.bool false)))]⟩])
 (.seq (.region [⟨none, none, (.prim .mv), [(.v 1)]⟩, ⟨none, none, (.prim (.bin .add .int)), [(.t 0), (.c (.cv (.int .i64 1)))]⟩, ⟨(.some 5), none, (.prim .mv), [(.t 1)]⟩])
 (.seq (.seq (.region [⟨(.some 6), none, (.prim .mv), [(.c (.cv (.int .i64 0)))]⟩])
 (.block 0 (.loop ic87l3)))
 (.seq (.region [⟨(.some 4), none, (.prim .mv), [(.c (.cv (.bool false)))]⟩])
 .ret))))
theorem cc87 : compC Try.prog vs87 Try.f87.ntmps (Try.f87.body.getD .skip) = some ic87 := by kernel_rfl
abbrev rs87 : List RC := [(.v 4)]
theorem fok87 (p : Bool) : FnOk Try.prog 87 ⟨ic87, vs87, 141, rs87, p⟩ := FnOk.mk' Try.func87 hb87 (by kernel_rfl) cc87 (by kernel_rfl) (by kernel_rfl)

theorem hb88 : Try.f88.body = some (Try.f88.body.getD .skip) := by kernel_rfl
abbrev vs88 : List Nat := [0, 1, 2, 3, 4, 10, 11, 12, 47, 65, 70]
def ic88l0 : IC := (.seq (.seq (.draw [[], [], [0, 1], [2], [3], [3], [3], [5, 6, 3], [7, 3], [3], [3], [9, 10, 3], [11, 3], [4, 8, 12, 3, 3], [13, 3], [3, 14]] [⟨none, none, (.prim .mv), [(.v 6)]⟩, ⟨none, none, (.prim .mv), [(.v 7)]⟩, ⟨none, none, (.prim (.bin .leq .int)), [(.t 0), (.t 1)]⟩, ⟨none, none, (.prim .mv), [(.t 2)]⟩, ⟨none, (.some (3, true)), (.prim .mv), [(.v 4)]⟩, ⟨none, (.some (3, true)), (.prim .mv), [(.v 0)]⟩, ⟨none, (.some (3, true)), (.prim .mv), [(.v 1)]⟩, ⟨none, (.some (3, true)), (.prim (.iaS 1)), [(.t 5), (.t 6)]⟩, ⟨none, (.some (3, true)), (.prim .load1), [(.t 7)]⟩, ⟨none, (.some (3, true)), (.prim .mv), [(.v 0)]⟩, ⟨none, (.some (3, true)), (.prim .mv), [(.v 7)]⟩, ⟨none, (.some (3, true)), (.prim (.iaS 1)), [(.t 9), (.t 10)]⟩, ⟨none, (.some (3, true)), (.prim .load1), [(.t 11)]⟩, ⟨none, (.some (3, true)), .call, [(.t 4), (.t 8), (.t 12)]⟩, ⟨none, (.some (3, true)), (.prim (.bin .lss .int)), [(.t 13), (.c (.cv (.int .i64 0)))]⟩, ⟨(.some 9), none, (.prim .pick), [(.t 3), (.t 14), (.c (.cv (.bool false)))]⟩] [[], [], [0, 1], [2, 0, 1], [3, 2, 0, 1], [3, 2, 0, 1], [3, 2, 0, 1], [5, 6, 3, 2, 0, 1], [7, 3, 5, 6, 2, 0, 1], [3, 2, 0, 1], [3, 2, 0, 1], [9, 10, 3, 2, 0, 1], [11, 3, 9, 10, 2, 0, 1], [4, 8, 12, 3, 2, 0, 1, 7, 5, 6, 11, 9, 10], [13, 3, 4, 8, 12, 2, 0, 1, 7, 5, 6, 11, 9, 10], [3, 14, 2, 0, 1, 13, 4, 8, 12, 7, 5, 6, 11, 9, 10]])
 (.cond 9 .skip
 (.exit 4)))
 (.block 5 (.region [⟨none, none, (.prim .mv), [(.v 7)]⟩, ⟨none, none, (.prim (.bin .sub .int)), [(.t 0), (.c (.cv (.int .i64 1)))]⟩, ⟨(.some 7), none, (.prim .mv), [(.t 1)]⟩])))
def ic88l1 : IC := (.seq (.seq (.draw [[], [], [0, 1], [2], [3], [3], [3], [5, 6, 3], [7, 3], [3], [3], [9, 10, 3], [11, 3], [4, 8, 12, 3, 3], [13, 3], [14, 3], [3, 15]] [⟨none, none, (.prim .mv), [(.v 6)]⟩, ⟨none, none, (.prim .mv), [(.v 7)]⟩, ⟨none, none, (.prim (.bin .leq .int)), [(.t 0), (.t 1)]⟩, ⟨none, none, (.prim .mv), [(.t 2)]⟩, ⟨none, (.some (3, true)), (.prim .mv), [(.v 4)]⟩, ⟨none, (.some (3, true)), (.prim .mv), [(.v 0)]⟩, ⟨none, (.some (3, true)), (.prim .mv), [(.v 1)]⟩, ⟨none, (.some (3, true)), (.prim (.iaS 1)), [(.t 5), (.t 6)]⟩, ⟨none, (.some (3, true)), (.prim .load1), [(.t 7)]⟩, ⟨none, (.some (3, true)), (.prim .mv), [(.v 0)]⟩, ⟨none, (.some (3, true)), (.prim .mv), [(.v 6)]⟩, ⟨none, (.some (3, true)), (.prim (.iaS 1)), [(.t 9), (.t 10)]⟩, ⟨none, (.some (3, true)), (.prim .load1), [(.t 11)]⟩, ⟨none, (.some (3, true)), .call, [(.t 4), (.t 8), (.t 12)]⟩, ⟨none, (.some (3, true)), (.prim (.bin .lss .int)), [(.t 13), (.c (.cv (.int .i64 0)))]⟩, ⟨none, (.some (3, true)), (.prim .not), [(.t 14)]⟩, ⟨(.some 8), none, (.prim .pick), [(.t 3), (.t 15), (.c (.cv (.bool false)))]⟩] [[], [], [0, 1], [2, 0, 1], [3, 2, 0, 1], [3, 2, 0, 1], [3, 2, 0, 1], [5, 6, 3, 2, 0, 1], [7, 3, 5, 6, 2, 0, 1], [3, 2, 0, 1], [3, 2, 0, 1], [9, 10, 3, 2, 0, 1], [11, 3, 9, 10, 2, 0, 1], [4, 8, 12, 3, 2, 0, 1, 7, 5, 6, 11, 9, 10], [13, 3, 4, 8, 12, 2, 0, 1, 7, 5, 6, 11, 9, 10], [14, 3, 13, 4, 8, 12, 2, 0, 1, 7, 5, 6, 11, 9, 10], [3, 15, 2, 0, 1, 14, 13, 4, 8, 12, 7, 5, 6, 11, 9, 10]])
 (.cond 8 .skip
 (.exit 2)))
 (.block 3 (.region [⟨none, none, (.prim .mv), [(.v 6)]⟩, ⟨none, none, (.prim (.bin .add .int)), [(.t 0), (.c (.cv (.int .i64 1)))]⟩, ⟨(.some 6), none, (.prim .mv), [(.t 1)]⟩])))
def ic88l2 : IC := (.block 1 (.seq (.block 2 (.loop ic88l1))
 (.seq (.block 4 (.loop ic88l0))
 (.seq (.seq (.region [⟨none, none, (.prim .mv), [(.v 6)]⟩, ⟨none, none, (.prim .mv), [(.v 7)]⟩, ⟨(.some 10), none, (.prim (.bin .gtr .int)), [(.t 0), (.t 1)]⟩])
 (.cond 10 (.exit 0)
 .skip))
 (.seq (.draw [[], [], [], [], [], [], [4, 5], [6], [], [], [8, 9], [10], [0, 1, 0, 1, 4, 5, 6, 7, 11], [12, 7, 0, 1, 4, 5, 6, 7, 11], [2, 3, 0, 1, 2, 3, 4, 5, 6, 7, 8, 9, 10, 11, 12, 13], [14, 11, 13, 0, 1, 2, 3, 4, 5, 6, 7, 8, 9, 10, 11, 12, 13]] [⟨none, none, (.prim .mv), [(.v 0)]⟩, ⟨none, none, (.prim .mv), [(.v 6)]⟩, ⟨none, none, (.prim .mv), [(.v 0)]⟩, ⟨none, none, (.prim .mv), [(.v 7)]⟩, ⟨none, none, (.prim .mv), [(.v 0)]⟩, ⟨none, none, (.prim .mv), [(.v 7)]⟩, ⟨none, none, (.prim (.iaS 1)), [(.t 4), (.t 5)]⟩, ⟨none, none, (.prim .load1), [(.t 6)]⟩, ⟨none, none, (.prim .mv), [(.v 0)]⟩, ⟨none, none, (.prim .mv), [(.v 6)]⟩, ⟨none, none, (.prim (.iaS 1)), [(.t 8), (.t 9)]⟩, ⟨none, none, (.prim .load1), [(.t 10)]⟩, ⟨none, none, (.prim (.iaS 1)), [(.t 0), (.t 1)]⟩, ⟨none, none, (.prim (.store 1)), [(.t 12), (.t 7)]⟩, ⟨none, none, (.prim (.iaS 1)), [(.t 2), (.t 3)]⟩, ⟨none, none, (.prim (.store 1)), [(.t 14), (.t 11)]⟩] [[], [], [], [], [], [], [4, 5], [6, 4, 5], [], [], [8, 9], [10, 8, 9], [0, 1, 4, 5, 6, 7, 11, 10, 8, 9], [12, 7, 0, 1, 4, 5, 6, 11, 10, 8, 9], [2, 3, 0, 1, 4, 5, 6, 7, 8, 9, 10, 11, 12, 13], [14, 11, 13, 0, 1, 2, 3, 4, 5, 6, 7, 8, 9, 10, 12]])
 (.seq (.region [⟨none, none, (.prim .mv), [(.v 6)]⟩, ⟨none, none, (.prim (.bin .add .int)), [(.t 0), (.c (.cv (.int .i64 1)))]⟩, ⟨(.some 6), none, (.prim .mv), [(.t 1)]⟩])
 (.region [⟨none, none, (.prim .mv), [(.v 7)]⟩, ⟨none, none, (.prim (.bin .sub .int)), [(.t 0), (.c (.cv (.int .i64 1)))]⟩, ⟨(.some 7), none, (.prim .mv), [(.t 1)]⟩])))))))
def ic88 : IC := (.seq (.region [⟨(.some 5), none, (.prim .mv), [(.c (.cv (.int .i64 0)))]⟩])
 (.seq (.draw [[], [], [], [], [], [], [4, 5], [6], [], [], [8, 9], [10], [0, 1, 0, 1, 4, 5, 6, 7, 11], [12, 7, 0, 1, 4, 5, 6, 7, 11], [2, 3, 0, 1, 2, 3, 4, 5, 6, 7, 8, 9, 10, 11, 12, 13], [14, 11, 13, 0, 1, 2, 3, 4, 5, 6, 7, 8, 9, 10, 11, 12, 13]] [⟨none, none, (.prim .mv), [(.v 0)]⟩, ⟨none, none, (.prim .mv), [(.v 1)]⟩, ⟨none, none, (.prim .mv), [(.v 0)]⟩, ⟨none, none, (.prim .mv), [(.v 3)]⟩, ⟨none, none, (.prim .mv), [(.v 0)]⟩, ⟨none, none, (.prim .mv), [(.v 3)]⟩, ⟨none, none, (.prim (.iaS 1)), [(.t 4), (.t 5)]⟩, ⟨none, none, (.prim .load1), [(.t 6)]⟩, ⟨none, none, (.prim .mv), [(.v 0)]⟩, ⟨none, none, (.prim .mv), [(.v 1)]⟩, ⟨none, none, (.prim (.iaS 1)), [(.t 8), (.t 9)]⟩, ⟨none, none, (.prim .load1), [(.t 10)]⟩, ⟨none, none, (.prim (.iaS 1)), [(.t 0), (.t 1)]⟩, ⟨none, none, (.prim (.store 1)), [(.t 12), (.t 7)]⟩, ⟨none, none, (.prim (.iaS 1)), [(.t 2), (.t 3)]⟩, ⟨none, none, (.prim (.store 1)), [(.t 14), (.t 11)]⟩] [[], [], [], [], [], [], [4, 5], [6, 4, 5], [], [], [8, 9], [10, 8, 9], [0, 1, 4, 5, 6, 7, 11, 10, 8, 9], [12, 7, 0, 1, 4, 5, 6, 11, 10, 8, 9], [2, 3, 0, 1, 4, 5, 6, 7, 8, 9, 10, 11, 12, 13], [14, 11, 13, 0, 1, 2, 3, 4, 5, 6, 7, 8, 9, 10, 12]])
 (.seq (.region [⟨none, none, (.prim .mv), [(.v 1)]⟩, ⟨none, none, (.prim (.bin .add .int)), [(.t 0), (.c (.cv (.int .i64 1)))]⟩, ⟨none, none, (.prim .mv), [(.v 2)]⟩, ⟨none, none, (.prim (.bin .sub .int)), [(.t 2), (.c (.cv (.int .i64 1)))]⟩, ⟨(.some 6), none, (.prim .mv), [(.t 1)]⟩, ⟨(.some 7), none, (.prim .mv), [(.t 3)]⟩])
 (.seq (.block 0 (.loop ic88l2))
 (.seq (.region [⟨none, none, (.prim .mv), [(.v 6)]⟩, ⟨(.some 5), none, (.prim .mv), [(.t 0)]⟩])
 .ret)))))
theorem cc88 : compC Try.prog vs88 Try.f88.ntmps (Try.f88.body.getD .skip) = some ic88 := by kernel_rfl
abbrev rs88 : List RC := [(.v 5)]
theorem fok88 (p : Bool) : FnOk Try.prog 88 ⟨ic88, vs88, 90, rs88, p⟩ := FnOk.mk' Try.func88 hb88 (by kernel_rfl) cc88 (by kernel_rfl) (by kernel_rfl)

theorem hb89 : Try.f89.body = some (Try.f89.body.getD .skip) := by kernel_rfl
abbrev vs89 : List Nat := [0, 1, 2, 3, 4, 10, 11, 12, 13, 47, 66, 71, 120, 139, 144]
def ic89l0 : IC := (.seq (.seq (.draw [[], [], [0, 1], [2], [3], [3], [3], [5, 6, 3], [7, 3], [3], [3], [9, 10, 3], [11, 3], [4, 8, 12, 3, 3], [13, 3], [14, 3], [3, 15]] [⟨none, none, (.prim .mv), [(.v 7)]⟩, ⟨none, none, (.prim .mv), [(.v 8)]⟩, ⟨none, none, (.prim (.bin .leq .int)), [(.t 0), (.t 1)]⟩, ⟨none, none, (.prim .mv), [(.t 2)]⟩, ⟨none, (.some (3, true)), (.prim .mv), [(.v 4)]⟩, ⟨none, (.some (3, true)), (.prim .mv), [(.v 0)]⟩, ⟨none, (.some (3, true)), (.prim .mv), [(.v 8)]⟩, ⟨none, (.some (3, true)), (.prim (.iaS 1)), [(.t 5), (.t 6)]⟩, ⟨none, (.some (3, true)), (.prim .load1), [(.t 7)]⟩, ⟨none, (.some (3, true)), (.prim .mv), [(.v 0)]⟩, ⟨none, (.some (3, true)), (.prim .mv), [(.v 1)]⟩, ⟨none, (.some (3, true)), (.prim (.iaS 1)), [(.t 9), (.t 10)]⟩, ⟨none, (.some (3, true)), (.prim .load1), [(.t 11)]⟩, ⟨none, (.some (3, true)), .call, [(.t 4), (.t 8), (.t 12)]⟩, ⟨none, (.some (3, true)), (.prim (.bin .lss .int)), [(.t 13), (.c (.cv (.int .i64 0)))]⟩, ⟨none, (.some (3, true)), (.prim .not), [(.t 14)]⟩, ⟨(.some 13), none, (.prim .pick), [(.t 3), (.t 15), (.c (.cv (.bool false)))]⟩] [[], [], [0, 1], [2, 0, 1], [3, 2, 0, 1], [3, 2, 0, 1], [3, 2, 0, 1], [5, 6, 3, 2, 0, 1], [7, 3, 5, 6, 2, 0, 1], [3, 2, 0, 1], [3, 2, 0, 1], [9, 10, 3, 2, 0, 1], [11, 3, 9, 10, 2, 0, 1], [4, 8, 12, 3, 2, 0, 1, 7, 5, 6, 11, 9, 10], [13, 3, 4, 8, 12, 2, 0, 1, 7, 5, 6, 11, 9, 10], [14, 3, 13, 4, 8, 12, 2, 0, 1, 7, 5, 6, 11, 9, 10], [3, 15, 2, 0, 1, 14, 13, 4, 8, 12, 7, 5, 6, 11, 9, 10]])
 (.cond 13 .skip
 (.exit 8)))
 (.block 9 (.region [⟨none, none, (.prim .mv), [(.v 8)]⟩, ⟨none, none, (.prim (.bin .sub .int)), [(.t 0), (.c (.cv (.int .i64 1)))]⟩, ⟨(.some 8), none, (.prim .mv), [(.t 1)]⟩])))
def ic89l1 : IC := (.seq (.seq (.draw [[], [], [0, 1], [2], [3], [3], [3], [5, 6, 3], [7, 3], [3], [3], [9, 10, 3], [11, 3], [4, 8, 12, 3, 3], [13, 3], [3, 14]] [⟨none, none, (.prim .mv), [(.v 7)]⟩, ⟨none, none, (.prim .mv), [(.v 8)]⟩, ⟨none, none, (.prim (.bin .leq .int)), [(.t 0), (.t 1)]⟩, ⟨none, none, (.prim .mv), [(.t 2)]⟩, ⟨none, (.some (3, true)), (.prim .mv), [(.v 4)]⟩, ⟨none, (.some (3, true)), (.prim .mv), [(.v 0)]⟩, ⟨none, (.some (3, true)), (.prim .mv), [(.v 7)]⟩, ⟨none, (.some (3, true)), (.prim (.iaS 1)), [(.t 5), (.t 6)]⟩, ⟨none, (.some (3, true)), (.prim .load1), [(.t 7)]⟩, ⟨none, (.some (3, true)), (.prim .mv), [(.v 0)]⟩, ⟨none, (.some (3, true)), (.prim .mv), [(.v 1)]⟩, ⟨none, (.some (3, true)), (.prim (.iaS 1)), [(.t 9), (.t 10)]⟩, ⟨none, (.some (3, true)), (.prim .load1), [(.t 11)]⟩, ⟨none, (.some (3, true)), .call, [(.t 4), (.t 8), (.t 12)]⟩, ⟨none, (.some (3, true)), (.prim (.bin .lss .int)), [(.t 13), (.c (.cv (.int .i64 0)))]⟩, ⟨(.some 12), none, (.prim .pick), [(.t 3), (.t 14), (.c (.cv (.bool false)))]⟩] [[], [], [0, 1], [2, 0, 1], [3, 2, 0, 1], [3, 2, 0, 1], [3, 2, 0, 1], [5, 6, 3, 2, 0, 1], [7, 3, 5, 6, 2, 0, 1], [3, 2, 0, 1], [3, 2, 0, 1], [9, 10, 3, 2, 0, 1], [11, 3, 9, 10, 2, 0, 1], [4, 8, 12, 3, 2, 0, 1, 7, 5, 6, 11, 9, 10], [13, 3, 4, 8, 12, 2, 0, 1, 7, 5, 6, 11, 9, 10], [3, 14, 2, 0, 1, 13, 4, 8, 12, 7, 5, 6, 11, 9, 10]])
 (.cond 12 .skip
 (.exit 6)))
 (.block 7 (.region [⟨none, none, (.prim .mv), [(.v 7)]⟩, ⟨none, none, (.prim (.bin .add .int)), [(.t 0), (.c (.cv (.int .i64 1)))]⟩, ⟨(.some 7), none, (.prim .mv), [(.t 1)]⟩])))
def ic89l2 : IC := (.block 5 (.seq (.block 6 (.loop ic89l1))
 (.seq (.block 8 (.loop ic89l0))
 (.seq (.seq (.region [⟨none, none, (.prim .mv), [(.v 7)]⟩, ⟨none, none, (.prim .mv), [(.v 8)]⟩, ⟨(.some 14), none, (.prim (.bin .gtr .int)), [(.t 0), (.t 1)]⟩])
 (.cond 14 (.exit 4)
 .skip))
 (.seq (.draw [[], [], [], [], [], [], [4, 5], [6], [], [], [8, 9], [10], [0, 1, 0, 1, 4, 5, 6, 7, 11], [12, 7, 0, 1, 4, 5, 6, 7, 11], [2, 3, 0, 1, 2, 3, 4, 5, 6, 7, 8, 9, 10, 11, 12, 13], [14, 11, 13, 0, 1, 2, 3, 4, 5, 6, 7, 8, 9, 10, 11, 12, 13]] [⟨none, none, (.prim .mv), [(.v 0)]⟩, ⟨none, none, (.prim .mv), [(.v 7)]⟩, ⟨none, none, (.prim .mv), [(.v 0)]⟩, ⟨none, none, (.prim .mv), [(.v 8)]⟩, ⟨none, none, (.prim .mv), [(.v 0)]⟩, ⟨none, none, (.prim .mv), [(.v 8)]⟩, ⟨none, none, (.prim (.iaS 1)), [(.t 4), (.t 5)]⟩, ⟨none, none, (.prim .load1), [(.t 6)]⟩, ⟨none, none, (.prim .mv), [(.v 0)]⟩, ⟨none, none, (.prim .mv), [(.v 7)]⟩, ⟨none, none, (.prim (.iaS 1)), [(.t 8), (.t 9)]⟩, ⟨none, none, (.prim .load1), [(.t 10)]⟩, ⟨none, none, (.prim (.iaS 1)), [(.t 0), (.t 1)]⟩, ⟨none, none, (.prim (.store 1)), [(.t 12), (.t 7)]⟩, ⟨none, none, (.prim (.iaS 1)), [(.t 2), (.t 3)]⟩, ⟨none, none, (.prim (.store 1)), [(.t 14), (.t 11)]⟩] [[], [], [], [], [], [], [4, 5], [6, 4, 5], [], [], [8, 9], [10, 8, 9], [0, 1, 4, 5, 6, 7, 11, 10, 8, 9], [12, 7, 0, 1, 4, 5, 6, 11, 10, 8, 9], [2, 3, 0, 1, 4, 5, 6, 7, 8, 9, 10, 11, 12, 13], [14, 11, 13, 0, 1, 2, 3, 4, 5, 6, 7, 8, 9, 10, 12]])
 (.seq (.region [⟨none, none, (.prim .mv), [(.v 7)]⟩, ⟨none, none, (.prim (.bin .add .int)), [(.t 0), (.c (.cv (.int .i64 1)))]⟩, ⟨(.some 7), none, (.prim .mv), [(.t 1)]⟩])
 (.region [⟨none, none, (.prim .mv), [(.v 8)]⟩, ⟨none, none, (.prim (.bin .sub .int)), [(.t 0), (.c (.cv (.int .i64 1)))]⟩, ⟨(.some 8), none, (.prim .mv), [(.t 1)]⟩])))))))
def ic89l3 : IC := (.seq (.seq (.draw [[], [], [0, 1], [2], [3], [3], [3], [5, 6, 3], [7, 3], [3], [3], [9, 10, 3], [11, 3], [4, 8, 12, 3, 3], [13, 3], [14, 3], [3, 15]] [⟨none, none, (.prim .mv), [(.v 7)]⟩, ⟨none, none, (.prim .mv), [(.v 8)]⟩, ⟨none, none, (.prim (.bin .leq .int)), [(.t 0), (.t 1)]⟩, ⟨none, none, (.prim .mv), [(.t 2)]⟩, ⟨none, (.some (3, true)), (.prim .mv), [(.v 4)]⟩, ⟨none, (.some (3, true)), (.prim .mv), [(.v 0)]⟩, ⟨none, (.some (3, true)), (.prim .mv), [(.v 8)]⟩, ⟨none, (.some (3, true)), (.prim (.iaS 1)), [(.t 5), (.t 6)]⟩, ⟨none, (.some (3, true)), (.prim .load1), [(.t 7)]⟩, ⟨none, (.some (3, true)), (.prim .mv), [(.v 0)]⟩, ⟨none, (.some (3, true)), (.prim .mv), [(.v 1)]⟩, ⟨none, (.some (3, true)), (.prim (.iaS 1)), [(.t 9), (.t 10)]⟩, ⟨none, (.some (3, true)), (.prim .load1), [(.t 11)]⟩, ⟨none, (.some (3, true)), .call, [(.t 4), (.t 8), (.t 12)]⟩, ⟨none, (.some (3, true)), (.prim (.bin .lss .int)), [(.t 13), (.c (.cv (.int .i64 0)))]⟩, ⟨none, (.some (3, true)), (.prim .not), [(.t 14)]⟩, ⟨(.some 10), none, (.prim .pick), [(.t 3), (.t 15), (.c (.cv (.bool false)))]⟩] [[], [], [0, 1], [2, 0, 1], [3, 2, 0, 1], [3, 2, 0, 1], [3, 2, 0, 1], [5, 6, 3, 2, 0, 1], [7, 3, 5, 6, 2, 0, 1], [3, 2, 0, 1], [3, 2, 0, 1], [9, 10, 3, 2, 0, 1], [11, 3, 9, 10, 2, 0, 1], [4, 8, 12, 3, 2, 0, 1, 7, 5, 6, 11, 9, 10], [13, 3, 4, 8, 12, 2, 0, 1, 7, 5, 6, 11, 9, 10], [14, 3, 13, 4, 8, 12, 2, 0, 1, 7, 5, 6, 11, 9, 10], [3, 15, 2, 0, 1, 14, 13, 4, 8, 12, 7, 5, 6, 11, 9, 10]])
 (.cond 10 .skip
 (.exit 2)))
 (.block 3 (.region [⟨none, none, (.prim .mv), [(.v 8)]⟩, ⟨none, none, (.prim (.bin .sub .int)), [(.t 0), (.c (.cv (.int .i64 1)))]⟩, ⟨(.some 8), none, (.prim .mv), [(.t 1)]⟩])))
def ic89l4 : IC := (.seq (.seq (.draw [[], [], [0, 1], [2], [3], [3], [3], [5, 6, 3], [7, 3], [3], [3], [9, 10, 3], [11, 3], [4, 8, 12, 3, 3], [13, 3], [3, 14]] [⟨none, none, (.prim .mv), [(.v 7)]⟩, ⟨none, none, (.prim .mv), [(.v 8)]⟩, ⟨none, none, (.prim (.bin .leq .int)), [(.t 0), (.t 1)]⟩, ⟨none, none, (.prim .mv), [(.t 2)]⟩, ⟨none, (.some (3, true)), (.prim .mv), [(.v 4)]⟩, ⟨none, (.some (3, true)), (.prim .mv), [(.v 0)]⟩, ⟨none, (.some (3, true)), (.prim .mv), [(.v 7)]⟩, ⟨none, (.some (3, true)), (.prim (.iaS 1)), [(.t 5), (.t 6)]⟩, ⟨none, (.some (3, true)), (.prim .load1), [(.t 7)]⟩, ⟨none, (.some (3, true)), (.prim .mv), [(.v 0)]⟩, ⟨none, (.some (3, true)), (.prim .mv), [(.v 1)]⟩, ⟨none, (.some (3, true)), (.prim (.iaS 1)), [(.t 9), (.t 10)]⟩, ⟨none, (.some (3, true)), (.prim .load1), [(.t 11)]⟩, ⟨none, (.some (3, true)), .call, [(.t 4), (.t 8), (.t 12)]⟩, ⟨none, (.some (3, true)), (.prim (.bin .lss .int)), [(.t 13), (.c (.cv (.int .i64 0)))]⟩, ⟨(.some 9), none, (.prim .pick), [(.t 3), (.t 14), (.c (.cv (.bool false)))]⟩] [[], [], [0, 1], [2, 0, 1], [3, 2, 0, 1], [3, 2, 0, 1], [3, 2, 0, 1], [5, 6, 3, 2, 0, 1], [7, 3, 5, 6, 2, 0, 1], [3, 2, 0, 1], [3, 2, 0, 1], [9, 10, 3, 2, 0, 1], [11, 3, 9, 10, 2, 0, 1], [4, 8, 12, 3, 2, 0, 1, 7, 5, 6, 11, 9, 10], [13, 3, 4, 8, 12, 2, 0, 1, 7, 5, 6, 11, 9, 10], [3, 14, 2, 0, 1, 13, 4, 8, 12, 7, 5, 6, 11, 9, 10]])
 (.cond 9 .skip
 (.exit 0)))
 (.block 1 (.region [⟨none, none, (.prim .mv), [(.v 7)]⟩, ⟨none, none, (.prim (.bin .add .int)), [(.t 0), (.c (.cv (.int .i64 1)))]⟩, ⟨(.some 7), none, (.prim .mv), [(.t 1)]⟩])))
def ic89 : IC := (.seq (.region [⟨(.some 5), none, (.prim .mv), [(.c (.cv (.int .i64 0)))]⟩, ⟨(.some 6), none, (.prim .mv), [(.c (.cv (.bool false)))]⟩])
 (.seq (.draw [[], [], [], [], [], [], [4, 5], [6], [], [], [8, 9], [10], [0, 1, 0, 1, 4, 5, 6, 7, 11], [12, 7, 0, 1, 4, 5, 6, 7, 11], [2, 3, 0, 1, 2, 3, 4, 5, 6, 7, 8, 9, 10, 11, 12, 13], [14, 11, 13, 0, 1, 2, 3, 4, 5, 6, 7, 8, 9, 10, 11, 12, 13]] [⟨none, none, (.prim .mv), [(.v 0)]⟩, ⟨none, none, (.prim .mv), [(.v 1)]⟩, ⟨none, none, (.prim .mv), [(.v 0)]⟩, ⟨none, none, (.prim .mv), [(.v 3)]⟩, ⟨none, none, (.prim .mv), [(.v 0)]⟩, ⟨none, none, (.prim .mv), [(.v 3)]⟩, ⟨none, none, (.prim (.iaS 1)), [(.t 4), (.t 5)]⟩, ⟨none, none, (.prim .load1), [(.t 6)]⟩, ⟨none, none, (.prim .mv), [(.v 0)]⟩, ⟨none, none, (.prim .mv), [(.v 1)]⟩, ⟨none, none, (.prim (.iaS 1)), [(.t 8), (.t 9)]⟩, ⟨none, none, (.prim .load1), [(.t 10)]⟩, ⟨none, none, (.prim (.iaS 1)), [(.t 0), (.t 1)]⟩, ⟨none, none, (.prim (.store 1)), [(.t 12), (.t 7)]⟩, ⟨none, none, (.prim (.iaS 1)), [(.t 2), (.t 3)]⟩, ⟨none, none, (.prim (.store 1)), [(.t 14), (.t 11)]⟩] [[], [], [], [], [], [], [4, 5], [6, 4, 5], [], [], [8, 9], [10, 8, 9], [0, 1, 4, 5, 6, 7, 11, 10, 8, 9], [12, 7, 0, 1, 4, 5, 6, 11, 10, 8, 9], [2, 3, 0, 1, 4, 5, 6, 7, 8, 9, 10, 11, 12, 13], [14, 11, 13, 0, 1, 2, 3, 4, 5, 6, 7, 8, 9, 10, 12]])
 (.seq (.region [⟨none, none, (.prim .mv), [(.v 1)]⟩, ⟨none, none, (.prim (.bin .add .int)), [(.t 0), (.c (.cv (.int .i64 1)))]⟩, ⟨none, none, (.prim .mv), [(.v 2)]⟩, ⟨none, none, (.prim (.bin .sub .int)), [(.t 2), (.c (.cv (.int .i64 1)))]⟩, ⟨(.some 7), none, (.prim .mv), [(.t 1)]⟩, ⟨(.some 8), none, (.prim .mv), [(.t 3)]⟩])
 (.seq (.block 0 (.loop ic89l4))
 (.seq (.block 2 (.loop ic89l3))
 (.seq (.seq (.region [⟨none, none, (.prim .mv), [(.v 7)]⟩, ⟨none, none, (.prim .mv), [(.v 8)]⟩, ⟨(.some 11), none, (.prim (.bin .gtr .int)), [(.t 0), (.t 1)]⟩])
 (.cond 11 (.seq (.draw [[], [], [], [], [], [], [4, 5], [6], [], [], [8, 9], [10], [0, 1, 0, 1, 4, 5, 6, 7, 11], [12, 7, 0, 1, 4, 5, 6, 7, 11], [2, 3, 0, 1, 2, 3, 4, 5, 6, 7, 8, 9, 10, 11, 12, 13], [14, 11, 13, 0, 1, 2, 3, 4, 5, 6, 7, 8, 9, 10, 11, 12, 13]] [⟨none, none, (.prim .mv), [(.v 0)]⟩, ⟨none, none, (.prim .mv), [(.v 8)]⟩, ⟨none, none, (.prim .mv), [(.v 0)]⟩, ⟨none, none, (.prim .mv), [(.v 1)]⟩, ⟨none, none, (.prim .mv), [(.v 0)]⟩, ⟨none, none, (.prim .mv), [(.v 1)]⟩, ⟨none, none, (.prim (.iaS 1)), [(.t 4), (.t 5)]⟩, ⟨none, none, (.prim .load1), [(.t 6)]⟩, ⟨none, none, (.prim .mv), [(.v 0)]⟩, ⟨none, none, (.prim .mv), [(.v 8)]⟩, ⟨none, none, (.prim (.iaS 1)), [(.t 8), (.t 9)]⟩, ⟨none, none, (.prim .load1), [(.t 10)]⟩, ⟨none, none, (.prim (.iaS 1)), [(.t 0), (.t 1)]⟩, ⟨none, none, (.prim (.store 1)), [(.t 12), (.t 7)]⟩, ⟨none, none, (.prim (.iaS 1)), [(.t 2), (.t 3)]⟩, ⟨none, none, (.prim (.store 1)), [(.t 14), (.t 11)]⟩] [[], [], [], [], [], [], [4, 5], [6, 4, 5], [], [], [8, 9], [10, 8, 9], [0, 1, 4, 5, 6, 7, 11, 10, 8, 9], [12, 7, 0, 1, 4, 5, 6, 11, 10, 8, 9], [2, 3, 0, 1, 4, 5, 6, 7, 8, 9, 10, 11, 12, 13], [14, 11, 13, 0, 1, 2, 3, 4, 5, 6, 7, 8, 9, 10, 12]])
 (.seq (.region [⟨none, none, (.prim .mv), [(.v 8)]⟩, ⟨(.some 5), none, (.prim .mv), [(.t 0)]⟩, ⟨(.some 6), none, (.prim .mv), [(.c (.cv (.bool true)))]⟩])
 .ret))
 .skip))
 (.seq (.draw [[], [], [], [], [], [], [4, 5], [6], [], [], [8, 9], [10], [0, 1, 0, 1, 4, 5, 6, 7, 11], [12, 7, 0, 1, 4, 5, 6, 7, 11], [2, 3, 0, 1, 2, 3, 4, 5, 6, 7, 8, 9, 10, 11, 12, 13], [14, 11, 13, 0, 1, 2, 3, 4, 5, 6, 7, 8, 9, 10, 11, 12, 13]] [⟨none, none, (.prim .mv), [(.v 0)]⟩, ⟨none, none, (.prim .mv), [(.v 7)]⟩, ⟨none, none, (.prim .mv), [(.v 0)]⟩, ⟨none, none, (.prim .mv), [(.v 8)]⟩, ⟨none, none, (.prim .mv), [(.v 0)]⟩, ⟨none, none, (.prim .mv), [(.v 8)]⟩, ⟨none, none, (.prim (.iaS 1)), [(.t 4), (.t 5)]⟩, ⟨none, none, (.prim .load1), [(.t 6)]⟩, ⟨none, none, (.prim .mv), [(.v 0)]⟩, ⟨none, none, (.prim .mv), [(.v 7)]⟩, ⟨none, none, (.prim (.iaS 1)), [(.t 8), (.t 9)]⟩, ⟨none, none, (.prim .load1), [(.t 10)]⟩, ⟨none, none, (.prim (.iaS 1)), [(.t 0), (.t 1)]⟩, ⟨none, none, (.prim (.store 1)), [(.t 12), (.t 7)]⟩, ⟨none, none, (.prim (.iaS 1)), [(.t 2), (.t 3)]⟩, ⟨none, none, (.prim (.store 1)), [(.t 14), (.t 11)]⟩] [[], [], [], [], [], [], [4, 5], [6, 4, 5], [], [], [8, 9], [10, 8, 9], [0, 1, 4, 5, 6, 7, 11, 10, 8, 9], [12, 7, 0, 1, 4, 5, 6, 11, 10, 8, 9], [2, 3, 0, 1, 4, 5, 6, 7, 8, 9, 10, 11, 12, 13], [14, 11, 13, 0, 1, 2, 3, 4, 5, 6, 7, 8, 9, 10, 12]])
 (.seq (.region [⟨none, none, (.prim .mv), [(.v 7)]⟩, ⟨none, none, (.prim (.bin .add .int)), [(.t 0), (.c (.cv (.int .i64 1)))]⟩, ⟨(.some 7), none, (.prim .mv), [(.t 1)]⟩])
 (.seq (.region [⟨none, none, (.prim .mv), [(.v 8)]⟩, ⟨none, none, (.prim (.bin .sub .int)), [(.t 0), (.c (.cv (.int .i64 1)))]⟩, ⟨(.some 8), none, (.prim .mv), [(.t 1)]⟩])
 (.seq (.block 4 (.loop ic89l2))
 (.seq (.draw [[], [], [], [], [], [], [4, 5], [6], [], [], [8, 9], [10], [0, 1, 0, 1, 4, 5, 6, 7, 11], [12, 7, 0, 1, 4, 5, 6, 7, 11], [2, 3, 0, 1, 2, 3, 4, 5, 6, 7, 8, 9, 10, 11, 12, 13], [14, 11, 13, 0, 1, 2, 3, 4, 5, 6, 7, 8, 9, 10, 11, 12, 13]] [⟨none, none, (.prim .mv), [(.v 0)]⟩, ⟨none, none, (.prim .mv), [(.v 8)]⟩, ⟨none, none, (.prim .mv), [(.v 0)]⟩, ⟨none, none, (.prim .mv), [(.v 1)]⟩, ⟨none, none, (.prim .mv), [(.v 0)]⟩, ⟨none, none, (.prim .mv), [(.v 1)]⟩, ⟨none, none, (.prim (.iaS 1)), [(.t 4), (.t 5)]⟩, ⟨none, none, (.prim .load1), [(.t 6)]⟩, ⟨none, none, (.prim .mv), [(.v 0)]⟩, ⟨none, none, (.prim .mv), [(.v 8)]⟩, ⟨none, none, (.prim (.iaS 1)), [(.t 8), (.t 9)]⟩, ⟨none, none, (.prim .load1), [(.t 10)]⟩, ⟨none, none, (.prim (.iaS 1)), [(.t 0), (.t 1)]⟩, ⟨none, none, (.prim (.store 1)), [(.t 12), (.t 7)]⟩, ⟨none, none, (.prim (.iaS 1)), [(.t 2), (.t 3)]⟩, ⟨none, none, (.prim (.store 1)), [(.t 14), (.t 11)]⟩] [[], [], [], [], [], [], [4, 5], [6, 4, 5], [], [], [8, 9], [10, 8, 9], [0, 1, 4, 5, 6, 7, 11, 10, 8, 9], [12, 7, 0, 1, 4, 5, 6, 11, 10, 8, 9], [2, 3, 0, 1, 4, 5, 6, 7, 8, 9, 10, 11, 12, 13], [14, 11, 13, 0, 1, 2, 3, 4, 5, 6, 7, 8, 9, 10, 12]])
 (.seq (.region [⟨none, none, (.prim .mv), [(.v 8)]⟩, ⟨(.some 5), none, (.prim .mv), [(.t 0)]⟩, ⟨(.some 6), none, (.prim .mv), [(.c (.cv (.bool false)))]⟩])
 .ret))))))))))))
theorem cc89 : compC Try.prog vs89 Try.f89.ntmps (Try.f89.body.getD .skip) = some ic89 := by kernel_rfl
abbrev rs89 : List RC := [(.v 5), (.v 6)]
theorem fok89 (p : Bool) : FnOk Try.prog 89 ⟨ic89, vs89, 178, rs89, p⟩ := FnOk.mk' Try.func89 hb89 (by kernel_rfl) cc89 (by kernel_rfl) (by kernel_rfl)

theorem hb90 : Try.f90.body = some (Try.f90.body.getD .skip) := by kernel_rfl
abbrev vs90 : List Nat := [0, 2, 4, 8]
def ic90 : IC := (.seq (.region [⟨(.some 1), none, (.prim .mv), [(.c (.cv (.int .i64 0)))]⟩])
 (.seq (.seq (.region [⟨none, none, (.prim .mv), [(.v 0)]⟩, ⟨(.some 2), none, (.prim (.bin .geq .int)), [(.t 0), (.c (.cv (.int .u32 65536)))]⟩])
 (.cond 2 (.seq (.region [⟨none, none, (.prim .mv), [(.v 0)]⟩, ⟨none, none, (.prim (.bin .shr .int)), [(.t 0), (.c (.cv (.int .u64 16)))]⟩, ⟨(.some 0), none, (.prim .mv), [(.t 1)]⟩])
 (.region [⟨(.some 1), none, (.prim .mv), [(.c (.cv (.int .i64 16)))]⟩]))
 .skip))
 (.seq (.seq (.region [⟨none, none, (.prim .mv), [(.v 0)]⟩, ⟨(.some 3), none, (.prim (.bin .geq .int)), [(.t 0), (.c (.cv (.int .u32 256)))]⟩])
 (.cond 3 (.seq (.region [⟨none, none, (.prim .mv), [(.v 0)]⟩, ⟨none, none, (.prim (.bin .shr .int)), [(.t 0), (.c (.cv (.int .u64 8)))]⟩, ⟨(.some 0), none, (.prim .mv), [(.t 1)]⟩])
 (.region [⟨none, none, (.prim .mv), [(.v 1)]⟩, ⟨none, none, (.prim (.bin .add .int)), [(.t 0), (.c (.cv (.int .i64 8)))]⟩, ⟨(.some 1), none, (.prim .mv), [(.t 1)]⟩]))
 .skip))
 (.seq (.region [⟨none, none, (.prim .mv), [(.v 1)]⟩, ⟨none, none, (.prim .mv), [(.v 0)]⟩, ⟨none, none, (.prim (.conv .u8)), [(.t 1)]⟩, ⟨none, none, (.prim .ixStr), [(.c (.cv (.str (bts [0, 1, 2, 2, 3, 3, 3, 3, 4, 4, 4, 4, 4, 4, 4, 4, 5, 5, 5, 5, 5, 5, 5, 5, 5, 5, 5, 5, 5, 5, 5, 5, 6, 6, 6, 6, 6, 6, 6, 6, 6, 6, 6, 6, 6, 6, 6, 6, 6, 6, 6, 6, 6, 6, 6, 6, 6, 6, 6, 6, 6, 6, 6, 6, 7, 7, 7, 7, 7, 7, 7, 7, 7, 7, 7, 7, 7, 7, 7, 7, 7, 7, 7, 7, 7, 7, 7, 7, 7, 7, 7, 7, 7, 7, 7, 7, 7, 7, 7, 7, 7, 7, 7, 7, 7, 7, 7, 7, 7, 7, 7, 7, 7, 7, 7, 7, 7, 7, 7, 7, 7, 7, 7, 7, 7, 7, 7, 7, 8, 8, 8, 8, 8, 8, 8, 8, 8, 8, 8, 8, 8, 8, 8, 8, 8, 8, 8, 8, 8, 8, 8, 8, 8, 8, 8, 8, 8, 8, 8, 8, 8, 8, 8, 8, 8, 8, 8, 8, 8, 8, 8, 8, 8, 8, 8, 8, 8, 8, 8, 8, 8, 8, 8, 8, 8, 8, 8, 8, 8, 8, 8, 8, 8, 8, 8, 8, 8, 8, 8, 8, 8, 8, 8, 8, 8, 8, 8, 8, 8, 8, 8, 8, 8, 8, 8, 8, 8, 8, 8, 8, 8, 8, 8, 8, 8, 8, 8, 8, 8, 8, 8, 8, 8, 8, 8, 8, 8, 8, 8, 8, 8, 8, 8, 8, 8, 8, 8, 8, 8, 8, 8, 8, 8, 8, 8, 8])))), (.t 2)]⟩, ⟨none, none, (.prim (.conv .i64)), [(.t 3)]⟩, ⟨none, none, (.prim (.bin .add .int)), [(.t 0), (.t 4)]⟩, ⟨(.some 1), none, (.prim .mv), [(.t 5)]⟩])
 .ret))))
theorem cc90 : compC Try.prog vs90 Try.f90.ntmps (Try.f90.body.getD .skip) = some ic90 := by kernel_rfl
abbrev rs90 : List RC := [(.v 1)]
theorem fok90 (p : Bool) : FnOk Try.prog 90 ⟨ic90, vs90, 19, rs90, p⟩ := FnOk.mk' Try.func90 hb90 (by kernel_rfl) cc90 (by kernel_rfl) (by kernel_rfl)

theorem hb91 : Try.f91.body = some (Try.f91.body.getD .skip) := by kernel_rfl
abbrev vs91 : List Nat := [0, 2, 4, 8, 14]
def ic91 : IC := (.seq (.region [⟨(.some 1), none, (.prim .mv), [(.c (.cv (.int .i64 0)))]⟩])
 (.seq (.seq (.region [⟨none, none, (.prim .mv), [(.v 0)]⟩, ⟨(.some 2), none, (.prim (.bin .geq .int)), [(.t 0), (.c (.cv (.int .u64 4294967296)))]⟩])
 (.cond 2 (.seq (.region [⟨none, none, (.prim .mv), [(.v 0)]⟩, ⟨none, none, (.prim (.bin .shr .int)), [(.t 0), (.c (.cv (.int .u64 32)))]⟩, ⟨(.some 0), none, (.prim .mv), [(.t 1)]⟩])
 (.region [⟨(.some 1), none, (.prim .mv), [(.c (.cv (.int .i64 32)))]⟩]))
 .skip))
 (.seq (.seq (.region [⟨none, none, (.prim .mv), [(.v 0)]⟩, ⟨(.some 3), none, (.prim (.bin .geq .int)), [(.t 0), (.c (.cv (.int .u64 65536)))]⟩])
 (.cond 3 (.seq (.region [⟨none, none, (.prim .mv), [(.v 0)]⟩, ⟨none, none, (.prim (.bin .shr .int)), [(.t 0), (.c (.cv (.int .u64 16)))]⟩, ⟨(.some 0), none, (.prim .mv), [(.t 1)]⟩])
 (.region [⟨none, none, (.prim .mv), [(.v 1)]⟩, ⟨none, none, (.prim (.bin .add .int)), [(.t 0), (.c (.cv (.int .i64 16)))]⟩, ⟨(.some 1), none, (.prim .mv), [(.t 1)]⟩]))
 .skip))
 (.seq (.seq (.region [⟨none, none, (.prim .mv), [(.v 0)]⟩, ⟨(.some 4), none, (.prim (.bin .geq .int)), [(.t 0), (.c (.cv (.int .u64 256)))]⟩])
 (.cond 4 (.seq (.region [⟨none, none, (.prim .mv), [(.v 0)]⟩, ⟨none, none, (.prim (.bin .shr .int)), [(.t 0), (.c (.cv (.int .u64 8)))]⟩, ⟨(.some 0), none, (.prim .mv), [(.t 1)]⟩])
 (.region [⟨none, none, (.prim .mv), [(.v 1)]⟩, ⟨none, none, (.prim (.bin .add .int)), [(.t 0), (.c (.cv (.int .i64 8)))]⟩, ⟨(.some 1), none, (.prim .mv), [(.t 1)]⟩]))
 .skip))
 (.seq (.region [⟨none, none, (.prim .mv), [(.v 1)]⟩, ⟨none, none, (.prim .mv), [(.v 0)]⟩, ⟨none, none, (.prim (.conv .u8)), [(.t 1)]⟩, ⟨none, none, (.prim .ixStr), [(.c (.cv (.str (bts [0, 1, 2, 2, 3, 3, 3, 3, 4, 4, 4, 4, 4, 4, 4, 4, 5, 5, 5, 5, 5, 5, 5, 5, 5, 5, 5, 5, 5, 5, 5, 5, 6, 6, 6, 6, 6, 6, 6, 6, 6, 6, 6, 6, 6, 6, 6, 6, 6, 6, 6, 6, 6, 6, 6, 6, 6, 6, 6, 6, 6, 6, 6, 6, 7, 7, 7, 7, 7, 7, 7, 7, 7, 7, 7, 7, 7, 7, 7, 7, 7, 7, 7, 7, 7, 7, 7, 7, 7, 7, 7, 7, 7, 7, 7, 7, 7, 7, 7, 7, 7, 7, 7, 7, 7, 7, 7, 7, 7, 7, 7, 7, 7, 7, 7, 7, 7, 7, 7, 7, 7, 7, 7, 7, 7, 7, 7, 7, 8, 8, 8, 8, 8, 8, 8, 8, 8, 8, 8, 8, 8, 8, 8, 8, 8, 8, 8, 8, 8, 8, 8, 8, 8, 8, 8, 8, 8, 8, 8, 8, 8, 8, 8, 8, 8, 8, 8, 8, 8, 8, 8, 8, 8, 8, 8, 8, 8, 8, 8, 8, 8, 8, 8, 8, 8, 8, 8, 8, 8, 8, 8, 8, 8, 8, 8, 8, 8, 8, 8, 8, 8, 8, 8, 8, 8, 8, 8, 8, 8, 8, 8, 8, 8, 8, 8, 8, 8, 8, 8, 8, 8, 8, 8, 8, 8, 8, 8, 8, 8, 8, 8, 8, 8, 8, 8, 8, 8, 8, 8, 8, 8, 8, 8, 8, 8, 8, 8, 8, 8, 8, 8, 8, 8, 8, 8, 8])))), (.t 2)]⟩, ⟨none, none, (.prim (.conv .i64)), [(.t 3)]⟩, ⟨none, none, (.prim (.bin .add .int)), [(.t 0), (.t 4)]⟩, ⟨(.some 1), none, (.prim .mv), [(.t 5)]⟩])
 .ret)))))
theorem cc91 : compC Try.prog vs91 Try.f91.ntmps (Try.f91.body.getD .skip) = some ic91 := by kernel_rfl
abbrev rs91 : List RC := [(.v 1)]
theorem fok91 (p : Bool) : FnOk Try.prog 91 ⟨ic91, vs91, 25, rs91, p⟩ := FnOk.mk' Try.func91 hb91 (by kernel_rfl) cc91 (by kernel_rfl) (by kernel_rfl)

theorem hb92 : Try.f92.body = some (Try.f92.body.getD .skip) := by kernel_rfl
abbrev vs92 : List Nat := [0, 1, 2, 3, 4, 10, 11, 18, 40, 58]
def ic92l0 : IC := (.block 1 (.seq (.region [⟨none, none, (.prim .mv), [(.v 5)]⟩, ⟨none, none, (.prim (.bin .mul .int)), [(.c (.cv (.int .i64 2))), (.t 0)]⟩, ⟨none, none, (.prim (.bin .add .int)), [(.t 1), (.c (.cv (.int .i64 1)))]⟩, ⟨(.some 6), none, (.prim .mv), [(.t 2)]⟩])
 (.seq (.seq (.region [⟨none, none, (.prim .mv), [(.v 6)]⟩, ⟨none, none, (.prim .mv), [(.v 2)]⟩, ⟨(.some 7), none, (.prim (.bin .geq .int)), [(.t 0), (.t 1)]⟩])
 (.cond 7 (.exit 0)
 .skip))
 (.seq (.seq (.draw [[], [0], [], [1, 2], [3], [4], [4], [4], [4], [7, 8, 4], [6, 9, 4], [10, 4], [4], [4], [4], [13, 14, 4], [15, 4], [12, 16, 4], [17, 4], [5, 11, 18, 4, 4], [19, 4], [4, 20]] [⟨none, none, (.prim .mv), [(.v 6)]⟩, ⟨none, none, (.prim (.bin .add .int)), [(.t 0), (.c (.cv (.int .i64 1)))]⟩, ⟨none, none, (.prim .mv), [(.v 2)]⟩, ⟨none, none, (.prim (.bin .lss .int)), [(.t 1), (.t 2)]⟩, ⟨none, none, (.prim .mv), [(.t 3)]⟩, ⟨none, (.some (4, true)), (.prim .mv), [(.v 4)]⟩, ⟨none, (.some (4, true)), (.prim .mv), [(.v 0)]⟩, ⟨none, (.some (4, true)), (.prim .mv), [(.v 3)]⟩, ⟨none, (.some (4, true)), (.prim .mv), [(.v 6)]⟩, ⟨none, (.some (4, true)), (.prim (.bin .add .int)), [(.t 7), (.t 8)]⟩, ⟨none, (.some (4, true)), (.prim (.iaS 1)), [(.t 6), (.t 9)]⟩, ⟨none, (.some (4, true)), (.prim .load1), [(.t 10)]⟩, ⟨none, (.some (4, true)), (.prim .mv), [(.v 0)]⟩, ⟨none, (.some (4, true)), (.prim .mv), [(.v 3)]⟩, ⟨none, (.some (4, true)), (.prim .mv), [(.v 6)]⟩, ⟨none, (.some (4, true)), (.prim (.bin .add .int)), [(.t 13), (.t 14)]⟩, ⟨none, (.some (4, true)), (.prim (.bin .add .int)), [(.t 15), (.c (.cv (.int .i64 1)))]⟩, ⟨none, (.some (4, true)), (.prim (.iaS 1)), [(.t 12), (.t 16)]⟩, ⟨none, (.some (4, true)), (.prim .load1), [(.t 17)]⟩, ⟨none, (.some (4, true)), .call, [(.t 5), (.t 11), (.t 18)]⟩, ⟨none, (.some (4, true)), (.prim (.bin .lss .int)), [(.t 19), (.c (.cv (.int .i64 0)))]⟩, ⟨(.some 8), none, (.prim .pick), [(.t 4), (.t 20), (.c (.cv (.bool false)))]⟩] [[], [0], [], [1, 2, 0], [3, 1, 2, 0], [4, 3, 1, 2, 0], [4, 3, 1, 2, 0], [4, 3, 1, 2, 0], [4, 3, 1, 2, 0], [7, 8, 4, 3, 1, 2, 0], [6, 9, 4, 3, 1, 2, 0, 7, 8], [10, 4, 6, 9, 3, 1, 2, 0, 7, 8], [4, 3, 1, 2, 0], [4, 3, 1, 2, 0], [4, 3, 1, 2, 0], [13, 14, 4, 3, 1, 2, 0], [15, 4, 13, 14, 3, 1, 2, 0], [12, 16, 4, 3, 1, 2, 0, 15, 13, 14], [17, 4, 12, 16, 3, 1, 2, 0, 15, 13, 14], [5, 11, 18, 4, 3, 1, 2, 0, 10, 6, 9, 7, 8, 17, 12, 16, 15, 13, 14], [19, 4, 5, 11, 18, 3, 1, 2, 0, 10, 6, 9, 7, 8, 17, 12, 16, 15, 13, 14], [4, 20, 3, 1, 2, 0, 19, 5, 11, 18, 10, 6, 9, 7, 8, 17, 12, 16, 15, 13, 14]])
 (.cond 8 (.region [⟨none, none, (.prim .mv), [(.v 6)]⟩, ⟨none, none, (.prim (.bin .add .int)), [(.t 0), (.c (.cv (.int .i64 1)))]⟩, ⟨(.some 6), none, (.prim .mv), [(.t 1)]⟩])
 .skip))
 (.seq (.seq (.draw [[], [], [], [], [2, 3], [1, 4], [5], [], [], [], [8, 9], [7, 10], [11], [0, 6, 12], [13], [14]] [⟨none, none, (.prim .mv), [(.v 4)]⟩, ⟨none, none, (.prim .mv), [(.v 0)]⟩, ⟨none, none, (.prim .mv), [(.v 3)]⟩, ⟨none, none, (.prim .mv), [(.v 5)]⟩, ⟨none, none, (.prim (.bin .add .int)), [(.t 2), (.t 3)]⟩, ⟨none, none, (.prim (.iaS 1)), [(.t 1), (.t 4)]⟩, ⟨none, none, (.prim .load1), [(.t 5)]⟩, ⟨none, none, (.prim .mv), [(.v 0)]⟩, ⟨none, none, (.prim .mv), [(.v 3)]⟩, ⟨none, none, (.prim .mv), [(.v 6)]⟩, ⟨none, none, (.prim (.bin .add .int)), [(.t 8), (.t 9)]⟩, ⟨none, none, (.prim (.iaS 1)), [(.t 7), (.t 10)]⟩, ⟨none, none, (.prim .load1), [(.t 11)]⟩, ⟨none, none, .call, [(.t 0), (.t 6), (.t 12)]⟩, ⟨none, none, (.prim (.bin .lss .int)), [(.t 13), (.c (.cv (.int .i64 0)))]⟩, ⟨(.some 9), none, (.prim .not), [(.t 14)]⟩] [[], [], [], [], [2, 3], [1, 4, 2, 3], [5, 1, 4, 2, 3], [], [], [], [8, 9], [7, 10, 8, 9], [11, 7, 10, 8, 9], [0, 6, 12, 5, 1, 4, 2, 3, 11, 7, 10, 8, 9], [13, 0, 6, 12, 5, 1, 4, 2, 3, 11, 7, 10, 8, 9], [14, 13, 0, 6, 12, 5, 1, 4, 2, 3, 11, 7, 10, 8, 9]])
 (.cond 9 .ret
 .skip))
 (.seq (.draw [[], [], [], [1, 2], [], [], [], [5, 6], [], [], [], [9, 10], [8, 11], [12], [], [], [], [15, 16], [14, 17], [18], [0, 3, 0, 1, 2, 3, 8, 9, 10, 11, 12, 13, 19], [20, 13, 0, 1, 2, 3, 8, 9, 10, 11, 12, 13, 19], [4, 7, 0, 1, 2, 3, 4, 5, 6, 7, 8, 9, 10, 11, 12, 13, 14, 15, 16, 17, 18, 19, 20, 21], [22, 19, 21, 0, 1, 2, 3, 4, 5, 6, 7, 8, 9, 10, 11, 12, 13, 14, 15, 16, 17, 18, 19, 20, 21]] [⟨none, none, (.prim .mv), [(.v 0)]⟩, ⟨none, none, (.prim .mv), [(.v 3)]⟩, ⟨none, none, (.prim .mv), [(.v 5)]⟩, ⟨none, none, (.prim (.bin .add .int)), [(.t 1), (.t 2)]⟩, ⟨none, none, (.prim .mv), [(.v 0)]⟩, ⟨none, none, (.prim .mv), [(.v 3)]⟩, ⟨none, none, (.prim .mv), [(.v 6)]⟩, ⟨none, none, (.prim (.bin .add .int)), [(.t 5), (.t 6)]⟩, ⟨none, none, (.prim .mv), [(.v 0)]⟩, ⟨none, none, (.prim .mv), [(.v 3)]⟩, ⟨none, none, (.prim .mv), [(.v 6)]⟩, ⟨none, none, (.prim (.bin .add .int)), [(.t 9), (.t 10)]⟩, ⟨none, none, (.prim (.iaS 1)), [(.t 8), (.t 11)]⟩, ⟨none, none, (.prim .load1), [(.t 12)]⟩, ⟨none, none, (.prim .mv), [(.v 0)]⟩, ⟨none, none, (.prim .mv), [(.v 3)]⟩, ⟨none, none, (.prim .mv), [(.v 5)]⟩, ⟨none, none, (.prim (.bin .add .int)), [(.t 15), (.t 16)]⟩, ⟨none, none, (.prim (.iaS 1)), [(.t 14), (.t 17)]⟩, ⟨none, none, (.prim .load1), [(.t 18)]⟩, ⟨none, none, (.prim (.iaS 1)), [(.t 0), (.t 3)]⟩, ⟨none, none, (.prim (.store 1)), [(.t 20), (.t 13)]⟩, ⟨none, none, (.prim (.iaS 1)), [(.t 4), (.t 7)]⟩, ⟨none, none, (.prim (.store 1)), [(.t 22), (.t 19)]⟩] [[], [], [], [1, 2], [], [], [], [5, 6], [], [], [], [9, 10], [8, 11, 9, 10], [12, 8, 11, 9, 10], [], [], [], [15, 16], [14, 17, 15, 16], [18, 14, 17, 15, 16], [0, 3, 1, 2, 8, 9, 10, 11, 12, 13, 19, 18, 14, 17, 15, 16], [20, 13, 0, 1, 2, 3, 8, 9, 10, 11, 12, 19, 18, 14, 17, 15, 16], [4, 7, 0, 1, 2, 3, 5, 6, 8, 9, 10, 11, 12, 13, 14, 15, 16, 17, 18, 19, 20, 21], [22, 19, 21, 0, 1, 2, 3, 4, 5, 6, 7, 8, 9, 10, 11, 12, 13, 14, 15, 16, 17, 18, 20]])
 (.region [⟨none, none, (.prim .mv), [(.v 6)]⟩, ⟨(.some 5), none, (.prim .mv), [(.t 0)]⟩])))))))
def ic92 : IC := (.seq (.region [⟨none, none, (.prim .mv), [(.v 1)]⟩, ⟨(.some 5), none, (.prim .mv), [(.t 0)]⟩])
 (.block 0 (.loop ic92l0)))
theorem cc92 : compC Try.prog vs92 Try.f92.ntmps (Try.f92.body.getD .skip) = some ic92 := by kernel_rfl
abbrev rs92 : List RC := []
theorem fok92 (p : Bool) : FnOk Try.prog 92 ⟨ic92, vs92, 82, rs92, p⟩ := FnOk.mk' Try.func92 hb92 (by kernel_rfl) cc92 (by kernel_rfl) (by kernel_rfl)

theorem hb93 : Try.f93.body = some (Try.f93.body.getD .skip) := by kernel_rfl
abbrev vs93 : List Nat := [0, 2]
def ic93 : IC := (.seq (.region [⟨(.some 1), none, (.prim .mv), [(.c (.cv (.int .u64 0)))]⟩])
 (.seq (.region [⟨none, none, (.prim .mv), [(.v 0)]⟩, ⟨none, none, (.prim (.conv .u64)), [(.t 0)]⟩, ⟨none, none, .call, [(.c (.fn (.func 77) [])), (.t 1)]⟩, ⟨none, none, (.prim (.bin .shl .int)), [(.c (.cv (.int .u64 1))), (.t 2)]⟩, ⟨(.some 1), none, (.prim .mv), [(.t 3)]⟩])
 .ret))
theorem cc93 : compC Try.prog vs93 Try.f93.ntmps (Try.f93.body.getD .skip) = some ic93 := by kernel_rfl
abbrev rs93 : List RC := [(.v 1)]
theorem fok93 (p : Bool) : FnOk Try.prog 93 ⟨ic93, vs93, 7, rs93, p⟩ := FnOk.mk' Try.func93 hb93 (by kernel_rfl) cc93 (by kernel_rfl) (by kernel_rfl)

theorem hb94 : Try.f94.body = some (Try.f94.body.getD .skip) := by kernel_rfl
abbrev vs94 : List Nat := [0, 2]
def ic94 : IC := (.seq (.region [⟨(.some 1), none, (.prim .mv), [(.c (.cv (.int .u64 0)))]⟩])
 (.seq (.draw [[], [0], [1], [], [3], [4], [5], [2, 6], [0, 0, 1, 2, 3, 4, 5, 6, 7], [8, 7, 0, 1, 2, 3, 4, 5, 6, 7]] [⟨none, none, (.prim .mv), [(.v 0)]⟩, ⟨none, none, (.prim .nilck), [(.t 0)]⟩, ⟨none, none, (.prim .load1), [(.t 1)]⟩, ⟨none, none, (.prim .mv), [(.v 0)]⟩, ⟨none, none, (.prim .nilck), [(.t 3)]⟩, ⟨none, none, (.prim .load1), [(.t 4)]⟩, ⟨none, none, (.prim (.bin .shl .int)), [(.t 5), (.c (.cv (.int .u64 13)))]⟩, ⟨none, none, (.prim (.bin .xor .int)), [(.t 2), (.t 6)]⟩, ⟨none, none, (.prim .nilck), [(.t 0)]⟩, ⟨none, none, (.prim (.store 1)), [(.t 8), (.t 7)]⟩] [[], [0], [1, 0], [], [3], [4, 3], [5, 4, 3], [2, 6, 1, 0, 5, 4, 3], [0, 1, 2, 3, 4, 5, 6, 7], [8, 7, 0, 1, 2, 3, 4, 5, 6]])
 (.seq (.draw [[], [0], [1], [], [3], [4], [5], [2, 6], [0, 0, 1, 2, 3, 4, 5, 6, 7], [8, 7, 0, 1, 2, 3, 4, 5, 6, 7]] [⟨none, none, (.prim .mv), [(.v 0)]⟩, ⟨none, none, (.prim .nilck), [(.t 0)]⟩, ⟨none, none, (.prim .load1), [(.t 1)]⟩, ⟨none, none, (.prim .mv), [(.v 0)]⟩, ⟨none, none, (.prim .nilck), [(.t 3)]⟩, ⟨none, none, (.prim .load1), [(.t 4)]⟩, ⟨none, none, (.prim (.bin .shr .int)), [(.t 5), (.c (.cv (.int .u64 7)))]⟩, ⟨none, none, (.prim (.bin .xor .int)), [(.t 2), (.t 6)]⟩, ⟨none, none, (.prim .nilck), [(.t 0)]⟩, ⟨none, none, (.prim (.store 1)), [(.t 8), (.t 7)]⟩] [[], [0], [1, 0], [], [3], [4, 3], [5, 4, 3], [2, 6, 1, 0, 5, 4, 3], [0, 1, 2, 3, 4, 5, 6, 7], [8, 7, 0, 1, 2, 3, 4, 5, 6]])
 (.seq (.draw [[], [0], [1], [], [3], [4], [5], [2, 6], [0, 0, 1, 2, 3, 4, 5, 6, 7], [8, 7, 0, 1, 2, 3, 4, 5, 6, 7]] [⟨none, none, (.prim .mv), [(.v 0)]⟩, ⟨none, none, (.prim .nilck), [(.t 0)]⟩, ⟨none, none, (.prim .load1), [(.t 1)]⟩, ⟨none, none, (.prim .mv), [(.v 0)]⟩, ⟨none, none, (.prim .nilck), [(.t 3)]⟩, ⟨none, none, (.prim .load1), [(.t 4)]⟩, ⟨none, none, (.prim (.bin .shl .int)), [(.t 5), (.c (.cv (.int .u64 17)))]⟩, ⟨none, none, (.prim (.bin .xor .int)), [(.t 2), (.t 6)]⟩, ⟨none, none, (.prim .nilck), [(.t 0)]⟩, ⟨none, none, (.prim (.store 1)), [(.t 8), (.t 7)]⟩] [[], [0], [1, 0], [], [3], [4, 3], [5, 4, 3], [2, 6, 1, 0, 5, 4, 3], [0, 1, 2, 3, 4, 5, 6, 7], [8, 7, 0, 1, 2, 3, 4, 5, 6]])
 (.seq (.region [⟨none, none, (.prim .mv), [(.v 0)]⟩, ⟨none, none, (.prim .nilck), [(.t 0)]⟩, ⟨none, none, (.prim .load1), [(.t 1)]⟩, ⟨(.some 1), none, (.prim .mv), [(.t 2)]⟩])
 .ret)))))
theorem cc94 : compC Try.prog vs94 Try.f94.ntmps (Try.f94.body.getD .skip) = some ic94 := by kernel_rfl
abbrev rs94 : List RC := [(.v 1)]
theorem fok94 (p : Bool) : FnOk Try.prog 94 ⟨ic94, vs94, 33, rs94, p⟩ := FnOk.mk' Try.func94 hb94 (by kernel_rfl) cc94 (by kernel_rfl) (by kernel_rfl)

theorem hb95 : Try.f95.body = some (Try.f95.body.getD .skip) := by kernel_rfl
abbrev vs95 : List Nat := [0, 1, 2, 3, 8]
def ic95 : IC := (.seq (.region [⟨(.some 4), none, (.prim .mv), [(.c (.cv (.int .i64 0)))]⟩])
 (.seq (.region [⟨none, none, (.prim .mv), [(.v 0)]⟩, ⟨none, none, (.prim .mv), [(.v 1)]⟩, ⟨none, none, (.prim (.bin .sub .int)), [(.t 1), (.c (.cv (.int .i64 1)))]⟩, ⟨none, none, (.prim .mv), [(.v 1)]⟩, ⟨none, none, (.prim .mv), [(.v 1)]⟩, ⟨none, none, (.prim (.bin .add .int)), [(.t 4), (.c (.cv (.int .i64 1)))]⟩, ⟨none, none, (.prim .mv), [(.v 2)]⟩, ⟨none, none, (.prim .mv), [(.v 3)]⟩, ⟨none, none, .call, [(.c (.fn (.func 96) [])), (.t 0), (.t 2), (.t 3), (.t 5), (.t 6), (.t 7)]⟩, ⟨(.some 4), none, (.prim .mv), [(.t 8)]⟩])
 .ret))
theorem cc95 : compC Try.prog vs95 Try.f95.ntmps (Try.f95.body.getD .skip) = some ic95 := by kernel_rfl
abbrev rs95 : List RC := [(.v 4)]
theorem fok95 (p : Bool) : FnOk Try.prog 95 ⟨ic95, vs95, 18, rs95, p⟩ := FnOk.mk' Try.func95 hb95 (by kernel_rfl) cc95 (by kernel_rfl) (by kernel_rfl)

theorem hb96 : Try.f96.body = some (Try.f96.body.getD .skip) := by kernel_rfl
abbrev vs96 : List Nat := [0, 1, 2, 3, 4, 5, 12]
def ic96 : IC := (.seq (.region [⟨(.some 6), none, (.prim .mv), [(.c (.cv (.int .i64 0)))]⟩])
 (.seq (.region [⟨none, none, (.prim .mv), [(.v 0)]⟩, ⟨none, none, (.prim .mv), [(.v 1)]⟩, ⟨none, none, (.prim .mv), [(.v 2)]⟩, ⟨none, none, (.prim .mv), [(.v 4)]⟩, ⟨none, none, (.prim .mv), [(.v 5)]⟩, ⟨none, none, .call, [(.c (.fn (.func 97) [])), (.t 0), (.t 1), (.t 2), (.t 3), (.t 4)]⟩, ⟨none, none, (.prim .mv), [(.t 5)]⟩, ⟨none, none, (.prim (.extract 0)), [(.t 6)]⟩, ⟨none, none, (.prim (.extract 1)), [(.t 6)]⟩, ⟨(.some 1), none, (.prim .mv), [(.t 7)]⟩, ⟨(.some 2), none, (.prim .mv), [(.t 8)]⟩])
 (.seq (.region [⟨none, none, (.prim .mv), [(.v 0)]⟩, ⟨none, none, (.prim .mv), [(.v 2)]⟩, ⟨none, none, (.prim .mv), [(.v 3)]⟩, ⟨none, none, (.prim .mv), [(.v 4)]⟩, ⟨none, none, (.prim .mv), [(.v 5)]⟩, ⟨none, none, .call, [(.c (.fn (.func 97) [])), (.t 0), (.t 1), (.t 2), (.t 3), (.t 4)]⟩, ⟨none, none, (.prim .mv), [(.t 5)]⟩, ⟨none, none, (.prim (.extract 0)), [(.t 6)]⟩, ⟨none, none, (.prim (.extract 1)), [(.t 6)]⟩, ⟨(.some 2), none, (.prim .mv), [(.t 7)]⟩, ⟨(.some 3), none, (.prim .mv), [(.t 8)]⟩])
 (.seq (.region [⟨none, none, (.prim .mv), [(.v 0)]⟩, ⟨none, none, (.prim .mv), [(.v 1)]⟩, ⟨none, none, (.prim .mv), [(.v 2)]⟩, ⟨none, none, (.prim .mv), [(.v 4)]⟩, ⟨none, none, (.prim .mv), [(.v 5)]⟩, ⟨none, none, .call, [(.c (.fn (.func 97) [])), (.t 0), (.t 1), (.t 2), (.t 3), (.t 4)]⟩, ⟨none, none, (.prim .mv), [(.t 5)]⟩, ⟨none, none, (.prim (.extract 0)), [(.t 6)]⟩, ⟨none, none, (.prim (.extract 1)), [(.t 6)]⟩, ⟨(.some 1), none, (.prim .mv), [(.t 7)]⟩, ⟨(.some 2), none, (.prim .mv), [(.t 8)]⟩])
 (.seq (.region [⟨none, none, (.prim .mv), [(.v 2)]⟩, ⟨(.some 6), none, (.prim .mv), [(.t 0)]⟩])
 .ret)))))
theorem cc96 : compC Try.prog vs96 Try.f96.ntmps (Try.f96.body.getD .skip) = some ic96 := by kernel_rfl
abbrev rs96 : List RC := [(.v 6)]
theorem fok96 (p : Bool) : FnOk Try.prog 96 ⟨ic96, vs96, 41, rs96, p⟩ := FnOk.mk' Try.func96 hb96 (by kernel_rfl) cc96 (by kernel_rfl) (by kernel_rfl)

theorem hb97 : Try.f97.body = some (Try.f97.body.getD .skip) := by kernel_rfl
abbrev vs97 : List Nat := [0, 1, 2, 3, 4, 10, 11, 22]
def ic97 : IC := (.seq (.region [⟨(.some 5), none, (.prim .mv), [(.c (.cv (.int .i64 0)))]⟩, ⟨(.some 6), none, (.prim .mv), [(.c (.cv (.int .i64 0)))]⟩])
 (.seq (.seq (.draw [[], [], [], [1, 2], [3], [], [], [5, 6], [7], [0, 4, 8], [9]] [⟨none, none, (.prim .mv), [(.v 4)]⟩, ⟨none, none, (.prim .mv), [(.v 0)]⟩, ⟨none, none, (.prim .mv), [(.v 2)]⟩, ⟨none, none, (.prim (.iaS 1)), [(.t 1), (.t 2)]⟩, ⟨none, none, (.prim .load1), [(.t 3)]⟩, ⟨none, none, (.prim .mv), [(.v 0)]⟩, ⟨none, none, (.prim .mv), [(.v 1)]⟩, ⟨none, none, (.prim (.iaS 1)), [(.t 5), (.t 6)]⟩, ⟨none, none, (.prim .load1), [(.t 7)]⟩, ⟨none, none, .call, [(.t 0), (.t 4), (.t 8)]⟩, ⟨(.some 7), none, (.prim (.bin .lss .int)), [(.t 9), (.c (.cv (.int .i64 0)))]⟩] [[], [], [], [1, 2], [3, 1, 2], [], [], [5, 6], [7, 5, 6], [0, 4, 8, 3, 1, 2, 7, 5, 6], [9, 0, 4, 8, 3, 1, 2, 7, 5, 6]])
 (.cond 7 (.seq (.region [⟨none, none, (.prim .mv), [(.v 3)]⟩, ⟨none, none, (.prim .nilck), [(.t 0)]⟩, ⟨none, none, (.prim .load1), [(.t 1)]⟩, ⟨none, none, (.prim (.bin .add .int)), [(.t 2), (.c (.cv (.int .i64 1)))]⟩, ⟨none, none, (.prim .nilck), [(.t 0)]⟩, ⟨none, none, (.prim (.store 1)), [(.t 4), (.t 3)]⟩])
 (.seq (.region [⟨none, none, (.prim .mv), [(.v 2)]⟩, ⟨none, none, (.prim .mv), [(.v 1)]⟩, ⟨(.some 5), none, (.prim .mv), [(.t 0)]⟩, ⟨(.some 6), none, (.prim .mv), [(.t 1)]⟩])
 .ret))
 .skip))
 (.seq (.region [⟨none, none, (.prim .mv), [(.v 1)]⟩, ⟨none, none, (.prim .mv), [(.v 2)]⟩, ⟨(.some 5), none, (.prim .mv), [(.t 0)]⟩, ⟨(.some 6), none, (.prim .mv), [(.t 1)]⟩])
 .ret)))
theorem cc97 : compC Try.prog vs97 Try.f97.ntmps (Try.f97.body.getD .skip) = some ic97 := by kernel_rfl
abbrev rs97 : List RC := [(.v 5), (.v 6)]
theorem fok97 (p : Bool) : FnOk Try.prog 97 ⟨ic97, vs97, 32, rs97, p⟩ := FnOk.mk' Try.func97 hb97 (by kernel_rfl) cc97 (by kernel_rfl) (by kernel_rfl)

end Go.Proofs.Ytphdemhopihpnaa.AM

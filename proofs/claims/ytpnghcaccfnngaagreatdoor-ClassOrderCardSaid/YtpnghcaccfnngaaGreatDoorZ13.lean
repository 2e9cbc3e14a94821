/- Parts of the proof, joined: PlRg to ClsIcE. -/
import Derived.Sort.LotA
import Derived.Test.YtpnghcaccfnngaaGreatDoorZ12
set_option linter.unusedVariables false
set_option linter.unusedSimpArgs false
set_option linter.unusedSectionVars false
namespace Go.Proofs.YtpnghcaccfnngaaGreatDoor.Pl
def cmpN (x y : Int) : Int := if x < y then -1 else if x > y then 1 else 0
def cmpR (a b : Int × Int) : Int := if cmpN a.1 b.1 ≠ 0 then cmpN a.1 b.1 else cmpN a.2 b.2
def leR (a b : Int × Int) : Bool := decide (a.1 < b.1) || (decide (a.1 = b.1) && decide (a.2 ≤ b.2))
theorem cmpR_lt {a b : Int × Int} : cmpR a b < 0 ↔ (a.1 < b.1 ∨ (a.1 = b.1 ∧ a.2 < b.2)) := by
 obtain ⟨a1, a2⟩ := a; obtain ⟨b1, b2⟩ := b
 simp only [cmpR, cmpN]
 by_cases h1 : a1 < b1
 ·simp [h1]
 ·by_cases h2 : b1 < a1
  ·simp [h1, h2]; omega
  ·have : a1 = b1 := by omega
   subst this
   by_cases h3 : a2 < b2
   ·simp [h3]
   ·by_cases h4 : b2 < a2
    ·simp [h3, h4]
    ·simp [h3, h4]
theorem cmpR_not {a b : Int × Int} : ¬ cmpR b a < 0 ↔ leR a b = true := by
 rw [cmpR_lt]
 obtain ⟨a1, a2⟩ := a; obtain ⟨b1, b2⟩ := b
 simp [leR]
 omega
theorem leR_antisymm {a b : Int × Int} (h : leR a b = true) (k : leR b a = true) : a = b := by
 obtain ⟨a1, a2⟩ := a; obtain ⟨b1, b2⟩ := b
 simp [leR] at h k
 have h1 : a1 = b1 := by omega
 have h2 : a2 = b2 := by omega
 rw [h1, h2]
theorem leR_trans (a b c : Int × Int) (h : leR a b = true) (k : leR b c = true) : leR a c = true := by
 obtain ⟨a1, a2⟩ := a; obtain ⟨b1, b2⟩ := b; obtain ⟨c1, c2⟩ := c
 simp [leR] at h k ⊢
 omega
theorem leR_total (a b : Int × Int) : (leR a b || leR b a) = true := by
 obtain ⟨a1, a2⟩ := a; obtain ⟨b1, b2⟩ := b
 simp [leR]
 omega
theorem swoR {α : Type} (f : α → Int × Int) : Go.Sort.SWO fun x y => decide (cmpR (f x) (f y) < 0) := by
 refine ⟨fun x => ?_, fun x y z h k => ?_, fun x y z h k => ?_⟩
 ·exact decide_eq_false (by rw [cmpR_lt]; omega)
 ·have h := of_decide_eq_true h; have k := of_decide_eq_true k
  rw [cmpR_lt] at h k
  exact decide_eq_true (by rw [cmpR_lt]; omega)
 ·have h := of_decide_eq_false h; have k := of_decide_eq_false k
  rw [cmpR_lt] at h k
  exact decide_eq_false (by rw [cmpR_lt]; omega)
def sortR (l : List (Int × Int)) : List (Int × Int) := l.mergeSort leR
theorem sortR_perm (l : List (Int × Int)) : (sortR l).Perm l := List.mergeSort_perm l leR
theorem sortR_sorted (l : List (Int × Int)) : (sortR l).Pairwise fun a b => leR a b = true := List.pairwise_mergeSort leR_trans leR_total l
theorem sortR_eq {l m : List (Int × Int)} (h : m.Perm l) (hs : m.Pairwise fun a b => leR a b = true) : m = sortR l :=
 List.Perm.eq_of_pairwise (le := fun a b => leR a b = true) (fun a b _ _ h k => leR_antisymm h k) hs (sortR_sorted l) (h.trans (sortR_perm l).symm)
theorem sortR_congr {l m : List (Int × Int)} (h : m.Perm l) : sortR m = sortR l := sortR_eq ((sortR_perm m).trans h) (sortR_sorted m)
theorem sortR_len (l : List (Int × Int)) : (sortR l).length = l.length := (sortR_perm l).length_eq
theorem mem_sortR {l : List (Int × Int)} {a : Int × Int} : a ∈ sortR l ↔ a ∈ l := (sortR_perm l).mem_iff
end Go.Proofs.YtpnghcaccfnngaaGreatDoor.Pl
namespace Go.Proofs.YtpnghcaccfnngaaGreatDoor.AM
variable [Dr]
open Go
abbrev vs18 : List Nat := [0, 1, 2, 3, 4, 5, 6, 23, 27, 37, 38, 39, 46, 52]
def ic18l0 : IC := (.seq (.region [jw 11 (.bin .lss .int) [.v 10, jn 12]])
 (.seq (.cond 11 .skip
 (.exit 0))
 (.seq (.block 1 (.seq (.region [jv 10, jq (.ixA 12 1 1 false) [.v 9, .v 10], jm 5 0, jm 6 1])
 (.seq (.region [jv 5, jq (.bin .add .int) [.t 0, jn 1], jF 1 1, jl 2, jw 12 (.bin .lss .int) [.t 1, .t 3]])
 (.cond 12 (.region [jv 4, jv 6, jq (.bin .add .int) [.t 0, .t 1], jm 4 2])
 .skip))))
 (.region [jq (.bin .add .int) [.v 10, jn 1], jm 10 0]))))
def ic18 : IC := (.seq (.region [jb 1 0, jz 2 0, jz 3 0])
 (.seq (.seq (.dr [[], [0], [1], [2], [3, 3], [4], [5, 4], [6, 4, 4], [4], [8, 4], [9, 4], [7, 10, 4], [4], [12, 4], [13, 4], [11, 14, 7, 4], [4, 15]] [jF 1 1, jl 0, jq (.bslice 1 1 [(.cv (.int .i64 0))] [(0, 1)]) [.t 1], jk 56 [jn 1, jn 12, .t 2], jt 3, jg 4 false (.fadd 0) [.v 1], ji 4 false 5, jf 4 false 57 [.t 6], jg 4 false (.fadd 1) [.v 1], ji 4 false 8, jg 4 false (.bin .sub .int) [.t 9, jn 1], jg 4 false (.ixA 12 1 1 false) [.t 7, .t 10], jg 4 false (.fadd 2) [.v 1], ji 4 false 12, jg 4 false (.bslice 1 1 [(.cv (.int .i64 0))] [(0, 1)]) [.t 13], jf 4 false 56 [jn 1, .t 11, .t 14], jw 7 .pick [.t 4, jB true, .t 15]])
 (.cond 7 (.seq (.region [jz 2 0, jz 3 6])
 .ret)
 .skip))
 (.seq (.seq (.region [jF 0 1, jl 0, jq (.bslice 1 1 [(.cv (.int .i64 0))] [(0, 1)]) [.t 1], jd 8 56 [jn 2000, jn 2200, .t 2]])
 (.cond 8 (.seq (.region [jz 2 0, jz 3 7])
 .ret)
 .skip))
 (.seq (.dr [[], [0], [1], [], [3], [2, 4], [5], [6, 2, 0, 1, 2, 3, 4, 5, 6]] [jF 0 1, jl 0, jk 58 [.t 1], jF 2 1, jl 3, jq (.bin .add .int) [.t 2, .t 4], jq (.bin .sub .int) [.t 5, jn 1], jm 4 6])
 (.seq (.seq (.region [jF 0 1, jl 0, jd 9 57 [.t 1], jz 10 0])
 (.block 0 (.loop ic18l0)))
 (.seq (.seq (.region [jv 4, jw 13 (.bin .gtr .int) [.t 0, jn 40000]])
 (.cond 13 (.seq (.region [jz 2 0, jz 3 7])
 .ret)
 .skip))
 (.seq (.region [jv 4, jm 2 0, jz 3 0])
 .ret)))))))
abbrev rs18 : List RC := [(.v 2), (.v 3)]
theorem fok18 (p : Bool) : FnOk Tryz.prog 18 ⟨ic18, vs18, 54, rs18, p⟩ := .mk2 Tryz.func18 (by kernel_rfl) (by kernel_rfl) (by kernel_rfl) (by kernel_rfl) (by kernel_rfl)
abbrev vs20 : List Nat := [0, 2, 3, 4, 6, 7, 8, 28]
def ic20l0 : IC := (.seq (.region [jw 5 .snext [.v 4], jw 6 (.extract 0) [.v 5]])
 (.seq (.cond 6 .skip
 (.exit 0))
 (.block 1 (.seq (.region [jq (.extract 1) [.v 5], jq (.extract 2) [.v 5], jm 2 0, jm 3 1])
 (.seq (.region [jv 3, jq (.bin .lss .int) [.t 0, .c (.cv (.int .i32 97))], jt 1, jh 2 false 3, jg 2 false (.bin .gtr .int) [.t 3, .c (.cv (.int .i32 122))], jq .pick [.t 2, jB true, .t 4], jt 5, jh 6 true 2, jg 6 true (.bin .eql .int) [.t 7, jn 0], jg 6 true .mv [.t 8], jh 9 false 3, jg 9 false (.bin .lss .int) [.t 10, .c (.cv (.int .i32 48))], jg 6 true .pick [.t 9, jB true, .t 11], jg 6 true .mv [.t 12], jh 13 false 3, jg 13 false (.bin .gtr .int) [.t 14, .c (.cv (.int .i32 57))], jg 6 true .pick [.t 13, jB true, .t 15], jw 7 .pick [.t 6, .t 16, jB false]])
 (.cond 7 (.seq (.region [jw 1 .mv [jB false]])
 .ret)
 .skip))))))
def ic20 : IC := (.seq (.region [jw 1 .mv [jB false]])
 (.seq (.seq (.region [jv 0, jw 4 .rstr [.t 0]])
 (.block 0 (.loop ic20l0)))
 (.seq (.region [jv 0, jq (.len true) [.t 0], jq (.bslice 1 1 [(.cv (.int .i64 0))] [(0, 1)]) [.t 1], jk 56 [jn 1, jn 16, .t 2], jq .not [.t 3], jm 1 4])
 .ret)))
abbrev rs20 : List RC := [(.v 1)]
theorem fok20 (p : Bool) : FnOk Tryz.prog 20 ⟨ic20, vs20, 34, rs20, p⟩ := .mk2 Tryz.func20 (by kernel_rfl) (by kernel_rfl) (by kernel_rfl) (by kernel_rfl) (by kernel_rfl)
abbrev vs21 : List Nat := [0, 2, 3, 14, 18, 34]
def ic21l0 : IC := (.seq (.seq (.region [jv 2, jv 0, jq (.len true) [.t 1], jw 4 (.bin .lss .int) [.t 0, .t 2]])
 (.cond 4 .skip
 (.exit 0)))
 (.seq (.block 1 (.seq (.region [jv 0, jv 2, jq .ixStr [.t 0, .t 1], jq (.conv .i64) [.t 2], jk 59 [.t 3, jn 97, jn 122], jq .not [.t 4], jt 5, jh 6 true 0, jh 6 true 2, jg 6 true .ixStr [.t 7, .t 8], jg 6 true (.conv .i64) [.t 9], jf 6 true 59 [.t 10, jn 48, jn 57], jg 6 true .not [.t 11], jw 5 .pick [.t 6, .t 12, jB false]])
 (.cond 5 (.seq (.region [jw 1 .mv [jB false]])
 .ret)
 .skip)))
 (.region [jv 2, jq (.bin .add .int) [.t 0, jn 1], jm 2 1])))
def ic21 : IC := (.seq (.region [jw 1 .mv [jB false]])
 (.seq (.seq (.region [jv 0, jq (.len true) [.t 0], jk 59 [.t 1, jn 1, jn 16], jq .not [.t 2], jt 3, jh 4 false 0, jg 4 false .ixStr [.t 5, jn 0], jg 4 false (.conv .i64) [.t 6], jf 4 false 59 [.t 7, jn 97, jn 122], jg 4 false .not [.t 8], jw 3 .pick [.t 4, jB true, .t 9]])
 (.cond 3 (.seq (.region [jw 1 .mv [jB false]])
 .ret)
 .skip))
 (.seq (.seq (.region [jz 2 0])
 (.block 0 (.loop ic21l0)))
 (.seq (.region [jw 1 .mv [jB true]])
 .ret))))
abbrev rs21 : List RC := [(.v 1)]
theorem fok21 (p : Bool) : FnOk Tryz.prog 21 ⟨ic21, vs21, 35, rs21, p⟩ := .mk2 Tryz.func21 (by kernel_rfl) (by kernel_rfl) (by kernel_rfl) (by kernel_rfl) (by kernel_rfl)
abbrev vs22 : List Nat := [0, 2, 3, 4, 6, 9, 20, 32, 33, 34, 38]
def ic22l0 : IC := (.seq (.region [jw 9 (.bin .lss .int) [.v 8, jn 12]])
 (.seq (.cond 9 .skip
 (.exit 2))
 (.seq (.block 3 (.seq (.region [jq (.ixA 12 1 1 false) [.v 7, .v 8], jm 4 0])
 (.seq (.seq (.region [jv 0, jv 4, jw 10 (.bin .lss .int) [.t 0, .t 1]])
 (.cond 10 (.exit 2)
 .skip))
 (.seq (.region [jv 0, jv 4, jq (.bin .sub .int) [.t 0, .t 1], jm 0 2])
 (.region [jF 1 3, jl 0, jq (.bin .add .int) [.t 1, jn 1], jF 1 3, jq (.store 1) [.t 3, .t 2]])))))
 (.region [jq (.bin .add .int) [.v 8, jn 1], jm 8 0]))))
def ic22l1 : IC := (.seq (.seq (.region [jF 0 3, jl 0, jq (.bin .add .int) [.t 1, jn 1], jk 58 [.t 2], jv 0, jw 6 (.bin .leq .int) [.t 3, .t 4]])
 (.cond 6 .skip
 (.exit 0)))
 (.block 1 (.region [jF 0 3, jl 0, jq (.bin .add .int) [.t 1, jn 1], jF 0 3, jq (.store 1) [.t 3, .t 2]])))
def ic22 : IC := (.seq (.region [jw 1 (.alloc [(.cv (.int .i64 0)), (.cv (.int .i64 0)), (.cv (.int .i64 0))]) [], jz 2 0])
 (.seq (.seq (.region [jv 0, jq (.bslice 1 1 [(.cv (.int .i64 0))] [(0, 1)]) [.t 0], jd 5 56 [jn 0, jn 40000, .t 1]])
 (.cond 5 (.seq (.region [jq (.build [(.cv (.int .i64 0)), (.cv (.int .i64 0)), (.cv (.int .i64 0))] []) [], jq (.store 3) [.v 1, .t 0], jz 2 7])
 .ret)
 .skip))
 (.seq (.region [jv 0, jq (.bin .quo .int) [.t 0, jn 366], jq (.bin .add .int) [jn 2000, .t 1], jq (.build [(.cv (.int .i64 0)), (.cv (.int .i64 0)), (.cv (.int .i64 0))] [(0, 1), (1, 1)]) [.t 2, jn 1], jw 3 (.alloc [(.cv (.int .i64 0)), (.cv (.int .i64 0)), (.cv (.int .i64 0))]) [], jq (.store 3) [.v 3, .t 3]])
 (.seq (.block 0 (.loop ic22l1))
 (.seq (.region [jv 0, jF 0 3, jl 1, jk 58 [.t 2], jq (.bin .sub .int) [.t 0, .t 3], jm 0 4])
 (.seq (.seq (.region [jF 0 3, jl 0, jd 7 57 [.t 1], jz 8 0])
 (.block 2 (.loop ic22l0)))
 (.seq (.region [jv 0, jq (.bin .add .int) [.t 0, jn 1], jF 2 3, jq (.store 1) [.t 2, .t 1]])
 (.seq (.region [jN 3 3, jq (.store 3) [.v 1, .t 0], jz 2 0])
 .ret))))))))
abbrev rs22 : List RC := [(.lN 1 3), (.v 2)]
theorem fok22 (p : Bool) : FnOk Tryz.prog 22 ⟨ic22, vs22, 51, rs22, p⟩ := .mk2 Tryz.func22 (by kernel_rfl) (by kernel_rfl) (by kernel_rfl) (by kernel_rfl) (by kernel_rfl)
abbrev vs24 : List Nat := [0, 1, 2, 6, 7, 8, 9, 26]
def ic24 : IC := (.seq (.region [jz 3 0, jz 4 0])
 (.seq (.region [jv 0, jk 22 [.t 0], jt 1, jx 0 2, jx 1 2, jw 5 (.alloc [(.cv (.int .i64 0)), (.cv (.int .i64 0)), (.cv (.int .i64 0))]) [], jq (.store 3) [.v 5, .t 3], jm 6 4])
 (.seq (.seq (.region [jv 6, jq (.bin .neq .int) [.t 0, jn 0], jt 1, jh 2 false 1, jg 2 false (.bslice 1 1 [(.cv (.int .i64 0))] [(0, 1)]) [.t 3], jf 2 false 56 [jn 0, jn 100, .t 4], jq .pick [.t 2, jB true, .t 5], jt 6, jh 7 false 2, jg 7 false (.bslice 1 1 [(.cv (.int .i64 0))] [(0, 1)]) [.t 8], jf 7 false 56 [jn 0, jn 1200, .t 9], jw 7 .pick [.t 7, jB true, .t 10]])
 (.cond 7 (.seq (.region [jz 3 0, jz 4 7])
 .ret)
 .skip))
 (.seq (.region [jv 2, jF 1 5, jl 1, jq (.bin .sub .int) [.t 2, jn 1], jq (.bin .add .int) [.t 0, .t 3], jm 2 4])
 (.seq (.region [jF 0 5, jl 0, jv 1, jv 2, jq (.bin .quo .int) [.t 3, jn 12], jq (.bin .add .int) [.t 2, .t 4], jq (.bin .add .int) [.t 1, .t 5], jF 0 5, jq (.store 1) [.t 7, .t 6]])
 (.seq (.region [jv 2, jq (.bin .rem .int) [.t 0, jn 12], jq (.bin .add .int) [.t 1, jn 1], jF 1 5, jq (.store 1) [.t 3, .t 2]])
 (.seq (.dr [[], [0], [], [2], [3], [], [5], [6], [4, 7], [1, 8], [0, 1, 2, 3, 4, 5, 6, 7, 8, 9], [10, 9, 4, 0, 1, 2, 3, 4, 5, 6, 7, 8, 9]] [jF 2 5, jl 0, jF 0 5, jl 2, jk 57 [.t 3], jF 1 5, jl 5, jq (.bin .sub .int) [.t 6, jn 1], jq (.ixA 12 1 1 false) [.t 4, .t 7], jq .min2 [.t 1, .t 8], jF 2 5, jq (.store 1) [.t 10, .t 9]])
 (.seq (.region [jN 3 5, jk 18 [.t 0], jx 0 1, jx 1 1, jm 3 2, jm 4 3])
 .ret))))))))
abbrev rs24 : List RC := [(.v 3), (.v 4)]
theorem fok24 (p : Bool) : FnOk Tryz.prog 24 ⟨ic24, vs24, 59, rs24, p⟩ := .mk2 Tryz.func24 (by kernel_rfl) (by kernel_rfl) (by kernel_rfl) (by kernel_rfl) (by kernel_rfl)
abbrev vs26 : List Nat := [0, 1, 4, 5, 6, 7, 8, 9, 10, 11, 22, 29, 65]
def ic26 : IC := (.seq (.region [jz 2 0, jz 3 0])
 (.seq (.region [jv 0, jk 22 [.t 0], jt 1, jx 0 2, jx 1 2, jw 4 (.alloc [(.cv (.int .i64 0)), (.cv (.int .i64 0)), (.cv (.int .i64 0))]) [], jq (.store 3) [.v 4, .t 3], jm 5 4])
 (.seq (.region [jv 1, jk 22 [.t 0], jt 1, jx 0 2, jx 1 2, jw 6 (.alloc [(.cv (.int .i64 0)), (.cv (.int .i64 0)), (.cv (.int .i64 0))]) [], jq (.store 3) [.v 6, .t 3], jm 7 4])
 (.seq (.block 0 (.seq (.region [jv 5, jq (.bin .neq .int) [.t 0, jn 0], jt 1, jh 2 false 7, jg 2 false (.bin .neq .int) [.t 3, jn 0], jq .pick [.t 2, jB true, .t 4], jm 10 5])
 (.cond 10 (.seq (.region [jz 2 0, jz 3 7])
 .ret)
 (.seq (.region [jv 1, jv 0, jq (.bin .lss .int) [.t 0, .t 1], jm 11 2])
 (.cond 11 (.seq (.region [jz 2 0, jz 3 2])
 .ret)
 .skip)))))
 (.seq (.region [jF 0 6, jl 0, jF 0 4, jl 2, jq (.bin .sub .int) [.t 1, .t 3], jm 8 4])
 (.seq (.dr [[], [0], [], [2], [3], [], [5], [6], [4, 7], [1, 8], [9, 4, 0, 1, 2, 3, 4, 5, 6, 7, 8, 9]] [jF 2 4, jl 0, jF 0 6, jl 2, jk 57 [.t 3], jF 1 4, jl 5, jq (.bin .sub .int) [.t 6, jn 1], jq (.ixA 12 1 1 false) [.t 4, .t 7], jq .min2 [.t 1, .t 8], jm 9 9])
 (.seq (.seq (.region [jF 1 6, jl 0, jF 1 4, jl 2, jq (.bin .lss .int) [.t 1, .t 3], jt 4, jg 5 false (.fadd 1) [.v 6], ji 5 false 6, jg 5 false (.fadd 1) [.v 4], ji 5 false 8, jg 5 false (.bin .eql .int) [.t 7, .t 9], jg 5 false .mv [.t 10], jg 11 true (.fadd 2) [.v 6], ji 11 true 12, jh 11 true 9, jg 11 true (.bin .lss .int) [.t 13, .t 14], jg 5 false .pick [.t 11, .t 15, jB false], jw 12 .pick [.t 5, jB true, .t 16]])
 (.cond 12 (.region [jv 8, jq (.bin .sub .int) [.t 0, jn 1], jm 8 1])
 .skip))
 (.seq (.region [jv 8, jm 2 0, jz 3 0])
 .ret))))))))
abbrev rs26 : List RC := [(.v 2), (.v 3)]
theorem fok26 (p : Bool) : FnOk Tryz.prog 26 ⟨ic26, vs26, 69, rs26, p⟩ := .mk2 Tryz.func26 (by kernel_rfl) (by kernel_rfl) (by kernel_rfl) (by kernel_rfl) (by kernel_rfl)
abbrev vs56 : List Nat := [0, 1, 2, 3, 4, 6]
def ic56 : IC := (.seq (.region [jb 3 0, jb 4 1, jw 5 .mv [jB false]])
 (.seq (.region [jv 2, jq (.mkfn (.func 88)) [.v 3, .v 4], jk 87 [.t 0, .t 1], jm 5 2])
 .ret))
abbrev rs56 : List RC := [(.v 5)]
theorem fok56 (p : Bool) : FnOk Tryz.prog 56 ⟨ic56, vs56, 10, rs56, p⟩ := .mk2 Tryz.func56 (by kernel_rfl) (by kernel_rfl) (by kernel_rfl) (by kernel_rfl) (by kernel_rfl)
abbrev vs57 : List Nat := [0, 2, 3, 17]
def ic57 : IC := (.seq (.region [jw 1 (.alloc [(.cv (.int .i64 0)), (.cv (.int .i64 0)), (.cv (.int .i64 0)), (.cv (.int .i64 0)), (.cv (.int .i64 0)), (.cv (.int .i64 0)), (.cv (.int .i64 0)), (.cv (.int .i64 0)), (.cv (.int .i64 0)), (.cv (.int .i64 0)), (.cv (.int .i64 0)), (.cv (.int .i64 0))]) []])
 (.seq (.region [jq (.build [(.cv (.int .i64 0)), (.cv (.int .i64 0)), (.cv (.int .i64 0)), (.cv (.int .i64 0)), (.cv (.int .i64 0)), (.cv (.int .i64 0)), (.cv (.int .i64 0)), (.cv (.int .i64 0)), (.cv (.int .i64 0)), (.cv (.int .i64 0)), (.cv (.int .i64 0)), (.cv (.int .i64 0))] [(0, 1), (1, 1), (2, 1), (3, 1), (4, 1), (5, 1), (6, 1), (7, 1), (8, 1), (9, 1), (10, 1), (11, 1)]) [jn 31, jn 28, jn 31, jn 30, jn 31, jn 30, jn 31, jn 31, jn 30, jn 31, jn 30, jn 31], jw 2 (.alloc [(.cv (.int .i64 0)), (.cv (.int .i64 0)), (.cv (.int .i64 0)), (.cv (.int .i64 0)), (.cv (.int .i64 0)), (.cv (.int .i64 0)), (.cv (.int .i64 0)), (.cv (.int .i64 0)), (.cv (.int .i64 0)), (.cv (.int .i64 0)), (.cv (.int .i64 0)), (.cv (.int .i64 0))]) [], jq (.store 12) [.v 2, .t 0]])
 (.seq (.seq (.region [jv 0, jq (.bin .rem .int) [.t 0, jn 4], jq (.bin .eql .int) [.t 1, jn 0], jt 2, jh 3 true 0, jg 3 true (.bin .rem .int) [.t 4, jn 100], jg 3 true (.bin .neq .int) [.t 5, jn 0], jg 3 true .mv [.t 6], jh 7 false 0, jg 7 false (.bin .rem .int) [.t 8, jn 400], jg 7 false (.bin .eql .int) [.t 9, jn 0], jg 3 true .pick [.t 7, jB true, .t 10], jw 3 .pick [.t 3, .t 11, jB false]])
 (.cond 3 (.region [jq (.iaA 12 1) [.v 2, jn 1], jl 0, jq (.bin .add .int) [.t 1, jn 1], jq (.iaA 12 1) [.v 2, jn 1], jq (.store 1) [.t 3, .t 2]])
 .skip))
 (.seq (.region [jN 12 2, jq (.store 12) [.v 1, .t 0]])
 .ret))))
abbrev rs57 : List RC := [(.lN 1 12)]
theorem fok57 (p : Bool) : FnOk Tryz.prog 57 ⟨ic57, vs57, 23, rs57, p⟩ := .mk2 Tryz.func57 (by kernel_rfl) (by kernel_rfl) (by kernel_rfl) (by kernel_rfl) (by kernel_rfl)
abbrev vs58 : List Nat := [0, 2, 3, 7]
def ic58 : IC := (.seq (.region [jz 1 0])
 (.seq (.region [jv 0, jq (.bin .sub .int) [.t 0, jn 2000], jm 2 1])
 (.seq (.seq (.region [jv 2, jw 3 (.bin .eql .int) [.t 0, jn 0]])
 (.cond 3 (.seq (.region [jz 1 0])
 .ret)
 .skip))
 (.seq (.region [jv 2, jq (.bin .mul .int) [jn 365, .t 0], jv 2, jq (.bin .add .int) [.t 2, jn 3], jq (.bin .quo .int) [.t 3, jn 4], jq (.bin .add .int) [.t 1, .t 4], jv 2, jq (.bin .sub .int) [.t 6, jn 1], jq (.bin .quo .int) [.t 7, jn 100], jq (.bin .sub .int) [.t 5, .t 8], jm 1 9])
 .ret))))
abbrev rs58 : List RC := [(.v 1)]
theorem fok58 (p : Bool) : FnOk Tryz.prog 58 ⟨ic58, vs58, 18, rs58, p⟩ := .mk2 Tryz.func58 (by kernel_rfl) (by kernel_rfl) (by kernel_rfl) (by kernel_rfl) (by kernel_rfl)
abbrev vs59 : List Nat := [0, 1, 2, 6]
def ic59 : IC := (.seq (.region [jw 3 .mv [jB false]])
 (.seq (.region [jv 0, jv 1, jq (.bin .geq .int) [.t 0, .t 1], jt 2, jh 3 true 0, jh 3 true 2, jg 3 true (.bin .leq .int) [.t 4, .t 5], jq .pick [.t 3, .t 6, jB false], jm 3 7])
 .ret))
abbrev rs59 : List RC := [(.v 3)]
theorem fok59 (p : Bool) : FnOk Tryz.prog 59 ⟨ic59, vs59, 15, rs59, p⟩ := .mk2 Tryz.func59 (by kernel_rfl) (by kernel_rfl) (by kernel_rfl) (by kernel_rfl) (by kernel_rfl)
abbrev vs87 : List Nat := [0, 1, 4]
def ic87 : IC := (.seq (.region [jw 2 .mv [jB false]])
 (.seq (.region [jv 0, jv 1, jk 111 [.t 0, .t 1], jq (.bin .geq .int) [.t 2, jn 0], jm 2 3])
 .ret))
abbrev rs87 : List RC := [(.v 2)]
theorem fok87 (p : Bool) : FnOk Tryz.prog 87 ⟨ic87, vs87, 9, rs87, p⟩ := .mk2 Tryz.func87 (by kernel_rfl) (by kernel_rfl) (by kernel_rfl) (by kernel_rfl) (by kernel_rfl)
abbrev vs88 : List Nat := [0, 1, 2, 4]
def ic88 : IC := (.seq (.region [jw 3 .mv [jB false]])
 (.seq (.region [jv 0, jL 1, jq (.bin .lss .int) [.t 0, .t 1], jt 2, jh 3 false 0, jg 3 false .load1 [.v 2], jg 3 false (.bin .gtr .int) [.t 4, .t 5], jq .pick [.t 3, jB true, .t 6], jm 3 7])
 .ret))
abbrev rs88 : List RC := [(.v 3)]
theorem fok88 (p : Bool) : FnOk Tryz.prog 88 ⟨ic88, vs88, 13, rs88, p⟩ := .mk2 Tryz.func88 (by kernel_rfl) (by kernel_rfl) (by kernel_rfl) (by kernel_rfl) (by kernel_rfl)
abbrev vs111 : List Nat := [0, 1, 4, 5, 7, 8, 9, 16]
def ic111l0 : IC := (.seq (.region [jw 6 (.bin .lss .int) [.v 5, .v 4]])
 (.seq (.cond 6 .skip
 (.exit 0))
 (.seq (.block 1 (.seq (.region [jv 5, jm 3 0])
 (.seq (.region [jv 1, jv 0, jv 3, ja 1 1 2, jl 3, ⟨(.some 7), none, .call, [(.t 0), (.t 4)]⟩])
 (.cond 7 (.seq (.region [jv 3, jm 2 0])
 .ret)
 .skip))))
 (.region [jq (.bin .add .int) [.v 5, jn 1], jm 5 0]))))
def ic111 : IC := (.seq (.region [jz 2 0])
 (.seq (.seq (.region [jv 0, jw 4 (.len false) [.t 0], jz 5 0])
 (.block 0 (.loop ic111l0)))
 (.seq (.region [jz 2 (-1)])
 .ret)))
abbrev rs111 : List RC := [(.v 2)]
theorem fok111 (p : Bool) : FnOk Tryz.prog 111 ⟨ic111, vs111, 19, rs111, p⟩ := .mk2 Tryz.func111 (by kernel_rfl) (by kernel_rfl) (by kernel_rfl) (by kernel_rfl) (by kernel_rfl)
abbrev vs28 : List Nat := [0, 1, 2, 3, 4, 5, 6, 7, 8, 9, 10, 11, 12, 13, 14, 15, 16, 17, 18, 19, 20, 22]
def ic28 : IC := (.seq (.region [jw 0 .mv [jB false]])
 (.seq (.region [jq (.build [(.cv (.int .i64 0)), (.cv (.int .i64 0)), (.cv (.int .i64 0))] [(0, 1), (1, 1), (2, 1)]) [jn 2001, jn 1, jn 1], jk 18 [.t 0], jt 1, jx 0 2, jx 1 2, jm 1 3, jm 2 4])
 (.seq (.region [jk 22 [jn 424], jt 0, jx 0 1, jx 1 1, jw 3 (.alloc [(.cv (.int .i64 0)), (.cv (.int .i64 0)), (.cv (.int .i64 0))]) [], jq (.store 3) [.v 3, .t 2], jm 4 3])
 (.seq (.region [jk 24 [jn 59, jn 1, jn 0], jt 0, jx 0 1, jx 1 1, jm 5 2, jm 6 3])
 (.seq (.region [jk 26 [jn 59, jn 424], jt 0, jx 0 1, jx 1 1, jm 7 2, jm 8 3])
 (.seq (.region [jk 43 [], jk 42 [.t 0, jn 3], jt 1, jx 0 2, jx 1 2, jm 9 3, jm 10 4])
 (.seq (.region [jk 43 [], jk 44 [], jk 29 [.t 0, .t 1, jn 1, jn 2], jt 2, jx 0 3, jx 1 3, jm 11 4, jm 12 5])
 (.seq (.region [jk 43 [], jk 44 [], jq (.build [(.cv (.int .i64 0)), (.cv (.int .i64 0))] [(0, 1), (1, 1)]) [jn 0, jn 2], jq (.build [(.cv (.int .i64 0)), (.cv (.int .i64 0))] [(0, 1), (1, 1)]) [jn 1, jn 3], jq (.bslice 2 2 [(.cv (.int .i64 0)), (.cv (.int .i64 0)), (.cv (.int .i64 0)), (.cv (.int .i64 0))] [(0, 2), (2, 2)]) [.t 2, .t 3], jq (.append 2 16) [.t 1, .t 4], jk 31 [.t 0, .t 5], jt 6, jx 0 7, jx 1 7, jm 13 8, jm 14 9])
 (.seq (.region [jk 43 [], jq (.build [(.cv (.int .i64 0)), (.cv (.int .i64 0))] [(0, 1)]) [jn 3], jq (.bslice 2 1 [(.cv (.int .i64 0)), (.cv (.int .i64 0))] [(0, 2)]) [.t 1], jq (.build [(.cv (.int .i64 0)), (.cv (.int .i64 0))] [(0, 1), (1, 1)]) [jn 1, jn 2], jq (.bslice 2 1 [(.cv (.int .i64 0)), (.cv (.int .i64 0))] [(0, 2)]) [.t 3], jk 34 [.t 0, .t 2, .t 4], jt 5, jx 0 6, jx 1 6, jm 15 7, jm 16 8])
 (.seq (.region [jk 43 [], jk 44 [], jq (.build [(.cv (.int .i64 0)), (.cv (.int .i64 0))] [(0, 1)]) [jn 3], jq (.bslice 2 1 [(.cv (.int .i64 0)), (.cv (.int .i64 0))] [(0, 2)]) [.t 2], jk 36 [.t 0, .t 1, .t 3], jt 4, jx 0 5, jx 1 5, jm 17 6, jm 18 7])
 (.seq (.region [jk 43 [], jk 44 [], jk 38 [.t 0, .t 1], jt 2, jx 0 3, jx 1 3, jm 19 4, jm 20 5])
 (.seq (.region [jk 43 [], jk 40 [.t 0, .c (.cv (.str (bts [98, 46, 110, 105, 103, 104, 116, 46, 109, 97, 110, 117, 97, 108])))], jt 1, jx 0 2, jx 1 2, jt 3, jm 21 4])
 (.seq (.region [jv 2, jq (.bin .eql .int) [.t 0, jn 0], jt 1, jh 2 true 4, jg 2 true (.bin .eql .int) [.t 3, jn 0], jq .pick [.t 2, .t 4, jB false], jt 5, jh 6 true 6, jg 6 true (.bin .eql .int) [.t 7, jn 0], jq .pick [.t 6, .t 8, jB false], jt 9, jh 10 true 8, jg 10 true (.bin .eql .int) [.t 11, jn 0], jq .pick [.t 10, .t 12, jB false], jt 13, jh 14 true 10, jg 14 true (.bin .eql .int) [.t 15, jn 0], jq .pick [.t 14, .t 16, jB false], jt 17, jh 18 true 12, jg 18 true (.bin .eql .int) [.t 19, jn 0], jq .pick [.t 18, .t 20, jB false], jt 21, jh 22 true 14, jg 22 true (.bin .eql .int) [.t 23, jn 0], jq .pick [.t 22, .t 24, jB false], jt 25, jh 26 true 16, jg 26 true (.bin .eql .int) [.t 27, jn 0], jq .pick [.t 26, .t 28, jB false], jt 29, jh 30 true 18, jg 30 true (.bin .eql .int) [.t 31, jn 0], jq .pick [.t 30, .t 32, jB false], jt 33, jh 34 true 20, jg 34 true (.bin .eql .int) [.t 35, jn 0], jq .pick [.t 34, .t 36, jB false], jt 37, jh 38 true 21, jg 38 true (.bin .eql .int) [.t 39, jn 6], jq .pick [.t 38, .t 40, jB false], jt 41, jf 42 true 20 [.c (.cv (.str (bts [99, 49])))], jq .pick [.t 42, .t 43, jB false], jt 44, jf 45 true 20 [.c (.cv (.str (bts [49, 99])))], jg 45 true .not [.t 46], jq .pick [.t 45, .t 47, jB false], jt 48, jh 49 true 1, jg 49 true (.bin .eql .int) [.t 50, jn 366], jq .pick [.t 49, .t 51, jB false], jt 52, jg 53 true (.loadN 3) [.v 3], jg 53 true (.build [(.cv (.int .i64 0)), (.cv (.int .i64 0)), (.cv (.int .i64 0))] [(0, 1), (1, 1), (2, 1)]) [jn 2001, jn 2, jn 28], jg 53 true (.eqS false (true, [(.int .i64), (.int .i64), (.int .i64)])) [.t 54, .t 55], jq .pick [.t 53, .t 56, jB false], jt 57, jh 58 true 5, jg 58 true (.bin .eql .int) [.t 59, jn 424], jq .pick [.t 58, .t 60, jB false], jt 61, jh 62 true 7, jg 62 true (.bin .eql .int) [.t 63, jn 1], jq .pick [.t 62, .t 64, jB false], jt 65, jh 66 true 9, jg 66 true (.bslice 1 3 [(.cv (.int .i64 0)), (.cv (.int .i64 0)), (.cv (.int .i64 0))] [(0, 1), (1, 1), (2, 1)]) [jn 0, jn 1, jn 3], jf 66 true 45 [.t 67, .t 68], jq .pick [.t 66, .t 69, jB false], jt 70, jh 71 true 11, jq .pick [.t 71, .t 72, jB false], jt 73, jh 74 true 13, jg 74 true (.build [(.cv (.int .i64 0)), (.cv (.int .i64 0))] [(0, 1)]) [jn 0], jg 74 true (.build [(.cv (.int .i64 0)), (.cv (.int .i64 0))] [(0, 1), (1, 1)]) [jn 1, jn 1], jg 74 true (.build [(.cv (.int .i64 0)), (.cv (.int .i64 0))] [(0, 1), (1, 1)]) [jn 2, jn 3], jg 74 true (.bslice 2 3 [(.cv (.int .i64 0)), (.cv (.int .i64 0)), (.cv (.int .i64 0)), (.cv (.int .i64 0)), (.cv (.int .i64 0)), (.cv (.int .i64 0))] [(0, 2), (2, 2), (4, 2)]) [.t 76, .t 77, .t 78], jf 74 true 33 [.t 75, .t 79], jq .pick [.t 74, .t 80, jB false], jt 81, jh 82 true 15, jq .pick [.t 82, .t 83, jB false], jt 84, jh 85 true 17, jg 85 true (.build [(.cv (.int .i64 0)), (.cv (.int .i64 0))] [(0, 1)]) [jn 0], jg 85 true (.build [(.cv (.int .i64 0)), (.cv (.int .i64 0))] [(0, 1), (1, 1)]) [jn 1, jn 1], jg 85 true (.bslice 2 2 [(.cv (.int .i64 0)), (.cv (.int .i64 0)), (.cv (.int .i64 0)), (.cv (.int .i64 0))] [(0, 2), (2, 2)]) [.t 87, .t 88], jf 85 true 33 [.t 86, .t 89], jq .pick [.t 85, .t 90, jB false], jt 91, jh 92 true 19, jg 92 true (.bin .eql .str) [.t 93, .c (.cv (.str (bts [98, 46, 109, 97, 110, 117, 97, 108, 32, 98, 101, 46, 109, 97, 110, 117, 97, 108, 46, 110, 105, 103, 104, 116, 32, 97, 109])))], jq .pick [.t 92, .t 94, jB false], jm 0 95])
 .ret)))))))))))))
abbrev rs28 : List RC := [(.v 0)]
theorem fok28 (p : Bool) : FnOk Tryz.prog 28 ⟨ic28, vs28, 185, rs28, p⟩ := .mk2 Tryz.func28 (by kernel_rfl) (by kernel_rfl) (by kernel_rfl) (by kernel_rfl) (by kernel_rfl)
abbrev vs29 : List Nat := [0, 1, 2, 3, 4, 8, 9, 10, 11, 19, 23, 34]
def ic29 : IC := (.seq (.region [jb 4 0, jw 5 .mv [jB false], jz 6 0])
 (.seq (.region [jN 2 4, jv 1, jq (.bslice 1 1 [(.cv .nils)] [(0, 1)]) [.t 1], jk 63 [.t 0, .t 2], jt 3, jx 0 4, jx 1 4, jm 7 5, jm 8 6])
 (.seq (.block 0 (.seq (.region [jv 8, jq (.bin .neq .int) [.t 0, jn 0], jm 9 1])
 (.cond 9 (.seq (.region [jv 8, jw 5 .mv [jB false], jm 6 0])
 .ret)
 (.seq (.region [jv 7, jc 0, jG 0 1, jG 0 2, jl 3, je 4, jq (.bin .sub .int) [.t 5, jn 1], jv 2, jq (.bslice 1 1 [(.cv (.int .i64 0))] [(0, 1)]) [.t 7], jk 56 [jn 0, .t 6, .t 8], jm 10 9])
 (.cond 10 (.seq (.region [jw 5 .mv [jB false], jz 6 4])
 .ret)
 (.seq (.region [jv 7, jk 64 [.t 0], jq (.bin .sub .int) [.t 1, jn 1], jv 3, jq (.bslice 1 1 [(.cv (.int .i64 0))] [(0, 1)]) [.t 3], jk 56 [jn 0, .t 2, .t 4], jm 11 5])
 (.cond 11 (.seq (.region [jw 5 .mv [jB false], jz 6 7])
 .ret)
 .skip)))))))
 (.seq (.region [jv 7, jv 1, jv 2, jv 3, jk 65 [.t 0, .t 1, .t 2, .t 3], jm 5 4, jz 6 0])
 .ret))))
abbrev rs29 : List RC := [(.v 5), (.v 6)]
theorem fok29 (p : Bool) : FnOk Tryz.prog 29 ⟨ic29, vs29, 46, rs29, p⟩ := .mk2 Tryz.func29 (by kernel_rfl) (by kernel_rfl) (by kernel_rfl) (by kernel_rfl) (by kernel_rfl)
abbrev vs30 : List Nat := [0, 1, 2, 3, 4, 8, 9, 10, 24, 36, 38]
def ic30 : IC := (.seq (.region [jb 4 0, jw 5 .mv [jB false], jz 6 0])
 (.seq (.region [jN 2 4, jv 1, jk 66 [.t 0, .t 1], jm 7 2])
 (.seq (.seq (.region [jv 7, jq (.bin .eql .int) [.t 0, jn 0], jt 1, jh 2 true 2, jg 2 true (.fadd 0) [.v 4], ji 2 true 4, jg 2 true (.len false) [.t 5], jg 2 true (.bin .sub .int) [.t 6, jn 1], jf 2 true 59 [.t 3, jn 0, .t 7], jg 2 true .not [.t 8], jw 8 .pick [.t 2, .t 9, jB false]])
 (.cond 8 (.region [jz 7 4])
 .skip))
 (.seq (.seq (.region [jv 7, jq (.bin .eql .int) [.t 0, jn 0], jt 1, jh 2 true 3, jg 2 true (.fadd 1) [.v 4], ji 2 true 4, jg 2 true (.len false) [.t 5], jf 2 true 49 [.t 6], jg 2 true (.bin .sub .int) [.t 7, jn 1], jf 2 true 59 [.t 3, jn 0, .t 8], jg 2 true .not [.t 9], jw 9 .pick [.t 2, .t 10, jB false]])
 (.cond 9 (.region [jz 7 7])
 .skip))
 (.seq (.seq (.region [jv 7, jw 10 (.bin .neq .int) [.t 0, jn 0]])
 (.cond 10 (.seq (.region [jv 7, jw 5 .mv [jB false], jm 6 0])
 .ret)
 .skip))
 (.seq (.region [jN 2 4, jv 1, jv 2, jv 3, jk 50 [.t 0, .t 1, .t 2, .t 3], jm 5 4, jz 6 0])
 .ret))))))
abbrev rs30 : List RC := [(.v 5), (.v 6)]
theorem fok30 (p : Bool) : FnOk Tryz.prog 30 ⟨ic30, vs30, 45, rs30, p⟩ := .mk2 Tryz.func30 (by kernel_rfl) (by kernel_rfl) (by kernel_rfl) (by kernel_rfl) (by kernel_rfl)
abbrev vs31 : List Nat := [0, 1, 2, 4, 5, 6, 7, 16]
def ic31 : IC := (.seq (.region [jb 2 0, jw 3 .mv [jS], jz 4 0])
 (.seq (.region [jN 2 2, jv 1, jq (.bslice 1 1 [(.cv .nils)] [(0, 1)]) [.t 1], jk 63 [.t 0, .t 2], jt 3, jx 0 4, jx 1 4, jm 5 5, jm 6 6])
 (.seq (.seq (.region [jv 6, jw 7 (.bin .neq .int) [.t 0, jn 0]])
 (.cond 7 (.seq (.region [jv 6, jw 3 .mv [jS], jm 4 0])
 .ret)
 .skip))
 (.seq (.region [jv 5, jv 1, jk 67 [.t 0, .t 1], jm 3 2, jz 4 0])
 .ret))))
abbrev rs31 : List RC := [(.v 3), (.v 4)]
theorem fok31 (p : Bool) : FnOk Tryz.prog 31 ⟨ic31, vs31, 21, rs31, p⟩ := .mk2 Tryz.func31 (by kernel_rfl) (by kernel_rfl) (by kernel_rfl) (by kernel_rfl) (by kernel_rfl)
abbrev vs33 : List Nat := [0, 1, 4, 5, 10, 14, 25]
def ic33l0 : IC := (.seq (.seq (.region [jv 3, jv 0, je 1, jw 5 (.bin .lss .int) [.t 0, .t 2]])
 (.cond 5 .skip
 (.exit 0)))
 (.seq (.block 1 (.seq (.dr [[], [], [0, 1], [2], [], [], [4, 5], [6], [3, 7]] [jv 0, jv 3, ja 2 0 1, jq (.loadN 2) [.t 2], jv 1, jv 3, ja 2 4 5, jq (.loadN 2) [.t 6], jw 6 (.eqS true (true, [(.int .i64), (.int .i64)])) [.t 3, .t 7]])
 (.cond 6 (.seq (.region [jw 2 .mv [jB false]])
 .ret)
 .skip)))
 (.region [jv 3, jq (.bin .add .int) [.t 0, jn 1], jm 3 1])))
def ic33 : IC := (.seq (.region [jw 2 .mv [jB false]])
 (.seq (.seq (.region [jv 0, je 0, jv 1, je 2, jw 4 (.bin .neq .int) [.t 1, .t 3]])
 (.cond 4 (.seq (.region [jw 2 .mv [jB false]])
 .ret)
 .skip))
 (.seq (.seq (.region [jz 3 0])
 (.block 0 (.loop ic33l0)))
 (.seq (.region [jw 2 .mv [jB true]])
 .ret))))
abbrev rs33 : List RC := [(.v 2)]
theorem fok33 (p : Bool) : FnOk Tryz.prog 33 ⟨ic33, vs33, 26, rs33, p⟩ := .mk2 Tryz.func33 (by kernel_rfl) (by kernel_rfl) (by kernel_rfl) (by kernel_rfl) (by kernel_rfl)
abbrev vs34 : List Nat := [0, 1, 2, 3, 4, 6, 7, 8, 9, 10, 20]
def ic34 : IC := (.seq (.region [jb 3 0, jb 4 1, jw 5 .mv [jB false], jz 6 0])
 (.seq (.region [jN 2 3, jL 4, jv 2, jq (.bslice 1 2 [(.cv .nils), (.cv .nils)] [(0, 1), (1, 1)]) [.t 1, .t 2], jk 63 [.t 0, .t 3], jt 4, jx 0 5, jx 1 5, jw 7 (.alloc [(.cv .nilp)]) [], jq (.store 1) [.v 7, .t 6], jm 8 7])
 (.seq (.seq (.region [jv 8, jw 10 (.bin .neq .int) [.t 0, jn 0]])
 (.cond 10 (.seq (.region [jv 8, jw 5 .mv [jB false], jm 6 0])
 .ret)
 .skip))
 (.seq (.region [jq (.mkfn (.func 69)) [.v 7, .v 4], jm 9 0])
 (.seq (.region [jv 2, jv 9, jk 70 [.t 0, .t 1], jq .not [.t 2], jm 5 3, jz 6 0])
 .ret)))))
abbrev rs34 : List RC := [(.v 5), (.v 6)]
theorem fok34 (p : Bool) : FnOk Tryz.prog 34 ⟨ic34, vs34, 27, rs34, p⟩ := .mk2 Tryz.func34 (by kernel_rfl) (by kernel_rfl) (by kernel_rfl) (by kernel_rfl) (by kernel_rfl)
abbrev vs38 : List Nat := [0, 1, 2, 4, 5, 6, 7, 8, 10, 11, 12, 13, 22, 25, 26, 27, 28, 45, 46, 47, 48, 57, 70]
def ic38l0 : IC := (.seq (.region [jw 20 (.bin .lss .int) [.v 19, .v 18]])
 (.seq (.cond 20 .skip
 (.exit 2))
 (.seq (.block 3 (.seq (.region [jv 19, jq (.iaS 1) [.v 17, .v 19], jl 1, jm 10 0, jm 11 2])
 (.seq (.region [jF 1 8, jl 0, jv 10, jq (.bin .shr .int) [.t 1, .t 2], jq (.bin .and .int) [.t 3, jn 1], jw 21 (.bin .eql .int) [.t 4, jn 1]])
 (.cond 21 (.region [jv 9, jv 11, jq (.bin .add .str) [.c (.cv (.str (bts [46]))), .t 1], jq (.bin .add .str) [.t 0, .t 2], jm 9 3])
 .skip))))
 (.region [jq (.bin .add .int) [.v 19, jn 1], jm 19 0]))))
def ic38l1 : IC := (.seq (.region [jw 16 (.bin .lss .int) [.v 15, .v 14]])
 (.seq (.cond 16 .skip
 (.exit 0))
 (.seq (.block 1 (.seq (.region [jq (.iaS 2) [.v 13, .v 15], jq (.loadN 2) [.t 0], jw 8 (.alloc [(.cv (.int .i64 0)), (.cv (.int .i64 0))]) [], jq (.store 2) [.v 8, .t 1]])
 (.seq (.dr [[], [0], [1], [2], [3], [], [5], [4, 6], [7], [8], [9, 0, 1, 2, 3, 4, 5, 6, 7, 8, 9]] [jv 5, jc 0, jG 0 1, jG 0 2, jl 3, jF 0 8, jl 5, ja 5 4 6, jG 0 7, jl 8, jm 9 9])
 (.seq (.seq (.region [jv 5, jc 0, jG 0 1, jG 1 2, jw 17 .load1 [.t 3], jw 18 (.len false) [.v 17], jz 19 0])
 (.block 2 (.loop ic38l0)))
 (.region [jv 7, jv 9, jq (.bslice 1 1 [(.cv (.str (bts [])))] [(0, 1)]) [.t 1], jq (.append 1 16) [.t 0, .t 2], jm 7 3])))))
 (.region [jq (.bin .add .int) [.v 15, jn 1], jm 15 0]))))
def ic38 : IC := (.seq (.region [jb 2 0, jw 3 .mv [.c (.cv (.str (bts [])))], jz 4 0])
 (.seq (.region [jN 2 2, jv 1, jq (.bslice 1 1 [(.cv .nils)] [(0, 1)]) [.t 1], jk 63 [.t 0, .t 2], jt 3, jx 0 4, jx 1 4, jm 5 5, jm 6 6])
 (.seq (.seq (.region [jv 6, jw 12 (.bin .neq .int) [.t 0, jn 0]])
 (.cond 12 (.seq (.region [jv 6, jw 3 .mv [.c (.cv (.str (bts [])))], jm 4 0])
 .ret)
 .skip))
 (.seq (.region [jq (.bslice 1 0 [] []) [], jm 7 0])
 (.seq (.seq (.region [jw 13 .mv [.v 1], jw 14 (.len false) [.v 13], jz 15 0])
 (.block 0 (.loop ic38l1)))
 (.seq (.seq (.region [jv 7, je 0, jw 22 (.bin .eql .int) [.t 1, jn 0]])
 (.cond 22 (.seq (.region [jw 3 .mv [.c (.cv (.str (bts [45])))], jz 4 0])
 .ret)
 .skip))
 (.seq (.region [jv 7, jk 73 [.t 0, .c (.cv (.str (bts [32])))], jm 3 1, jz 4 0])
 .ret)))))))
abbrev rs38 : List RC := [(.v 3), (.v 4)]
theorem fok38 (p : Bool) : FnOk Tryz.prog 38 ⟨ic38, vs38, 73, rs38, p⟩ := .mk2 Tryz.func38 (by kernel_rfl) (by kernel_rfl) (by kernel_rfl) (by kernel_rfl) (by kernel_rfl)
abbrev vs42 : List Nat := [0, 1, 2, 4, 5, 6, 9, 10, 18, 22, 39, 40, 41, 42, 46]
def ic42l0 : IC := (.seq (.region [jw 13 (.bin .lss .int) [.v 12, .v 11]])
 (.seq (.cond 13 .skip
 (.exit 1))
 (.seq (.block 2 (.seq (.region [jv 12, jq (.iaS 1) [.v 10, .v 12], jl 1, jm 6 0, jm 7 2])
 (.seq (.region [jw 14 .mv [.v 7]])
 (.cond 14 (.region [jv 3, jv 6, jq (.bslice 1 1 [(.cv (.int .i64 0))] [(0, 1)]) [.t 1], jq (.append 1 8) [.t 0, .t 2], jm 3 3])
 .skip))))
 (.region [jq (.bin .add .int) [.v 12, jn 1], jm 12 0]))))
def ic42 : IC := (.seq (.region [jb 2 0, jw 3 .mv [jS], jz 4 0])
 (.seq (.region [jN 2 2, jk 75 [.t 0], jt 1, jx 0 2, jx 1 2, jx 2 2, jx 3 2, jm 5 3, jt 4, jt 5, jm 4 6])
 (.seq (.block 0 (.seq (.region [jv 4, jq (.bin .neq .int) [.t 0, jn 0], jm 8 1])
 (.cond 8 (.seq (.region [jv 4, jw 3 .mv [jS], jm 4 0])
 .ret)
 (.seq (.region [jv 5, jc 0, jG 0 1, jG 0 2, jl 3, je 4, jq (.bin .sub .int) [.t 5, jn 1], jv 1, jq (.bslice 1 1 [(.cv (.int .i64 0))] [(0, 1)]) [.t 7], jk 56 [jn 0, .t 6, .t 8], jm 9 9])
 (.cond 9 (.seq (.region [jw 3 .mv [jS], jz 4 4])
 .ret)
 .skip)))))
 (.seq (.seq (.region [jv 5, jc 0, jG 2 1, jl 2, jv 1, ja 1 3 4, jw 10 .load1 [.t 5], jw 11 (.len false) [.v 10], jz 12 0])
 (.block 1 (.loop ic42l0)))
 (.seq (.region [jv 3, jm 3 0, jz 4 0])
 .ret)))))
abbrev rs42 : List RC := [(.v 3), (.v 4)]
theorem fok42 (p : Bool) : FnOk Tryz.prog 42 ⟨ic42, vs42, 53, rs42, p⟩ := .mk2 Tryz.func42 (by kernel_rfl) (by kernel_rfl) (by kernel_rfl) (by kernel_rfl) (by kernel_rfl)
abbrev vs43 : List Nat := [0]
def ic43 : IC := (.seq (.region [jw 0 (.alloc [(.cv .nils), (.cv .nils)]) []])
 (.seq (.region [jq (.build [(.cv (.str (bts []))), (.cv .nils), (.cv (.int .i64 0)), (.cv (.int .i64 0)), (.cv (.int .i64 0))] [(0, 1), (2, 1), (3, 1)]) [.c (.cv (.str (bts [97, 109]))), jn (-1), jn 16], jq (.bslice 1 1 [(.cv (.int .i64 0))] [(0, 1)]) [jn 0], jq (.build [(.cv (.str (bts []))), (.cv .nils), (.cv (.int .i64 0)), (.cv (.int .i64 0)), (.cv (.int .i64 0))] [(0, 1), (1, 1), (2, 1), (3, 1), (4, 1)]) [.c (.cv (.str (bts [98]))), .t 1, jn (-1), jn 18, jn 15], jq (.bslice 1 1 [(.cv (.int .i64 0))] [(0, 1)]) [jn 1], jq (.build [(.cv (.str (bts []))), (.cv .nils), (.cv (.int .i64 0)), (.cv (.int .i64 0)), (.cv (.int .i64 0))] [(0, 1), (1, 1), (2, 1), (3, 1), (4, 1)]) [.c (.cv (.str (bts [98, 101]))), .t 3, jn 1, jn 18, jn 15], jq (.bslice 1 1 [(.cv (.int .i64 0))] [(0, 1)]) [jn 1], jq (.build [(.cv (.str (bts []))), (.cv .nils), (.cv (.int .i64 0)), (.cv (.int .i64 0)), (.cv (.int .i64 0))] [(0, 1), (1, 1), (2, 1), (3, 1), (4, 1)]) [.c (.cv (.str (bts [99]))), .t 5, jn 1, jn 21, jn 5], jq (.bslice 5 4 [(.cv (.str (bts []))), (.cv .nils), (.cv (.int .i64 0)), (.cv (.int .i64 0)), (.cv (.int .i64 0)), (.cv (.str (bts []))), (.cv .nils), (.cv (.int .i64 0)), (.cv (.int .i64 0)), (.cv (.int .i64 0)), (.cv (.str (bts []))), (.cv .nils), (.cv (.int .i64 0)), (.cv (.int .i64 0)), (.cv (.int .i64 0)), (.cv (.str (bts []))), (.cv .nils), (.cv (.int .i64 0)), (.cv (.int .i64 0)), (.cv (.int .i64 0))] [(0, 5), (5, 5), (10, 5), (15, 5)]) [.t 0, .t 2, .t 4, .t 6], jq (.bslice 1 2 [(.cv (.str (bts []))), (.cv (.str (bts [])))] [(0, 1), (1, 1)]) [.c (.cv (.str (bts [109, 97, 110, 117, 97, 108]))), .c (.cv (.str (bts [110, 105, 103, 104, 116])))], jq (.build [(.cv .nils), (.cv .nils)] [(0, 1), (1, 1)]) [.t 7, .t 8], jq (.store 2) [.v 0, .t 9]])
 .ret))
abbrev rs43 : List RC := [(.lN 0 2)]
theorem fok43 (p : Bool) : FnOk Tryz.prog 43 ⟨ic43, vs43, 11, rs43, p⟩ := .mk2 Tryz.func43 (by kernel_rfl) (by kernel_rfl) (by kernel_rfl) (by kernel_rfl) (by kernel_rfl)
abbrev vs44 : List Nat := [0]
def ic44 : IC := (.seq (.region [jw 0 .mv [jS]])
 (.seq (.region [jq (.build [(.cv (.int .i64 0)), (.cv (.int .i64 0))] [(0, 1), (1, 1)]) [jn 1, jn 1], jq (.build [(.cv (.int .i64 0)), (.cv (.int .i64 0))] [(0, 1), (1, 1)]) [jn 2, jn 3], jq (.build [(.cv (.int .i64 0)), (.cv (.int .i64 0))] [(0, 1)]) [jn 0], jq (.bslice 2 3 [(.cv (.int .i64 0)), (.cv (.int .i64 0)), (.cv (.int .i64 0)), (.cv (.int .i64 0)), (.cv (.int .i64 0)), (.cv (.int .i64 0))] [(0, 2), (2, 2), (4, 2)]) [.t 0, .t 1, .t 2], jm 0 3])
 .ret))
abbrev rs44 : List RC := [(.v 0)]
theorem fok44 (p : Bool) : FnOk Tryz.prog 44 ⟨ic44, vs44, 5, rs44, p⟩ := .mk2 Tryz.func44 (by kernel_rfl) (by kernel_rfl) (by kernel_rfl) (by kernel_rfl) (by kernel_rfl)
abbrev vs45 : List Nat := [0, 1, 4, 5, 10, 14, 25]
def ic45l0 : IC := (.seq (.seq (.region [jv 3, jv 0, je 1, jw 5 (.bin .lss .int) [.t 0, .t 2]])
 (.cond 5 .skip
 (.exit 0)))
 (.seq (.block 1 (.seq (.dr [[], [], [0, 1], [2], [], [], [4, 5], [6], [3, 7]] [jv 0, jv 3, ja 1 0 1, jl 2, jv 1, jv 3, ja 1 4 5, jl 6, jw 6 (.bin .neq .int) [.t 3, .t 7]])
 (.cond 6 (.seq (.region [jw 2 .mv [jB false]])
 .ret)
 .skip)))
 (.region [jv 3, jq (.bin .add .int) [.t 0, jn 1], jm 3 1])))
def ic45 : IC := (.seq (.region [jw 2 .mv [jB false]])
 (.seq (.seq (.region [jv 0, je 0, jv 1, je 2, jw 4 (.bin .neq .int) [.t 1, .t 3]])
 (.cond 4 (.seq (.region [jw 2 .mv [jB false]])
 .ret)
 .skip))
 (.seq (.seq (.region [jz 3 0])
 (.block 0 (.loop ic45l0)))
 (.seq (.region [jw 2 .mv [jB true]])
 .ret))))
abbrev rs45 : List RC := [(.v 2)]
theorem fok45 (p : Bool) : FnOk Tryz.prog 45 ⟨ic45, vs45, 26, rs45, p⟩ := .mk2 Tryz.func45 (by kernel_rfl) (by kernel_rfl) (by kernel_rfl) (by kernel_rfl) (by kernel_rfl)
abbrev vs48 : List Nat := [0, 1, 2, 4, 5, 8, 12, 25, 37]
def ic48l0 : IC := (.seq (.seq (.region [jv 4, jv 1, je 1, jw 6 (.bin .lss .int) [.t 0, .t 2]])
 (.cond 6 .skip
 (.exit 0)))
 (.seq (.block 1 (.seq (.seq (.dr [[], [], [0, 1], [2], [3], [], [5], [6], [7], [4, 8], [9]] [jv 1, jv 4, ja 2 0 1, jG 0 2, jl 3, jF 0 2, jl 5, je 6, jq (.bin .sub .int) [.t 7, jn 1], jk 59 [.t 4, jn 0, .t 8], jw 7 .not [.t 9]])
 (.cond 7 (.seq (.region [jz 3 4])
 .ret)
 .skip))
 (.seq (.dr [[], [], [0, 1], [2], [3], [], [5], [6], [7], [8], [4, 9, 8], [10]] [jv 1, jv 4, ja 2 0 1, jG 1 2, jl 3, jF 1 2, jl 5, je 6, jk 49 [.t 7], jq (.bin .sub .int) [.t 8, jn 1], jk 59 [.t 4, jn 0, .t 9], jw 8 .not [.t 10]])
 (.cond 8 (.seq (.region [jz 3 7])
 .ret)
 .skip))))
 (.region [jv 4, jq (.bin .add .int) [.t 0, jn 1], jm 4 1])))
def ic48 : IC := (.seq (.region [jb 2 0, jz 3 0])
 (.seq (.seq (.region [jv 1, je 0, jw 5 (.bin .gtr .int) [.t 1, jn 40]])
 (.cond 5 (.seq (.region [jz 3 3])
 .ret)
 .skip))
 (.seq (.seq (.region [jz 4 0])
 (.block 0 (.loop ic48l0)))
 (.seq (.region [jz 3 0])
 .ret))))
abbrev rs48 : List RC := [(.v 3)]
theorem fok48 (p : Bool) : FnOk Tryz.prog 48 ⟨ic48, vs48, 38, rs48, p⟩ := .mk2 Tryz.func48 (by kernel_rfl) (by kernel_rfl) (by kernel_rfl) (by kernel_rfl) (by kernel_rfl)
abbrev vs49 : List Nat := [0, 2, 3, 4, 7]
def ic49l0 : IC := (.seq (.seq (.region [jv 3, jv 0, jw 4 (.bin .lss .int) [.t 0, .t 1]])
 (.cond 4 .skip
 (.exit 0)))
 (.seq (.block 1 (.region [jv 2, jq (.bin .mul .int) [jn 2, .t 0], jm 2 1]))
 (.region [jv 3, jq (.bin .add .int) [.t 0, jn 1], jm 3 1])))
def ic49 : IC := (.seq (.region [jz 1 0])
 (.seq (.region [jz 2 1])
 (.seq (.seq (.region [jz 3 0])
 (.block 0 (.loop ic49l0)))
 (.seq (.region [jv 2, jm 1 0])
 .ret))))
abbrev rs49 : List RC := [(.v 1)]
theorem fok49 (p : Bool) : FnOk Tryz.prog 49 ⟨ic49, vs49, 13, rs49, p⟩ := .mk2 Tryz.func49 (by kernel_rfl) (by kernel_rfl) (by kernel_rfl) (by kernel_rfl) (by kernel_rfl)
abbrev vs50 : List Nat := [0, 1, 2, 3, 4, 8, 9, 10, 11, 15, 22, 53]
def ic50l0 : IC := (.seq (.seq (.region [jv 8, jF 1 4, jl 1, je 2, jw 10 (.bin .lss .int) [.t 0, .t 3]])
 (.cond 10 .skip
 (.exit 2)))
 (.seq (.block 3 (.region [jv 7, jt 0, jh 1 true 1, jh 1 true 6, jg 1 true (.iaS 2) [.t 2, .t 3], jg 1 true (.fadd 1) [.t 4], ji 1 true 5, jh 1 true 8, jf 1 true 52 [.t 6, .t 7], jg 1 true .mv [.t 8], jh 9 true 3, jh 9 true 8, jf 9 true 52 [.t 10, .t 11], jg 1 true .pick [.t 9, .t 12, jB false], jg 1 true .not [.t 13], jq .pick [.t 1, .t 14, jB false], jm 7 15]))
 (.region [jv 8, jq (.bin .add .int) [.t 0, jn 1], jm 8 1])))
def ic50l1 : IC := (.seq (.seq (.region [jv 6, jv 1, je 1, jw 9 (.bin .lss .int) [.t 0, .t 2]])
 (.cond 9 .skip
 (.exit 0)))
 (.seq (.block 1 (.seq (.region [jw 7 .mv [jB true]])
 (.seq (.seq (.region [jz 8 0])
 (.block 2 (.loop ic50l0)))
 (.seq (.dr [[], [0], [1], [1], [1], [3, 4, 1], [5, 1], [6, 1], [2, 7, 1, 1], [1], [8, 9, 1], [10, 1], [1, 11]] [jv 7, jt 0, jg 1 true (.loadN 2) [.v 4], jh 1 true 1, jh 1 true 6, jg 1 true (.iaS 2) [.t 3, .t 4], jg 1 true (.fadd 0) [.t 5], ji 1 true 6, jf 1 true 51 [.t 2, .t 7], jh 1 true 2, jg 1 true (.iaS 1) [.t 8, .t 9], ji 1 true 10, jw 11 .pick [.t 1, .t 11, jB false]])
 (.cond 11 (.seq (.region [jw 5 .mv [jB true]])
 .ret)
 .skip)))))
 (.region [jv 6, jq (.bin .add .int) [.t 0, jn 1], jm 6 1])))
def ic50 : IC := (.seq (.region [jb 4 0, jw 5 .mv [jB false]])
 (.seq (.seq (.region [jz 6 0])
 (.block 0 (.loop ic50l1)))
 (.seq (.region [jw 5 .mv [jB false]])
 .ret)))
abbrev rs50 : List RC := [(.v 5)]
theorem fok50 (p : Bool) : FnOk Tryz.prog 50 ⟨ic50, vs50, 54, rs50, p⟩ := .mk2 Tryz.func50 (by kernel_rfl) (by kernel_rfl) (by kernel_rfl) (by kernel_rfl) (by kernel_rfl)
abbrev vs51 : List Nat := [0, 1, 2, 4, 5, 6, 7, 8, 20, 27, 44]
def ic51l0 : IC := (.seq (.seq (.region [jv 7, jF 0 2, jl 1, jv 6, ja 5 2 3, jG 1 4, jl 5, je 6, jq (.bin .lss .int) [.t 0, .t 7], jt 8, jh 9 true 4, jh 9 true 6, jg 9 true (.iaS 1) [.t 10, .t 11], ji 9 true 12, jw 10 .pick [.t 9, .t 13, jB false]])
 (.cond 10 .skip
 (.exit 4)))
 (.seq (.block 5 (.region [jv 4, jF 0 2, jl 1, jv 6, ja 5 2 3, jG 1 4, jl 5, jv 7, ja 1 6 7, jl 8, ja 1 0 9, jq (.store 1) [.t 10, jB true]]))
 (.region [jv 7, jq (.bin .add .int) [.t 0, jn 1], jm 7 1])))
def ic51l1 : IC := (.seq (.seq (.region [jv 6, jF 0 2, jl 1, je 2, jw 9 (.bin .lss .int) [.t 0, .t 3]])
 (.cond 9 .skip
 (.exit 2)))
 (.seq (.block 3 (.seq (.region [jz 7 0])
 (.block 4 (.loop ic51l0))))
 (.region [jv 6, jq (.bin .add .int) [.t 0, jn 1], jm 6 1])))
def ic51l2 : IC := (.seq (.seq (.region [jv 5, jF 0 2, jl 1, je 2, jw 8 (.bin .lss .int) [.t 0, .t 3]])
 (.cond 8 .skip
 (.exit 0)))
 (.seq (.block 1 (.seq (.region [jz 6 0])
 (.block 2 (.loop ic51l1))))
 (.region [jv 5, jq (.bin .add .int) [.t 0, jn 1], jm 5 1])))
def ic51 : IC := (.seq (.region [jb 2 0, jw 3 .mv [jS]])
 (.seq (.region [jF 0 2, jl 0, je 1, jq (.mkslice 1 1 [(.cv (.bool false))]) [.t 2, .t 2], jm 4 3])
 (.seq (.region [jv 4, jv 1, ja 1 0 1, jq (.store 1) [.t 2, jB true]])
 (.seq (.seq (.region [jz 5 0])
 (.block 0 (.loop ic51l2)))
 (.seq (.region [jv 4, jm 3 0])
 .ret)))))
abbrev rs51 : List RC := [(.v 3)]
theorem fok51 (p : Bool) : FnOk Tryz.prog 51 ⟨ic51, vs51, 59, rs51, p⟩ := .mk2 Tryz.func51 (by kernel_rfl) (by kernel_rfl) (by kernel_rfl) (by kernel_rfl) (by kernel_rfl)
abbrev vs52 : List Nat := [0, 1, 4]
def ic52 : IC := (.seq (.region [jw 2 .mv [jB false]])
 (.seq (.region [jv 0, jv 1, jk 49 [.t 1], jq (.bin .quo .int) [.t 0, .t 2], jq (.bin .rem .int) [.t 3, jn 2], jq (.bin .eql .int) [.t 4, jn 1], jm 2 5])
 .ret))
abbrev rs52 : List RC := [(.v 2)]
theorem fok52 (p : Bool) : FnOk Tryz.prog 52 ⟨ic52, vs52, 11, rs52, p⟩ := .mk2 Tryz.func52 (by kernel_rfl) (by kernel_rfl) (by kernel_rfl) (by kernel_rfl) (by kernel_rfl)
abbrev vs53 : List Nat := [0, 1, 2, 3, 4]
def ic53 : IC := (.seq (.region [jb 1 0, jz 2 0, jz 3 0, jz 4 0])
 (.seq (.region [jN 2 1, jk 75 [.t 0], jt 1, jx 0 2, jx 1 2, jx 2 2, jx 3 2, jm 2 4, jm 3 5, jm 4 6])
 (.seq (.region [jv 2, jv 3, jv 4, jm 2 0, jm 3 1, jm 4 2])
 .ret)))
abbrev rs53 : List RC := [(.v 2), (.v 3), (.v 4)]
theorem fok53 (p : Bool) : FnOk Tryz.prog 53 ⟨ic53, vs53, 15, rs53, p⟩ := .mk2 Tryz.func53 (by kernel_rfl) (by kernel_rfl) (by kernel_rfl) (by kernel_rfl) (by kernel_rfl)
abbrev vs54 : List Nat := [0, 1, 2, 3, 4, 5, 6, 7, 8, 9, 20, 25, 32, 39, 48, 60, 66, 77, 93]
def ic54l0 : IC := (.seq (.seq (.region [jv 9, jF 0 1, jl 1, jv 8, ja 5 2 3, jG 1 4, jl 5, je 6, jw 17 (.bin .lss .int) [.t 0, .t 7]])
 (.cond 17 .skip
 (.exit 6)))
 (.seq (.block 7 (.seq (.dr [[], [], [1], [], [2, 3], [4], [5], [], [6, 7], [8], [0, 9], [], [10, 11], [12]] [jN 2 1, jF 0 1, jl 1, jv 8, ja 5 2 3, jG 1 4, jl 5, jv 9, ja 1 6 7, jl 8, jk 51 [.t 0, .t 9], jv 8, ja 1 10 11, jw 18 .load1 [.t 12]])
 (.cond 18 (.seq (.region [jv 8, jz 2 4, jm 3 0, jz 4 9])
 .ret)
 .skip)))
 (.region [jv 9, jq (.bin .add .int) [.t 0, jn 1], jm 9 1])))
def ic54l1 : IC := (.seq (.seq (.region [jv 8, jF 0 1, jl 1, je 2, jw 16 (.bin .lss .int) [.t 0, .t 3]])
 (.cond 16 .skip
 (.exit 4)))
 (.seq (.block 5 (.seq (.region [jz 9 0])
 (.block 6 (.loop ic54l0))))
 (.region [jv 8, jq (.bin .add .int) [.t 0, jn 1], jm 8 1])))
def ic54l2 : IC := (.seq (.seq (.region [jv 7, jF 1 1, jl 1, je 2, jw 13 (.bin .lss .int) [.t 0, .t 3]])
 (.cond 13 .skip
 (.exit 2)))
 (.seq (.block 3 (.seq (.seq (.region [jF 1 1, jl 0, jv 7, ja 1 1 2, jl 3, jk 21 [.t 4], jw 14 .not [.t 5]])
 (.cond 14 (.seq (.region [jv 7, jz 2 3, jm 3 0, jz 4 6])
 .ret)
 .skip))
 (.seq (.dr [[], [0], [], [1, 2], [], [4], [], [5, 6], [7], [3, 8], [9]] [jF 1 1, jl 0, jv 7, jq (.slS 1 false true) [.t 1, .t 2], jF 1 1, jl 4, jv 7, ja 1 5 6, jl 7, jk 86 [.t 3, .t 8], jw 15 (.bin .geq .int) [.t 9, jn 0]])
 (.cond 15 (.seq (.region [jv 7, jz 2 3, jm 3 0, jz 4 5])
 .ret)
 .skip))))
 (.region [jv 7, jq (.bin .add .int) [.t 0, jn 1], jm 7 1])))
def ic54l3 : IC := (.seq (.seq (.region [jv 5, jF 0 1, jl 1, je 2, jw 11 (.bin .lss .int) [.t 0, .t 3]])
 (.cond 11 .skip
 (.exit 0)))
 (.seq (.block 1 (.seq (.region [jN 2 1, jv 5, jk 85 [.t 0, .t 1], jm 6 2])
 (.seq (.region [jv 6, jw 12 (.bin .neq .int) [.t 0, jn 0]])
 (.cond 12 (.seq (.region [jv 5, jv 6, jz 2 2, jm 3 0, jm 4 1])
 .ret)
 .skip))))
 (.region [jv 5, jq (.bin .add .int) [.t 0, jn 1], jm 5 1])))
def ic54 : IC := (.seq (.region [jb 1 0, jz 2 0, jz 3 0, jz 4 0])
 (.seq (.seq (.region [jF 0 1, jl 0, je 1, jk 59 [.t 2, jn 1, jn 12], jq .not [.t 3], jt 4, jg 5 false (.fadd 1) [.v 1], ji 5 false 6, jg 5 false (.len false) [.t 7], jg 5 false (.bin .gtr .int) [.t 8, jn 8], jw 10 .pick [.t 5, jB true, .t 9]])
 (.cond 10 (.seq (.region [jz 2 1, jz 3 0, jz 4 3])
 .ret)
 .skip))
 (.seq (.seq (.region [jz 5 0])
 (.block 0 (.loop ic54l3)))
 (.seq (.seq (.region [jz 7 0])
 (.block 2 (.loop ic54l2)))
 (.seq (.seq (.region [jz 8 0])
 (.block 4 (.loop ic54l1)))
 (.seq (.region [jz 2 0, jz 3 0, jz 4 0])
 .ret))))))
abbrev rs54 : List RC := [(.v 2), (.v 3), (.v 4)]
theorem fok54 (p : Bool) : FnOk Tryz.prog 54 ⟨ic54, vs54, 95, rs54, p⟩ := .mk2 Tryz.func54 (by kernel_rfl) (by kernel_rfl) (by kernel_rfl) (by kernel_rfl) (by kernel_rfl)
abbrev vs63 : List Nat := [0, 1, 2, 4, 5, 6, 9, 11, 19, 20, 21, 22, 26]
def ic63l0 : IC := (.seq (.region [jw 11 (.bin .lss .int) [.v 10, .v 9]])
 (.seq (.cond 11 .skip
 (.exit 0))
 (.seq (.block 1 (.seq (.region [jq (.iaS 1) [.v 8, .v 10], jl 0, jm 7 1])
 (.seq (.region [jv 6, jw 12 (.bin .eql .int) [.t 0, jn 0]])
 (.cond 12 (.region [jv 5, jv 7, jk 90 [.t 0, .t 1], jm 6 2])
 .skip))))
 (.region [jq (.bin .add .int) [.v 10, jn 1], jm 10 0]))))
def ic63 : IC := (.seq (.region [jb 2 0, jw 3 .mv [.c (.cv .nilp)], jz 4 0])
 (.seq (.region [jN 2 2, jk 75 [.t 0], jt 1, jx 0 2, jx 1 2, jx 2 2, jx 3 2, jm 5 3, jt 4, jt 5, jm 6 6])
 (.seq (.seq (.region [jw 8 .mv [.v 1], jw 9 (.len false) [.v 8], jz 10 0])
 (.block 0 (.loop ic63l0)))
 (.seq (.region [jv 5, jv 6, jm 3 0, jm 4 1])
 .ret))))
abbrev rs63 : List RC := [(.v 3), (.v 4)]
theorem fok63 (p : Bool) : FnOk Tryz.prog 63 ⟨ic63, vs63, 33, rs63, p⟩ := .mk2 Tryz.func63 (by kernel_rfl) (by kernel_rfl) (by kernel_rfl) (by kernel_rfl) (by kernel_rfl)
abbrev vs64 : List Nat := [0, 2]
def ic64 : IC := (.seq (.region [jz 1 0])
 (.seq (.region [jv 0, jc 0, jG 0 1, jG 1 2, jl 3, je 4, jq (.bin .shl .int) [jn 1, .t 5], jm 1 6])
 .ret))
abbrev rs64 : List RC := [(.v 1)]
theorem fok64 (p : Bool) : FnOk Tryz.prog 64 ⟨ic64, vs64, 10, rs64, p⟩ := .mk2 Tryz.func64 (by kernel_rfl) (by kernel_rfl) (by kernel_rfl) (by kernel_rfl) (by kernel_rfl)
abbrev vs65 : List Nat := [0, 1, 2, 3, 4, 6, 7, 8]
def ic65 : IC := (.seq (.region [jb 4 0, jb 5 2, jb 6 3, jw 7 .mv [jB false]])
 (.seq (.region [jv 1, jq (.mkfn (.func 91)) [.v 4, .v 5, .v 6], jk 70 [.t 0, .t 1], jm 7 2])
 .ret))
abbrev rs65 : List RC := [(.v 7)]
theorem fok65 (p : Bool) : FnOk Tryz.prog 65 ⟨ic65, vs65, 12, rs65, p⟩ := .mk2 Tryz.func65 (by kernel_rfl) (by kernel_rfl) (by kernel_rfl) (by kernel_rfl) (by kernel_rfl)
abbrev vs66 : List Nat := [0, 1, 2, 4, 7, 15]
def ic66 : IC := (.seq (.region [jb 2 0, jz 3 0])
 (.seq (.region [jN 2 2, jk 54 [.t 0], jt 1, jx 0 2, jx 1 2, jx 2 2, jt 3, jt 4, jm 4 5])
 (.seq (.seq (.region [jv 4, jw 5 (.bin .eql .int) [.t 0, jn 0]])
 (.cond 5 (.region [jN 2 2, jv 1, jk 48 [.t 0, .t 1], jm 4 2])
 .skip))
 (.seq (.region [jv 4, jm 3 0])
 .ret))))
abbrev rs66 : List RC := [(.v 3)]
theorem fok66 (p : Bool) : FnOk Tryz.prog 66 ⟨ic66, vs66, 20, rs66, p⟩ := .mk2 Tryz.func66 (by kernel_rfl) (by kernel_rfl) (by kernel_rfl) (by kernel_rfl) (by kernel_rfl)
abbrev vs69 : List Nat := [0, 1, 2, 3, 4]
def ic69 : IC := (.seq (.region [jb 3 0, jw 4 .mv [jB false]])
 (.seq (.dr [[], [], [], [2], [], [4], [5], [], [7], [6, 8], [0, 1, 3, 9, 5], [10], [11, 10, 0, 1, 2, 3, 4, 5, 6, 7, 8, 9, 10, 11]] [jL 1, jL 2, jF 0 3, jl 2, jL 1, jk 64 [.t 4], jq (.bin .sub .int) [.t 5, jn 1], jF 1 3, jl 7, jq (.bin .andNot .int) [.t 6, .t 8], jk 65 [.t 0, .t 1, .t 3, .t 9], jq .not [.t 10], jm 4 11])
 .ret))
abbrev rs69 : List RC := [(.v 4)]
theorem fok69 (p : Bool) : FnOk Tryz.prog 69 ⟨ic69, vs69, 17, rs69, p⟩ := .mk2 Tryz.func69 (by kernel_rfl) (by kernel_rfl) (by kernel_rfl) (by kernel_rfl) (by kernel_rfl)
abbrev vs70 : List Nat := [0, 1, 4]
def ic70 : IC := (.seq (.region [jw 2 .mv [jB false]])
 (.seq (.region [jv 0, jv 1, jk 93 [.t 0, .t 1], jq (.bin .geq .int) [.t 2, jn 0], jm 2 3])
 .ret))
abbrev rs70 : List RC := [(.v 2)]
theorem fok70 (p : Bool) : FnOk Tryz.prog 70 ⟨ic70, vs70, 9, rs70, p⟩ := .mk2 Tryz.func70 (by kernel_rfl) (by kernel_rfl) (by kernel_rfl) (by kernel_rfl) (by kernel_rfl)
abbrev vs71 : List Nat := [0, 2]
def ic71 : IC := (.seq (.region [jw 1 .mv [jS]])
 (.seq (.region [jv 0, jk 94 [jS, .t 0], jm 1 1])
 .ret))
abbrev rs71 : List RC := [(.v 1)]
theorem fok71 (p : Bool) : FnOk Tryz.prog 71 ⟨ic71, vs71, 5, rs71, p⟩ := .mk2 Tryz.func71 (by kernel_rfl) (by kernel_rfl) (by kernel_rfl) (by kernel_rfl) (by kernel_rfl)
abbrev vs73 : List Nat := [0, 1, 4, 5, 7, 8, 10, 12, 13, 15, 22, 29, 39, 40, 41, 42, 49, 63, 64, 65, 66]
def ic73l0 : IC := (.seq (.region [jw 20 (.bin .lss .int) [.v 19, .v 18]])
 (.seq (.cond 20 .skip
 (.exit 3))
 (.seq (.block 4 (.seq (.region [jq (.iaS 1) [.v 17, .v 19], jl 0, jm 6 1])
 (.seq (.region [jv 1, jk 101 [.v 5, .t 0]])
 (.region [jv 6, jk 101 [.v 5, .t 0]]))))
 (.region [jq (.bin .add .int) [.v 19, jn 1], jm 19 0]))))
def ic73l1 : IC := (.seq (.region [jw 15 (.bin .lss .int) [.v 14, .v 13]])
 (.seq (.cond 15 .skip
 (.exit 1))
 (.seq (.block 2 (.seq (.region [jq (.iaS 1) [.v 12, .v 14], jl 0, jm 4 1])
 (.seq (.seq (.region [jv 4, jq (.len true) [.t 0], jv 3, jq (.bin .sub .int) [jn 9223372036854775807, .t 2], jw 16 (.bin .gtr .int) [.t 1, .t 3]])
 (.cond 16 (.region [jq .stuck [], jq .stuck []])
 .skip))
 (.region [jv 3, jv 4, jq (.len true) [.t 1], jq (.bin .add .int) [.t 0, .t 2], jm 3 3]))))
 (.region [jq (.bin .add .int) [.v 14, jn 1], jm 14 0]))))
def ic73 : IC := (.seq (.region [jw 2 .mv [.c (.cv (.str (bts [])))]])
 (.seq (.seq (.region [jv 0, jw 7 (.len false) [.t 0]])
 (.block 0 (.seq (.region [jq (.bin .eql .int) [.v 7, jn 0], jm 8 0])
 (.cond 8 (.seq (.region [jw 2 .mv [.c (.cv (.str (bts [])))]])
 .ret)
 (.seq (.region [jq (.bin .eql .int) [.v 7, jn 1], jm 9 0])
 (.cond 9 (.seq (.region [jv 0, jq (.iaS 1) [.t 0, jn 0], jl 1, jm 2 2])
 .ret)
 .skip))))))
 (.seq (.region [jz 3 0])
 (.seq (.seq (.region [jv 1, jq (.len true) [.t 0], jw 10 (.bin .gtr .int) [.t 1, jn 0]])
 (.cond 10 (.seq (.seq (.region [jv 1, jq (.len true) [.t 0], jv 0, je 2, jq (.bin .sub .int) [.t 3, jn 1], jq (.bin .quo .int) [jn 9223372036854775807, .t 4], jw 11 (.bin .geq .int) [.t 1, .t 5]])
 (.cond 11 (.region [jq .stuck [], jq .stuck []])
 .skip))
 (.region [jv 3, jv 1, jq (.len true) [.t 1], jv 0, je 3, jq (.bin .sub .int) [.t 4, jn 1], jq (.bin .mul .int) [.t 2, .t 5], jq (.bin .add .int) [.t 0, .t 6], jm 3 7]))
 .skip))
 (.seq (.seq (.region [jw 12 .mv [.v 0], jw 13 (.len false) [.v 12], jz 14 0])
 (.block 1 (.loop ic73l1)))
 (.seq (.region [jw 5 (.alloc [(.cv .nilp), (.cv .nils)]) []])
 (.seq (.region [jv 3, jk 100 [.v 5, .t 0]])
 (.seq (.region [jv 0, jq (.iaS 1) [.t 0, jn 0], jl 1, jk 101 [.v 5, .t 2]])
 (.seq (.seq (.region [jv 0, jw 17 (.slS 1 true false) [.t 0, jn 1], jw 18 (.len false) [.v 17], jz 19 0])
 (.block 3 (.loop ic73l0)))
 (.seq (.region [jk 102 [.v 5], jm 2 0])
 .ret))))))))))
abbrev rs73 : List RC := [(.v 2)]
theorem fok73 (p : Bool) : FnOk Tryz.prog 73 ⟨ic73, vs73, 75, rs73, p⟩ := .mk2 Tryz.func73 (by kernel_rfl) (by kernel_rfl) (by kernel_rfl) (by kernel_rfl) (by kernel_rfl)
abbrev vs75 : List Nat := [0, 1, 2, 3, 4, 5, 6, 7, 27, 40, 55, 64, 65, 66, 67, 74]
def ic75l0 : IC := (.seq (.region [jw 14 (.bin .lss .int) [.v 13, .v 12]])
 (.seq (.cond 14 .skip
 (.exit 0))
 (.seq (.block 1 (.seq (.region [jv 13, jq (.iaS 5) [.v 11, .v 13], jq (.loadN 5) [.t 1], jw 6 (.alloc [(.cv (.int .i64 0))]) [], jw 7 (.alloc [(.cv (.str (bts []))), (.cv .nils), (.cv (.int .i64 0)), (.cv (.int .i64 0)), (.cv (.int .i64 0))]) [], jq (.store 1) [.v 6, .t 0], jq (.store 5) [.v 7, .t 2]])
 (.seq (.region [jF 1 7, jl 0, jq (.mkfn (.func 108)) [.v 2, .v 6], jd 15 87 [.t 1, .t 2]])
 (.cond 15 (.seq (.dr [[], [], [1, 1], [0, 2, 0, 1, 2], [3, 0, 1, 2, 3]] [jL 6, jq (.store 1) [.v 2, .c (.cv .nilp)], jz 3 4, jm 4 0, jz 5 9])
 .ret)
 .skip))))
 (.region [jq (.bin .add .int) [.v 13, jn 1], jm 13 0]))))
def ic75 : IC := (.seq (.region [jb 1 0, jw 2 (.alloc [(.cv .nilp)]) [], jz 3 0, jz 4 0, jz 5 0])
 (.seq (.region [jN 2 1, jq (.build [(.cv .nils), (.cv .nils), (.cv .nils)] [(0, 2)]) [.t 0], jq .box [.t 1], jq (.store 1) [.v 2, .t 2]])
 (.seq (.seq (.region [jL 2, jc 0, jG 0 1, jG 0 2, jl 3, je 4, jq (.bslice 1 1 [(.cv (.int .i64 0))] [(0, 1)]) [.t 5], jk 56 [jn 1, jn 12, .t 6], jt 7, jg 8 false .load1 [.v 2], jg 8 false .nilck [.t 9], jg 8 false (.fadd 0) [.t 10], jg 8 false (.fadd 1) [.t 11], ji 8 false 12, jg 8 false (.len false) [.t 13], jg 8 false (.bin .gtr .int) [.t 14, jn 8], jw 8 .pick [.t 8, jB true, .t 15]])
 (.cond 8 (.seq (.region [jq (.store 1) [.v 2, .c (.cv .nilp)], jz 3 1, jz 4 0, jz 5 3])
 .ret)
 .skip))
 (.seq (.seq (.dr [[], [0], [1], [2], [3], [], [5], [4, 6], [7], [8], [8], [9, 7, 0, 1, 2, 3, 4, 5, 6, 7, 8, 9], [10, 11, 0, 1, 2, 3, 4, 5, 6, 7, 8, 9, 10, 11]] [jL 2, jc 0, jG 0 1, jG 0 2, jl 3, jL 2, jq (.mkbm 104) [.t 5], jk 103 [.t 4, .t 6], jt 7, jx 0 8, jx 1 8, jm 4 9, jm 5 10])
 (.seq (.region [jv 5, jw 9 (.bin .neq .int) [.t 0, jn 0]])
 (.cond 9 (.seq (.region [jv 4, jv 5, jq (.store 1) [.v 2, .c (.cv .nilp)], jz 3 2, jm 4 0, jm 5 1])
 .ret)
 .skip)))
 (.seq (.seq (.dr [[], [0], [1], [2], [3], [], [5], [4, 6], [7], [8], [8], [9, 7, 0, 1, 2, 3, 4, 5, 6, 7, 8, 9], [10, 11, 0, 1, 2, 3, 4, 5, 6, 7, 8, 9, 10, 11]] [jL 2, jc 0, jG 0 1, jG 1 2, jl 3, jL 2, jq (.mkbm 106) [.t 5], jk 105 [.t 4, .t 6], jt 7, jx 0 8, jx 1 8, jm 4 9, jm 5 10])
 (.seq (.region [jv 5, jw 10 (.bin .neq .int) [.t 0, jn 0]])
 (.cond 10 (.seq (.region [jv 4, jv 5, jq (.store 1) [.v 2, .c (.cv .nilp)], jz 3 3, jm 4 0, jm 5 1])
 .ret)
 .skip)))
 (.seq (.region [jL 2, jk 107 [.t 0]])
 (.seq (.seq (.region [jL 2, jc 0, jG 0 1, jG 0 2, jw 11 .load1 [.t 3], jw 12 (.len false) [.v 11], jz 13 0])
 (.block 0 (.loop ic75l0)))
 (.seq (.region [jL 2, jq (.store 1) [.v 2, .t 0], jz 3 0, jz 4 0, jz 5 0])
 .ret))))))))
abbrev rs75 : List RC := [(.l1 2), (.v 3), (.v 4), (.v 5)]
theorem fok75 (p : Bool) : FnOk Tryz.prog 75 ⟨ic75, vs75, 78, rs75, p⟩ := .mk2 Tryz.func75 (by kernel_rfl) (by kernel_rfl) (by kernel_rfl) (by kernel_rfl) (by kernel_rfl)
abbrev vs77 : List Nat := [0, 1, 4]
def ic77 : IC := (.seq (.region [jw 2 .mv [.c (.cv .nilf)]])
 (.seq (.region [jv 0, jv 1, jk 109 [.t 0, .t 1, jn 0], jm 2 2])
 .ret))
abbrev rs77 : List RC := [(.v 2)]
theorem fok77 (p : Bool) : FnOk Tryz.prog 77 ⟨ic77, vs77, 8, rs77, p⟩ := .mk2 Tryz.func77 (by kernel_rfl) (by kernel_rfl) (by kernel_rfl) (by kernel_rfl) (by kernel_rfl)
abbrev vs78 : List Nat := [0, 1, 4]
def ic78 : IC := (.seq (.region [jw 2 .mv [jS]])
 (.seq (.region [jv 0, jv 1, jk 110 [.t 0, .t 1, jn 0, jn (-1)], jm 2 2])
 .ret))
abbrev rs78 : List RC := [(.v 2)]
theorem fok78 (p : Bool) : FnOk Tryz.prog 78 ⟨ic78, vs78, 8, rs78, p⟩ := .mk2 Tryz.func78 (by kernel_rfl) (by kernel_rfl) (by kernel_rfl) (by kernel_rfl) (by kernel_rfl)
abbrev vs79 : List Nat := [0, 1, 4, 5, 7, 8, 9, 16]
def ic79l0 : IC := (.seq (.region [jw 6 (.bin .lss .int) [.v 5, .v 4]])
 (.seq (.cond 6 .skip
 (.exit 0))
 (.seq (.block 1 (.seq (.region [jv 5, jm 3 0])
 (.seq (.region [jv 1, jv 0, jv 3, ja 5 1 2, jq (.loadN 5) [.t 3], ⟨(.some 7), none, .call, [(.t 0), (.t 4)]⟩])
 (.cond 7 (.seq (.region [jv 3, jm 2 0])
 .ret)
 .skip))))
 (.region [jq (.bin .add .int) [.v 5, jn 1], jm 5 0]))))
def ic79 : IC := (.seq (.region [jz 2 0])
 (.seq (.seq (.region [jv 0, jw 4 (.len false) [.t 0], jz 5 0])
 (.block 0 (.loop ic79l0)))
 (.seq (.region [jz 2 (-1)])
 .ret)))
abbrev rs79 : List RC := [(.v 2)]
theorem fok79 (p : Bool) : FnOk Tryz.prog 79 ⟨ic79, vs79, 19, rs79, p⟩ := .mk2 Tryz.func79 (by kernel_rfl) (by kernel_rfl) (by kernel_rfl) (by kernel_rfl) (by kernel_rfl)
abbrev vs80 : List Nat := [0, 1, 2, 3]
def ic80 : IC := (.seq (.region [jb 2 0, jw 3 .mv [jB false]])
 (.seq (.dr [[], [0], [], [2], [3], [1, 4], [5, 0, 1, 2, 3, 4, 5]] [jF 0 2, jl 0, jL 1, jq (.iaS 1) [.t 2, jn 0], jl 3, jq (.bin .eql .str) [.t 1, .t 4], jm 3 5])
 .ret))
abbrev rs80 : List RC := [(.v 3)]
theorem fok80 (p : Bool) : FnOk Tryz.prog 80 ⟨ic80, vs80, 10, rs80, p⟩ := .mk2 Tryz.func80 (by kernel_rfl) (by kernel_rfl) (by kernel_rfl) (by kernel_rfl) (by kernel_rfl)
abbrev vs81 : List Nat := [0, 1, 4, 5, 7, 8, 9, 16]
def ic81l0 : IC := (.seq (.region [jw 6 (.bin .lss .int) [.v 5, .v 4]])
 (.seq (.cond 6 .skip
 (.exit 0))
 (.seq (.block 1 (.seq (.region [jv 5, jm 3 0])
 (.seq (.region [jv 1, jv 0, jv 3, ja 1 1 2, jl 3, jw 7 (.bin .eql .str) [.t 0, .t 4]])
 (.cond 7 (.seq (.region [jv 3, jm 2 0])
 .ret)
 .skip))))
 (.region [jq (.bin .add .int) [.v 5, jn 1], jm 5 0]))))
def ic81 : IC := (.seq (.region [jz 2 0])
 (.seq (.seq (.region [jv 0, jw 4 (.len false) [.t 0], jz 5 0])
 (.block 0 (.loop ic81l0)))
 (.seq (.region [jz 2 (-1)])
 .ret)))
abbrev rs81 : List RC := [(.v 2)]
theorem fok81 (p : Bool) : FnOk Tryz.prog 81 ⟨ic81, vs81, 19, rs81, p⟩ := .mk2 Tryz.func81 (by kernel_rfl) (by kernel_rfl) (by kernel_rfl) (by kernel_rfl) (by kernel_rfl)
abbrev vs85 : List Nat := [0, 1, 2, 4, 5, 6, 7, 8, 17, 20, 31, 42, 47, 57, 62, 66, 76]
def ic85l0 : IC := (.seq (.seq (.region [jv 7, jF 1 4, jl 1, je 2, jw 12 (.bin .lss .int) [.t 0, .t 3]])
 (.cond 12 .skip
 (.exit 2)))
 (.seq (.block 3 (.seq (.region [jF 1 4, jl 0, jv 7, ja 1 1 2, jl 3, jv 6, jk 59 [.t 4, jn 0, .t 5], jw 13 .not [.t 6]])
 (.cond 13 (.seq (.region [jz 3 4])
 .ret)
 .skip)))
 (.region [jv 7, jq (.bin .add .int) [.t 0, jn 1], jm 7 1])))
def ic85l1 : IC := (.seq (.seq (.region [jv 5, jv 1, jw 9 (.bin .lss .int) [.t 0, .t 1]])
 (.cond 9 .skip
 (.exit 0)))
 (.seq (.block 1 (.seq (.dr [[], [0], [], [1, 2], [3], [4], [], [6], [5, 7]] [jF 0 2, jl 0, jv 5, ja 5 1 2, jG 0 3, jl 4, jF 0 4, jl 6, jw 10 (.bin .eql .str) [.t 5, .t 7]])
 (.cond 10 (.seq (.region [jz 3 5])
 .ret)
 .skip)))
 (.region [jv 5, jq (.bin .add .int) [.t 0, jn 1], jm 5 1])))
def ic85 : IC := (.seq (.region [jb 2 0, jz 3 0])
 (.seq (.region [jF 0 2, jl 0, jv 1, ja 5 1 2, jq (.loadN 5) [.t 3], jw 4 (.alloc [(.cv (.str (bts []))), (.cv .nils), (.cv (.int .i64 0)), (.cv (.int .i64 0)), (.cv (.int .i64 0))]) [], jq (.store 5) [.v 4, .t 4]])
 (.seq (.seq (.region [jF 0 4, jl 0, jk 21 [.t 1], jw 8 .not [.t 2]])
 (.cond 8 (.seq (.region [jz 3 6])
 .ret)
 .skip))
 (.seq (.seq (.region [jz 5 0])
 (.block 0 (.loop ic85l1)))
 (.seq (.region [jF 0 2, jl 0, je 1, jq (.bin .sub .int) [.t 2, jn 1], jm 6 3])
 (.seq (.seq (.region [jF 1 4, jl 0, je 1, jF 0 2, jl 3, je 4, jw 11 (.bin .gtr .int) [.t 2, .t 5]])
 (.cond 11 (.seq (.region [jz 3 3])
 .ret)
 .skip))
 (.seq (.seq (.region [jz 7 0])
 (.block 2 (.loop ic85l0)))
 (.seq (.seq (.region [jF 2 4, jl 0, jv 6, jk 59 [.t 1, jn (-1), .t 2], jw 14 .not [.t 3]])
 (.cond 14 (.seq (.region [jz 3 4])
 .ret)
 .skip))
 (.seq (.seq (.region [jF 2 4, jl 0, jv 1, jw 15 (.bin .eql .int) [.t 1, .t 2]])
 (.cond 15 (.seq (.region [jz 3 2])
 .ret)
 .skip))
 (.seq (.seq (.region [jF 3 4, jl 0, jk 59 [.t 1, jn 0, jn 100], jq .not [.t 2], jt 3, jg 4 false (.fadd 4) [.v 4], ji 4 false 5, jf 4 false 59 [.t 6, jn 0, jn 100], jg 4 false .not [.t 7], jw 16 .pick [.t 4, jB true, .t 8]])
 (.cond 16 (.seq (.region [jz 3 7])
 .ret)
 .skip))
 (.seq (.region [jz 3 0])
 .ret)))))))))))
abbrev rs85 : List RC := [(.v 3)]
theorem fok85 (p : Bool) : FnOk Tryz.prog 85 ⟨ic85, vs85, 77, rs85, p⟩ := .mk2 Tryz.func85 (by kernel_rfl) (by kernel_rfl) (by kernel_rfl) (by kernel_rfl) (by kernel_rfl)
abbrev vs86 : List Nat := [0, 1, 4, 5, 9, 17]
def ic86l0 : IC := (.seq (.seq (.region [jv 3, jv 0, je 1, jw 4 (.bin .lss .int) [.t 0, .t 2]])
 (.cond 4 .skip
 (.exit 0)))
 (.seq (.block 1 (.seq (.region [jv 0, jv 3, ja 1 0 1, jl 2, jv 1, jw 5 (.bin .eql .str) [.t 3, .t 4]])
 (.cond 5 (.seq (.region [jv 3, jm 2 0])
 .ret)
 .skip)))
 (.region [jv 3, jq (.bin .add .int) [.t 0, jn 1], jm 3 1])))
def ic86 : IC := (.seq (.region [jz 2 0])
 (.seq (.seq (.region [jz 3 0])
 (.block 0 (.loop ic86l0)))
 (.seq (.region [jz 2 (-1)])
 .ret)))
abbrev rs86 : List RC := [(.v 2)]
theorem fok86 (p : Bool) : FnOk Tryz.prog 86 ⟨ic86, vs86, 19, rs86, p⟩ := .mk2 Tryz.func86 (by kernel_rfl) (by kernel_rfl) (by kernel_rfl) (by kernel_rfl) (by kernel_rfl)
abbrev vs90 : List Nat := [0, 1, 2, 4, 6, 9]
def ic90 : IC := (.seq (.region [jb 2 0, jz 3 0])
 (.seq (.seq (.region [jv 1, je 0, jw 5 (.bin .gtr .int) [.t 1, jn 40]])
 (.cond 5 (.seq (.region [jz 3 3])
 .ret)
 .skip))
 (.seq (.region [jv 1, jq (.mkfn (.func 113)) [.v 2], jk 112 [.t 0, .t 1], jt 2, jx 0 3, jx 1 3, jt 4, jm 4 5])
 (.seq (.region [jv 4, jm 3 0])
 .ret))))
abbrev rs90 : List RC := [(.v 3)]
theorem fok90 (p : Bool) : FnOk Tryz.prog 90 ⟨ic90, vs90, 17, rs90, p⟩ := .mk2 Tryz.func90 (by kernel_rfl) (by kernel_rfl) (by kernel_rfl) (by kernel_rfl) (by kernel_rfl)
abbrev vs91 : List Nat := [0, 1, 2, 3, 4, 5]
def ic91 : IC := (.seq (.region [jb 4 0, jw 5 .mv [jB false]])
 (.seq (.dr [[], [0], [1], [2], [], [4], [3, 5], [6], [], [7, 8], [9], [10], [11], [12, 11], [11], [13, 14, 11], [15, 11], [11, 16], [17, 11, 0, 1, 2, 3, 4, 5, 6, 7, 8, 9, 10, 11, 12, 13, 14, 15, 16, 17]] [jL 1, jc 0, jG 2 1, jl 2, jF 0 4, jl 4, ja 1 3 5, jl 6, jL 2, ja 1 7 8, jl 9, jt 10, jg 11 true (.fadd 1) [.v 4], ji 11 true 12, jg 11 true .load1 [.v 3], jg 11 true (.bin .and .int) [.t 13, .t 14], jg 11 true (.bin .eql .int) [.t 15, jn 0], jq .pick [.t 11, .t 16, jB false], jm 5 17])
 .ret))
abbrev rs91 : List RC := [(.v 5)]
theorem fok91 (p : Bool) : FnOk Tryz.prog 91 ⟨ic91, vs91, 24, rs91, p⟩ := .mk2 Tryz.func91 (by kernel_rfl) (by kernel_rfl) (by kernel_rfl) (by kernel_rfl) (by kernel_rfl)
abbrev vs93 : List Nat := [0, 1, 4, 5, 7, 8, 9, 16]
def ic93l0 : IC := (.seq (.region [jw 6 (.bin .lss .int) [.v 5, .v 4]])
 (.seq (.cond 6 .skip
 (.exit 0))
 (.seq (.block 1 (.seq (.region [jv 5, jm 3 0])
 (.seq (.region [jv 1, jv 0, jv 3, ja 2 1 2, jq (.loadN 2) [.t 3], ⟨(.some 7), none, .call, [(.t 0), (.t 4)]⟩])
 (.cond 7 (.seq (.region [jv 3, jm 2 0])
 .ret)
 .skip))))
 (.region [jq (.bin .add .int) [.v 5, jn 1], jm 5 0]))))
def ic93 : IC := (.seq (.region [jz 2 0])
 (.seq (.seq (.region [jv 0, jw 4 (.len false) [.t 0], jz 5 0])
 (.block 0 (.loop ic93l0)))
 (.seq (.region [jz 2 (-1)])
 .ret)))
abbrev rs93 : List RC := [(.v 2)]
theorem fok93 (p : Bool) : FnOk Tryz.prog 93 ⟨ic93, vs93, 19, rs93, p⟩ := .mk2 Tryz.func93 (by kernel_rfl) (by kernel_rfl) (by kernel_rfl) (by kernel_rfl) (by kernel_rfl)
theorem hb94 : Tryz.f94.body = some (Tryz.f94.body.getD .skip) := by kernel_rfl
abbrev vs94 : List Nat := [0, 1, 2, 4, 5, 6, 7]
def ic94 (b94 : Code) : IC := (.seq (.region [jb 2 0, jw 3 .mv [jS]])
 (.seq (.seq (.region [jw 5 .mv [.v 1]])
 (.block 0 (.rangef (.v 5) #[7] (nav [1, 0, 1, 0, 2] b94) (nav [1, 0, 1, 0, 3] b94) (.region [jw 4 (.alloc [(.cv (.int .i64 0)), (.cv (.int .i64 0))]) [], jq (.store 2) [.v 4, .v 6]])
 (.block 1 (.region [jL 2, jN 2 4, jq (.bslice 2 1 [(.cv (.int .i64 0)), (.cv (.int .i64 0))] [(0, 2)]) [.t 1], jq (.append 2 16) [.t 0, .t 2], jq (.store 1) [.v 2, .t 3]])))))
 (.seq (.region [jL 2, jm 3 0])
 .ret)))
theorem cc94 : compC Tryz.prog vs94 Tryz.f94.ntmps (Tryz.f94.body.getD .skip) = some (ic94 (Tryz.f94.body.getD .skip)) := by kernel_rfl
abbrev rs94 : List RC := [(.v 3)]
theorem fok94 (p : Bool) : FnOk Tryz.prog 94 ⟨ic94 (Tryz.f94.body.getD .skip), vs94, 13, rs94, p⟩ := FnOk.mk' Tryz.func94 hb94 (by kernel_rfl) cc94 (by kernel_rfl) (by kernel_rfl)
abbrev vs96 : List Nat := [0, 1, 2, 3, 4]
def ic96 : IC := (.seq (.region [jb 2 0, jb 3 1, jz 4 0])
 (.seq (.dr [[], [0], [], [2], [1, 3], [], [5], [], [7], [6, 8, 4], [4, 9], [10, 9], [11, 11, 0, 1, 2, 3, 4, 5, 6, 7, 8, 9, 10, 11]] [jF 0 2, jl 0, jF 0 3, jl 2, jk 98 [.t 1, .t 3], jF 1 2, jl 5, jF 1 3, jl 7, jk 98 [.t 6, .t 8], jq (.bslice 1 2 [(.cv (.int .i64 0)), (.cv (.int .i64 0))] [(0, 1), (1, 1)]) [.t 4, .t 9], jk 97 [.t 10], jm 4 11])
 .ret))
abbrev rs96 : List RC := [(.v 4)]
theorem fok96 (p : Bool) : FnOk Tryz.prog 96 ⟨ic96, vs96, 17, rs96, p⟩ := .mk2 Tryz.func96 (by kernel_rfl) (by kernel_rfl) (by kernel_rfl) (by kernel_rfl) (by kernel_rfl)
abbrev vs97 : List Nat := [0, 2, 3, 5, 6, 7, 8, 9, 14]
def ic97l0 : IC := (.seq (.region [jw 7 (.bin .lss .int) [.v 6, .v 5]])
 (.seq (.cond 7 .skip
 (.exit 0))
 (.seq (.block 1 (.seq (.region [jq (.iaS 1) [.v 4, .v 6], jl 0, jm 3 1])
 (.seq (.region [jv 3, jv 2, jw 8 (.bin .neq .int) [.t 0, .t 1]])
 (.cond 8 (.seq (.region [jv 3, jm 1 0])
 .ret)
 .skip))))
 (.region [jq (.bin .add .int) [.v 6, jn 1], jm 6 0]))))
def ic97 : IC := (.seq (.region [jz 1 0])
 (.seq (.region [jz 2 0])
 (.seq (.seq (.region [jw 4 .mv [.v 0], jw 5 (.len false) [.v 4], jz 6 0])
 (.block 0 (.loop ic97l0)))
 (.seq (.region [jv 2, jm 1 0])
 .ret))))
abbrev rs97 : List RC := [(.v 1)]
theorem fok97 (p : Bool) : FnOk Tryz.prog 97 ⟨ic97, vs97, 18, rs97, p⟩ := .mk2 Tryz.func97 (by kernel_rfl) (by kernel_rfl) (by kernel_rfl) (by kernel_rfl) (by kernel_rfl)
abbrev vs98 : List Nat := [0, 1, 4, 5, 6, 11, 12, 13, 16, 19]
def ic98 : IC := (.seq (.region [jz 2 0])
 (.seq (.region [jv 0, jk 117 [.t 0], jm 3 1])
 (.seq (.region [jv 1, jk 117 [.t 0], jm 4 1])
 (.seq (.seq (.region [jw 5 .mv [.v 3]])
 (.cond 5 (.seq (.seq (.region [jw 6 .mv [.v 4]])
 (.cond 6 (.seq (.region [jz 2 0])
 .ret)
 .skip))
 (.seq (.region [jz 2 (-1)])
 .ret))
 .skip))
 (.seq (.seq (.region [jw 7 .mv [.v 4]])
 (.cond 7 (.seq (.region [jz 2 1])
 .ret)
 .skip))
 (.seq (.seq (.region [jv 0, jv 1, jw 8 (.bin .lss .int) [.t 0, .t 1]])
 (.cond 8 (.seq (.region [jz 2 (-1)])
 .ret)
 .skip))
 (.seq (.seq (.region [jv 0, jv 1, jw 9 (.bin .gtr .int) [.t 0, .t 1]])
 (.cond 9 (.seq (.region [jz 2 1])
 .ret)
 .skip))
 (.seq (.region [jz 2 0])
 .ret))))))))
abbrev rs98 : List RC := [(.v 2)]
theorem fok98 (p : Bool) : FnOk Tryz.prog 98 ⟨ic98, vs98, 20, rs98, p⟩ := .mk2 Tryz.func98 (by kernel_rfl) (by kernel_rfl) (by kernel_rfl) (by kernel_rfl) (by kernel_rfl)
abbrev vs99 : List Nat := [0, 1, 2]
def ic99 : IC := (.seq (.region [jb 1 0, jw 2 .mv [.c (.cv .nilf)]])
 (.seq (.region [jq (.mkfn (.func 118)) [.v 1], jm 2 0])
 .ret))
abbrev rs99 : List RC := [(.v 2)]
theorem fok99 (p : Bool) : FnOk Tryz.prog 99 ⟨ic99, vs99, 4, rs99, p⟩ := .mk2 Tryz.func99 (by kernel_rfl) (by kernel_rfl) (by kernel_rfl) (by kernel_rfl) (by kernel_rfl)
abbrev vs103 : List Nat := [0, 1, 4, 5, 6, 7, 8, 9, 10, 11, 20]
def ic103l0 : IC := (.seq (.region [jw 9 (.bin .lss .int) [.v 8, .v 7]])
 (.seq (.cond 9 .skip
 (.exit 0))
 (.seq (.block 1 (.seq (.region [jv 8, jq (.iaS 5) [.v 6, .v 8], jq (.loadN 5) [.t 1], jw 5 (.alloc [(.cv (.str (bts []))), (.cv .nils), (.cv (.int .i64 0)), (.cv (.int .i64 0)), (.cv (.int .i64 0))]) [], jm 4 0, jq (.store 5) [.v 5, .t 2]])
 (.seq (.region [jv 1, jv 4, jN 5 5, ⟨none, none, .call, [(.t 0), (.t 1), (.t 2)]⟩, jm 3 3])
 (.seq (.region [jv 3, jw 10 (.bin .neq .int) [.t 0, jn 0]])
 (.cond 10 (.seq (.region [jv 4, jv 3, jm 2 0, jm 3 1])
 .ret)
 .skip)))))
 (.region [jq (.bin .add .int) [.v 8, jn 1], jm 8 0]))))
def ic103 : IC := (.seq (.region [jz 2 0, jz 3 0])
 (.seq (.seq (.region [jw 6 .mv [.v 0], jw 7 (.len false) [.v 6], jz 8 0])
 (.block 0 (.loop ic103l0)))
 (.seq (.region [jz 2 0, jz 3 0])
 .ret)))
abbrev rs103 : List RC := [(.v 2), (.v 3)]
theorem fok103 (p : Bool) : FnOk Tryz.prog 103 ⟨ic103, vs103, 24, rs103, p⟩ := .mk2 Tryz.func103 (by kernel_rfl) (by kernel_rfl) (by kernel_rfl) (by kernel_rfl) (by kernel_rfl)
abbrev vs104 : List Nat := [0, 1, 2, 5, 6, 7, 15, 20, 30, 41, 53, 58]
def ic104 : IC := (.seq (.region [jb 3 2, jz 4 0])
 (.seq (.region [jv 0, jc 0, jG 0 1, jG 0 2, jl 3, je 4, jq (.bin .sub .int) [.t 5, jn 1], jm 5 6])
 (.seq (.block 0 (.seq (.region [jF 0 3, jl 0, jk 20 [.t 1], jq .not [.t 2], jm 6 3])
 (.cond 6 (.seq (.region [jz 4 6])
 .ret)
 (.seq (.region [jv 0, jc 0, jG 0 1, jG 0 2, jl 3, jv 1, jq (.slS 5 false true) [.t 4, .t 5], jq (.mkfn (.func 122)) [.v 3], jk 121 [.t 6, .t 7], jm 7 8])
 (.cond 7 (.seq (.region [jz 4 5])
 .ret)
 (.seq (.dr [[], [0], [1], [], [3], [4], [5], [6], [7], [2, 8], [9]] [jF 1 3, jl 0, je 1, jv 0, jc 3, jG 0 4, jG 0 5, jl 6, je 7, jq (.bin .gtr .int) [.t 2, .t 8], jm 8 9])
 (.cond 8 (.seq (.region [jz 4 3])
 .ret)
 (.seq (.region [jv 5, jF 1 3, jl 1, jk 56 [jn 0, .t 0, .t 2], jt 3, jh 4 false 5, jg 4 false (.fadd 2) [.v 3], ji 4 false 6, jg 4 false (.bslice 1 1 [(.cv (.int .i64 0))] [(0, 1)]) [.t 7], jf 4 false 56 [jn (-1), .t 5, .t 8], jq .pick [.t 4, jB true, .t 9], jm 9 10])
 (.cond 9 (.seq (.region [jz 4 4])
 .ret)
 (.seq (.region [jF 2 3, jl 0, jv 1, jq (.bin .eql .int) [.t 1, .t 2], jm 10 3])
 (.cond 10 (.seq (.region [jz 4 2])
 .ret)
 (.seq (.region [jF 3 3, jl 0, jF 4 3, jl 2, jq (.bslice 1 2 [(.cv (.int .i64 0)), (.cv (.int .i64 0))] [(0, 1), (1, 1)]) [.t 1, .t 3], jk 56 [jn 0, jn 100, .t 4], jm 11 5])
 (.cond 11 (.seq (.region [jz 4 7])
 .ret)
 .skip)))))))))))))
 (.seq (.region [jz 4 0])
 .ret))))
abbrev rs104 : List RC := [(.v 4)]
theorem fok104 (p : Bool) : FnOk Tryz.prog 104 ⟨ic104, vs104, 65, rs104, p⟩ := .mk2 Tryz.func104 (by kernel_rfl) (by kernel_rfl) (by kernel_rfl) (by kernel_rfl) (by kernel_rfl)
abbrev vs105 : List Nat := [0, 1, 4, 5, 6, 7, 8, 9, 10, 11, 20]
def ic105l0 : IC := (.seq (.region [jw 9 (.bin .lss .int) [.v 8, .v 7]])
 (.seq (.cond 9 .skip
 (.exit 0))
 (.seq (.block 1 (.seq (.region [jv 8, jq (.iaS 1) [.v 6, .v 8], jl 1, jm 4 0, jm 5 2])
 (.seq (.region [jv 1, jv 4, jv 5, ⟨none, none, .call, [(.t 0), (.t 1), (.t 2)]⟩, jm 3 3])
 (.seq (.region [jv 3, jw 10 (.bin .neq .int) [.t 0, jn 0]])
 (.cond 10 (.seq (.region [jv 4, jv 3, jm 2 0, jm 3 1])
 .ret)
 .skip)))))
 (.region [jq (.bin .add .int) [.v 8, jn 1], jm 8 0]))))
def ic105 : IC := (.seq (.region [jz 2 0, jz 3 0])
 (.seq (.seq (.region [jw 6 .mv [.v 0], jw 7 (.len false) [.v 6], jz 8 0])
 (.block 0 (.loop ic105l0)))
 (.seq (.region [jz 2 0, jz 3 0])
 .ret)))
abbrev rs105 : List RC := [(.v 2), (.v 3)]
theorem fok105 (p : Bool) : FnOk Tryz.prog 105 ⟨ic105, vs105, 24, rs105, p⟩ := .mk2 Tryz.func105 (by kernel_rfl) (by kernel_rfl) (by kernel_rfl) (by kernel_rfl) (by kernel_rfl)
abbrev vs106 : List Nat := [0, 1, 2, 6, 7, 11]
def ic106 : IC := (.seq (.region [jz 3 0])
 (.seq (.block 0 (.seq (.region [jv 2, jk 20 [.t 0], jq .not [.t 1], jm 4 2])
 (.cond 4 (.seq (.region [jz 3 6])
 .ret)
 (.seq (.region [jv 0, jc 0, jG 0 1, jG 1 2, jl 3, jv 1, jq (.slS 1 false true) [.t 4, .t 5], jv 2, jk 123 [.t 6, .t 7], jm 5 8])
 (.cond 5 (.seq (.region [jz 3 5])
 .ret)
 .skip)))))
 (.seq (.region [jz 3 0])
 .ret)))
abbrev rs106 : List RC := [(.v 3)]
theorem fok106 (p : Bool) : FnOk Tryz.prog 106 ⟨ic106, vs106, 21, rs106, p⟩ := .mk2 Tryz.func106 (by kernel_rfl) (by kernel_rfl) (by kernel_rfl) (by kernel_rfl) (by kernel_rfl)
abbrev vs107 : List Nat := [0, 1, 2, 3, 4, 10, 11, 12]
def ic107l0 : IC := (.seq (.region [jw 7 (.bin .lss .int) [.v 6, .v 5]])
 (.seq (.cond 7 .skip
 (.exit 0))
 (.seq (.block 1 (.seq (.region [jv 6, jm 2 0])
 (.seq (.region [jL 1, jc 0, jG 0 1, jG 0 2, jl 3, je 4, jq (.mkslice 1 1 [(.cv (.bool false))]) [.t 5, .t 5], jw 3 (.alloc [(.cv .nils)]) [], jq (.store 1) [.v 3, .t 6]])
 (.seq (.region [jw 4 (.alloc [(.cv .nilf)]) []])
 (.seq (.region [jq (.mkfn (.func 124)) [.v 3, .v 1, .v 4], jq (.store 1) [.v 4, .t 0]])
 (.seq (.region [jL 4, jv 2, ⟨none, none, .call, [(.t 0), (.t 1)]⟩])
 (.dr [[], [], [1], [2], [3], [], [5], [4, 6], [0, 0, 1, 2, 3, 4, 5, 6, 7], [8, 0, 1, 2, 3, 4, 5, 6, 7], [9, 7, 7, 0, 1, 2, 3, 4, 5, 6, 7]] [jL 1, jL 1, jc 1, jG 2 2, jl 3, jL 3, jq (.bslice 1 1 [(.cv .nils)] [(0, 1)]) [.t 5], jq (.append 1 24) [.t 4, .t 6], jc 0, jG 2 8, jq (.store 1) [.t 9, .t 7]])))))))
 (.region [jq (.bin .add .int) [.v 6, jn 1], jm 6 0]))))
def ic107 : IC := (.seq (.region [jb 1 0])
 (.seq (.region [jL 1, jc 0, jG 0 1, jG 0 2, jl 3, jw 5 (.len false) [.t 4], jz 6 0])
 (.block 0 (.loop ic107l0))))
abbrev rs107 : List RC := []
theorem fok107 (p : Bool) : FnOk Tryz.prog 107 ⟨ic107, vs107, 36, rs107, p⟩ := .mk2 Tryz.func107 (by kernel_rfl) (by kernel_rfl) (by kernel_rfl) (by kernel_rfl) (by kernel_rfl)
abbrev vs108 : List Nat := [0, 1, 2, 4]
def ic108 : IC := (.seq (.region [jw 3 .mv [jB false]])
 (.seq (.dr [[], [0], [1], [2], [], [3, 4], [5], [], [6, 7], [8], [9, 0, 1, 2, 3, 4, 5, 6, 7, 8, 9]] [jL 1, jc 0, jG 2 1, jl 2, jv 0, ja 1 3 4, jl 5, jL 2, ja 1 6 7, jl 8, jm 3 9])
 .ret))
abbrev rs108 : List RC := [(.v 3)]
theorem fok108 (p : Bool) : FnOk Tryz.prog 108 ⟨ic108, vs108, 15, rs108, p⟩ := .mk2 Tryz.func108 (by kernel_rfl) (by kernel_rfl) (by kernel_rfl) (by kernel_rfl) (by kernel_rfl)
abbrev vs109 : List Nat := [0, 1, 2, 3, 4, 5, 6]
def ic109 : IC := (.seq (.region [jb 3 0, jb 4 1, jb 5 2, jw 6 .mv [.c (.cv .nilf)]])
 (.seq (.region [jq (.mkfn (.func 125)) [.v 4, .v 3, .v 5], jm 6 0])
 .ret))
abbrev rs109 : List RC := [(.v 6)]
theorem fok109 (p : Bool) : FnOk Tryz.prog 109 ⟨ic109, vs109, 8, rs109, p⟩ := .mk2 Tryz.func109 (by kernel_rfl) (by kernel_rfl) (by kernel_rfl) (by kernel_rfl) (by kernel_rfl)
abbrev vs110 : List Nat := [0, 1, 2, 3, 8, 9, 10, 11, 13, 15, 20, 36, 41]
def ic110l0 : IC := (.seq (.seq (.region [jv 6, jv 3, jw 11 (.bin .lss .int) [.t 0, .t 1]])
 (.cond 11 .skip
 (.exit 0)))
 (.block 1 (.seq (.region [jv 0, jv 1, jk 127 [.t 0, .t 1], jm 7 2])
 (.seq (.seq (.region [jv 7, jw 12 (.bin .lss .int) [.t 0, jn 0]])
 (.cond 12 (.exit 0)
 .skip))
 (.seq (.region [jv 5, jv 6, jv 0, jv 7, jv 2, jq (.bin .add .int) [.t 3, .t 4], jq (.slStr false true) [.t 2, .t 5], ja 1 0 1, jq (.store 1) [.t 7, .t 6]])
 (.seq (.region [jv 0, jv 7, jv 1, jq (.len true) [.t 2], jq (.bin .add .int) [.t 1, .t 3], jq (.slStr true false) [.t 0, .t 4], jm 0 5])
 (.region [jv 6, jq (.bin .add .int) [.t 0, jn 1], jm 6 1])))))))
def ic110 : IC := (.seq (.region [jw 4 .mv [jS]])
 (.seq (.seq (.region [jv 3, jw 8 (.bin .eql .int) [.t 0, jn 0]])
 (.cond 8 (.seq (.region [jw 4 .mv [jS]])
 .ret)
 .skip))
 (.seq (.seq (.region [jv 1, jw 9 (.bin .eql .str) [.t 0, .c (.cv (.str (bts [])))]])
 (.cond 9 (.seq (.region [jv 0, jv 3, jk 128 [.t 0, .t 1], jm 4 2])
 .ret)
 .skip))
 (.seq (.seq (.region [jv 3, jw 10 (.bin .lss .int) [.t 0, jn 0]])
 (.cond 10 (.region [jv 0, jv 1, jk 129 [.t 0, .t 1], jq (.bin .add .int) [.t 2, jn 1], jm 3 3])
 .skip))
 (.seq (.region [jv 3, jv 0, jq (.len true) [.t 1], jq (.bin .add .int) [.t 2, jn 1], jq .min2 [.t 0, .t 3], jm 3 4])
 (.seq (.region [jv 3, jq (.mkslice 1 16 [(.cv (.str (bts [])))]) [.t 0, .t 0], jm 5 1])
 (.seq (.region [jv 3, jq (.bin .sub .int) [.t 0, jn 1], jm 3 1])
 (.seq (.region [jz 6 0])
 (.seq (.block 0 (.loop ic110l0))
 (.seq (.region [jv 5, jv 6, jv 0, ja 1 0 1, jq (.store 1) [.t 3, .t 2]])
 (.seq (.region [jv 5, jv 6, jq (.bin .add .int) [.t 1, jn 1], jq (.slS 1 false true) [.t 0, .t 2], jm 4 3])
 .ret)))))))))))
abbrev rs110 : List RC := [(.v 4)]
theorem fok110 (p : Bool) : FnOk Tryz.prog 110 ⟨ic110, vs110, 66, rs110, p⟩ := .mk2 Tryz.func110 (by kernel_rfl) (by kernel_rfl) (by kernel_rfl) (by kernel_rfl) (by kernel_rfl)
abbrev vs112 : List Nat := [0, 1, 4, 5, 6, 7, 8, 9, 10, 11, 20]
def ic112l0 : IC := (.seq (.region [jw 9 (.bin .lss .int) [.v 8, .v 7]])
 (.seq (.cond 9 .skip
 (.exit 0))
 (.seq (.block 1 (.seq (.region [jv 8, jq (.iaS 2) [.v 6, .v 8], jq (.loadN 2) [.t 1], jw 5 (.alloc [(.cv (.int .i64 0)), (.cv (.int .i64 0))]) [], jm 4 0, jq (.store 2) [.v 5, .t 2]])
 (.seq (.region [jv 1, jv 4, jN 2 5, ⟨none, none, .call, [(.t 0), (.t 1), (.t 2)]⟩, jm 3 3])
 (.seq (.region [jv 3, jw 10 (.bin .neq .int) [.t 0, jn 0]])
 (.cond 10 (.seq (.region [jv 4, jv 3, jm 2 0, jm 3 1])
 .ret)
 .skip)))))
 (.region [jq (.bin .add .int) [.v 8, jn 1], jm 8 0]))))
def ic112 : IC := (.seq (.region [jz 2 0, jz 3 0])
 (.seq (.seq (.region [jw 6 .mv [.v 0], jw 7 (.len false) [.v 6], jz 8 0])
 (.block 0 (.loop ic112l0)))
 (.seq (.region [jz 2 0, jz 3 0])
 .ret)))
abbrev rs112 : List RC := [(.v 2), (.v 3)]
theorem fok112 (p : Bool) : FnOk Tryz.prog 112 ⟨ic112, vs112, 24, rs112, p⟩ := .mk2 Tryz.func112 (by kernel_rfl) (by kernel_rfl) (by kernel_rfl) (by kernel_rfl) (by kernel_rfl)
abbrev vs113 : List Nat := [0, 1, 2, 4, 5, 6, 18]
def ic113 : IC := (.seq (.region [jb 3 1, jz 4 0])
 (.seq (.block 0 (.seq (.dr [[], [0], [1], [2], [3], [4], [5], [], [7], [8], [6, 9], [10, 10]] [jL 2, jc 0, jG 0 1, jG 0 2, jl 3, je 4, jq (.bin .sub .int) [.t 5, jn 1], jF 0 3, jl 7, jq (.bslice 1 1 [(.cv (.int .i64 0))] [(0, 1)]) [.t 8], jk 56 [jn 0, .t 6, .t 9], jm 5 10])
 (.cond 5 (.seq (.region [jz 4 4])
 .ret)
 (.seq (.dr [[], [0], [1], [], [3], [4], [2, 5, 1], [6, 6]] [jL 2, jk 64 [.t 0], jq (.bin .sub .int) [.t 1, jn 1], jF 1 3, jl 3, jq (.bslice 1 1 [(.cv (.int .i64 0))] [(0, 1)]) [.t 4], jk 56 [jn 0, .t 2, .t 5], jm 6 6])
 (.cond 6 (.seq (.region [jz 4 7])
 .ret)
 .skip)))))
 (.seq (.region [jz 4 0])
 .ret)))
abbrev rs113 : List RC := [(.v 4)]
theorem fok113 (p : Bool) : FnOk Tryz.prog 113 ⟨ic113, vs113, 26, rs113, p⟩ := .mk2 Tryz.func113 (by kernel_rfl) (by kernel_rfl) (by kernel_rfl) (by kernel_rfl) (by kernel_rfl)
abbrev vs116 : List Nat := [0, 2]
def ic116 : IC := (.seq (.region [jz 1 0])
 (.seq .skip
 (.seq (.region [jv 0, jk 139 [.t 0], jm 1 1])
 .ret)))
abbrev rs116 : List RC := [(.v 1)]
theorem fok116 (p : Bool) : FnOk Tryz.prog 116 ⟨ic116, vs116, 8, rs116, p⟩ := .mk2 Tryz.func116 (by kernel_rfl) (by kernel_rfl) (by kernel_rfl) (by kernel_rfl) (by kernel_rfl)
abbrev vs117 : List Nat := [0, 2]
def ic117 : IC := (.seq (.region [jw 1 .mv [jB false]])
 (.seq (.region [jv 0, jv 0, jq (.bin .neq .int) [.t 0, .t 1], jm 1 2])
 .ret))
abbrev rs117 : List RC := [(.v 1)]
theorem fok117 (p : Bool) : FnOk Tryz.prog 117 ⟨ic117, vs117, 6, rs117, p⟩ := .mk2 Tryz.func117 (by kernel_rfl) (by kernel_rfl) (by kernel_rfl) (by kernel_rfl) (by kernel_rfl)
abbrev vs118 : List Nat := [0, 1, 4, 5, 6, 7, 8, 14]
def ic118l0 : IC := (.seq (.region [jw 6 (.bin .lss .int) [.v 5, .v 4]])
 (.seq (.cond 6 .skip
 (.exit 0))
 (.seq (.block 1 (.seq (.region [jq (.iaS 2) [.v 3, .v 5], jq (.loadN 2) [.t 0], jw 2 (.alloc [(.cv (.int .i64 0)), (.cv (.int .i64 0))]) [], jq (.store 2) [.v 2, .t 1]])
 (.seq (.region [jv 0, jN 2 2, ⟨none, none, .call, [(.t 0), (.t 1)]⟩, jw 7 .not [.t 2]])
 (.cond 7 .ret
 .skip))))
 (.region [jq (.bin .add .int) [.v 5, jn 1], jm 5 0]))))
def ic118 : IC := (.seq (.region [jw 3 .load1 [.v 1], jw 4 (.len false) [.v 3], jz 5 0])
 (.block 0 (.loop ic118l0)))
abbrev rs118 : List RC := []
theorem fok118 (p : Bool) : FnOk Tryz.prog 118 ⟨ic118, vs118, 16, rs118, p⟩ := .mk2 Tryz.func118 (by kernel_rfl) (by kernel_rfl) (by kernel_rfl) (by kernel_rfl) (by kernel_rfl)
abbrev vs121 : List Nat := [0, 1, 4]
def ic121 : IC := (.seq (.region [jw 2 .mv [jB false]])
 (.seq (.region [jv 0, jv 1, jk 79 [.t 0, .t 1], jq (.bin .geq .int) [.t 2, jn 0], jm 2 3])
 .ret))
abbrev rs121 : List RC := [(.v 2)]
theorem fok121 (p : Bool) : FnOk Tryz.prog 121 ⟨ic121, vs121, 9, rs121, p⟩ := .mk2 Tryz.func121 (by kernel_rfl) (by kernel_rfl) (by kernel_rfl) (by kernel_rfl) (by kernel_rfl)
abbrev vs122 : List Nat := [0, 1, 2, 3]
def ic122 : IC := (.seq (.region [jb 2 0, jw 3 .mv [jB false]])
 (.seq (.region [jF 0 2, jl 0, jF 0 1, jl 2, jq (.bin .eql .str) [.t 1, .t 3], jm 3 4])
 .ret))
abbrev rs122 : List RC := [(.v 3)]
theorem fok122 (p : Bool) : FnOk Tryz.prog 122 ⟨ic122, vs122, 9, rs122, p⟩ := .mk2 Tryz.func122 (by kernel_rfl) (by kernel_rfl) (by kernel_rfl) (by kernel_rfl) (by kernel_rfl)
abbrev vs123 : List Nat := [0, 1, 4]
def ic123 : IC := (.seq (.region [jw 2 .mv [jB false]])
 (.seq (.region [jv 0, jv 1, jk 81 [.t 0, .t 1], jq (.bin .geq .int) [.t 2, jn 0], jm 2 3])
 .ret))
abbrev rs123 : List RC := [(.v 2)]
theorem fok123 (p : Bool) : FnOk Tryz.prog 123 ⟨ic123, vs123, 9, rs123, p⟩ := .mk2 Tryz.func123 (by kernel_rfl) (by kernel_rfl) (by kernel_rfl) (by kernel_rfl) (by kernel_rfl)
abbrev vs124 : List Nat := [0, 1, 2, 3, 6, 10, 22, 23, 24, 25]
def ic124l0 : IC := (.seq (.region [jw 9 (.bin .lss .int) [.v 8, .v 7]])
 (.seq (.cond 9 .skip
 (.exit 0))
 (.seq (.block 1 (.seq (.region [jq (.iaS 1) [.v 6, .v 8], jl 0, jm 4 1])
 (.region [jL 3, jv 4, ⟨none, none, .call, [(.t 0), (.t 1)]⟩])))
 (.region [jq (.bin .add .int) [.v 8, jn 1], jm 8 0]))))
def ic124 : IC := (.seq (.seq (.region [jL 1, jv 0, ja 1 0 1, jw 5 .load1 [.t 2]])
 (.cond 5 .ret
 .skip))
 (.seq (.region [jL 1, jv 0, ja 1 0 1, jq (.store 1) [.t 2, jB true]])
 (.seq (.region [jL 2, jc 0, jG 0 1, jG 0 2, jl 3, jv 0, ja 5 4 5, jG 1 6, jw 6 .load1 [.t 7], jw 7 (.len false) [.v 6], jz 8 0])
 (.block 0 (.loop ic124l0)))))
abbrev rs124 : List RC := []
theorem fok124 (p : Bool) : FnOk Tryz.prog 124 ⟨ic124, vs124, 32, rs124, p⟩ := .mk2 Tryz.func124 (by kernel_rfl) (by kernel_rfl) (by kernel_rfl) (by kernel_rfl) (by kernel_rfl)
abbrev vs125 : List Nat := [0, 1, 2, 3, 6, 7, 8, 11, 14, 25, 33, 42]
def ic125l0 : IC := (.block 3 (.seq (.region [jL 2, jL 1, jk 127 [.t 0, .t 1], jm 5 2])
 (.seq (.seq (.region [jv 5, jw 10 (.bin .lss .int) [.t 0, jn 0]])
 (.cond 10 (.exit 2)
 .skip))
 (.seq (.region [jL 2, jv 5, jL 3, jq (.bin .add .int) [.t 1, .t 2], jq (.slStr false true) [.t 0, .t 3], jm 6 4])
 (.seq (.seq (.region [jv 0, jv 6, ⟨none, none, .call, [(.t 0), (.t 1)]⟩, jw 11 .not [.t 2]])
 (.cond 11 .ret
 .skip))
 (.region [jL 2, jv 5, jL 1, jq (.len true) [.t 2], jq (.bin .add .int) [.t 1, .t 3], jq (.slStr true false) [.t 0, .t 4], jq (.store 1) [.v 2, .t 5]]))))))
def ic125l1 : IC := (.seq (.seq (.region [jL 2, jq (.len true) [.t 0], jw 8 (.bin .gtr .int) [.t 1, jn 0]])
 (.cond 8 .skip
 (.exit 0)))
 (.block 1 (.seq (.region [jL 2, jk 126 [.t 0], jt 1, jx 0 2, jx 1 2, jt 3, jm 4 4])
 (.seq (.seq (.region [jv 0, jL 2, jv 4, jq (.slStr false true) [.t 1, .t 2], ⟨none, none, .call, [(.t 0), (.t 3)]⟩, jw 9 .not [.t 4]])
 (.cond 9 .ret
 .skip))
 (.region [jL 2, jv 4, jq (.slStr true false) [.t 0, .t 1], jq (.store 1) [.v 2, .t 2]])))))
def ic125 : IC := (.seq (.seq (.region [jL 1, jq (.len true) [.t 0], jw 7 (.bin .eql .int) [.t 1, jn 0]])
 (.cond 7 (.seq (.block 0 (.loop ic125l1))
 .ret)
 .skip))
 (.seq (.block 2 (.loop ic125l0))
 (.region [jv 0, jL 2, ⟨none, none, .call, [(.t 0), (.t 1)]⟩])))
abbrev rs125 : List RC := []
theorem fok125 (p : Bool) : FnOk Tryz.prog 125 ⟨ic125, vs125, 52, rs125, p⟩ := .mk2 Tryz.func125 (by kernel_rfl) (by kernel_rfl) (by kernel_rfl) (by kernel_rfl) (by kernel_rfl)
abbrev vs127 : List Nat := [0, 1, 4]
def ic127 : IC := (.seq (.region [jz 2 0])
 (.seq (.region [jv 0, jv 1, jk 143 [.t 0, .t 1], jm 2 2])
 .ret))
abbrev rs127 : List RC := [(.v 2)]
theorem fok127 (p : Bool) : FnOk Tryz.prog 127 ⟨ic127, vs127, 8, rs127, p⟩ := .mk2 Tryz.func127 (by kernel_rfl) (by kernel_rfl) (by kernel_rfl) (by kernel_rfl) (by kernel_rfl)
theorem hb67 : Tryz.f67.body = some (Tryz.f67.body.getD .skip) := by kernel_rfl
abbrev vs67 : List Nat := [0, 1, 2, 4, 5, 6, 7, 8, 9, 11, 12, 13, 14, 23, 24, 26, 27, 52]
def ic67l0 : IC := (.seq (.region [jw 12 (.bin .lss .int) [.v 11, .v 10]])
 (.seq (.cond 12 .skip
 (.exit 0))
 (.seq (.block 1 (.seq (.region [jv 11, jq (.iaS 2) [.v 9, .v 11], jq (.loadN 2) [.t 1], jw 6 (.alloc [(.cv (.int .i64 0)), (.cv (.int .i64 0))]) [], jm 5 0, jq (.store 2) [.v 6, .t 2]])
 (.region [jL 4, jN 2 6, jv 5, jq (.mapset (true, [(.int .i64), (.int .i64)])) [.t 0, .t 1, .t 2]])))
 (.region [jq (.bin .add .int) [.v 11, jn 1], jm 11 0]))))
def ic67 (b67 : Code) : IC := (.seq (.region [jb 2 0, jw 3 .mv [jS]])
 (.seq (.region [jq .mkmap [], jw 4 (.alloc [(.cv .nilm)]) [], jq (.store 1) [.v 4, .t 0]])
 (.seq (.seq (.region [jw 9 .mv [.v 1], jw 10 (.len false) [.v 9], jz 11 0])
 (.block 0 (.loop ic67l0)))
 (.seq (.seq (.region [jL 4, jd 13 72 [.t 0]])
 (.block 2 (.rangef (.v 13) #[24] (nav [1, 1, 1, 0, 1, 0, 2] b67) (nav [1, 1, 1, 0, 1, 0, 3] b67) (.region [jw 7 (.alloc [(.cv (.int .i64 0)), (.cv (.int .i64 0))]) [], jq (.store 2) [.v 7, .v 14]])
 (.block 3 (.seq (.region [jL 4, jd 15 72 [.t 0]])
 (.block 4 (.rangef (.v 15) #[27] (nav [1, 1, 1, 0, 1, 0, 3, 0, 1, 0, 2] b67) (nav [1, 1, 1, 0, 1, 0, 3, 0, 1, 0, 3] b67) (.region [jw 8 (.alloc [(.cv (.int .i64 0)), (.cv (.int .i64 0))]) [], jq (.store 2) [.v 8, .v 16]])
 (.block 5 (.seq (.dr [[], [], [0, 1], [2], [3], [4, 3], [5, 3], [6, 3], [3], [8, 3], [7, 9, 3], [10, 3], [3], [12, 3], [11, 13, 3], [14, 3], [3, 15], [16, 3], [17], [18, 17], [17], [20, 17], [19, 21, 17], [22, 17], [17, 23]] [jN 2 8, jN 2 7, jq (.eqS true (true, [(.int .i64), (.int .i64)])) [.t 0, .t 1], jt 2, jg 3 true .load1 [.v 2], jg 3 true .nilck [.t 4], jg 3 true (.fadd 2) [.t 5], ji 3 true 6, jg 3 true (.fadd 0) [.v 7], ji 3 true 8, jg 3 true (.iaS 1) [.t 7, .t 9], ji 3 true 10, jg 3 true (.fadd 0) [.v 8], ji 3 true 12, jg 3 true (.iaS 1) [.t 11, .t 13], ji 3 true 14, jq .pick [.t 3, .t 15, jB false], jt 16, jg 17 true (.fadd 1) [.v 7], ji 17 true 18, jg 17 true (.fadd 1) [.v 8], ji 17 true 20, jg 17 true (.bin .andNot .int) [.t 19, .t 21], jg 17 true (.bin .eql .int) [.t 22, jn 0], jw 17 .pick [.t 17, .t 23, jB false]])
 (.cond 17 (.region [jL 4, jN 2 8, jq (.mapdel (true, [(.int .i64), (.int .i64)])) [.t 0, .t 1]])
 .skip))))))))))
 (.seq (.region [jL 4, jk 72 [.t 0], jk 71 [.t 1], jm 3 2])
 .ret)))))
theorem cc67 : compC Tryz.prog vs67 Tryz.f67.ntmps (Tryz.f67.body.getD .skip) = some (ic67 (Tryz.f67.body.getD .skip)) := by kernel_rfl
abbrev rs67 : List RC := [(.v 3)]
theorem fok67 (p : Bool) : FnOk Tryz.prog 67 ⟨ic67 (Tryz.f67.body.getD .skip), vs67, 58, rs67, p⟩ := FnOk.mk' Tryz.func67 hb67 (by kernel_rfl) cc67 (by kernel_rfl) (by kernel_rfl)
abbrev vs95 : List Nat := [0, 1, 4]
def ic95 : IC := (.seq (.region [jv 0, je 0, jm 2 1])
 (.region [jv 0, jv 2, jv 2, jq (.conv .u64) [.t 2], jk 116 [.t 3], jv 1, jk 115 [.t 0, jn 0, .t 1, .t 4, .t 5]]))
abbrev rs95 : List RC := []
theorem fok95 (p : Bool) : FnOk Tryz.prog 95 ⟨ic95, vs95, 14, rs95, p⟩ := .mk2 Tryz.func95 (by kernel_rfl) (by kernel_rfl) (by kernel_rfl) (by kernel_rfl) (by kernel_rfl)
abbrev vs115 : List Nat := [0, 1, 2, 3, 4, 10, 11, 12, 13, 14, 15, 16, 17, 18, 19, 20, 25, 32, 39, 56, 75, 80, 97, 125]
def ic115l0 : IC := (.block 1 (.seq (.region [jv 2, jv 1, jq (.bin .sub .int) [.t 0, .t 1], jm 7 2])
 (.seq (.seq (.region [jv 7, jw 16 (.bin .leq .int) [.t 0, jn 12]])
 (.cond 16 (.seq (.region [jv 0, jv 1, jv 2, jv 4, jk 130 [.t 0, .t 1, .t 2, .t 3]])
 .ret)
 .skip))
 (.seq (.seq (.region [jv 3, jw 17 (.bin .eql .int) [.t 0, jn 0]])
 (.cond 17 (.seq (.region [jv 0, jv 1, jv 2, jv 4, jk 131 [.t 0, .t 1, .t 2, .t 3]])
 .ret)
 .skip))
 (.seq (.seq (.region [jv 5, jw 18 .not [.t 0]])
 (.cond 18 (.seq (.region [jv 0, jv 1, jv 2, jv 4, jk 132 [.t 0, .t 1, .t 2, .t 3]])
 (.region [jv 3, jq (.bin .sub .int) [.t 0, jn 1], jm 3 1]))
 .skip))
 (.seq (.region [jv 0, jv 1, jv 2, jv 4, jk 133 [.t 0, .t 1, .t 2, .t 3], jt 4, jx 0 5, jx 1 5, jm 8 6, jm 9 7])
 (.seq (.seq (.region [jv 9, jw 19 (.bin .eql .int) [.t 0, jn 2]])
 (.cond 19 (.seq (.region [jv 0, jv 1, jv 2, jv 4, jk 134 [.t 0, .t 1, .t 2, .t 3]])
 (.seq (.region [jv 2, jq (.bin .sub .int) [.t 0, jn 1], jv 8, jv 1, jq (.bin .sub .int) [.t 2, .t 3], jq (.bin .sub .int) [.t 1, .t 4], jm 8 5])
 (.region [jz 9 1])))
 .skip))
 (.seq (.seq (.region [jv 5, jt 0, jh 1 true 6, jq .pick [.t 1, .t 2, jB false], jt 3, jh 4 true 9, jg 4 true (.bin .eql .int) [.t 5, jn 1], jw 20 .pick [.t 4, .t 6, jB false]])
 (.cond 20 (.seq (.region [jv 0, jv 1, jv 2, jv 4, jd 21 135 [.t 0, .t 1, .t 2, .t 3]])
 (.cond 21 .ret
 .skip))
 .skip))
 (.seq (.seq (.dr [[], [0], [1], [2], [2], [2], [5, 2], [4, 6, 2], [7, 2], [2], [2], [9, 10, 2], [11, 2], [3, 8, 12, 2, 2], [13, 2], [14, 2], [2, 15]] [jv 1, jq (.bin .gtr .int) [.t 0, jn 0], jt 1, jh 2 true 4, jh 2 true 0, jh 2 true 1, jg 2 true (.bin .sub .int) [.t 5, jn 1], jg 2 true (.iaS 2) [.t 4, .t 6], jg 2 true (.loadN 2) [.t 7], jh 2 true 0, jh 2 true 8, jg 2 true (.iaS 2) [.t 9, .t 10], jg 2 true (.loadN 2) [.t 11], ⟨none, (.some (2, true)), .call, [(.t 3), (.t 8), (.t 12)]⟩, jg 2 true (.bin .lss .int) [.t 13, jn 0], jg 2 true .not [.t 14], jw 22 .pick [.t 2, .t 15, jB false]])
 (.cond 22 (.seq (.region [jv 0, jv 1, jv 2, jv 8, jv 4, jk 136 [.t 0, .t 1, .t 2, .t 3, .t 4], jm 10 5])
 (.seq (.region [jv 10, jm 1 0])
 (.exit 1)))
 .skip))
 (.seq (.region [jv 0, jv 1, jv 2, jv 8, jv 4, jk 137 [.t 0, .t 1, .t 2, .t 3, .t 4], jt 5, jx 0 6, jx 1 6, jm 11 7, jm 12 8])
 (.seq (.region [jv 12, jm 6 0])
 (.seq (.region [jv 11, jv 1, jq (.bin .sub .int) [.t 0, .t 1], jv 2, jv 11, jq (.bin .sub .int) [.t 3, .t 4], jm 13 2, jm 14 5])
 (.seq (.region [jv 7, jq (.bin .quo .int) [.t 0, jn 8], jm 15 1])
 (.seq (.region [jv 13, jv 14, jw 23 (.bin .lss .int) [.t 0, .t 1]])
 (.cond 23 (.seq (.region [jv 13, jv 15, jq (.bin .geq .int) [.t 0, .t 1], jm 5 2])
 (.seq (.region [jv 0, jv 1, jv 11, jv 3, jv 4, jk 115 [.t 0, .t 1, .t 2, .t 3, .t 4]])
 (.region [jv 11, jq (.bin .add .int) [.t 0, jn 1], jm 1 1])))
 (.seq (.region [jv 14, jv 15, jq (.bin .geq .int) [.t 0, .t 1], jm 5 2])
 (.seq (.region [jv 0, jv 11, jq (.bin .add .int) [.t 1, jn 1], jv 2, jv 3, jv 4, jk 115 [.t 0, .t 2, .t 3, .t 4, .t 5]])
 (.region [jv 11, jm 2 0]))))))))))))))))))
def ic115 : IC := (.seq (.region [jw 5 .mv [jB true]])
 (.seq (.region [jw 6 .mv [jB true]])
 (.block 0 (.loop ic115l0))))
abbrev rs115 : List RC := []
theorem fok115 (p : Bool) : FnOk Tryz.prog 115 ⟨ic115, vs115, 148, rs115, p⟩ := .mk2 Tryz.func115 (by kernel_rfl) (by kernel_rfl) (by kernel_rfl) (by kernel_rfl) (by kernel_rfl)
abbrev vs130 : List Nat := [0, 1, 2, 3, 8, 9, 14, 34]
def ic130l0 : IC := (.seq (.seq (.dr [[], [], [0, 1], [2], [3], [3], [3], [5, 6, 3], [7, 3], [3], [3], [10, 3], [9, 11, 3], [12, 3], [4, 8, 13, 3, 3], [14, 3], [3, 15]] [jv 5, jv 1, jq (.bin .gtr .int) [.t 0, .t 1], jt 2, jh 3 true 3, jh 3 true 0, jh 3 true 5, jg 3 true (.iaS 2) [.t 5, .t 6], jg 3 true (.loadN 2) [.t 7], jh 3 true 0, jh 3 true 5, jg 3 true (.bin .sub .int) [.t 10, jn 1], jg 3 true (.iaS 2) [.t 9, .t 11], jg 3 true (.loadN 2) [.t 12], ⟨none, (.some (3, true)), .call, [(.t 4), (.t 8), (.t 13)]⟩, jg 3 true (.bin .lss .int) [.t 14, jn 0], jw 7 .pick [.t 3, .t 15, jB false]])
 (.cond 7 .skip
 (.exit 2)))
 (.seq (.block 3 (.dr [[], [], [], [], [3], [], [], [6], [5, 7], [8], [], [], [10, 11], [12], [0, 1, 0, 1, 5, 6, 7, 8, 9, 13], [14, 9, 0, 1, 5, 6, 7, 8, 9, 13], [2, 4, 0, 1, 2, 3, 4, 5, 6, 7, 8, 9, 10, 11, 12, 13, 14, 15], [16, 13, 15, 0, 1, 2, 3, 4, 5, 6, 7, 8, 9, 10, 11, 12, 13, 14, 15]] [jv 0, jv 5, jv 0, jv 5, jq (.bin .sub .int) [.t 3, jn 1], jv 0, jv 5, jq (.bin .sub .int) [.t 6, jn 1], ja 2 5 7, jq (.loadN 2) [.t 8], jv 0, jv 5, ja 2 10 11, jq (.loadN 2) [.t 12], ja 2 0 1, jq (.store 2) [.t 14, .t 9], ja 2 2 4, jq (.store 2) [.t 16, .t 13]]))
 (.region [jv 5, jq (.bin .sub .int) [.t 0, jn 1], jm 5 1])))
def ic130l1 : IC := (.seq (.seq (.region [jv 4, jv 2, jw 6 (.bin .lss .int) [.t 0, .t 1]])
 (.cond 6 .skip
 (.exit 0)))
 (.seq (.block 1 (.seq (.region [jv 4, jm 5 0])
 (.block 2 (.loop ic130l0))))
 (.region [jv 4, jq (.bin .add .int) [.t 0, jn 1], jm 4 1])))
def ic130 : IC := (.seq (.region [jv 1, jq (.bin .add .int) [.t 0, jn 1], jm 4 1])
 (.block 0 (.loop ic130l1)))
abbrev rs130 : List RC := []
theorem fok130 (p : Bool) : FnOk Tryz.prog 130 ⟨ic130, vs130, 53, rs130, p⟩ := .mk2 Tryz.func130 (by kernel_rfl) (by kernel_rfl) (by kernel_rfl) (by kernel_rfl) (by kernel_rfl)
abbrev vs139 : List Nat := [0, 2, 4, 8, 14]
def ic139 : IC := (.seq (.region [jz 1 0])
 (.seq (.seq (.region [jv 0, jw 2 (.bin .geq .int) [.t 0, .c (.cv (.int .u64 4294967296))]])
 (.cond 2 (.seq (.region [jv 0, jq (.bin .shr .int) [.t 0, .c (.cv (.int .u64 32))], jm 0 1])
 (.region [jz 1 32]))
 .skip))
 (.seq (.seq (.region [jv 0, jw 3 (.bin .geq .int) [.t 0, .c (.cv (.int .u64 65536))]])
 (.cond 3 (.seq (.region [jv 0, jq (.bin .shr .int) [.t 0, .c (.cv (.int .u64 16))], jm 0 1])
 (.region [jv 1, jq (.bin .add .int) [.t 0, jn 16], jm 1 1]))
 .skip))
 (.seq (.seq (.region [jv 0, jw 4 (.bin .geq .int) [.t 0, .c (.cv (.int .u64 256))]])
 (.cond 4 (.seq (.region [jv 0, jq (.bin .shr .int) [.t 0, .c (.cv (.int .u64 8))], jm 0 1])
 (.region [jv 1, jq (.bin .add .int) [.t 0, jn 8], jm 1 1]))
 .skip))
 (.seq (.region [jv 1, jv 0, jq (.conv .u8) [.t 1], jq .ixStr [.c (.cv (.str (bts [0, 1, 2, 2, 3, 3, 3, 3, 4, 4, 4, 4, 4, 4, 4, 4, 5, 5, 5, 5, 5, 5, 5, 5, 5, 5, 5, 5, 5, 5, 5, 5, 6, 6, 6, 6, 6, 6, 6, 6, 6, 6, 6, 6, 6, 6, 6, 6, 6, 6, 6, 6, 6, 6, 6, 6, 6, 6, 6, 6, 6, 6, 6, 6, 7, 7, 7, 7, 7, 7, 7, 7, 7, 7, 7, 7, 7, 7, 7, 7, 7, 7, 7, 7, 7, 7, 7, 7, 7, 7, 7, 7, 7, 7, 7, 7, 7, 7, 7, 7, 7, 7, 7, 7, 7, 7, 7, 7, 7, 7, 7, 7, 7, 7, 7, 7, 7, 7, 7, 7, 7, 7, 7, 7, 7, 7, 7, 7, 8, 8, 8, 8, 8, 8, 8, 8, 8, 8, 8, 8, 8, 8, 8, 8, 8, 8, 8, 8, 8, 8, 8, 8, 8, 8, 8, 8, 8, 8, 8, 8, 8, 8, 8, 8, 8, 8, 8, 8, 8, 8, 8, 8, 8, 8, 8, 8, 8, 8, 8, 8, 8, 8, 8, 8, 8, 8, 8, 8, 8, 8, 8, 8, 8, 8, 8, 8, 8, 8, 8, 8, 8, 8, 8, 8, 8, 8, 8, 8, 8, 8, 8, 8, 8, 8, 8, 8, 8, 8, 8, 8, 8, 8, 8, 8, 8, 8, 8, 8, 8, 8, 8, 8, 8, 8, 8, 8, 8, 8, 8, 8, 8, 8, 8, 8, 8, 8, 8, 8, 8, 8, 8, 8, 8, 8, 8, 8]))), .t 2], jq (.conv .i64) [.t 3], jq (.bin .add .int) [.t 0, .t 4], jm 1 5])
 .ret)))))
abbrev rs139 : List RC := [(.v 1)]
theorem fok139 (p : Bool) : FnOk Tryz.prog 139 ⟨ic139, vs139, 25, rs139, p⟩ := .mk2 Tryz.func139 (by kernel_rfl) (by kernel_rfl) (by kernel_rfl) (by kernel_rfl) (by kernel_rfl)
end Go.Proofs.YtpnghcaccfnngaaGreatDoor.AM

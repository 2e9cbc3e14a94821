/- Parts of the proof, joined: PatU to LotDr. -/
import Derived.Test.YtphdemhopihpnaaZ45

namespace Go.Proofs.Ytphdemhopihpnaa.AM
open Go
set_option linter.unusedVariables false
set_option linter.unusedSimpArgs false

theorem typed_int {P : Program} {t : TypeId} {k : IntKind} {cs : List CV} (ht : P.underlying t = some (.int k)) (h : Typed P t cs) : ∃ n, cs = [.int k n] ∧ (Lit.int k n).wf = true := by
  cases h with
  | int ht' n hw => rw [ht] at ht'; cases ht'; exact ⟨n, rfl, hw⟩
  | bool ht' => rw [ht] at ht'; cases ht'
  | str ht' => rw [ht] at ht'; cases ht'
  | slc ht' => rw [ht] at ht'; cases ht'
  | arr ht' => rw [ht] at ht'; cases ht'
  | struct ht' => rw [ht] at ht'; cases ht'

theorem typed_str {P : Program} {t : TypeId} {cs : List CV} (ht : P.underlying t = some .string) (h : Typed P t cs) : ∃ s : ByteArray, cs = [.str s] ∧ s.size ≤ maxLen := by
  cases h with
  | str ht' s hs => exact ⟨s, rfl, hs⟩
  | bool ht' => rw [ht] at ht'; cases ht'
  | int ht' => rw [ht] at ht'; cases ht'
  | slc ht' => rw [ht] at ht'; cases ht'
  | arr ht' => rw [ht] at ht'; cases ht'
  | struct ht' => rw [ht] at ht'; cases ht'

theorem typed_slc {P : Program} {t e : TypeId} {cs : List CV} (ht : P.underlying t = some (.slice e)) (h : Typed P t cs) : ∃ L : List (List CV), cs = [.rsl L.flatten L.length] ∧ L.length ≤ maxLen ∧ (∀ l ∈ L, l.length = P.cellsOf e) ∧ ∀ l ∈ L, Typed P e l := by
  cases h with
  | slc ht' L hn hl h => rw [ht] at ht'; cases ht'; exact ⟨L, rfl, hn, hl, h⟩
  | bool ht' => rw [ht] at ht'; cases ht'
  | int ht' => rw [ht] at ht'; cases ht'
  | str ht' => rw [ht] at ht'; cases ht'
  | arr ht' => rw [ht] at ht'; cases ht'
  | struct ht' => rw [ht] at ht'; cases ht'

theorem typed_arr {P : Program} {t e : TypeId} {n : Nat} {cs : List CV} (ht : P.underlying t = some (.array n e)) (h : Typed P t cs) : ∃ L : List (List CV), cs = L.flatten ∧ L.length = n ∧ (∀ l ∈ L, l.length = P.cellsOf e) ∧ ∀ l ∈ L, Typed P e l := by
  cases h with
  | arr ht' L hn hl h => rw [ht] at ht'; cases ht'; exact ⟨L, rfl, hn, hl, h⟩
  | bool ht' => rw [ht] at ht'; cases ht'
  | int ht' => rw [ht] at ht'; cases ht'
  | str ht' => rw [ht] at ht'; cases ht'
  | slc ht' => rw [ht] at ht'; cases ht'
  | struct ht' => rw [ht] at ht'; cases ht'

theorem typed_struct {P : Program} {t : TypeId} {fs : Array Field} {cs : List CV} (ht : P.underlying t = some (.struct fs)) (h : Typed P t cs) : ∃ L : List (List CV), cs = L.flatten ∧ L.length = fs.size ∧ ∀ (i : Nat) (f : Field) (l : List CV), fs[i]? = some f → L[i]? = some l → Typed P f.type l := by
  cases h with
  | struct ht' L hn hl h => rw [ht] at ht'; cases ht'; exact ⟨L, rfl, hn, h⟩
  | bool ht' => rw [ht] at ht'; cases ht'
  | int ht' => rw [ht] at ht'; cases ht'
  | str ht' => rw [ht] at ht'; cases ht'
  | slc ht' => rw [ht] at ht'; cases ht'
  | arr ht' => rw [ht] at ht'; cases ht'

theorem ints_of {P : Program} {e : TypeId} {k : IntKind} (he : P.underlying e = some (.int k)) : ∀ L : List (List CV), (∀ l ∈ L, Typed P e l) → ∃ zs : List Int, L.flatten = zs.map (.int k) ∧ L.length = zs.length ∧ ∀ z ∈ zs, (Lit.int k z).wf = true
  | [], _ => ⟨[], rfl, rfl, by simp⟩
  | l :: L, h => by
    obtain ⟨n, rfl, hn⟩ := typed_int he (h l (by simp))
    obtain ⟨zs, h1, h2, h3⟩ := ints_of he L fun l hl => h l (by simp [hl])
    exact ⟨n :: zs, by simp [h1], by simp [h2], by simpa using ⟨hn, h3⟩⟩

theorem typed_ints {P : Program} {t e : TypeId} {k : IntKind} {cs : List CV} (ht : P.underlying t = some (.slice e)) (he : P.underlying e = some (.int k)) (h : Typed P t cs) : ∃ zs : List Int, cs = [.rsl (zs.map (.int k)) zs.length] ∧ zs.length < 2 ^ 63 ∧ ∀ z ∈ zs, (Lit.int k z).wf = true := by
  obtain ⟨L, rfl, hn, _, hl⟩ := typed_slc ht h
  obtain ⟨zs, h1, h2, h3⟩ := ints_of he L hl
  refine ⟨zs, by rw [h1, h2], ?_, h3⟩
  rw [← h2]; unfold maxLen at hn; omega

theorem wf_i64 {n : Int} (h : (Lit.int .i64 n).wf = true) : -9223372036854775808 ≤ n ∧ n ≤ 9223372036854775807 := by
  simp only [Lit.wf, Bool.and_eq_true, decide_eq_true_eq, IntKind.min, IntKind.max, IntKind.bits, IntKind.signed] at h
  simp at h; omega
theorem wf_u8 {n : Int} (h : (Lit.int .u8 n).wf = true) : 0 ≤ n ∧ n ≤ 255 := by
  simp only [Lit.wf, Bool.and_eq_true, decide_eq_true_eq, IntKind.min, IntKind.max, IntKind.bits, IntKind.signed] at h
  simp at h; omega
theorem wf_u32 {n : Int} (h : (Lit.int .u32 n).wf = true) : 0 ≤ n ∧ n ≤ 4294967295 := by
  simp only [Lit.wf, Bool.and_eq_true, decide_eq_true_eq, IntKind.min, IntKind.max, IntKind.bits, IntKind.signed] at h
  simp at h; omega

theorem args_cons {P : Program} {t : TypeId} {ts : List TypeId} {avs : List AV} (h : Args P (t :: ts) avs) : ∃ cs avs', avs = avOf P t cs :: avs' ∧ Typed P t cs ∧ Args P ts avs' := by
  generalize hts : t :: ts = u at h
  cases h with
  | nil => cases hts
  | cons h1 h2 => cases hts; exact ⟨_, _, rfl, h1, h2⟩
theorem args_nil {P : Program} {avs : List AV} (h : Args P [] avs) : avs = [] := by
  generalize hts : ([] : List TypeId) = u at h
  cases h with
  | nil => rfl
  | cons h1 h2 => cases hts

end Go.Proofs.Ytphdemhopihpnaa.AM

namespace Go.Proofs.Ytphdemhopihpnaa.AM
open Go
set_option linter.unusedVariables false

abbrev vs16 : List Nat := [0, 1, 4, 5, 6, 14, 20, 21]
def ic16l0 : IC := (.seq (.region [jw 7 (.bin .lss .int) [.v 6, jn 2]])
 (.seq (.cond 7 .skip
 (.exit 0))
 (.seq (.block 1 (.region [jv 4, jq (.bin .rem .int) [.t 0, jn 2147483647], jv 4, jq (.bin .rem .int) [.t 2, jn 2147483647], jq (.bin .mul .int) [.t 1, .t 3], jq (.bin .add .int) [.t 4, jn 12345], jq (.bin .rem .int) [.t 5, jn 2147483647], jm 4 6]))
 (.region [jq (.bin .add .int) [.v 6, jn 1], jm 6 0]))))
def ic16 : IC := (.seq (.region [jz 2 0, jz 3 0])
 (.seq (.seq (.region [jv 0, jq (.bslice 1 1 [(.cv (.int .i64 0))] [(0, 1)]) [.t 0], jk 47 [jn 0, jn 7, .t 1], jt 2, jh 3 false 1, jg 3 false (.bslice 1 1 [(.cv (.int .i64 0))] [(0, 1)]) [.t 4], jf 3 false 47 [jn 0, jn 1000000000, .t 5], jw 5 .pick [.t 3, jB true, .t 6]])
 (.cond 5 (.seq (.region [jz 2 0, jz 3 7])
 .ret)
 .skip))
 (.seq (.region [jv 1, jq (.bin .add .int) [.t 0, jn 1], jv 0, jq (.bin .mul .int) [jn 7, .t 2], jq (.bin .add .int) [.t 1, .t 3], jm 4 4])
 (.seq (.seq (.region [jz 6 0])
 (.block 0 (.loop ic16l0)))
 (.seq (.region [jv 4, jm 2 0, jz 3 0])
 .ret)))))
abbrev rs16 : List RC := [(.v 2), (.v 3)]
theorem fok16 (p : Bool) : FnOk Try.prog 16 ⟨ic16, vs16, 31, rs16, p⟩ := .mk2 Try.func16 (by kernel_rfl) (by kernel_rfl) (by kernel_rfl) (by kernel_rfl) (by kernel_rfl)

abbrev vs17 : List Nat := [0, 1, 4, 5, 13]
def ic17 : IC := (.seq (.region [jz 2 0, jz 3 0])
 (.seq (.seq (.region [jv 0, jk 48 [.t 0, jn 0, jn 7], jq .not [.t 1], jt 2, jh 3 false 1, jf 3 false 48 [.t 4, jn 0, jn 1000000000], jg 3 false .not [.t 5], jw 4 .pick [.t 3, jB true, .t 6]])
 (.cond 4 (.seq (.region [jz 2 0, jz 3 7])
 .ret)
 .skip))
 (.seq (.region [jv 0, jv 1, jk 49 [.t 0, .t 1], jm 2 2, jz 3 0])
 .ret)))
abbrev rs17 : List RC := [(.v 2), (.v 3)]
theorem fok17 (p : Bool) : FnOk Try.prog 17 ⟨ic17, vs17, 17, rs17, p⟩ := .mk2 Try.func17 (by kernel_rfl) (by kernel_rfl) (by kernel_rfl) (by kernel_rfl) (by kernel_rfl)

abbrev vs18 : List Nat := [0, 1, 4, 5, 6, 7, 8, 13, 15, 21, 24, 25, 26, 27, 42]
def ic18l0 : IC := (.seq (.region [jw 13 (.bin .lss .int) [.v 12, .v 11]])
 (.seq (.cond 13 .skip
 (.exit 1))
 (.seq (.block 2 (.seq (.region [jv 12, jq (.iaS 1) [.v 10, .v 12], jl 1, jm 4 0, jm 5 2])
 (.seq (.region [jv 4, jv 5, jk 16 [.t 0, .t 1], jt 2, jx 0 3, jx 1 3, jm 6 4, jt 5])
 (.seq (.region [jv 6, jv 0, jv 4, ja 1 1 2, jl 3, jw 14 (.bin .neq .int) [.t 0, .t 4]])
 (.cond 14 (.region [jv 2, jv 4, jq (.bslice 1 1 [(.cv (.int .i64 0))] [(0, 1)]) [.t 1], jq (.append 1 8) [.t 0, .t 2], jm 2 3])
 .skip)))))
 (.region [jq (.bin .add .int) [.v 12, jn 1], jm 12 0]))))
def ic18 : IC := (.seq (.region [jw 2 .mv [jS], jz 3 0])
 (.seq (.seq (.region [jv 1, jk 50 [.t 0], jm 3 1])
 (.seq (.region [jv 3, jw 7 (.bin .neq .int) [.t 0, jn 0]])
 (.cond 7 (.seq (.region [jv 3, jw 2 .mv [jS], jm 3 0])
 .ret)
 .skip)))
 (.seq (.block 0 (.seq (.region [jv 0, je 0, jv 1, je 2, jq (.bin .neq .int) [.t 1, .t 3], jm 8 4])
 (.cond 8 (.seq (.region [jw 2 .mv [jS], jz 3 3])
 .ret)
 (.seq (.region [jv 0, jk 47 [jn 0, jn 2147483646, .t 0], jm 9 1])
 (.cond 9 (.seq (.region [jw 2 .mv [jS], jz 3 7])
 .ret)
 .skip)))))
 (.seq (.seq (.region [jw 10 .mv [.v 1], jw 11 (.len false) [.v 10], jz 12 0])
 (.block 1 (.loop ic18l0)))
 (.seq (.region [jv 2, jm 2 0, jz 3 0])
 .ret)))))
abbrev rs18 : List RC := [(.v 2), (.v 3)]
theorem fok18 (p : Bool) : FnOk Try.prog 18 ⟨ic18, vs18, 49, rs18, p⟩ := .mk2 Try.func18 (by kernel_rfl) (by kernel_rfl) (by kernel_rfl) (by kernel_rfl) (by kernel_rfl)

abbrev vs19 : List Nat := [0, 1, 4, 5, 6, 11]
def ic19 : IC := (.seq (.region [jw 2 .mv [jS], jz 3 0])
 (.seq (.region [jv 0, jv 1, jk 51 [.t 0, .t 1], jm 4 2])
 (.seq (.seq (.region [jv 4, jw 5 (.bin .neq .int) [.t 0, jn 0]])
 (.cond 5 (.seq (.region [jv 4, jw 2 .mv [jS], jm 3 0])
 .ret)
 .skip))
 (.seq (.region [jv 0, jv 1, jk 52 [.t 0, .t 1], jm 2 2, jz 3 0])
 .ret))))
abbrev rs19 : List RC := [(.v 2), (.v 3)]
theorem fok19 (p : Bool) : FnOk Try.prog 19 ⟨ic19, vs19, 16, rs19, p⟩ := .mk2 Try.func19 (by kernel_rfl) (by kernel_rfl) (by kernel_rfl) (by kernel_rfl) (by kernel_rfl)

abbrev vs20 : List Nat := [0, 1, 4, 5, 10, 14, 25]
def ic20l0 : IC := (.seq (.seq (.region [jv 3, jv 0, je 1, jw 5 (.bin .lss .int) [.t 0, .t 2]])
 (.cond 5 .skip
 (.exit 0)))
 (.seq (.block 1 (.seq (.dr [[], [], [0, 1], [2], [], [], [4, 5], [6], [3, 7]] [jv 0, jv 3, ja 1 0 1, jl 2, jv 1, jv 3, ja 1 4 5, jl 6, jw 6 (.bin .neq .int) [.t 3, .t 7]])
 (.cond 6 (.seq (.region [jw 2 .mv [jB false]])
 .ret)
 .skip)))
 (.region [jv 3, jq (.bin .add .int) [.t 0, jn 1], jm 3 1])))
def ic20 : IC := (.seq (.region [jw 2 .mv [jB false]])
 (.seq (.seq (.region [jv 0, je 0, jv 1, je 2, jw 4 (.bin .neq .int) [.t 1, .t 3]])
 (.cond 4 (.seq (.region [jw 2 .mv [jB false]])
 .ret)
 .skip))
 (.seq (.seq (.region [jz 3 0])
 (.block 0 (.loop ic20l0)))
 (.seq (.region [jw 2 .mv [jB true]])
 .ret))))
abbrev rs20 : List RC := [(.v 2)]
theorem fok20 (p : Bool) : FnOk Try.prog 20 ⟨ic20, vs20, 26, rs20, p⟩ := .mk2 Try.func20 (by kernel_rfl) (by kernel_rfl) (by kernel_rfl) (by kernel_rfl) (by kernel_rfl)

abbrev vs21 : List Nat := [0, 2, 3, 5, 9, 11, 12, 13, 14]
def ic21l0 : IC := (.seq (.region [jw 8 (.bin .lss .int) [.v 7, .v 6]])
 (.seq (.cond 8 .skip
 (.exit 0))
 (.seq (.block 1 (.seq (.region [jq (.iaS 1) [.v 5, .v 7], jl 0, jm 3 1])
 (.region [jv 1, jq (.bin .mul .int) [.t 0, jn 1000003], jv 3, jq (.bin .add .int) [.t 1, .t 2], jq (.bin .add .int) [.t 3, jn 1], jq (.bin .rem .int) [.t 4, jn 2147483647], jm 1 5])))
 (.region [jq (.bin .add .int) [.v 7, jn 1], jm 7 0]))))
def ic21 : IC := (.seq (.region [jz 1 0, jz 2 0])
 (.seq (.seq (.region [jv 0, jk 50 [.t 0], jm 2 1])
 (.seq (.region [jv 2, jw 4 (.bin .neq .int) [.t 0, jn 0]])
 (.cond 4 (.seq (.region [jv 2, jz 1 0, jm 2 0])
 .ret)
 .skip)))
 (.seq (.seq (.region [jw 5 .mv [.v 0], jw 6 (.len false) [.v 5], jz 7 0])
 (.block 0 (.loop ic21l0)))
 (.seq (.region [jv 1, jm 1 0, jz 2 0])
 .ret))))
abbrev rs21 : List RC := [(.v 1), (.v 2)]
theorem fok21 (p : Bool) : FnOk Try.prog 21 ⟨ic21, vs21, 25, rs21, p⟩ := .mk2 Try.func21 (by kernel_rfl) (by kernel_rfl) (by kernel_rfl) (by kernel_rfl) (by kernel_rfl)

abbrev vs22 : List Nat := [0, 2, 3, 4, 5, 6, 10, 15]
def ic22l0 : IC := (.seq (.seq (.region [jv 5, jv 0, je 1, jw 7 (.bin .lss .int) [.t 0, .t 2]])
 (.cond 7 .skip
 (.exit 0)))
 (.seq (.block 1 (.region [jv 4, jq (.bin .mul .int) [.t 0, jn 1000003], jv 0, jv 5, ja 1 2 3, jl 4, jq (.bin .add .int) [.t 1, .t 5], jq (.bin .add .int) [.t 6, jn 1], jq (.bin .rem .int) [.t 7, jn 2147483647], jm 4 8]))
 (.region [jv 5, jq (.bin .add .int) [.t 0, jn 1], jm 5 1])))
def ic22 : IC := (.seq (.region [jz 1 0, jz 2 0])
 (.seq (.region [jv 0, jk 41 [.t 0], jm 3 1])
 (.seq (.seq (.region [jv 3, jw 6 (.bin .neq .int) [.t 0, jn 0]])
 (.cond 6 (.seq (.region [jv 3, jz 1 0, jm 2 0])
 .ret)
 .skip))
 (.seq (.region [jz 4 0])
 (.seq (.seq (.region [jz 5 0])
 (.block 0 (.loop ic22l0)))
 (.seq (.region [jv 4, jm 1 0, jz 2 0])
 .ret))))))
abbrev rs22 : List RC := [(.v 1), (.v 2)]
theorem fok22 (p : Bool) : FnOk Try.prog 22 ⟨ic22, vs22, 28, rs22, p⟩ := .mk2 Try.func22 (by kernel_rfl) (by kernel_rfl) (by kernel_rfl) (by kernel_rfl) (by kernel_rfl)

abbrev vs23 : List Nat := [0, 1, 2, 3, 4, 5, 6, 7, 8, 9, 10, 11, 12, 13, 14, 15, 16, 18]
def ic23 : IC := (.seq (.region [jw 0 .mv [jB false]])
 (.seq (.region [jk 16 [jn 0, jn 0], jt 0, jx 0 1, jx 1 1, jm 1 2, jm 2 3])
 (.seq (.region [jq (.bslice 1 2 [(.cv (.int .i64 0)), (.cv (.int .i64 0))] [(0, 1), (1, 1)]) [jn 152436061, jn 153995626], jq (.bslice 1 2 [(.cv (.int .i64 0)), (.cv (.int .i64 0))] [(0, 1), (1, 1)]) [jn 0, jn 1], jk 18 [.t 0, .t 1], jt 2, jx 0 3, jx 1 3, jm 3 4, jm 4 5])
 (.seq (.region [jq (.bslice 1 2 [(.cv (.int .i64 0)), (.cv (.int .i64 0))] [(0, 1), (1, 1)]) [jn 1, jn 2], jk 21 [.t 0], jt 1, jx 0 2, jx 1 2, jm 5 3, jm 6 4])
 (.seq (.region [jk 37 [], jk 26 [.t 0], jt 1, jx 0 2, jx 1 2, jm 7 3, jm 8 4])
 (.seq (.region [jk 37 [], jk 28 [.t 0, jn 1], jt 1, jx 0 2, jx 1 2, jm 9 3, jm 10 4])
 (.seq (.region [jk 37 [], jq (.bslice 1 3 [(.cv (.int .i64 0)), (.cv (.int .i64 0)), (.cv (.int .i64 0))] [(0, 1), (1, 1), (2, 1)]) [jn 2, jn 1, jn 0], jk 30 [.t 0, .t 1], jt 2, jx 0 3, jx 1 3, jm 11 4, jm 12 5])
 (.seq (.region [jk 36 [], jk 32 [.t 0], jt 1, jx 0 2, jx 1 2, jm 13 3, jm 14 4])
 (.seq (.region [jk 37 [], jq (.bslice 1 1 [(.cv (.int .i64 0))] [(0, 1)]) [jn 152436061], jq (.bslice 1 1 [(.cv (.int .i64 0))] [(0, 1)]) [jn 0], jq (.bslice 1 3 [(.cv (.int .i64 0)), (.cv (.int .i64 0)), (.cv (.int .i64 0))] [(0, 1), (1, 1), (2, 1)]) [jn 2, jn 1, jn 0], jk 34 [.t 0, .t 1, .t 2, .t 3], jt 4, jx 0 5, jx 1 5, jm 15 6, jm 16 7])
 (.seq (.region [jk 36 [], jk 28 [.t 0, jn 0], jt 1, jx 0 2, jx 1 2, jt 3, jm 17 4])
 (.seq (.region [jv 2, jq (.bin .eql .int) [.t 0, jn 0], jt 1, jh 2 true 4, jg 2 true (.bin .eql .int) [.t 3, jn 0], jq .pick [.t 2, .t 4, jB false], jt 5, jh 6 true 6, jg 6 true (.bin .eql .int) [.t 7, jn 0], jq .pick [.t 6, .t 8, jB false], jt 9, jh 10 true 8, jg 10 true (.bin .eql .int) [.t 11, jn 0], jq .pick [.t 10, .t 12, jB false], jt 13, jh 14 true 10, jg 14 true (.bin .eql .int) [.t 15, jn 0], jq .pick [.t 14, .t 16, jB false], jt 17, jh 18 true 12, jg 18 true (.bin .eql .int) [.t 19, jn 0], jq .pick [.t 18, .t 20, jB false], jt 21, jh 22 true 14, jg 22 true (.bin .eql .int) [.t 23, jn 0], jq .pick [.t 22, .t 24, jB false], jt 25, jh 26 true 16, jg 26 true (.bin .eql .int) [.t 27, jn 0], jq .pick [.t 26, .t 28, jB false], jt 29, jh 30 true 17, jg 30 true (.bin .eql .int) [.t 31, jn 9], jq .pick [.t 30, .t 32, jB false], jt 33, jh 34 true 1, jg 34 true (.bin .eql .int) [.t 35, jn 152436061], jq .pick [.t 34, .t 36, jB false], jt 37, jh 38 true 3, jg 38 true (.bslice 1 1 [(.cv (.int .i64 0))] [(0, 1)]) [jn 1], jf 38 true 20 [.t 39, .t 40], jq .pick [.t 38, .t 41, jB false], jt 42, jh 43 true 5, jg 43 true (.bin .eql .int) [.t 44, jn 2000009], jq .pick [.t 43, .t 45, jB false], jt 46, jh 47 true 7, jg 47 true (.bin .eql .int) [.t 48, jn 3], jq .pick [.t 47, .t 49, jB false], jt 50, jh 51 true 9, jg 51 true (.bslice 1 3 [(.cv (.int .i64 0)), (.cv (.int .i64 0)), (.cv (.int .i64 0))] [(0, 1), (1, 1), (2, 1)]) [jn 2, jn 1, jn 0], jf 51 true 20 [.t 52, .t 53], jq .pick [.t 51, .t 54, jB false], jt 55, jh 56 true 11, jg 56 true (.bin .eql .int) [.t 57, jn 1], jq .pick [.t 56, .t 58, jB false], jt 59, jh 60 true 13, jg 60 true (.bslice 1 2 [(.cv (.int .i64 0)), (.cv (.int .i64 0))] [(0, 1), (1, 1)]) [jn 2, jn 3], jf 60 true 20 [.t 61, .t 62], jq .pick [.t 60, .t 63, jB false], jt 64, jh 65 true 15, jq .pick [.t 65, .t 66, jB false], jm 0 67])
 .ret)))))))))))
abbrev rs23 : List RC := [(.v 0)]
theorem fok23 (p : Bool) : FnOk Try.prog 23 ⟨ic23, vs23, 136, rs23, p⟩ := .mk2 Try.func23 (by kernel_rfl) (by kernel_rfl) (by kernel_rfl) (by kernel_rfl) (by kernel_rfl)

abbrev vs24 : List Nat := [0, 1, 2, 3, 4, 5, 6, 7, 8, 19, 21, 22, 23, 24, 30, 34, 35, 36, 37, 48]
def ic24l0 : IC := (.seq (.region [jw 18 (.bin .lss .int) [.v 17, .v 16]])
 (.seq (.cond 18 .skip
 (.exit 2))
 (.seq (.block 3 (.seq (.region [jv 17, jq (.iaS 1) [.v 15, .v 17], jl 1, jm 7 0, jm 8 2])
 (.seq (.region [jF 0 1, jl 0, je 1, jq (.bin .shl .int) [jn 1, .t 2], jq (.bin .sub .int) [.t 3, jn 1], jv 8, jq (.bslice 1 1 [(.cv (.int .i64 0))] [(0, 1)]) [.t 5], jd 19 47 [jn 0, .t 4, .t 6]])
 (.cond 19 (.seq (.region [jv 7, jz 2 3, jm 3 0, jz 4 7])
 .ret)
 .skip))))
 (.region [jq (.bin .add .int) [.v 17, jn 1], jm 17 0]))))
def ic24l1 : IC := (.seq (.region [jw 13 (.bin .lss .int) [.v 12, .v 11]])
 (.seq (.cond 13 .skip
 (.exit 0))
 (.seq (.block 1 (.seq (.region [jv 12, jq (.iaS 1) [.v 10, .v 12], jl 1, jm 5 0, jm 6 2])
 (.seq (.region [jv 6, jq (.bslice 1 1 [(.cv (.int .i64 0))] [(0, 1)]) [.t 0], jd 14 47 [jn 0, jn 4, .t 1]])
 (.cond 14 (.seq (.region [jv 5, jz 2 2, jm 3 0, jz 4 7])
 .ret)
 .skip))))
 (.region [jq (.bin .add .int) [.v 12, jn 1], jm 12 0]))))
def ic24 : IC := (.seq (.region [jb 1 0, jz 2 0, jz 3 0, jz 4 0])
 (.seq (.seq (.region [jF 0 1, jl 0, je 1, jq (.bslice 1 1 [(.cv (.int .i64 0))] [(0, 1)]) [.t 2], jk 47 [jn 1, jn 6, .t 3], jt 4, jg 5 false (.fadd 1) [.v 1], ji 5 false 6, jg 5 false (.len false) [.t 7], jg 5 false (.bin .gtr .int) [.t 8, jn 8], jw 9 .pick [.t 5, jB true, .t 9]])
 (.cond 9 (.seq (.region [jz 2 1, jz 3 0, jz 4 3])
 .ret)
 .skip))
 (.seq (.seq (.region [jF 0 1, jw 10 .load1 [.t 0], jw 11 (.len false) [.v 10], jz 12 0])
 (.block 0 (.loop ic24l1)))
 (.seq (.seq (.region [jF 1 1, jw 15 .load1 [.t 0], jw 16 (.len false) [.v 15], jz 17 0])
 (.block 2 (.loop ic24l0)))
 (.seq (.region [jz 2 0, jz 3 0, jz 4 0])
 .ret)))))
abbrev rs24 : List RC := [(.v 2), (.v 3), (.v 4)]
theorem fok24 (p : Bool) : FnOk Try.prog 24 ⟨ic24, vs24, 51, rs24, p⟩ := .mk2 Try.func24 (by kernel_rfl) (by kernel_rfl) (by kernel_rfl) (by kernel_rfl) (by kernel_rfl)

abbrev vs25 : List Nat := [0, 1, 2, 3, 4, 5, 6, 17, 22, 31, 37, 51]
def ic25l0 : IC := (.seq (.seq (.region [jv 6, jF 1 1, jl 1, je 2, jw 10 (.bin .lss .int) [.t 0, .t 3]])
 (.cond 10 .skip
 (.exit 2)))
 (.seq (.block 3 (.seq (.dr [[], [0], [], [1, 2], [3], [], [5], [6], [7], [8], [4, 9, 8], [10]] [jF 1 1, jl 0, jv 6, ja 1 1 2, jl 3, jF 0 1, jl 5, je 6, jk 44 [.t 7], jq (.bin .sub .int) [.t 8, jn 1], jk 48 [.t 4, jn 0, .t 9], jw 11 .not [.t 10]])
 (.cond 11 (.seq (.region [jv 6, jz 2 3, jm 3 0, jz 4 7])
 .ret)
 .skip)))
 (.region [jv 6, jq (.bin .add .int) [.t 0, jn 1], jm 6 1])))
def ic25l1 : IC := (.seq (.seq (.region [jv 5, jF 0 1, jl 1, je 2, jw 8 (.bin .lss .int) [.t 0, .t 3]])
 (.cond 8 .skip
 (.exit 0)))
 (.seq (.block 1 (.seq (.region [jF 0 1, jl 0, jv 5, ja 1 1 2, jl 3, jk 48 [.t 4, jn 0, jn 4], jw 9 .not [.t 5]])
 (.cond 9 (.seq (.region [jv 5, jz 2 2, jm 3 0, jz 4 7])
 .ret)
 .skip)))
 (.region [jv 5, jq (.bin .add .int) [.t 0, jn 1], jm 5 1])))
def ic25 : IC := (.seq (.region [jb 1 0, jz 2 0, jz 3 0, jz 4 0])
 (.seq (.seq (.region [jF 0 1, jl 0, je 1, jk 48 [.t 2, jn 1, jn 6], jq .not [.t 3], jt 4, jg 5 false (.fadd 1) [.v 1], ji 5 false 6, jg 5 false (.len false) [.t 7], jg 5 false (.bin .gtr .int) [.t 8, jn 8], jw 7 .pick [.t 5, jB true, .t 9]])
 (.cond 7 (.seq (.region [jz 2 1, jz 3 0, jz 4 3])
 .ret)
 .skip))
 (.seq (.seq (.region [jz 5 0])
 (.block 0 (.loop ic25l1)))
 (.seq (.seq (.region [jz 6 0])
 (.block 2 (.loop ic25l0)))
 (.seq (.region [jz 2 0, jz 3 0, jz 4 0])
 .ret)))))
abbrev rs25 : List RC := [(.v 2), (.v 3), (.v 4)]
theorem fok25 (p : Bool) : FnOk Try.prog 25 ⟨ic25, vs25, 53, rs25, p⟩ := .mk2 Try.func25 (by kernel_rfl) (by kernel_rfl) (by kernel_rfl) (by kernel_rfl) (by kernel_rfl)

abbrev vs26 : List Nat := [0, 1, 2, 3, 4, 5, 12]
def ic26 : IC := (.seq (.region [jb 1 0, jz 2 0, jz 3 0])
 (.seq (.region [jN 2 1, jk 53 [.t 0], jt 1, jx 0 2, jx 1 2, jm 4 3, jm 5 4])
 (.seq (.seq (.region [jv 5, jw 6 (.bin .neq .int) [.t 0, jn 0]])
 (.cond 6 (.seq (.region [jv 5, jz 2 0, jm 3 0])
 .ret)
 .skip))
 (.seq (.region [jv 4, jv 4, jk 55 [.t 1], jk 54 [.t 0, .t 2], jm 2 3, jz 3 0])
 .ret))))
abbrev rs26 : List RC := [(.v 2), (.v 3)]
theorem fok26 (p : Bool) : FnOk Try.prog 26 ⟨ic26, vs26, 18, rs26, p⟩ := .mk2 Try.func26 (by kernel_rfl) (by kernel_rfl) (by kernel_rfl) (by kernel_rfl) (by kernel_rfl)

abbrev vs27 : List Nat := [0, 1, 2, 3, 6, 14]
def ic27 : IC := (.seq (.region [jb 1 0, jz 2 0, jz 3 0])
 (.seq (.region [jN 2 1, jk 25 [.t 0], jt 1, jx 0 2, jx 1 2, jx 2 2, jt 3, jt 4, jm 4 5])
 (.seq (.seq (.region [jv 4, jw 5 (.bin .neq .int) [.t 0, jn 0]])
 (.cond 5 (.seq (.region [jv 4, jz 2 0, jm 3 0])
 .ret)
 .skip))
 (.seq (.dr [[], [], [1], [], [3], [0, 2, 4, 2], [5, 5, 0, 1, 2, 3, 4, 5], [6, 0, 1, 2, 3, 4, 5, 6]] [jN 2 1, jN 2 1, jk 57 [.t 1], jF 0 1, jl 3, jk 56 [.t 0, .t 2, jn 0, .t 4], jm 2 5, jz 3 0])
 .ret))))
abbrev rs27 : List RC := [(.v 2), (.v 3)]
theorem fok27 (p : Bool) : FnOk Try.prog 27 ⟨ic27, vs27, 22, rs27, p⟩ := .mk2 Try.func27 (by kernel_rfl) (by kernel_rfl) (by kernel_rfl) (by kernel_rfl) (by kernel_rfl)

abbrev vs28 : List Nat := [0, 1, 2, 4, 5, 6, 7, 8, 14, 18, 27]
def ic28 : IC := (.seq (.region [jb 2 0, jw 3 .mv [jS], jz 4 0])
 (.seq (.region [jN 2 2, jk 53 [.t 0], jt 1, jx 0 2, jx 1 2, jm 5 3, jm 6 4])
 (.seq (.block 0 (.seq (.region [jv 6, jq (.bin .neq .int) [.t 0, jn 0], jm 8 1])
 (.cond 8 (.seq (.region [jv 6, jw 3 .mv [jS], jm 4 0])
 .ret)
 (.seq (.region [jv 1, jq (.bslice 1 1 [(.cv (.int .i64 0))] [(0, 1)]) [.t 0], jk 47 [jn 0, jn 2147483646, .t 1], jm 9 2])
 (.cond 9 (.seq (.region [jw 3 .mv [jS], jz 4 7])
 .ret)
 .skip)))))
 (.seq (.region [jv 5, jv 5, jk 55 [.t 1], jk 54 [.t 0, .t 2], jm 7 3])
 (.seq (.seq (.region [jv 7, jw 10 (.bin .eql .int) [.t 0, jn 0]])
 (.cond 10 (.seq (.region [jw 3 .mv [jS], jz 4 9])
 .ret)
 .skip))
 (.seq (.region [jv 5, jv 1, jv 7, jq (.bin .rem .int) [.t 1, .t 2], jk 58 [.t 0, .t 3], jm 3 4, jz 4 0])
 .ret))))))
abbrev rs28 : List RC := [(.v 3), (.v 4)]
theorem fok28 (p : Bool) : FnOk Try.prog 28 ⟨ic28, vs28, 33, rs28, p⟩ := .mk2 Try.func28 (by kernel_rfl) (by kernel_rfl) (by kernel_rfl) (by kernel_rfl) (by kernel_rfl)

abbrev vs29 : List Nat := [0, 1, 2, 4, 5, 6, 7, 19, 25, 27]
def ic29 : IC := (.seq (.region [jb 2 0, jw 3 .mv [jS], jz 4 0])
 (.seq (.region [jN 2 2, jk 27 [.t 0], jt 1, jx 0 2, jx 1 2, jm 5 3, jm 6 4])
 (.seq (.seq (.region [jv 6, jq (.bin .eql .int) [.t 0, jn 0], jt 1, jh 2 true 1, jf 2 true 48 [.t 3, jn 0, jn 2147483646], jg 2 true .not [.t 4], jw 7 .pick [.t 2, .t 5, jB false]])
 (.cond 7 (.region [jz 6 7])
 .skip))
 (.seq (.seq (.region [jv 6, jq (.bin .eql .int) [.t 0, jn 0], jt 1, jh 2 true 5, jg 2 true (.bin .eql .int) [.t 3, jn 0], jw 8 .pick [.t 2, .t 4, jB false]])
 (.cond 8 (.region [jz 6 9])
 .skip))
 (.seq (.seq (.region [jv 6, jw 9 (.bin .neq .int) [.t 0, jn 0]])
 (.cond 9 (.seq (.region [jv 6, jw 3 .mv [jS], jm 4 0])
 .ret)
 .skip))
 (.seq (.dr [[], [], [], [1, 2], [0, 3], [4, 4, 0, 1, 2, 3, 4], [5, 0, 1, 2, 3, 4, 5]] [jN 2 2, jv 1, jv 5, jq (.bin .rem .int) [.t 1, .t 2], jk 59 [.t 0, .t 3], jm 3 4, jz 4 0])
 .ret))))))
abbrev rs29 : List RC := [(.v 3), (.v 4)]
theorem fok29 (p : Bool) : FnOk Try.prog 29 ⟨ic29, vs29, 34, rs29, p⟩ := .mk2 Try.func29 (by kernel_rfl) (by kernel_rfl) (by kernel_rfl) (by kernel_rfl) (by kernel_rfl)

theorem hb30 : Try.f30.body = some (Try.f30.body.getD .skip) := by kernel_rfl
abbrev vs30 : List Nat := [0, 1, 2, 4, 5, 6, 7, 9, 10, 11, 12, 18, 22, 32, 44, 45, 46, 47, 52, 53, 54, 57, 65]
def ic30l0 (b30 : Code) : IC := (.seq (.region [jw 17 (.bin .lss .int) [.v 16, .v 15]])
 (.seq (.cond 17 .skip
 (.exit 1))
 (.seq (.block 2 (.seq (.region [jq (.iaS 1) [.v 14, .v 16], jl 0, jw 7 (.alloc [(.cv (.int .i64 0))]) [], jq (.store 1) [.v 7, .t 1]])
 (.seq (.region [jw 8 (.alloc [(.cv (.bool false))]) [], jq (.store 1) [.v 8, jB false]])
 (.seq (.seq (.region [jL 5, jN 7 6, jd 18 60 [.t 0, .t 1]])
 (.block 3 (.rangef (.v 18) #[53, 54] (nav [1, 1, 1, 1, 0, 1, 0, 0, 1, 1, 0, 0, 1, 1, 0, 1, 0, 2] b30) (nav [1, 1, 1, 1, 0, 1, 0, 0, 1, 1, 0, 0, 1, 1, 0, 1, 0, 3] b30) (.seq (.region [jw 9 .mv [.v 19]])
 (.region [jw 10 (.alloc [(.cv (.int .i64 0)), (.cv (.int .i64 0)), (.cv (.int .i64 0)), (.cv (.int .i64 0)), (.cv (.int .i64 0)), (.cv (.int .i64 0)), (.cv (.int .i64 0))]) [], jq (.store 7) [.v 10, .v 20]]))
 (.block 4 (.seq (.seq (.region [jv 9, jL 7, jw 21 (.bin .eql .int) [.t 0, .t 1]])
 (.cond 21 (.seq (.region [jN 7 10, jq (.store 7) [.v 6, .t 0], jq (.store 1) [.v 8, jB true]])
 (.exit 3))
 .skip))
 (.dr [[], [], [], [1, 2], [0, 3], [4, 3, 0, 1, 2, 3, 4]] [jL 3, jL 5, jN 7 10, jk 54 [.t 1, .t 2], jq (.bin .add .int) [.t 0, .t 3], jq (.store 1) [.v 3, .t 4]]))))))
 (.seq (.region [jL 8, jw 22 .not [.t 0]])
 (.cond 22 (.seq (.region [jq (.store 1) [.v 3, jn 0], jz 4 2])
 .ret)
 .skip))))))
 (.region [jq (.bin .add .int) [.v 16, jn 1], jm 16 0]))))
def ic30 (b30 : Code) : IC := (.seq (.region [jb 2 0, jw 3 (.alloc [(.cv (.int .i64 0))]) [], jz 4 0])
 (.seq (.region [jN 2 2, jk 53 [.t 0], jt 1, jx 0 2, jx 1 2, jw 5 (.alloc [(.cv .nilp)]) [], jq (.store 1) [.v 5, .t 3], jm 4 4])
 (.seq (.block 0 (.seq (.region [jv 4, jq (.bin .neq .int) [.t 0, jn 0], jm 11 1])
 (.cond 11 (.seq (.region [jv 4, jq (.store 1) [.v 3, jn 0], jm 4 0])
 .ret)
 (.seq (.region [jv 1, je 0, jL 5, jc 2, jG 0 3, jG 1 4, jl 5, je 6, jq (.bin .neq .int) [.t 1, .t 7], jm 12 8])
 (.cond 12 (.seq (.region [jq (.store 1) [.v 3, jn 0], jz 4 3])
 .ret)
 (.seq (.region [jL 5, jc 0, jG 0 1, jG 0 2, jl 3, je 4, jq (.bin .sub .int) [.t 5, jn 1], jv 1, jk 47 [jn 0, .t 6, .t 7], jm 13 8])
 (.cond 13 (.seq (.region [jq (.store 1) [.v 3, jn 0], jz 4 4])
 .ret)
 .skip)))))))
 (.seq (.region [jL 5, jk 55 [.t 0], jw 6 (.alloc [(.cv (.int .i64 0)), (.cv (.int .i64 0)), (.cv (.int .i64 0)), (.cv (.int .i64 0)), (.cv (.int .i64 0)), (.cv (.int .i64 0)), (.cv (.int .i64 0))]) [], jq (.store 7) [.v 6, .t 1]])
 (.seq (.seq (.region [jw 14 .mv [.v 1], jw 15 (.len false) [.v 14], jz 16 0])
 (.block 1 (.loop  (ic30l0 b30))))
 (.seq (.region [jL 3, jq (.store 1) [.v 3, .t 0], jz 4 0])
 .ret))))))
theorem cc30 : compC Try.prog vs30 Try.f30.ntmps (Try.f30.body.getD .skip) = some (ic30 (Try.f30.body.getD .skip)) := by kernel_rfl
abbrev rs30 : List RC := [(.l1 3), (.v 4)]
theorem fok30 (p : Bool) : FnOk Try.prog 30 ⟨ic30 (Try.f30.body.getD .skip), vs30, 68, rs30, p⟩ := FnOk.mk' Try.func30 hb30 (by kernel_rfl) cc30 (by kernel_rfl) (by kernel_rfl)

abbrev vs31 : List Nat := [0, 1, 2, 4, 5, 8, 9, 10, 11, 12, 13, 21, 26, 35, 43, 60]
def ic31l0 : IC := (.seq (.seq (.region [jv 10, jv 1, jv 9, ja 1 1 2, jl 3, jw 14 (.bin .lss .int) [.t 0, .t 4]])
 (.cond 14 .skip
 (.exit 2)))
 (.seq (.block 3 (.seq (.region [jv 7, jv 10, ja 1 0 1, jl 2, jq (.bin .gtr .int) [.t 3, jn 0], jt 4, jg 5 true (.fadd 1) [.v 2], ji 5 true 6, jh 5 true 9, jg 5 true (.iaS 1) [.t 7, .t 8], ji 5 true 9, jh 5 true 10, jf 5 true 45 [.t 10, .t 11], jg 5 true .not [.t 12], jw 15 .pick [.t 5, .t 13, jB false]])
 (.cond 15 (.dr [[], [], [], [], [3], [], [], [5, 6], [1, 2, 4, 7, 7], [0, 8], [9, 8, 0, 1, 2, 3, 4, 5, 6, 7, 8, 9]] [jv 8, jN 2 2, jv 6, jv 9, jq (.bin .add .int) [.t 3, jn 1], jv 7, jv 10, jk 61 [.t 5, .t 6], jk 56 [.t 1, .t 2, .t 4, .t 7], jq (.bin .add .int) [.t 0, .t 8], jm 8 9])
 .skip)))
 (.region [jv 10, jq (.bin .add .int) [.t 0, jn 1], jm 10 1])))
def ic31l1 : IC := (.seq (.seq (.region [jv 9, jv 1, je 1, jw 13 (.bin .lss .int) [.t 0, .t 2]])
 (.cond 13 .skip
 (.exit 0)))
 (.seq (.block 1 (.seq (.seq (.region [jz 10 0])
 (.block 2 (.loop ic31l0)))
 (.region [jv 7, jv 1, jv 9, ja 1 1 2, jl 3, jk 61 [.t 0, .t 4], jm 7 5])))
 (.region [jv 9, jq (.bin .add .int) [.t 0, jn 1], jm 9 1])))
def ic31 : IC := (.seq (.region [jb 2 0, jz 3 0, jz 4 0])
 (.seq (.region [jN 2 2, jk 25 [.t 0], jt 1, jx 0 2, jx 1 2, jx 2 2, jt 3, jt 4, jm 5 5])
 (.seq (.seq (.region [jv 5, jw 11 (.bin .eql .int) [.t 0, jn 0]])
 (.cond 11 (.region [jN 2 2, jv 1, jk 40 [.t 0, .t 1], jm 5 2])
 .skip))
 (.seq (.seq (.region [jv 5, jw 12 (.bin .neq .int) [.t 0, jn 0]])
 (.cond 12 (.seq (.region [jv 5, jz 3 0, jm 4 0])
 .ret)
 .skip))
 (.seq (.region [jN 2 2, jk 57 [.t 0], jm 6 1])
 (.seq (.region [jF 0 2, jl 0, jm 7 1, jz 8 0])
 (.seq (.seq (.region [jz 9 0])
 (.block 0 (.loop ic31l1)))
 (.seq (.region [jv 8, jm 3 0, jz 4 0])
 .ret))))))))
abbrev rs31 : List RC := [(.v 3), (.v 4)]
theorem fok31 (p : Bool) : FnOk Try.prog 31 ⟨ic31, vs31, 78, rs31, p⟩ := .mk2 Try.func31 (by kernel_rfl) (by kernel_rfl) (by kernel_rfl) (by kernel_rfl) (by kernel_rfl)

abbrev vs32 : List Nat := [0, 1, 2, 3, 4, 5, 6, 7, 8, 9, 16, 22, 29, 30, 31, 38, 39, 40, 46]
def ic32l0 : IC := (.seq (.region [jw 17 (.bin .lss .int) [.v 16, .v 15]])
 (.seq (.cond 17 .skip
 (.exit 2))
 (.seq (.block 3 (.seq (.region [jv 16, jm 9 0])
 (.seq (.region [jv 7, jv 9, jq (.bin .shr .int) [.t 0, .t 1], jq (.bin .and .int) [.t 2, jn 1], jw 18 (.bin .eql .int) [.t 3, jn 1]])
 (.cond 18 (.region [jv 8, jv 9, jq (.bslice 1 1 [(.cv (.int .i64 0))] [(0, 1)]) [.t 1], jq (.append 1 8) [.t 0, .t 2], jm 8 3])
 .skip))))
 (.region [jq (.bin .add .int) [.v 16, jn 1], jm 16 0]))))
def ic32l1 : IC := (.seq (.region [jw 14 (.bin .lss .int) [.v 13, .v 12]])
 (.seq (.cond 14 .skip
 (.exit 0))
 (.seq (.block 1 (.seq (.region [jv 13, jm 7 0])
 (.seq (.region [jw 8 .mv [jS]])
 (.seq (.seq (.region [jv 4, jc 0, jG 0 1, jG 1 2, jl 3, jw 15 (.len false) [.t 4], jz 16 0])
 (.block 2 (.loop ic32l0)))
 (.region [jv 6, jv 8, jq (.bslice 1 1 [(.cv .nils)] [(0, 1)]) [.t 1], jq (.append 1 24) [.t 0, .t 2], jm 6 3])))))
 (.region [jq (.bin .add .int) [.v 13, jn 1], jm 13 0]))))
def ic32 : IC := (.seq (.region [jb 1 0, jw 2 .mv [jS], jz 3 0])
 (.seq (.region [jN 2 1, jk 53 [.t 0], jt 1, jx 0 2, jx 1 2, jm 4 3, jm 5 4])
 (.seq (.seq (.region [jv 5, jw 10 (.bin .neq .int) [.t 0, jn 0]])
 (.cond 10 (.seq (.region [jv 5, jw 2 .mv [jS], jm 3 0])
 .ret)
 .skip))
 (.seq (.seq (.region [jv 4, jv 4, jk 55 [.t 1], jk 54 [.t 0, .t 2], jw 11 (.bin .gtr .int) [.t 3, jn 0]])
 (.cond 11 (.seq (.region [jw 2 .mv [jS], jz 3 0])
 .ret)
 .skip))
 (.seq (.region [jw 6 .mv [jS]])
 (.seq (.seq (.region [jv 4, jc 0, jG 0 1, jG 1 2, jl 3, je 4, jw 12 (.bin .shl .int) [jn 1, .t 5], jz 13 0])
 (.block 0 (.loop ic32l1)))
 (.seq (.region [jv 6, jk 62 [.t 0, .c (.fn (.func 63) [])]])
 (.seq (.region [jv 6, jv 4, jq (.mkbm 68) [.t 1], jk 67 [.t 0, .t 2], jm 2 3, jz 3 0])
 .ret))))))))
abbrev rs32 : List RC := [(.v 2), (.v 3)]
theorem fok32 (p : Bool) : FnOk Try.prog 32 ⟨ic32, vs32, 63, rs32, p⟩ := .mk2 Try.func32 (by kernel_rfl) (by kernel_rfl) (by kernel_rfl) (by kernel_rfl) (by kernel_rfl)

abbrev vs33 : List Nat := [0, 1, 2, 3, 4, 5, 6, 7, 14, 17, 23, 39]
def ic33l0 : IC := (.seq (.seq (.region [jv 7, jF 1 1, jl 1, je 2, jk 44 [.t 3], jw 10 (.bin .lss .int) [.t 0, .t 4]])
 (.cond 10 .skip
 (.exit 0)))
 (.seq (.block 1 (.seq (.region [jN 2 1, jv 7, jk 43 [.t 0, .t 1], jt 2, jh 3 true 6, jg 3 true (.len false) [.t 4], jg 3 true (.bin .eql .int) [.t 5, jn 0], jg 3 true .mv [.t 6], jh 7 false 7, jf 7 false 70 [.t 8], jh 7 false 6, jf 7 false 69 [.t 9, .t 10], jg 3 true .pick [.t 7, jB true, .t 11], jw 11 .pick [.t 3, .t 12, jB false]])
 (.cond 11 (.region [jv 7, jk 70 [.t 0], jm 6 1])
 .skip)))
 (.region [jv 7, jq (.bin .add .int) [.t 0, jn 1], jm 7 1])))
def ic33 : IC := (.seq (.region [jb 1 0, jw 2 .mv [jS], jz 3 0])
 (.seq (.region [jN 2 1, jk 27 [.t 0], jt 1, jx 0 2, jx 1 2, jm 4 3, jm 5 4])
 (.seq (.seq (.region [jv 5, jw 8 (.bin .neq .int) [.t 0, jn 0]])
 (.cond 8 (.seq (.region [jv 5, jw 2 .mv [jS], jm 3 0])
 .ret)
 .skip))
 (.seq (.seq (.region [jv 4, jw 9 (.bin .gtr .int) [.t 0, jn 0]])
 (.cond 9 (.seq (.region [jw 2 .mv [jS], jz 3 0])
 .ret)
 .skip))
 (.seq (.region [jw 6 .mv [jS]])
 (.seq (.seq (.region [jz 7 1])
 (.block 0 (.loop ic33l0)))
 (.seq (.region [jv 6, jm 2 0, jz 3 0])
 .ret)))))))
abbrev rs33 : List RC := [(.v 2), (.v 3)]
theorem fok33 (p : Bool) : FnOk Try.prog 33 ⟨ic33, vs33, 43, rs33, p⟩ := .mk2 Try.func33 (by kernel_rfl) (by kernel_rfl) (by kernel_rfl) (by kernel_rfl) (by kernel_rfl)

abbrev vs34 : List Nat := [0, 1, 2, 3, 4, 8, 9, 10, 11, 12, 13, 15, 22, 30, 34, 44]
def ic34 : IC := (.seq (.region [jb 4 0, jw 5 .mv [jB false], jz 6 0])
 (.seq (.region [jN 2 4, jk 53 [.t 0], jt 1, jx 0 2, jx 1 2, jm 7 3, jm 8 4])
 (.seq (.seq (.region [jv 8, jw 12 (.bin .neq .int) [.t 0, jn 0]])
 (.cond 12 (.seq (.region [jv 8, jw 5 .mv [jB false], jm 6 0])
 .ret)
 .skip))
 (.seq (.region [jv 1, jv 2, jk 18 [.t 0, .t 1], jt 2, jx 0 3, jx 1 3, jm 9 4, jm 8 5])
 (.seq (.block 0 (.seq (.region [jv 8, jq (.bin .neq .int) [.t 0, jn 0], jm 13 1])
 (.cond 13 (.seq (.region [jv 8, jw 5 .mv [jB false], jm 6 0])
 .ret)
 (.seq (.region [jv 3, je 0, jv 7, jc 2, jG 0 3, jG 1 4, jl 5, je 6, jq (.bin .neq .int) [.t 1, .t 7], jm 14 8])
 (.cond 14 (.seq (.region [jw 5 .mv [jB false], jz 6 3])
 .ret)
 (.seq (.region [jv 9, je 0, jq (.bin .gtr .int) [.t 1, jn 0], jm 15 2])
 (.cond 15 (.seq (.region [jw 5 .mv [jB false], jz 6 0])
 .ret)
 .skip)))))))
 (.seq (.region [jv 2, jk 21 [.t 0], jt 1, jx 0 2, jx 1 2, jm 10 3, jt 4])
 (.seq (.region [jv 7, jv 7, jk 55 [.t 1], jk 54 [.t 0, .t 2], jm 11 3])
 (.seq (.region [jv 11, jq (.bin .gtr .int) [.t 0, jn 0], jt 1, jh 2 true 7, jh 2 true 10, jh 2 true 11, jg 2 true .max2 [jn 1, .t 5], jg 2 true (.bin .rem .int) [.t 4, .t 6], jf 2 true 58 [.t 3, .t 7], jh 2 true 3, jf 2 true 71 [.t 8, .t 9], jq .pick [.t 2, .t 10, jB false], jm 5 11, jz 6 0])
 .ret))))))))
abbrev rs34 : List RC := [(.v 5), (.v 6)]
theorem fok34 (p : Bool) : FnOk Try.prog 34 ⟨ic34, vs34, 69, rs34, p⟩ := .mk2 Try.func34 (by kernel_rfl) (by kernel_rfl) (by kernel_rfl) (by kernel_rfl) (by kernel_rfl)

abbrev vs35 : List Nat := [0, 1, 2, 3, 4, 8, 9, 10, 11, 12, 20, 33, 35, 50]
def ic35 : IC := (.seq (.region [jb 4 0, jw 5 .mv [jB false], jz 6 0])
 (.seq (.region [jN 2 4, jk 27 [.t 0], jt 1, jx 0 2, jx 1 2, jm 7 3, jm 8 4])
 (.seq (.seq (.region [jv 8, jw 10 (.bin .eql .int) [.t 0, jn 0]])
 (.cond 10 (.region [jv 1, jv 2, jk 51 [.t 0, .t 1], jm 8 2])
 .skip))
 (.seq (.seq (.region [jv 8, jq (.bin .eql .int) [.t 0, jn 0], jt 1, jh 2 true 3, jg 2 true (.len false) [.t 3], jg 2 true (.fadd 1) [.v 4], ji 2 true 5, jg 2 true (.len false) [.t 6], jg 2 true (.bin .neq .int) [.t 4, .t 7], jw 11 .pick [.t 2, .t 8, jB false]])
 (.cond 11 (.region [jz 8 3])
 .skip))
 (.seq (.seq (.region [jv 8, jw 12 (.bin .neq .int) [.t 0, jn 0]])
 (.cond 12 (.seq (.region [jv 8, jw 5 .mv [jB false], jm 6 0])
 .ret)
 .skip))
 (.seq (.region [jv 2, jk 22 [.t 0], jt 1, jx 0 2, jx 1 2, jm 9 3, jt 4])
 (.seq (.seq (.region [jv 7, jq (.bin .eql .int) [.t 0, jn 0], jt 1, jh 2 false 1, jh 2 false 2, jf 2 false 52 [.t 3, .t 4], jg 2 false (.len false) [.t 5], jg 2 false (.bin .gtr .int) [.t 6, jn 0], jw 13 .pick [.t 2, jB true, .t 7]])
 (.cond 13 (.seq (.region [jw 5 .mv [jB false], jz 6 0])
 .ret)
 .skip))
 (.seq (.dr [[], [], [], [1, 2], [0, 3], [], [4, 5, 4], [6, 6, 0, 1, 2, 3, 4, 5, 6], [7, 0, 1, 2, 3, 4, 5, 6, 7]] [jN 2 4, jv 9, jv 7, jq (.bin .rem .int) [.t 1, .t 2], jk 59 [.t 0, .t 3], jv 3, jk 20 [.t 4, .t 5], jm 5 6, jz 6 0])
 .ret))))))))
abbrev rs35 : List RC := [(.v 5), (.v 6)]
theorem fok35 (p : Bool) : FnOk Try.prog 35 ⟨ic35, vs35, 58, rs35, p⟩ := .mk2 Try.func35 (by kernel_rfl) (by kernel_rfl) (by kernel_rfl) (by kernel_rfl) (by kernel_rfl)

abbrev vs36 : List Nat := [0]
def ic36 : IC := (.seq (.region [jw 0 (.alloc [(.cv .nils), (.cv .nils)]) []])
 (.seq (.region [jq (.bslice 1 3 [(.cv (.int .i64 0)), (.cv (.int .i64 0)), (.cv (.int .i64 0))] [(0, 1), (1, 1), (2, 1)]) [jn 1, jn 1, jn 2], jq (.bslice 1 4 [(.cv (.int .i64 0)), (.cv (.int .i64 0)), (.cv (.int .i64 0)), (.cv (.int .i64 0))] [(0, 1), (1, 1), (2, 1), (3, 1)]) [jn 1, jn 1, jn 6, jn 6], jq (.build [(.cv .nils), (.cv .nils)] [(0, 1), (1, 1)]) [.t 0, .t 1], jq (.store 2) [.v 0, .t 2]])
 .ret))
abbrev rs36 : List RC := [(.lN 0 2)]
theorem fok36 (p : Bool) : FnOk Try.prog 36 ⟨ic36, vs36, 4, rs36, p⟩ := .mk2 Try.func36 (by kernel_rfl) (by kernel_rfl) (by kernel_rfl) (by kernel_rfl) (by kernel_rfl)

abbrev vs37 : List Nat := [0]
def ic37 : IC := (.seq (.region [jw 0 (.alloc [(.cv .nils), (.cv .nils)]) []])
 (.seq (.region [jq (.bslice 1 3 [(.cv (.int .i64 0)), (.cv (.int .i64 0)), (.cv (.int .i64 0))] [(0, 1), (1, 1), (2, 1)]) [jn 1, jn 1, jn 2], jq (.bslice 1 3 [(.cv (.int .i64 0)), (.cv (.int .i64 0)), (.cv (.int .i64 0))] [(0, 1), (1, 1), (2, 1)]) [jn 1, jn 1, jn 6], jq (.build [(.cv .nils), (.cv .nils)] [(0, 1), (1, 1)]) [.t 0, .t 1], jq (.store 2) [.v 0, .t 2]])
 .ret))
abbrev rs37 : List RC := [(.lN 0 2)]
theorem fok37 (p : Bool) : FnOk Try.prog 37 ⟨ic37, vs37, 4, rs37, p⟩ := .mk2 Try.func37 (by kernel_rfl) (by kernel_rfl) (by kernel_rfl) (by kernel_rfl) (by kernel_rfl)

abbrev vs38 : List Nat := [0, 1, 2, 5]
def ic38 : IC := (.seq (.region [jb 1 0, jw 2 .mv [jB false]])
 (.seq (.region [jN 2 1, jk 25 [.t 0], jt 1, jx 0 2, jx 1 2, jx 2 2, jt 3, jt 4, jm 3 5])
 (.seq (.region [jv 3, jq (.bin .eql .int) [.t 0, jn 0], jm 2 1])
 .ret)))
abbrev rs38 : List RC := [(.v 2)]
theorem fok38 (p : Bool) : FnOk Try.prog 38 ⟨ic38, vs38, 14, rs38, p⟩ := .mk2 Try.func38 (by kernel_rfl) (by kernel_rfl) (by kernel_rfl) (by kernel_rfl) (by kernel_rfl)

abbrev vs39 : List Nat := [0, 1, 2, 4, 5, 6, 7, 8, 9, 10, 11, 20, 26, 43, 50]
def ic39l0 : IC := (.seq (.seq (.region [jv 9, jv 5, je 1, jw 12 (.bin .lss .int) [.t 0, .t 2]])
 (.cond 12 .skip
 (.exit 2)))
 (.seq (.block 3 (.seq (.region [jv 5, jv 9, ja 1 0 1, jl 2, jq (.bin .gtr .int) [.t 3, jn 0], jt 4, jg 5 true (.fadd 1) [.v 2], ji 5 true 6, jh 5 true 7, jg 5 true (.iaS 1) [.t 7, .t 8], ji 5 true 9, jh 5 true 9, jf 5 true 45 [.t 10, .t 11], jg 5 true .not [.t 12], jw 13 .pick [.t 5, .t 13, jB false]])
 (.cond 13 (.region [jv 8, jv 9, jq (.bslice 1 1 [(.cv (.int .i64 0))] [(0, 1)]) [.t 1], jq (.append 1 8) [.t 0, .t 2], jm 8 3])
 .skip)))
 (.region [jv 9, jq (.bin .add .int) [.t 0, jn 1], jm 9 1])))
def ic39l1 : IC := (.seq (.seq (.region [jv 7, jF 1 2, jl 1, je 2, jw 11 (.bin .lss .int) [.t 0, .t 3]])
 (.cond 11 .skip
 (.exit 0)))
 (.seq (.block 1 (.seq (.region [jw 8 .mv [jS]])
 (.seq (.seq (.region [jz 9 0])
 (.block 2 (.loop ic39l0)))
 (.seq (.seq (.region [jv 8, je 0, jw 14 (.bin .eql .int) [.t 1, jn 0]])
 (.cond 14 (.seq (.region [jw 3 .mv [jS], jw 4 .mv [jB false]])
 .ret)
 .skip))
 (.seq (.region [jv 8, jv 1, jv 7, jk 46 [.t 1, .t 2], jv 8, je 4, jq (.bin .rem .int) [.t 3, .t 5], ja 1 0 6, jl 7, jm 10 8])
 (.seq (.region [jv 6, jv 10, jq (.bslice 1 1 [(.cv (.int .i64 0))] [(0, 1)]) [.t 1], jq (.append 1 8) [.t 0, .t 2], jm 6 3])
 (.region [jv 5, jv 10, ja 1 0 1, jl 2, jq (.bin .sub .int) [.t 3, jn 1], ja 1 0 1, jq (.store 1) [.t 5, .t 4]])))))))
 (.region [jv 7, jq (.bin .add .int) [.t 0, jn 1], jm 7 1])))
def ic39 : IC := (.seq (.region [jb 2 0, jw 3 .mv [jS], jw 4 .mv [jB false]])
 (.seq (.region [jq (.bslice 1 0 [] []) [], jF 0 2, jl 1, jq (.append 1 8) [.t 0, .t 2], jm 5 3])
 (.seq (.region [jw 6 .mv [jS]])
 (.seq (.seq (.region [jz 7 0])
 (.block 0 (.loop ic39l1)))
 (.seq (.region [jv 6, jm 3 0, jw 4 .mv [jB true]])
 .ret)))))
abbrev rs39 : List RC := [(.v 3), (.v 4)]
theorem fok39 (p : Bool) : FnOk Try.prog 39 ⟨ic39, vs39, 71, rs39, p⟩ := .mk2 Try.func39 (by kernel_rfl) (by kernel_rfl) (by kernel_rfl) (by kernel_rfl) (by kernel_rfl)

abbrev vs40 : List Nat := [0, 1, 2, 4, 5, 6, 7, 8, 14, 18, 30, 34, 40, 51, 75]
def ic40l0 : IC := (.seq (.seq (.region [jv 7, jv 1, je 1, jw 12 (.bin .lss .int) [.t 0, .t 2]])
 (.cond 12 .skip
 (.exit 4)))
 (.seq (.block 5 (.seq (.dr [[], [], [0, 1], [2], [], [], [4, 5], [6], [3, 7]] [jv 1, jv 7, ja 1 0 1, jl 2, jv 1, jv 5, ja 1 4 5, jl 6, jw 13 (.bin .eql .int) [.t 3, .t 7]])
 (.cond 13 (.region [jv 6, jq (.bin .add .int) [.t 0, jn 1], jm 6 1])
 .skip)))
 (.region [jv 7, jq (.bin .add .int) [.t 0, jn 1], jm 7 1])))
def ic40l1 : IC := (.seq (.seq (.region [jv 5, jv 1, je 1, jw 11 (.bin .lss .int) [.t 0, .t 2]])
 (.cond 11 .skip
 (.exit 2)))
 (.seq (.block 3 (.seq (.region [jz 6 0])
 (.seq (.seq (.region [jz 7 0])
 (.block 4 (.loop ic40l0)))
 (.seq (.dr [[], [0], [], [1, 2], [3], [], [], [5, 6], [7], [4, 8], [9, 9], [10], [10], [12, 10], [10], [10], [14, 15, 10], [16, 10], [13, 17, 10], [18, 10], [11, 19, 10], [10, 20]] [jF 1 2, jl 0, jv 5, ja 1 1 2, jl 3, jv 1, jv 5, ja 1 5 6, jl 7, jk 45 [.t 4, .t 8], jt 9, jh 10 false 6, jg 10 false (.fadd 0) [.v 2], ji 10 false 12, jh 10 false 1, jh 10 false 5, jg 10 false (.iaS 1) [.t 14, .t 15], ji 10 false 16, jg 10 false (.iaS 1) [.t 13, .t 17], ji 10 false 18, jg 10 false (.bin .gtr .int) [.t 11, .t 19], jw 14 .pick [.t 10, jB true, .t 20]])
 (.cond 14 (.seq (.region [jz 3 2])
 .ret)
 .skip)))))
 (.region [jv 5, jq (.bin .add .int) [.t 0, jn 1], jm 5 1])))
def ic40l2 : IC := (.seq (.seq (.region [jv 4, jv 1, je 1, jw 9 (.bin .lss .int) [.t 0, .t 2]])
 (.cond 9 .skip
 (.exit 0)))
 (.seq (.block 1 (.seq (.dr [[], [], [0, 1], [2], [], [4], [5], [6], [3, 7], [8]] [jv 1, jv 4, ja 1 0 1, jl 2, jF 0 2, jl 4, je 5, jq (.bin .sub .int) [.t 6, jn 1], jk 48 [.t 3, jn 0, .t 7], jw 10 .not [.t 8]])
 (.cond 10 (.seq (.region [jz 3 4])
 .ret)
 .skip)))
 (.region [jv 4, jq (.bin .add .int) [.t 0, jn 1], jm 4 1])))
def ic40 : IC := (.seq (.region [jb 2 0, jz 3 0])
 (.seq (.seq (.region [jv 1, je 0, jF 1 2, jl 2, je 3, jw 8 (.bin .neq .int) [.t 1, .t 4]])
 (.cond 8 (.seq (.region [jz 3 3])
 .ret)
 .skip))
 (.seq (.seq (.region [jz 4 0])
 (.block 0 (.loop ic40l2)))
 (.seq (.seq (.region [jz 5 0])
 (.block 2 (.loop ic40l1)))
 (.seq (.region [jz 3 0])
 .ret)))))
abbrev rs40 : List RC := [(.v 3)]
theorem fok40 (p : Bool) : FnOk Try.prog 40 ⟨ic40, vs40, 76, rs40, p⟩ := .mk2 Try.func40 (by kernel_rfl) (by kernel_rfl) (by kernel_rfl) (by kernel_rfl) (by kernel_rfl)

abbrev vs41 : List Nat := [0, 2, 3, 7, 11, 19]
def ic41l0 : IC := (.seq (.seq (.region [jv 2, jv 0, je 1, jw 4 (.bin .lss .int) [.t 0, .t 2]])
 (.cond 4 .skip
 (.exit 0)))
 (.seq (.block 1 (.seq (.region [jv 0, jv 2, ja 1 0 1, jl 2, jk 48 [.t 3, jn 0, jn 1000000000], jw 5 .not [.t 4]])
 (.cond 5 (.seq (.region [jz 1 7])
 .ret)
 .skip)))
 (.region [jv 2, jq (.bin .add .int) [.t 0, jn 1], jm 2 1])))
def ic41 : IC := (.seq (.region [jz 1 0])
 (.seq (.seq (.region [jv 0, je 0, jk 48 [.t 1, jn 1, jn 8], jw 3 .not [.t 2]])
 (.cond 3 (.seq (.region [jz 1 3])
 .ret)
 .skip))
 (.seq (.seq (.region [jz 2 0])
 (.block 0 (.loop ic41l0)))
 (.seq (.region [jz 1 0])
 .ret))))
abbrev rs41 : List RC := [(.v 1)]
theorem fok41 (p : Bool) : FnOk Try.prog 41 ⟨ic41, vs41, 20, rs41, p⟩ := .mk2 Try.func41 (by kernel_rfl) (by kernel_rfl) (by kernel_rfl) (by kernel_rfl) (by kernel_rfl)

abbrev vs42 : List Nat := [0, 2, 3, 4, 5, 10]
def ic42l0 : IC := (.seq (.seq (.region [jv 3, jv 0, je 1, jw 5 (.bin .lss .int) [.t 0, .t 2]])
 (.cond 5 .skip
 (.exit 0)))
 (.seq (.block 1 (.seq (.region [jv 3, jv 0, jv 3, ja 1 1 2, jl 3, jk 16 [.t 0, .t 4], jt 5, jx 0 6, jx 1 6, jm 4 7, jt 8])
 (.region [jv 2, jv 4, jq (.bslice 1 1 [(.cv (.int .i64 0))] [(0, 1)]) [.t 1], jq (.append 1 8) [.t 0, .t 2], jm 2 3])))
 (.region [jv 3, jq (.bin .add .int) [.t 0, jn 1], jm 3 1])))
def ic42 : IC := (.seq (.region [jw 1 .mv [jS]])
 (.seq (.region [jw 2 .mv [jS]])
 (.seq (.seq (.region [jz 3 0])
 (.block 0 (.loop ic42l0)))
 (.seq (.region [jv 2, jm 1 0])
 .ret))))
abbrev rs42 : List RC := [(.v 1)]
theorem fok42 (p : Bool) : FnOk Try.prog 42 ⟨ic42, vs42, 27, rs42, p⟩ := .mk2 Try.func42 (by kernel_rfl) (by kernel_rfl) (by kernel_rfl) (by kernel_rfl) (by kernel_rfl)

abbrev vs43 : List Nat := [0, 1, 2, 4, 5, 6, 7, 8, 9, 10, 15, 20, 27, 34, 53]
def ic43l0 : IC := (.seq (.seq (.region [jv 9, jF 1 2, jl 1, je 2, jw 13 (.bin .lss .int) [.t 0, .t 3]])
 (.cond 13 .skip
 (.exit 4)))
 (.seq (.block 5 (.region [jv 8, jt 0, jh 1 false 1, jh 1 false 9, jf 1 false 45 [.t 2, .t 3], jg 1 false .mv [.t 4], jg 5 true (.fadd 1) [.v 2], ji 5 true 6, jh 5 true 9, jg 5 true (.iaS 1) [.t 7, .t 8], ji 5 true 9, jh 5 true 7, jf 5 true 45 [.t 10, .t 11], jg 5 true .not [.t 12], jg 1 false .pick [.t 5, .t 13, jB false], jq .pick [.t 1, jB true, .t 14], jm 8 15]))
 (.region [jv 9, jq (.bin .add .int) [.t 0, jn 1], jm 9 1])))
def ic43l1 : IC := (.seq (.seq (.region [jv 7, jF 0 2, jl 1, je 2, jw 12 (.bin .lss .int) [.t 0, .t 3]])
 (.cond 12 .skip
 (.exit 2)))
 (.seq (.block 3 (.seq (.region [jw 8 .mv [jB false]])
 (.seq (.seq (.region [jz 9 0])
 (.block 4 (.loop ic43l0)))
 (.seq (.region [jw 14 .mv [.v 8]])
 (.cond 14 (.region [jv 5, jF 0 2, jl 1, jv 7, ja 1 2 3, jl 4, jq (.bin .add .int) [.t 0, .t 5], jm 5 6])
 .skip)))))
 (.region [jv 7, jq (.bin .add .int) [.t 0, jn 1], jm 7 1])))
def ic43l2 : IC := (.seq (.seq (.region [jv 6, jF 1 2, jl 1, je 2, jw 10 (.bin .lss .int) [.t 0, .t 3]])
 (.cond 10 .skip
 (.exit 0)))
 (.seq (.block 1 (.seq (.region [jv 1, jv 6, jd 11 45 [.t 0, .t 1]])
 (.cond 11 (.region [jv 4, jq (.bin .add .int) [.t 0, jn 1], jm 4 1])
 .skip)))
 (.region [jv 6, jq (.bin .add .int) [.t 0, jn 1], jm 6 1])))
def ic43 : IC := (.seq (.region [jb 2 0, jw 3 .mv [jB false]])
 (.seq (.region [jz 4 0, jz 5 0])
 (.seq (.seq (.region [jz 6 0])
 (.block 0 (.loop ic43l2)))
 (.seq (.seq (.region [jz 7 0])
 (.block 2 (.loop ic43l1)))
 (.seq (.region [jv 5, jv 4, jq (.bin .lss .int) [.t 0, .t 1], jm 3 2])
 .ret)))))
abbrev rs43 : List RC := [(.v 3)]
theorem fok43 (p : Bool) : FnOk Try.prog 43 ⟨ic43, vs43, 64, rs43, p⟩ := .mk2 Try.func43 (by kernel_rfl) (by kernel_rfl) (by kernel_rfl) (by kernel_rfl) (by kernel_rfl)

abbrev vs44 : List Nat := [0, 2, 3, 4, 7]
def ic44l0 : IC := (.seq (.seq (.region [jv 3, jv 0, jw 4 (.bin .lss .int) [.t 0, .t 1]])
 (.cond 4 .skip
 (.exit 0)))
 (.seq (.block 1 (.region [jv 2, jq (.bin .mul .int) [jn 2, .t 0], jm 2 1]))
 (.region [jv 3, jq (.bin .add .int) [.t 0, jn 1], jm 3 1])))
def ic44 : IC := (.seq (.region [jz 1 0])
 (.seq (.region [jz 2 1])
 (.seq (.seq (.region [jz 3 0])
 (.block 0 (.loop ic44l0)))
 (.seq (.region [jv 2, jm 1 0])
 .ret))))
abbrev rs44 : List RC := [(.v 1)]
theorem fok44 (p : Bool) : FnOk Try.prog 44 ⟨ic44, vs44, 13, rs44, p⟩ := .mk2 Try.func44 (by kernel_rfl) (by kernel_rfl) (by kernel_rfl) (by kernel_rfl) (by kernel_rfl)

abbrev vs45 : List Nat := [0, 1, 4]
def ic45 : IC := (.seq (.region [jw 2 .mv [jB false]])
 (.seq (.region [jv 0, jv 1, jk 44 [.t 1], jq (.bin .quo .int) [.t 0, .t 2], jq (.bin .rem .int) [.t 3, jn 2], jq (.bin .eql .int) [.t 4, jn 1], jm 2 5])
 .ret))
abbrev rs45 : List RC := [(.v 2)]
theorem fok45 (p : Bool) : FnOk Try.prog 45 ⟨ic45, vs45, 11, rs45, p⟩ := .mk2 Try.func45 (by kernel_rfl) (by kernel_rfl) (by kernel_rfl) (by kernel_rfl) (by kernel_rfl)

abbrev vs46 : List Nat := [0, 1, 4, 7]
def ic46 : IC := (.seq (.region [jz 2 0])
 (.seq (.seq (.region [jv 0, je 0, jw 3 (.bin .eql .int) [.t 1, jn 0]])
 (.cond 3 (.seq (.region [jz 2 0])
 .ret)
 .skip))
 (.seq (.region [jv 0, jv 1, jv 0, je 2, jq (.bin .rem .int) [.t 1, .t 3], ja 1 0 4, jl 5, jq (.conv .i64) [.t 6], jm 2 7])
 .ret)))
abbrev rs46 : List RC := [(.v 2)]
theorem fok46 (p : Bool) : FnOk Try.prog 46 ⟨ic46, vs46, 16, rs46, p⟩ := .mk2 Try.func46 (by kernel_rfl) (by kernel_rfl) (by kernel_rfl) (by kernel_rfl) (by kernel_rfl)

abbrev vs47 : List Nat := [0, 1, 2, 3, 4, 6]
def ic47 : IC := (.seq (.region [jb 3 0, jb 4 1, jw 5 .mv [jB false]])
 (.seq (.region [jv 2, jq (.mkfn (.func 73)) [.v 3, .v 4], jk 72 [.t 0, .t 1], jm 5 2])
 .ret))
abbrev rs47 : List RC := [(.v 5)]
theorem fok47 (p : Bool) : FnOk Try.prog 47 ⟨ic47, vs47, 10, rs47, p⟩ := .mk2 Try.func47 (by kernel_rfl) (by kernel_rfl) (by kernel_rfl) (by kernel_rfl) (by kernel_rfl)

abbrev vs48 : List Nat := [0, 1, 2, 6]
def ic48 : IC := (.seq (.region [jw 3 .mv [jB false]])
 (.seq (.region [jv 0, jv 1, jq (.bin .geq .int) [.t 0, .t 1], jt 2, jh 3 true 0, jh 3 true 2, jg 3 true (.bin .leq .int) [.t 4, .t 5], jq .pick [.t 3, .t 6, jB false], jm 3 7])
 .ret))
abbrev rs48 : List RC := [(.v 3)]
theorem fok48 (p : Bool) : FnOk Try.prog 48 ⟨ic48, vs48, 15, rs48, p⟩ := .mk2 Try.func48 (by kernel_rfl) (by kernel_rfl) (by kernel_rfl) (by kernel_rfl) (by kernel_rfl)

abbrev vs49 : List Nat := [0, 1, 4, 5, 6, 14]
def ic49l0 : IC := (.seq (.seq (.region [jv 4, jw 5 (.bin .lss .int) [.t 0, jn 2]])
 (.cond 5 .skip
 (.exit 0)))
 (.seq (.block 1 (.region [jv 3, jv 3, jq (.bin .mul .int) [.t 0, .t 1], jq (.bin .add .int) [.t 2, jn 12345], jq (.bin .rem .int) [.t 3, jn 2147483647], jm 3 4]))
 (.region [jv 4, jq (.bin .add .int) [.t 0, jn 1], jm 4 1])))
def ic49 : IC := (.seq (.region [jz 2 0])
 (.seq (.region [jv 1, jq (.bin .add .int) [.t 0, jn 1], jv 0, jq (.bin .mul .int) [jn 7, .t 2], jq (.bin .add .int) [.t 1, .t 3], jq (.bin .rem .int) [.t 4, jn 2147483647], jm 3 5])
 (.seq (.seq (.region [jz 4 0])
 (.block 0 (.loop ic49l0)))
 (.seq (.region [jv 3, jm 2 0])
 .ret))))
abbrev rs49 : List RC := [(.v 2)]
theorem fok49 (p : Bool) : FnOk Try.prog 49 ⟨ic49, vs49, 23, rs49, p⟩ := .mk2 Try.func49 (by kernel_rfl) (by kernel_rfl) (by kernel_rfl) (by kernel_rfl) (by kernel_rfl)

abbrev vs50 : List Nat := [0, 2, 3, 8]
def ic50 : IC := (.seq (.region [jz 1 0])
 (.seq (.block 0 (.seq (.region [jv 0, je 0, jq (.bslice 1 1 [(.cv (.int .i64 0))] [(0, 1)]) [.t 1], jk 47 [jn 1, jn 8, .t 2], jm 2 3])
 (.cond 2 (.seq (.region [jz 1 3])
 .ret)
 (.seq (.region [jv 0, jk 47 [jn 0, jn 1000000000, .t 0], jm 3 1])
 (.cond 3 (.seq (.region [jz 1 7])
 .ret)
 .skip)))))
 (.seq (.region [jz 1 0])
 .ret)))
abbrev rs50 : List RC := [(.v 1)]
theorem fok50 (p : Bool) : FnOk Try.prog 50 ⟨ic50, vs50, 11, rs50, p⟩ := .mk2 Try.func50 (by kernel_rfl) (by kernel_rfl) (by kernel_rfl) (by kernel_rfl) (by kernel_rfl)

abbrev vs51 : List Nat := [0, 1, 4, 5, 6, 17, 25, 33]
def ic51l0 : IC := (.seq (.seq (.region [jv 4, jv 0, je 1, jq (.bin .lss .int) [.t 0, .t 2], jt 3, jh 4 true 3, jg 4 true (.bin .eql .int) [.t 5, jn 0], jw 6 .pick [.t 4, .t 6, jB false]])
 (.cond 6 .skip
 (.exit 0)))
 (.seq (.block 1 (.seq (.region [jv 0, jv 4, ja 1 0 1, jl 2, jk 48 [.t 3, jn 0, jn 2147483646], jw 7 .not [.t 4]])
 (.cond 7 (.region [jz 3 7])
 .skip)))
 (.region [jv 4, jq (.bin .add .int) [.t 0, jn 1], jm 4 1])))
def ic51 : IC := (.seq (.region [jz 2 0])
 (.seq (.region [jv 1, jk 41 [.t 0], jm 3 1])
 (.seq (.seq (.region [jv 3, jq (.bin .eql .int) [.t 0, jn 0], jt 1, jh 2 true 0, jg 2 true (.len false) [.t 3], jh 2 true 1, jg 2 true (.len false) [.t 5], jg 2 true (.bin .neq .int) [.t 4, .t 6], jw 5 .pick [.t 2, .t 7, jB false]])
 (.cond 5 (.region [jz 3 3])
 .skip))
 (.seq (.seq (.region [jz 4 0])
 (.block 0 (.loop ic51l0)))
 (.seq (.region [jv 3, jm 2 0])
 .ret)))))
abbrev rs51 : List RC := [(.v 2)]
theorem fok51 (p : Bool) : FnOk Try.prog 51 ⟨ic51, vs51, 35, rs51, p⟩ := .mk2 Try.func51 (by kernel_rfl) (by kernel_rfl) (by kernel_rfl) (by kernel_rfl) (by kernel_rfl)

abbrev vs52 : List Nat := [0, 1, 4, 5, 6, 10, 23]
def ic52l0 : IC := (.seq (.seq (.region [jv 4, jv 1, je 1, jw 5 (.bin .lss .int) [.t 0, .t 2]])
 (.cond 5 .skip
 (.exit 0)))
 (.seq (.block 1 (.seq (.dr [[], [], [], [1, 2], [3], [0, 4], [], [], [6, 7], [8], [5, 9]] [jv 4, jv 1, jv 4, ja 1 1 2, jl 3, jk 49 [.t 0, .t 4], jv 0, jv 4, ja 1 6 7, jl 8, jw 6 (.bin .neq .int) [.t 5, .t 9]])
 (.cond 6 (.region [jv 3, jv 4, jq (.bslice 1 1 [(.cv (.int .i64 0))] [(0, 1)]) [.t 1], jq (.append 1 8) [.t 0, .t 2], jm 3 3])
 .skip)))
 (.region [jv 4, jq (.bin .add .int) [.t 0, jn 1], jm 4 1])))
def ic52 : IC := (.seq (.region [jw 2 .mv [jS]])
 (.seq (.region [jw 3 .mv [jS]])
 (.seq (.seq (.region [jz 4 0])
 (.block 0 (.loop ic52l0)))
 (.seq (.region [jv 3, jm 2 0])
 .ret))))
abbrev rs52 : List RC := [(.v 2)]
theorem fok52 (p : Bool) : FnOk Try.prog 52 ⟨ic52, vs52, 29, rs52, p⟩ := .mk2 Try.func52 (by kernel_rfl) (by kernel_rfl) (by kernel_rfl) (by kernel_rfl) (by kernel_rfl)

abbrev vs53 : List Nat := [0, 1, 2, 3, 6]
def ic53 : IC := (.seq (.region [jb 1 0, jw 2 .mv [.c (.cv .nilp)], jz 3 0])
 (.seq (.region [jN 2 1, jk 24 [.t 0], jt 1, jx 0 2, jx 1 2, jx 2 2, jt 3, jt 4, jm 4 5])
 (.seq (.region [jN 2 1, jq .mkmap [], jq (.build [(.cv .nils), (.cv .nils), (.cv .nilm)] [(0, 2), (2, 1)]) [.t 0, .t 1], jq .box [.t 2], jv 4, jm 2 3, jm 3 4])
 .ret)))
abbrev rs53 : List RC := [(.v 2), (.v 3)]
theorem fok53 (p : Bool) : FnOk Try.prog 53 ⟨ic53, vs53, 18, rs53, p⟩ := .mk2 Try.func53 (by kernel_rfl) (by kernel_rfl) (by kernel_rfl) (by kernel_rfl) (by kernel_rfl)

abbrev vs54 : List Nat := [0, 1, 2, 3, 4, 5]
def ic54 : IC := (.seq (.region [jb 2 0, jb 3 1, jz 4 0])
 (.seq (.region [jw 5 (.alloc [(.cv .nilf)]) []])
 (.seq (.region [jq (.mkfn (.func 74)) [.v 2, .v 5], jq (.store 1) [.v 5, .t 0]])
 (.seq (.region [jL 5, jN 7 3, ⟨none, none, .call, [(.t 0), (.t 1)]⟩, jm 4 2])
 .ret))))
abbrev rs54 : List RC := [(.v 4)]
theorem fok54 (p : Bool) : FnOk Try.prog 54 ⟨ic54, vs54, 10, rs54, p⟩ := .mk2 Try.func54 (by kernel_rfl) (by kernel_rfl) (by kernel_rfl) (by kernel_rfl) (by kernel_rfl)

abbrev vs55 : List Nat := [0, 2]
def ic55 : IC := (.seq (.region [jw 1 (.alloc [(.cv (.int .i64 0)), (.cv (.int .i64 0)), (.cv (.int .i64 0)), (.cv (.int .i64 0)), (.cv (.int .i64 0)), (.cv (.int .i64 0)), (.cv (.int .i64 0))]) []])
 (.seq (.dr [[], [0], [], [2], [3], [4], [5], [1, 6]] [jF 1 1, jq (.slA 6 1 false false) [.t 0], jv 0, jc 2, jG 0 3, jG 0 4, jl 5, jq (.copy 1) [.t 1, .t 6]])
 (.seq (.region [jN 7 1, jq (.store 7) [.v 1, .t 0]])
 .ret)))
abbrev rs55 : List RC := [(.lN 1 7)]
theorem fok55 (p : Bool) : FnOk Try.prog 55 ⟨ic55, vs55, 12, rs55, p⟩ := .mk2 Try.func55 (by kernel_rfl) (by kernel_rfl) (by kernel_rfl) (by kernel_rfl) (by kernel_rfl)

abbrev vs56 : List Nat := [0, 1, 2, 3, 4, 8, 9, 10, 11, 12, 17, 21, 38, 49, 66]
def ic56l0 : IC := (.seq (.seq (.region [jv 9, jv 3, je 1, jw 13 (.bin .lss .int) [.t 0, .t 2]])
 (.cond 13 .skip
 (.exit 2)))
 (.seq (.block 3 (.seq (.region [jv 3, jv 9, ja 1 0 1, jl 2, jq (.bin .gtr .int) [.t 3, jn 0], jt 4, jg 5 true (.fadd 1) [.v 4], ji 5 true 6, jh 5 true 2, jg 5 true (.iaS 1) [.t 7, .t 8], ji 5 true 9, jh 5 true 9, jf 5 true 45 [.t 10, .t 11], jg 5 true .not [.t 12], jw 14 .pick [.t 5, .t 13, jB false]])
 (.cond 14 (.dr [[], [], [], [], [3], [], [], [5, 6], [1, 2, 4, 7, 7], [0, 8], [9, 8, 0, 1, 2, 3, 4, 5, 6, 7, 8, 9]] [jv 8, jN 2 4, jv 1, jv 2, jq (.bin .add .int) [.t 3, jn 1], jv 3, jv 9, jk 61 [.t 5, .t 6], jk 56 [.t 1, .t 2, .t 4, .t 7], jq (.bin .add .int) [.t 0, .t 8], jm 8 9])
 .skip)))
 (.region [jv 9, jq (.bin .add .int) [.t 0, jn 1], jm 9 1])))
def ic56l1 : IC := (.seq (.seq (.region [jv 7, jv 3, je 1, jw 11 (.bin .lss .int) [.t 0, .t 2]])
 (.cond 11 .skip
 (.exit 0)))
 (.seq (.block 1 (.region [jv 6, jq (.bin .mul .int) [.t 0, jn 5], jv 3, jv 7, ja 1 2 3, jl 4, jq (.bin .add .int) [.t 1, .t 5], jm 6 6]))
 (.region [jv 7, jq (.bin .add .int) [.t 0, jn 1], jm 7 1])))
def ic56 : IC := (.seq (.region [jb 4 0, jz 5 0])
 (.seq (.seq (.region [jv 2, jF 1 4, jl 1, je 2, jw 10 (.bin .eql .int) [.t 0, .t 3]])
 (.cond 10 (.seq (.region [jz 5 1])
 .ret)
 .skip))
 (.seq (.region [jz 6 0])
 (.seq (.seq (.region [jz 7 0])
 (.block 0 (.loop ic56l1)))
 (.seq (.seq (.region [jv 1, jv 2, ja 1 0 1, jl 2, jv 6, ja 1 3 4, jl 5, jw 12 (.bin .geq .int) [.t 6, jn 0]])
 (.cond 12 (.seq (.region [jv 1, jv 2, ja 1 0 1, jl 2, jv 6, ja 1 3 4, jl 5, jm 5 6])
 .ret)
 .skip))
 (.seq (.region [jz 8 0])
 (.seq (.seq (.region [jz 9 0])
 (.block 2 (.loop ic56l0)))
 (.seq (.region [jv 1, jv 2, ja 1 0 1, jl 2, jv 6, jv 8, ja 1 3 4, jq (.store 1) [.t 6, .t 5]])
 (.seq (.region [jv 8, jm 5 0])
 .ret)))))))))
abbrev rs56 : List RC := [(.v 5)]
theorem fok56 (p : Bool) : FnOk Try.prog 56 ⟨ic56, vs56, 85, rs56, p⟩ := .mk2 Try.func56 (by kernel_rfl) (by kernel_rfl) (by kernel_rfl) (by kernel_rfl) (by kernel_rfl)

abbrev vs57 : List Nat := [0, 1, 2, 3, 4, 5, 6, 7, 12, 24, 34]
def ic57l0 : IC := (.seq (.seq (.region [jv 7, jv 3, jw 10 (.bin .lss .int) [.t 0, .t 1]])
 (.cond 10 .skip
 (.exit 4)))
 (.seq (.block 5 (.region [jv 5, jv 6, ja 1 0 1, jl 2, jv 7, ja 1 3 4, jq (.store 1) [.t 5, jn (-1)]]))
 (.region [jv 7, jq (.bin .add .int) [.t 0, jn 1], jm 7 1])))
def ic57l1 : IC := (.seq (.seq (.region [jv 6, jv 5, je 1, jw 9 (.bin .lss .int) [.t 0, .t 2]])
 (.cond 9 .skip
 (.exit 2)))
 (.seq (.block 3 (.seq (.region [jv 5, jv 6, jv 3, jq (.mkslice 1 8 [(.cv (.int .i64 0))]) [.t 2, .t 2], ja 1 0 1, jq (.store 1) [.t 4, .t 3]])
 (.seq (.region [jz 7 0])
 (.block 4 (.loop ic57l0)))))
 (.region [jv 6, jq (.bin .add .int) [.t 0, jn 1], jm 6 1])))
def ic57l2 : IC := (.seq (.seq (.region [jv 4, jF 0 1, jl 1, je 2, jw 8 (.bin .lss .int) [.t 0, .t 3]])
 (.cond 8 .skip
 (.exit 0)))
 (.seq (.block 1 (.region [jv 3, jq (.bin .mul .int) [.t 0, jn 5], jm 3 1]))
 (.region [jv 4, jq (.bin .add .int) [.t 0, jn 1], jm 4 1])))
def ic57 : IC := (.seq (.region [jb 1 0, jw 2 .mv [jS]])
 (.seq (.region [jz 3 1])
 (.seq (.seq (.region [jz 4 0])
 (.block 0 (.loop ic57l2)))
 (.seq (.region [jF 1 1, jl 0, je 1, jq (.mkslice 1 24 [(.cv .nils)]) [.t 2, .t 2], jm 5 3])
 (.seq (.seq (.region [jz 6 0])
 (.block 2 (.loop ic57l1)))
 (.seq (.region [jv 5, jm 2 0])
 .ret))))))
abbrev rs57 : List RC := [(.v 2)]
theorem fok57 (p : Bool) : FnOk Try.prog 57 ⟨ic57, vs57, 44, rs57, p⟩ := .mk2 Try.func57 (by kernel_rfl) (by kernel_rfl) (by kernel_rfl) (by kernel_rfl) (by kernel_rfl)

theorem hb58 : Try.f58.body = some (Try.f58.body.getD .skip) := by kernel_rfl
abbrev vs58 : List Nat := [0, 1, 2, 3, 4, 5, 6, 7, 8, 16, 17, 18, 21, 22, 23, 29]
def ic58l0 (b58 : Code) : IC := (.seq (.region [jw 11 (.bin .lss .int) [.v 10, .v 9]])
 (.seq (.cond 11 .skip
 (.exit 0))
 (.seq (.block 1 (.seq (.region [jL 2, jN 7 5, jd 12 60 [.t 0, .t 1]])
 (.block 2 (.rangef (.v 12) #[22, 23] (nav [1, 0, 1, 1, 0, 1, 0, 0, 1, 1, 0, 0, 1, 0, 2] b58) (nav [1, 0, 1, 1, 0, 1, 0, 0, 1, 1, 0, 0, 1, 0, 3] b58) (.seq (.region [jw 6 .mv [.v 13]])
 (.region [jw 7 (.alloc [(.cv (.int .i64 0)), (.cv (.int .i64 0)), (.cv (.int .i64 0)), (.cv (.int .i64 0)), (.cv (.int .i64 0)), (.cv (.int .i64 0)), (.cv (.int .i64 0))]) [], jq (.store 7) [.v 7, .v 14]]))
 (.block 3 (.seq (.seq (.region [jL 2, jN 7 7, jk 54 [.t 0, .t 1], jm 8 2])
 (.seq (.region [jL 3, jv 8, jw 15 (.bin .geq .int) [.t 0, .t 1]])
 (.cond 15 (.seq (.region [jL 3, jv 8, jq (.bin .sub .int) [.t 0, .t 1], jq (.store 1) [.v 3, .t 2]])
 (.exit 3))
 .skip)))
 (.seq (.dr [[], [], [1], [0, 2], [], [3, 3, 0, 1, 2, 3], [4, 5, 0, 1, 2, 3, 4, 5]] [jL 4, jv 6, jq (.bslice 1 1 [(.cv (.int .i64 0))] [(0, 1)]) [.t 1], jq (.append 1 8) [.t 0, .t 2], jN 7 7, jq (.store 1) [.v 4, .t 3], jq (.store 7) [.v 5, .t 4]])
 (.exit 1))))))))
 (.region [jq (.bin .add .int) [.v 10, jn 1], jm 10 0]))))
def ic58 (b58 : Code) : IC := (.seq (.region [jb 2 0, jb 3 1, jw 4 (.alloc [(.cv .nils)]) []])
 (.scope (.seq (.region [jL 2, jk 55 [.t 0], jw 5 (.alloc [(.cv (.int .i64 0)), (.cv (.int .i64 0)), (.cv (.int .i64 0)), (.cv (.int .i64 0)), (.cv (.int .i64 0)), (.cv (.int .i64 0)), (.cv (.int .i64 0))]) [], jq (.store 7) [.v 5, .t 1]])
 (.seq (.label 0)
 (.seq (.seq (.region [jL 2, jc 0, jG 0 1, jG 1 2, jl 3, jw 9 (.len false) [.t 4], jz 10 0])
 (.block 0 (.loop  (ic58l0 b58))))
 (.seq (.region [jL 4, jq (.store 1) [.v 4, .t 0]])
 .ret))))))
theorem cc58 : compC Try.prog vs58 Try.f58.ntmps (Try.f58.body.getD .skip) = some (ic58 (Try.f58.body.getD .skip)) := by kernel_rfl
abbrev rs58 : List RC := [(.l1 4)]
theorem fok58 (p : Bool) : FnOk Try.prog 58 ⟨ic58 (Try.f58.body.getD .skip), vs58, 40, rs58, p⟩ := FnOk.mk' Try.func58 hb58 (by kernel_rfl) cc58 (by kernel_rfl) (by kernel_rfl)

abbrev vs59 : List Nat := [0, 1, 2, 4, 5, 6, 7, 8, 9, 10, 19, 25, 41, 52]
def ic59l0 : IC := (.seq (.seq (.region [jv 8, jv 5, je 1, jw 11 (.bin .lss .int) [.t 0, .t 2]])
 (.cond 11 .skip
 (.exit 2)))
 (.seq (.block 3 (.seq (.seq (.region [jv 5, jv 8, ja 1 0 1, jl 2, jq (.bin .eql .int) [.t 3, jn 0], jt 4, jg 5 false (.fadd 1) [.v 2], ji 5 false 6, jh 5 false 7, jg 5 false (.iaS 1) [.t 7, .t 8], ji 5 false 9, jh 5 false 8, jf 5 false 45 [.t 10, .t 11], jw 12 .pick [.t 5, jB true, .t 12]])
 (.cond 12 (.exit 3)
 .skip))
 (.seq (.dr [[], [], [], [2], [], [], [4, 5], [0, 1, 3, 6, 6], [7, 7, 0, 1, 2, 3, 4, 5, 6, 7]] [jN 2 2, jv 4, jv 7, jq (.bin .add .int) [.t 2, jn 1], jv 5, jv 8, jk 61 [.t 4, .t 5], jk 56 [.t 0, .t 1, .t 3, .t 6], jm 9 7])
 (.seq (.seq (.region [jv 1, jv 9, jw 13 (.bin .lss .int) [.t 0, .t 1]])
 (.cond 13 (.seq (.region [jv 6, jv 8, jq (.bslice 1 1 [(.cv (.int .i64 0))] [(0, 1)]) [.t 1], jq (.append 1 8) [.t 0, .t 2], jv 5, jv 8, jk 61 [.t 4, .t 5], jm 6 3, jm 5 6])
 (.exit 2))
 .skip))
 (.region [jv 1, jv 9, jq (.bin .sub .int) [.t 0, .t 1], jm 1 2])))))
 (.region [jv 8, jq (.bin .add .int) [.t 0, jn 1], jm 8 1])))
def ic59l1 : IC := (.seq (.seq (.region [jv 7, jF 1 2, jl 1, je 2, jw 10 (.bin .lss .int) [.t 0, .t 3]])
 (.cond 10 .skip
 (.exit 0)))
 (.seq (.block 1 (.seq (.region [jz 8 0])
 (.block 2 (.loop ic59l0))))
 (.region [jv 7, jq (.bin .add .int) [.t 0, jn 1], jm 7 1])))
def ic59 : IC := (.seq (.region [jb 2 0, jw 3 .mv [jS]])
 (.seq (.region [jN 2 2, jk 57 [.t 0], jm 4 1])
 (.seq (.region [jF 0 2, jl 0, jm 5 1])
 (.seq (.region [jw 6 .mv [jS]])
 (.seq (.seq (.region [jz 7 0])
 (.block 0 (.loop ic59l1)))
 (.seq (.region [jv 6, jm 3 0])
 .ret))))))
abbrev rs59 : List RC := [(.v 3)]
theorem fok59 (p : Bool) : FnOk Try.prog 59 ⟨ic59, vs59, 64, rs59, p⟩ := .mk2 Try.func59 (by kernel_rfl) (by kernel_rfl) (by kernel_rfl) (by kernel_rfl) (by kernel_rfl)

abbrev vs60 : List Nat := [0, 1, 2, 3, 4]
def ic60 : IC := (.seq (.region [jb 2 0, jb 3 1, jw 4 .mv [.c (.cv .nilf)]])
 (.seq (.region [jq (.mkfn (.func 75)) [.v 2, .v 3], jm 4 0])
 .ret))
abbrev rs60 : List RC := [(.v 4)]
theorem fok60 (p : Bool) : FnOk Try.prog 60 ⟨ic60, vs60, 6, rs60, p⟩ := .mk2 Try.func60 (by kernel_rfl) (by kernel_rfl) (by kernel_rfl) (by kernel_rfl) (by kernel_rfl)

abbrev vs61 : List Nat := [0, 1, 4, 5]
def ic61 : IC := (.seq (.region [jw 2 .mv [jS]])
 (.seq (.region [jq (.bslice 1 0 [] []) [], jv 0, jq (.append 1 8) [.t 0, .t 1], jm 3 2])
 (.seq (.region [jv 3, jv 1, ja 1 0 1, jl 2, jq (.bin .sub .int) [.t 3, jn 1], ja 1 0 1, jq (.store 1) [.t 5, .t 4]])
 (.seq (.region [jv 3, jm 2 0])
 .ret))))
abbrev rs61 : List RC := [(.v 2)]
theorem fok61 (p : Bool) : FnOk Try.prog 61 ⟨ic61, vs61, 16, rs61, p⟩ := .mk2 Try.func61 (by kernel_rfl) (by kernel_rfl) (by kernel_rfl) (by kernel_rfl) (by kernel_rfl)

end Go.Proofs.Ytphdemhopihpnaa.AM

namespace Go.Proofs.Ytphdemhopihpnaa.AM
open Go
set_option linter.unusedVariables false

abbrev vs62 : List Nat := [0, 1, 4]
def ic62 : IC := (.seq (.region [jv 0, je 0, jm 2 1])
 (.region [jv 0, jv 2, jv 2, jq (.conv .u64) [.t 2], jk 77 [.t 3], jv 1, jk 76 [.t 0, jn 0, .t 1, .t 4, .t 5]]))
abbrev rs62 : List RC := []
theorem fok62 (p : Bool) : FnOk Try.prog 62 ⟨ic62, vs62, 14, rs62, p⟩ := .mk2 Try.func62 (by kernel_rfl) (by kernel_rfl) (by kernel_rfl) (by kernel_rfl) (by kernel_rfl)

abbrev vs63 : List Nat := [0, 1, 4]
def ic63 : IC := (.seq (.region [jz 2 0])
 (.seq (.region [jv 0, je 0, jv 1, je 2, jk 65 [.t 1, .t 3], jv 0, jv 1, jk 66 [.t 5, .t 6], jq (.bslice 1 2 [(.cv (.int .i64 0)), (.cv (.int .i64 0))] [(0, 1), (1, 1)]) [.t 4, .t 7], jk 64 [.t 8], jm 2 9])
 .ret))
abbrev rs63 : List RC := [(.v 2)]
theorem fok63 (p : Bool) : FnOk Try.prog 63 ⟨ic63, vs63, 15, rs63, p⟩ := .mk2 Try.func63 (by kernel_rfl) (by kernel_rfl) (by kernel_rfl) (by kernel_rfl) (by kernel_rfl)

abbrev vs64 : List Nat := [0, 2, 3, 5, 6, 7, 8, 9, 14]
def ic64l0 : IC := (.seq (.region [jw 7 (.bin .lss .int) [.v 6, .v 5]])
 (.seq (.cond 7 .skip
 (.exit 0))
 (.seq (.block 1 (.seq (.region [jq (.iaS 1) [.v 4, .v 6], jl 0, jm 3 1])
 (.seq (.region [jv 3, jv 2, jw 8 (.bin .neq .int) [.t 0, .t 1]])
 (.cond 8 (.seq (.region [jv 3, jm 1 0])
 .ret)
 .skip))))
 (.region [jq (.bin .add .int) [.v 6, jn 1], jm 6 0]))))
def ic64 : IC := (.seq (.region [jz 1 0])
 (.seq (.region [jz 2 0])
 (.seq (.seq (.region [jw 4 .mv [.v 0], jw 5 (.len false) [.v 4], jz 6 0])
 (.block 0 (.loop ic64l0)))
 (.seq (.region [jv 2, jm 1 0])
 .ret))))
abbrev rs64 : List RC := [(.v 1)]
theorem fok64 (p : Bool) : FnOk Try.prog 64 ⟨ic64, vs64, 18, rs64, p⟩ := .mk2 Try.func64 (by kernel_rfl) (by kernel_rfl) (by kernel_rfl) (by kernel_rfl) (by kernel_rfl)

abbrev vs65 : List Nat := [0, 1, 4, 5, 6, 11, 12, 13, 16, 19]
def ic65 : IC := (.seq (.region [jz 2 0])
 (.seq (.region [jv 0, jk 78 [.t 0], jm 3 1])
 (.seq (.region [jv 1, jk 78 [.t 0], jm 4 1])
 (.seq (.seq (.region [jw 5 .mv [.v 3]])
 (.cond 5 (.seq (.seq (.region [jw 6 .mv [.v 4]])
 (.cond 6 (.seq (.region [jz 2 0])
 .ret)
 .skip))
 (.seq (.region [jz 2 (-1)])
 .ret))
 .skip))
 (.seq (.seq (.region [jw 7 .mv [.v 4]])
 (.cond 7 (.seq (.region [jz 2 1])
 .ret)
 .skip))
 (.seq (.seq (.region [jv 0, jv 1, jw 8 (.bin .lss .int) [.t 0, .t 1]])
 (.cond 8 (.seq (.region [jz 2 (-1)])
 .ret)
 .skip))
 (.seq (.seq (.region [jv 0, jv 1, jw 9 (.bin .gtr .int) [.t 0, .t 1]])
 (.cond 9 (.seq (.region [jz 2 1])
 .ret)
 .skip))
 (.seq (.region [jz 2 0])
 .ret))))))))
abbrev rs65 : List RC := [(.v 2)]
theorem fok65 (p : Bool) : FnOk Try.prog 65 ⟨ic65, vs65, 20, rs65, p⟩ := .mk2 Try.func65 (by kernel_rfl) (by kernel_rfl) (by kernel_rfl) (by kernel_rfl) (by kernel_rfl)

abbrev vs66 : List Nat := [0, 1, 4, 5, 6, 7, 8, 9, 10, 11, 12, 19, 28, 35]
def ic66l0 : IC := (.seq (.region [jw 10 (.bin .lss .int) [.v 9, .v 8]])
 (.seq (.cond 10 .skip
 (.exit 0))
 (.seq (.block 1 (.seq (.region [jv 9, jq (.iaS 1) [.v 7, .v 9], jl 1, jm 3 0, jm 4 2])
 (.seq (.seq (.region [jv 3, jv 1, je 1, jw 11 (.bin .geq .int) [.t 0, .t 2]])
 (.cond 11 (.seq (.region [jz 2 1])
 .ret)
 .skip))
 (.seq (.region [jv 1, jv 3, ja 1 0 1, jl 2, jm 5 3])
 (.seq (.region [jv 4, jv 5, jk 65 [.t 0, .t 1], jm 6 2])
 (.seq (.region [jv 6, jw 12 (.bin .neq .int) [.t 0, jn 0]])
 (.cond 12 (.seq (.region [jv 6, jm 2 0])
 .ret)
 .skip)))))))
 (.region [jq (.bin .add .int) [.v 9, jn 1], jm 9 0]))))
def ic66 : IC := (.seq (.region [jz 2 0])
 (.seq (.seq (.region [jw 7 .mv [.v 0], jw 8 (.len false) [.v 7], jz 9 0])
 (.block 0 (.loop ic66l0)))
 (.seq (.seq (.region [jv 0, je 0, jv 1, je 2, jw 13 (.bin .lss .int) [.t 1, .t 3]])
 (.cond 13 (.seq (.region [jz 2 (-1)])
 .ret)
 .skip))
 (.seq (.region [jz 2 0])
 .ret))))
abbrev rs66 : List RC := [(.v 2)]
theorem fok66 (p : Bool) : FnOk Try.prog 66 ⟨ic66, vs66, 36, rs66, p⟩ := .mk2 Try.func66 (by kernel_rfl) (by kernel_rfl) (by kernel_rfl) (by kernel_rfl) (by kernel_rfl)

abbrev vs67 : List Nat := [0, 1, 4, 5, 10]
def ic67 : IC := (.seq (.region [jw 2 .mv [jS]])
 (.seq (.seq (.region [jv 0, jv 1, jk 79 [.t 0, .t 1], jm 3 2])
 (.seq (.region [jv 3, jw 4 (.bin .geq .int) [.t 0, jn 0]])
 (.cond 4 (.region [jv 0, jv 3, ja 1 0 1, jl 2, jm 2 3])
 .skip)))
 (.seq (.region [jv 2, jm 2 0])
 .ret)))
abbrev rs67 : List RC := [(.v 2)]
theorem fok67 (p : Bool) : FnOk Try.prog 67 ⟨ic67, vs67, 16, rs67, p⟩ := .mk2 Try.func67 (by kernel_rfl) (by kernel_rfl) (by kernel_rfl) (by kernel_rfl) (by kernel_rfl)

abbrev vs68 : List Nat := [0, 1, 2, 4, 5, 6, 7, 14, 15, 16, 17, 23]
def ic68l0 : IC := (.seq (.region [jw 10 (.bin .lss .int) [.v 9, .v 8]])
 (.seq (.cond 10 .skip
 (.exit 0))
 (.seq (.block 1 (.seq (.region [jv 9, jq (.iaS 1) [.v 7, .v 9], jl 1, jw 5 (.alloc [(.cv (.int .i64 0))]) [], jq (.store 1) [.v 5, .t 0], jm 6 2])
 (.seq (.region [jv 1, jq (.mkfn (.func 80)) [.v 2, .v 5], jd 11 72 [.t 0, .t 1]])
 (.cond 11 (.region [jv 4, jv 6, jq (.bin .sub .int) [.t 0, .t 1], jm 4 2])
 .skip))))
 (.region [jq (.bin .add .int) [.v 9, jn 1], jm 9 0]))))
def ic68 : IC := (.seq (.region [jb 2 0, jw 3 .mv [jB false]])
 (.seq (.region [jv 1, je 0, jm 4 1])
 (.seq (.seq (.region [jL 2, jc 0, jG 0 1, jG 0 2, jw 7 .load1 [.t 3], jw 8 (.len false) [.v 7], jz 9 0])
 (.block 0 (.loop ic68l0)))
 (.seq (.region [jv 4, jq (.bin .gtr .int) [.t 0, jn 0], jm 3 1])
 .ret))))
abbrev rs68 : List RC := [(.v 3)]
theorem fok68 (p : Bool) : FnOk Try.prog 68 ⟨ic68, vs68, 30, rs68, p⟩ := .mk2 Try.func68 (by kernel_rfl) (by kernel_rfl) (by kernel_rfl) (by kernel_rfl) (by kernel_rfl)

abbrev vs69 : List Nat := [0, 1, 4, 5, 10, 19, 30]
def ic69l0 : IC := (.seq (.seq (.region [jv 3, jv 0, je 1, jw 5 (.bin .lss .int) [.t 0, .t 2]])
 (.cond 5 .skip
 (.exit 0)))
 (.seq (.block 1 (.seq (.dr [[], [], [0, 1], [2], [], [], [4, 5], [6], [3, 7]] [jv 0, jv 3, ja 1 0 1, jl 2, jv 1, jv 3, ja 1 4 5, jl 6, jw 6 (.bin .neq .int) [.t 3, .t 7]])
 (.cond 6 (.seq (.dr [[], [], [0, 1], [2], [], [], [4, 5], [6], [3, 7], [8, 0, 1, 2, 3, 4, 5, 6, 7, 8]] [jv 0, jv 3, ja 1 0 1, jl 2, jv 1, jv 3, ja 1 4 5, jl 6, jq (.bin .lss .int) [.t 3, .t 7], jm 2 8])
 .ret)
 .skip)))
 (.region [jv 3, jq (.bin .add .int) [.t 0, jn 1], jm 3 1])))
def ic69 : IC := (.seq (.region [jw 2 .mv [jB false]])
 (.seq (.seq (.region [jv 0, je 0, jv 1, je 2, jw 4 (.bin .neq .int) [.t 1, .t 3]])
 (.cond 4 (.seq (.region [jv 0, je 0, jv 1, je 2, jq (.bin .lss .int) [.t 1, .t 3], jm 2 4])
 .ret)
 .skip))
 (.seq (.seq (.region [jz 3 0])
 (.block 0 (.loop ic69l0)))
 (.seq (.region [jw 2 .mv [jB false]])
 .ret))))
abbrev rs69 : List RC := [(.v 2)]
theorem fok69 (p : Bool) : FnOk Try.prog 69 ⟨ic69, vs69, 40, rs69, p⟩ := .mk2 Try.func69 (by kernel_rfl) (by kernel_rfl) (by kernel_rfl) (by kernel_rfl) (by kernel_rfl)

abbrev vs70 : List Nat := [0, 2, 3, 4, 6, 11]
def ic70l0 : IC := (.seq (.seq (.region [jv 3, jw 4 (.bin .lss .int) [.t 0, jn 8]])
 (.cond 4 .skip
 (.exit 0)))
 (.seq (.block 1 (.seq (.region [jv 0, jv 3, jd 5 45 [.t 0, .t 1]])
 (.cond 5 (.region [jv 2, jv 3, jq (.bslice 1 1 [(.cv (.int .i64 0))] [(0, 1)]) [.t 1], jq (.append 1 8) [.t 0, .t 2], jm 2 3])
 .skip)))
 (.region [jv 3, jq (.bin .add .int) [.t 0, jn 1], jm 3 1])))
def ic70 : IC := (.seq (.region [jw 1 .mv [jS]])
 (.seq (.region [jw 2 .mv [jS]])
 (.seq (.seq (.region [jz 3 0])
 (.block 0 (.loop ic70l0)))
 (.seq (.region [jv 2, jm 1 0])
 .ret))))
abbrev rs70 : List RC := [(.v 1)]
theorem fok70 (p : Bool) : FnOk Try.prog 70 ⟨ic70, vs70, 17, rs70, p⟩ := .mk2 Try.func70 (by kernel_rfl) (by kernel_rfl) (by kernel_rfl) (by kernel_rfl) (by kernel_rfl)

abbrev vs71 : List Nat := [0, 1, 4, 5, 10, 12, 13, 14, 24]
def ic71l0 : IC := (.seq (.region [jw 7 (.bin .lss .int) [.v 6, .v 5]])
 (.seq (.cond 7 .skip
 (.exit 0))
 (.seq (.block 1 (.seq (.region [jv 6, jm 3 0])
 (.seq (.dr [[], [], [0, 1], [2], [], [], [4, 5], [6], [3, 7]] [jv 0, jv 3, ja 1 0 1, jl 2, jv 1, jv 3, ja 1 4 5, jl 6, jw 8 (.bin .neq .int) [.t 3, .t 7]])
 (.cond 8 (.seq (.region [jw 2 .mv [jB false]])
 .ret)
 .skip))))
 (.region [jq (.bin .add .int) [.v 6, jn 1], jm 6 0]))))
def ic71 : IC := (.seq (.region [jw 2 .mv [jB false]])
 (.seq (.seq (.region [jv 0, je 0, jv 1, je 2, jw 4 (.bin .neq .int) [.t 1, .t 3]])
 (.cond 4 (.seq (.region [jw 2 .mv [jB false]])
 .ret)
 .skip))
 (.seq (.seq (.region [jv 0, jw 5 (.len false) [.t 0], jz 6 0])
 (.block 0 (.loop ic71l0)))
 (.seq (.region [jw 2 .mv [jB true]])
 .ret))))
abbrev rs71 : List RC := [(.v 2)]
theorem fok71 (p : Bool) : FnOk Try.prog 71 ⟨ic71, vs71, 26, rs71, p⟩ := .mk2 Try.func71 (by kernel_rfl) (by kernel_rfl) (by kernel_rfl) (by kernel_rfl) (by kernel_rfl)

abbrev vs72 : List Nat := [0, 1, 4]
def ic72 : IC := (.seq (.region [jw 2 .mv [jB false]])
 (.seq (.region [jv 0, jv 1, jk 81 [.t 0, .t 1], jq (.bin .geq .int) [.t 2, jn 0], jm 2 3])
 .ret))
abbrev rs72 : List RC := [(.v 2)]
theorem fok72 (p : Bool) : FnOk Try.prog 72 ⟨ic72, vs72, 9, rs72, p⟩ := .mk2 Try.func72 (by kernel_rfl) (by kernel_rfl) (by kernel_rfl) (by kernel_rfl) (by kernel_rfl)

abbrev vs73 : List Nat := [0, 1, 2, 4]
def ic73 : IC := (.seq (.region [jw 3 .mv [jB false]])
 (.seq (.region [jv 0, jL 1, jq (.bin .lss .int) [.t 0, .t 1], jt 2, jh 3 false 0, jg 3 false .load1 [.v 2], jg 3 false (.bin .gtr .int) [.t 4, .t 5], jq .pick [.t 3, jB true, .t 6], jm 3 7])
 .ret))
abbrev rs73 : List RC := [(.v 3)]
theorem fok73 (p : Bool) : FnOk Try.prog 73 ⟨ic73, vs73, 13, rs73, p⟩ := .mk2 Try.func73 (by kernel_rfl) (by kernel_rfl) (by kernel_rfl) (by kernel_rfl) (by kernel_rfl)

theorem hb74 : Try.f74.body = some (Try.f74.body.getD .skip) := by kernel_rfl
abbrev vs74 : List Nat := [0, 1, 2, 3, 4, 5, 7, 16, 26, 30, 31, 32]
def ic74 (b74 : Code) : IC := (.seq (.region [jb 3 0, jw 4 (.alloc [(.cv (.int .i64 0))]) []])
 (.seq (.seq (.dr [[], [0], [], [2], [3], [4], [5], [6], [1, 7]] [jF 0 3, jl 0, jL 1, jc 2, jG 0 3, jG 1 4, jl 5, je 6, jw 7 (.bin .eql .int) [.t 1, .t 7]])
 (.cond 7 (.seq (.region [jq (.store 1) [.v 4, jn 1]])
 .ret)
 .skip))
 (.seq (.dr [[], [0], [1], [2], [], [3, 4], [5], [6], [6], [7, 0, 1, 2, 3, 4, 5, 6, 7], [8, 9, 0, 1, 2, 3, 4, 5, 6, 7, 8, 9]] [jL 1, jc 0, jG 2 1, jl 2, jN 7 3, jq (.lookup (true, [(.int .i64), (.int .i64), (.int .i64), (.int .i64), (.int .i64), (.int .i64), (.int .i64)]) (.cv (.int .i64 0)) true) [.t 3, .t 4], jt 5, jx 0 6, jx 1 6, jq (.store 1) [.v 4, .t 7], jm 5 8])
 (.seq (.seq (.region [jw 8 .mv [.v 5]])
 (.cond 8 (.seq (.region [jL 4, jq (.store 1) [.v 4, .t 0]])
 .ret)
 .skip))
 (.seq (.seq (.region [jL 1, jN 7 3, jd 9 60 [.t 0, .t 1]])
 (.block 0 (.rangef (.v 9) #[31, 32] (nav [1, 1, 1, 1, 0, 1, 0, 2] b74) (nav [1, 1, 1, 1, 0, 1, 0, 3] b74) (.region [jw 6 (.alloc [(.cv (.int .i64 0)), (.cv (.int .i64 0)), (.cv (.int .i64 0)), (.cv (.int .i64 0)), (.cv (.int .i64 0)), (.cv (.int .i64 0)), (.cv (.int .i64 0))]) [], jq (.store 7) [.v 6, .v 11]])
 (.block 1 (.dr [[], [], [], [1, 2], [0, 3], [4, 3, 0, 1, 2, 3, 4]] [jL 4, jL 2, jN 7 6, ⟨none, none, .call, [(.t 1), (.t 2)]⟩, jq (.bin .add .int) [.t 0, .t 3], jq (.store 1) [.v 4, .t 4]])))))
 (.seq (.dr [[], [0], [1], [2], [], [], [3, 4, 5, 0, 1, 2, 3, 4, 5]] [jL 1, jc 0, jG 2 1, jl 2, jN 7 3, jL 4, jq (.mapset (true, [(.int .i64), (.int .i64), (.int .i64), (.int .i64), (.int .i64), (.int .i64), (.int .i64)])) [.t 3, .t 4, .t 5]])
 (.seq (.region [jL 4, jq (.store 1) [.v 4, .t 0]])
 .ret)))))))
theorem cc74 : compC Try.prog vs74 Try.f74.ntmps (Try.f74.body.getD .skip) = some (ic74 (Try.f74.body.getD .skip)) := by kernel_rfl
abbrev rs74 : List RC := [(.l1 4)]
theorem fok74 (p : Bool) : FnOk Try.prog 74 ⟨ic74 (Try.f74.body.getD .skip), vs74, 45, rs74, p⟩ := FnOk.mk' Try.func74 hb74 (by kernel_rfl) cc74 (by kernel_rfl) (by kernel_rfl)

abbrev vs75 : List Nat := [0, 1, 2, 4, 5, 11, 12, 13, 54]
def ic75l0 : IC := (.seq (.region [jw 7 (.bin .lss .int) [.v 6, .v 5]])
 (.seq (.cond 7 .skip
 (.exit 0))
 (.seq (.block 1 (.seq (.region [jv 6, jm 3 0])
 (.seq (.region [jF 0 2, jl 0, jq (.bin .add .int) [.t 1, jn 1], jF 1 2, jq (.loadN 6) [.t 3], jq (.build [(.cv (.int .i64 0)), (.cv (.int .i64 0)), (.cv (.int .i64 0)), (.cv (.int .i64 0)), (.cv (.int .i64 0)), (.cv (.int .i64 0)), (.cv (.int .i64 0))] [(0, 1), (1, 6)]) [.t 2, .t 4], jw 4 (.alloc [(.cv (.int .i64 0)), (.cv (.int .i64 0)), (.cv (.int .i64 0)), (.cv (.int .i64 0)), (.cv (.int .i64 0)), (.cv (.int .i64 0)), (.cv (.int .i64 0))]) [], jq (.store 7) [.v 4, .t 5]])
 (.seq (.region [jv 3, jF 1 4, jq (.iaA 6 1) [.t 1, .t 0], jl 2, jq (.bin .sub .int) [.t 3, jn 1], jF 1 4, jq (.iaA 6 1) [.t 5, .t 0], jq (.store 1) [.t 6, .t 4]])
 (.seq (.dr [[], [0], [1], [2], [3], [], [5], [4, 6], [7], [], [8, 9], [10], [11], [12], [13], [13], [15, 14, 13], [16, 13], [17, 13], [13, 18], [19, 13], [20], [20], [20], [21, 22, 23, 20, 20], [24, 20], [20, 25]] [jL 1, jc 0, jG 0 1, jG 1 2, jl 3, jF 0 2, jl 5, ja 1 4 6, jl 7, jv 3, jq (.bin .shr .int) [.t 8, .t 9], jq (.bin .and .int) [.t 10, jn 1], jq (.bin .eql .int) [.t 11, jn 0], jt 12, jh 13 true 3, jg 13 true (.fadd 1) [.v 4], jg 13 true (.iaA 6 1) [.t 15, .t 14], ji 13 true 16, jg 13 true (.bin .geq .int) [.t 17, jn 0], jq .pick [.t 13, .t 18, jB false], jt 19, jh 20 true 0, jh 20 true 3, jg 20 true (.loadN 7) [.v 4], ⟨none, (.some (20, true)), .call, [(.t 21), (.t 22), (.t 23)]⟩, jg 20 true .not [.t 24], jw 8 .pick [.t 20, .t 25, jB false]])
 (.cond 8 .ret
 .skip))))))
 (.region [jq (.bin .add .int) [.v 6, jn 1], jm 6 0]))))
def ic75 : IC := (.seq (.region [jL 1, jc 0, jG 0 1, jG 0 2, jl 3, jw 5 (.len false) [.t 4], jz 6 0])
 (.block 0 (.loop ic75l0)))
abbrev rs75 : List RC := []
theorem fok75 (p : Bool) : FnOk Try.prog 75 ⟨ic75, vs75, 56, rs75, p⟩ := .mk2 Try.func75 (by kernel_rfl) (by kernel_rfl) (by kernel_rfl) (by kernel_rfl) (by kernel_rfl)

abbrev vs76 : List Nat := [0, 1, 2, 3, 4, 10, 11, 12, 13, 14, 15, 16, 17, 18, 19, 20, 25, 32, 39, 56, 75, 80, 97, 125]
def ic76l0 : IC := (.block 1 (.seq (.region [jv 2, jv 1, jq (.bin .sub .int) [.t 0, .t 1], jm 7 2])
 (.seq (.seq (.region [jv 7, jw 16 (.bin .leq .int) [.t 0, jn 12]])
 (.cond 16 (.seq (.region [jv 0, jv 1, jv 2, jv 4, jk 82 [.t 0, .t 1, .t 2, .t 3]])
 .ret)
 .skip))
 (.seq (.seq (.region [jv 3, jw 17 (.bin .eql .int) [.t 0, jn 0]])
 (.cond 17 (.seq (.region [jv 0, jv 1, jv 2, jv 4, jk 83 [.t 0, .t 1, .t 2, .t 3]])
 .ret)
 .skip))
 (.seq (.seq (.region [jv 5, jw 18 .not [.t 0]])
 (.cond 18 (.seq (.region [jv 0, jv 1, jv 2, jv 4, jk 84 [.t 0, .t 1, .t 2, .t 3]])
 (.region [jv 3, jq (.bin .sub .int) [.t 0, jn 1], jm 3 1]))
 .skip))
 (.seq (.region [jv 0, jv 1, jv 2, jv 4, jk 85 [.t 0, .t 1, .t 2, .t 3], jt 4, jx 0 5, jx 1 5, jm 8 6, jm 9 7])
 (.seq (.seq (.region [jv 9, jw 19 (.bin .eql .int) [.t 0, jn 2]])
 (.cond 19 (.seq (.region [jv 0, jv 1, jv 2, jv 4, jk 86 [.t 0, .t 1, .t 2, .t 3]])
 (.seq (.region [jv 2, jq (.bin .sub .int) [.t 0, jn 1], jv 8, jv 1, jq (.bin .sub .int) [.t 2, .t 3], jq (.bin .sub .int) [.t 1, .t 4], jm 8 5])
 (.region [jz 9 1])))
 .skip))
 (.seq (.seq (.region [jv 5, jt 0, jh 1 true 6, jq .pick [.t 1, .t 2, jB false], jt 3, jh 4 true 9, jg 4 true (.bin .eql .int) [.t 5, jn 1], jw 20 .pick [.t 4, .t 6, jB false]])
 (.cond 20 (.seq (.region [jv 0, jv 1, jv 2, jv 4, jd 21 87 [.t 0, .t 1, .t 2, .t 3]])
 (.cond 21 .ret
 .skip))
 .skip))
 (.seq (.seq (.dr [[], [0], [1], [2], [2], [2], [5, 2], [4, 6, 2], [7, 2], [2], [2], [9, 10, 2], [11, 2], [3, 8, 12, 2, 2], [13, 2], [14, 2], [2, 15]] [jv 1, jq (.bin .gtr .int) [.t 0, jn 0], jt 1, jh 2 true 4, jh 2 true 0, jh 2 true 1, jg 2 true (.bin .sub .int) [.t 5, jn 1], jg 2 true (.iaS 1) [.t 4, .t 6], ji 2 true 7, jh 2 true 0, jh 2 true 8, jg 2 true (.iaS 1) [.t 9, .t 10], ji 2 true 11, ⟨none, (.some (2, true)), .call, [(.t 3), (.t 8), (.t 12)]⟩, jg 2 true (.bin .lss .int) [.t 13, jn 0], jg 2 true .not [.t 14], jw 22 .pick [.t 2, .t 15, jB false]])
 (.cond 22 (.seq (.region [jv 0, jv 1, jv 2, jv 8, jv 4, jk 88 [.t 0, .t 1, .t 2, .t 3, .t 4], jm 10 5])
 (.seq (.region [jv 10, jm 1 0])
 (.exit 1)))
 .skip))
 (.seq (.region [jv 0, jv 1, jv 2, jv 8, jv 4, jk 89 [.t 0, .t 1, .t 2, .t 3, .t 4], jt 5, jx 0 6, jx 1 6, jm 11 7, jm 12 8])
 (.seq (.region [jv 12, jm 6 0])
 (.seq (.region [jv 11, jv 1, jq (.bin .sub .int) [.t 0, .t 1], jv 2, jv 11, jq (.bin .sub .int) [.t 3, .t 4], jm 13 2, jm 14 5])
 (.seq (.region [jv 7, jq (.bin .quo .int) [.t 0, jn 8], jm 15 1])
 (.seq (.region [jv 13, jv 14, jw 23 (.bin .lss .int) [.t 0, .t 1]])
 (.cond 23 (.seq (.region [jv 13, jv 15, jq (.bin .geq .int) [.t 0, .t 1], jm 5 2])
 (.seq (.region [jv 0, jv 1, jv 11, jv 3, jv 4, jk 76 [.t 0, .t 1, .t 2, .t 3, .t 4]])
 (.region [jv 11, jq (.bin .add .int) [.t 0, jn 1], jm 1 1])))
 (.seq (.region [jv 14, jv 15, jq (.bin .geq .int) [.t 0, .t 1], jm 5 2])
 (.seq (.region [jv 0, jv 11, jq (.bin .add .int) [.t 1, jn 1], jv 2, jv 3, jv 4, jk 76 [.t 0, .t 2, .t 3, .t 4, .t 5]])
 (.region [jv 11, jm 2 0]))))))))))))))))))
def ic76 : IC := (.seq (.region [jw 5 .mv [jB true]])
 (.seq (.region [jw 6 .mv [jB true]])
 (.block 0 (.loop ic76l0))))
abbrev rs76 : List RC := []
theorem fok76 (p : Bool) : FnOk Try.prog 76 ⟨ic76, vs76, 148, rs76, p⟩ := .mk2 Try.func76 (by kernel_rfl) (by kernel_rfl) (by kernel_rfl) (by kernel_rfl) (by kernel_rfl)

abbrev vs77 : List Nat := [0, 2]
def ic77 : IC := (.seq (.region [jz 1 0])
 (.seq .skip
 (.seq (.region [jv 0, jk 91 [.t 0], jm 1 1])
 .ret)))
abbrev rs77 : List RC := [(.v 1)]
theorem fok77 (p : Bool) : FnOk Try.prog 77 ⟨ic77, vs77, 8, rs77, p⟩ := .mk2 Try.func77 (by kernel_rfl) (by kernel_rfl) (by kernel_rfl) (by kernel_rfl) (by kernel_rfl)

abbrev vs78 : List Nat := [0, 2]
def ic78 : IC := (.seq (.region [jw 1 .mv [jB false]])
 (.seq (.region [jv 0, jv 0, jq (.bin .neq .int) [.t 0, .t 1], jm 1 2])
 .ret))
abbrev rs78 : List RC := [(.v 1)]
theorem fok78 (p : Bool) : FnOk Try.prog 78 ⟨ic78, vs78, 6, rs78, p⟩ := .mk2 Try.func78 (by kernel_rfl) (by kernel_rfl) (by kernel_rfl) (by kernel_rfl) (by kernel_rfl)

abbrev vs79 : List Nat := [0, 1, 4, 5, 7, 8, 9, 16]
def ic79l0 : IC := (.seq (.region [jw 6 (.bin .lss .int) [.v 5, .v 4]])
 (.seq (.cond 6 .skip
 (.exit 0))
 (.seq (.block 1 (.seq (.region [jv 5, jm 3 0])
 (.seq (.region [jv 1, jv 0, jv 3, ja 1 1 2, jl 3, ⟨(.some 7), none, .call, [(.t 0), (.t 4)]⟩])
 (.cond 7 (.seq (.region [jv 3, jm 2 0])
 .ret)
 .skip))))
 (.region [jq (.bin .add .int) [.v 5, jn 1], jm 5 0]))))
def ic79 : IC := (.seq (.region [jz 2 0])
 (.seq (.seq (.region [jv 0, jw 4 (.len false) [.t 0], jz 5 0])
 (.block 0 (.loop ic79l0)))
 (.seq (.region [jz 2 (-1)])
 .ret)))
abbrev rs79 : List RC := [(.v 2)]
theorem fok79 (p : Bool) : FnOk Try.prog 79 ⟨ic79, vs79, 19, rs79, p⟩ := .mk2 Try.func79 (by kernel_rfl) (by kernel_rfl) (by kernel_rfl) (by kernel_rfl) (by kernel_rfl)

abbrev vs80 : List Nat := [0, 1, 2, 4]
def ic80 : IC := (.seq (.region [jw 3 .mv [jB false]])
 (.seq (.dr [[], [0], [1], [2], [3], [], [4, 5], [6], [], [7, 8], [9], [10], [11, 0, 1, 2, 3, 4, 5, 6, 7, 8, 9, 10, 11]] [jL 1, jc 0, jG 0 1, jG 1 2, jl 3, jv 0, ja 1 4 5, jl 6, jL 2, jq (.bin .shr .int) [.t 7, .t 8], jq (.bin .and .int) [.t 9, jn 1], jq (.bin .eql .int) [.t 10, jn 0], jm 3 11])
 .ret))
abbrev rs80 : List RC := [(.v 3)]
theorem fok80 (p : Bool) : FnOk Try.prog 80 ⟨ic80, vs80, 17, rs80, p⟩ := .mk2 Try.func80 (by kernel_rfl) (by kernel_rfl) (by kernel_rfl) (by kernel_rfl) (by kernel_rfl)

abbrev vs81 : List Nat := [0, 1, 4, 5, 7, 8, 9, 16]
def ic81l0 : IC := (.seq (.region [jw 6 (.bin .lss .int) [.v 5, .v 4]])
 (.seq (.cond 6 .skip
 (.exit 0))
 (.seq (.block 1 (.seq (.region [jv 5, jm 3 0])
 (.seq (.region [jv 1, jv 0, jv 3, ja 1 1 2, jl 3, ⟨(.some 7), none, .call, [(.t 0), (.t 4)]⟩])
 (.cond 7 (.seq (.region [jv 3, jm 2 0])
 .ret)
 .skip))))
 (.region [jq (.bin .add .int) [.v 5, jn 1], jm 5 0]))))
def ic81 : IC := (.seq (.region [jz 2 0])
 (.seq (.seq (.region [jv 0, jw 4 (.len false) [.t 0], jz 5 0])
 (.block 0 (.loop ic81l0)))
 (.seq (.region [jz 2 (-1)])
 .ret)))
abbrev rs81 : List RC := [(.v 2)]
theorem fok81 (p : Bool) : FnOk Try.prog 81 ⟨ic81, vs81, 19, rs81, p⟩ := .mk2 Try.func81 (by kernel_rfl) (by kernel_rfl) (by kernel_rfl) (by kernel_rfl) (by kernel_rfl)

abbrev vs82 : List Nat := [0, 1, 2, 3, 8, 9, 14, 34]
def ic82l0 : IC := (.seq (.seq (.dr [[], [], [0, 1], [2], [3], [3], [3], [5, 6, 3], [7, 3], [3], [3], [10, 3], [9, 11, 3], [12, 3], [4, 8, 13, 3, 3], [14, 3], [3, 15]] [jv 5, jv 1, jq (.bin .gtr .int) [.t 0, .t 1], jt 2, jh 3 true 3, jh 3 true 0, jh 3 true 5, jg 3 true (.iaS 1) [.t 5, .t 6], ji 3 true 7, jh 3 true 0, jh 3 true 5, jg 3 true (.bin .sub .int) [.t 10, jn 1], jg 3 true (.iaS 1) [.t 9, .t 11], ji 3 true 12, ⟨none, (.some (3, true)), .call, [(.t 4), (.t 8), (.t 13)]⟩, jg 3 true (.bin .lss .int) [.t 14, jn 0], jw 7 .pick [.t 3, .t 15, jB false]])
 (.cond 7 .skip
 (.exit 2)))
 (.seq (.block 3 (.dr [[], [], [], [], [3], [], [], [6], [5, 7], [8], [], [], [10, 11], [12], [0, 1, 0, 1, 5, 6, 7, 8, 9, 13], [14, 9, 0, 1, 5, 6, 7, 8, 9, 13], [2, 4, 0, 1, 2, 3, 4, 5, 6, 7, 8, 9, 10, 11, 12, 13, 14, 15], [16, 13, 15, 0, 1, 2, 3, 4, 5, 6, 7, 8, 9, 10, 11, 12, 13, 14, 15]] [jv 0, jv 5, jv 0, jv 5, jq (.bin .sub .int) [.t 3, jn 1], jv 0, jv 5, jq (.bin .sub .int) [.t 6, jn 1], ja 1 5 7, jl 8, jv 0, jv 5, ja 1 10 11, jl 12, ja 1 0 1, jq (.store 1) [.t 14, .t 9], ja 1 2 4, jq (.store 1) [.t 16, .t 13]]))
 (.region [jv 5, jq (.bin .sub .int) [.t 0, jn 1], jm 5 1])))
def ic82l1 : IC := (.seq (.seq (.region [jv 4, jv 2, jw 6 (.bin .lss .int) [.t 0, .t 1]])
 (.cond 6 .skip
 (.exit 0)))
 (.seq (.block 1 (.seq (.region [jv 4, jm 5 0])
 (.block 2 (.loop ic82l0))))
 (.region [jv 4, jq (.bin .add .int) [.t 0, jn 1], jm 4 1])))
def ic82 : IC := (.seq (.region [jv 1, jq (.bin .add .int) [.t 0, jn 1], jm 4 1])
 (.block 0 (.loop ic82l1)))
abbrev rs82 : List RC := []
theorem fok82 (p : Bool) : FnOk Try.prog 82 ⟨ic82, vs82, 53, rs82, p⟩ := .mk2 Try.func82 (by kernel_rfl) (by kernel_rfl) (by kernel_rfl) (by kernel_rfl) (by kernel_rfl)

abbrev vs83 : List Nat := [0, 1, 2, 3, 8, 9, 10, 11, 12, 21, 33]
def ic83l0 : IC := (.seq (.seq (.region [jv 8, jw 10 (.bin .geq .int) [.t 0, jn 0]])
 (.cond 10 .skip
 (.exit 2)))
 (.seq (.block 3 (.seq (.dr [[], [], [], [], [], [3, 4], [], [], [], [7, 8], [6, 9], [10], [], [], [12, 13], [14], [0, 1, 0, 1, 6, 7, 8, 9, 10, 11, 15], [16, 11, 0, 1, 6, 7, 8, 9, 10, 11, 15], [2, 5, 0, 1, 2, 3, 4, 5, 6, 7, 8, 9, 10, 11, 12, 13, 14, 15, 16, 17], [18, 15, 17, 0, 1, 2, 3, 4, 5, 6, 7, 8, 9, 10, 11, 12, 13, 14, 15, 16, 17]] [jv 0, jv 4, jv 0, jv 4, jv 8, jq (.bin .add .int) [.t 3, .t 4], jv 0, jv 4, jv 8, jq (.bin .add .int) [.t 7, .t 8], ja 1 6 9, jl 10, jv 0, jv 4, ja 1 12 13, jl 14, ja 1 0 1, jq (.store 1) [.t 16, .t 11], ja 1 2 5, jq (.store 1) [.t 18, .t 15]])
 (.region [jv 0, jv 5, jv 8, jv 4, jv 3, jk 92 [.t 0, .t 1, .t 2, .t 3, .t 4]])))
 (.region [jv 8, jq (.bin .sub .int) [.t 0, jn 1], jm 8 1])))
def ic83l1 : IC := (.seq (.seq (.region [jv 7, jw 9 (.bin .geq .int) [.t 0, jn 0]])
 (.cond 9 .skip
 (.exit 0)))
 (.seq (.block 1 (.region [jv 0, jv 7, jv 6, jv 4, jv 3, jk 92 [.t 0, .t 1, .t 2, .t 3, .t 4]]))
 (.region [jv 7, jq (.bin .sub .int) [.t 0, jn 1], jm 7 1])))
def ic83 : IC := (.seq (.region [jv 1, jm 4 0])
 (.seq (.region [jz 5 0])
 (.seq (.region [jv 2, jv 1, jq (.bin .sub .int) [.t 0, .t 1], jm 6 2])
 (.seq (.seq (.region [jv 6, jq (.bin .sub .int) [.t 0, jn 1], jq (.bin .quo .int) [.t 1, jn 2], jm 7 2])
 (.block 0 (.loop ic83l1)))
 (.seq (.region [jv 6, jq (.bin .sub .int) [.t 0, jn 1], jm 8 1])
 (.block 2 (.loop ic83l0)))))))
abbrev rs83 : List RC := []
theorem fok83 (p : Bool) : FnOk Try.prog 83 ⟨ic83, vs83, 60, rs83, p⟩ := .mk2 Try.func83 (by kernel_rfl) (by kernel_rfl) (by kernel_rfl) (by kernel_rfl) (by kernel_rfl)

abbrev vs84 : List Nat := [0, 1, 2, 3, 8, 9, 10, 11, 12, 17, 35, 45]
def ic84l0 : IC := (.seq (.seq (.region [jv 7, jv 1, jv 4, jq (.bin .quo .int) [.t 2, jn 4], jq (.bin .mul .int) [.t 3, jn 2], jq (.bin .add .int) [.t 1, .t 4], jq (.bin .add .int) [.t 5, jn 1], jw 10 (.bin .leq .int) [.t 0, .t 6]])
 (.cond 10 .skip
 (.exit 0)))
 (.seq (.block 1 (.seq (.region [jk 94 [.v 5], jv 6, jq (.bin .sub .int) [.t 1, .c (.cv (.int .u64 1))], jq (.bin .and .int) [.t 0, .t 2], jq (.conv .i64) [.t 3], jm 8 4])
 (.seq (.seq (.region [jv 8, jv 4, jw 11 (.bin .geq .int) [.t 0, .t 1]])
 (.cond 11 (.region [jv 8, jv 4, jq (.bin .sub .int) [.t 0, .t 1], jm 8 2])
 .skip))
 (.dr [[], [], [], [], [], [3, 4], [], [], [], [7, 8], [6, 9], [10], [], [], [12, 13], [14], [0, 1, 0, 1, 6, 7, 8, 9, 10, 11, 15], [16, 11, 0, 1, 6, 7, 8, 9, 10, 11, 15], [2, 5, 0, 1, 2, 3, 4, 5, 6, 7, 8, 9, 10, 11, 12, 13, 14, 15, 16, 17], [18, 15, 17, 0, 1, 2, 3, 4, 5, 6, 7, 8, 9, 10, 11, 12, 13, 14, 15, 16, 17]] [jv 0, jv 7, jv 0, jv 1, jv 8, jq (.bin .add .int) [.t 3, .t 4], jv 0, jv 1, jv 8, jq (.bin .add .int) [.t 7, .t 8], ja 1 6 9, jl 10, jv 0, jv 7, ja 1 12 13, jl 14, ja 1 0 1, jq (.store 1) [.t 16, .t 11], ja 1 2 5, jq (.store 1) [.t 18, .t 15]]))))
 (.region [jv 7, jq (.bin .add .int) [.t 0, jn 1], jm 7 1])))
def ic84 : IC := (.seq (.region [jv 2, jv 1, jq (.bin .sub .int) [.t 0, .t 1], jm 4 2])
 (.seq (.region [jv 4, jw 9 (.bin .geq .int) [.t 0, jn 8]])
 (.cond 9 (.seq (.region [jv 4, jq (.conv .u64) [.t 0], jw 5 (.alloc [(.cv (.int .u64 0))]) [], jq (.store 1) [.v 5, .t 1]])
 (.seq (.region [jv 4, jk 93 [.t 0], jm 6 1])
 (.seq (.region [jv 1, jv 4, jq (.bin .quo .int) [.t 1, jn 4], jq (.bin .mul .int) [.t 2, jn 2], jq (.bin .add .int) [.t 0, .t 3], jq (.bin .sub .int) [.t 4, jn 1], jm 7 5])
 (.block 0 (.loop ic84l0)))))
 .skip)))
abbrev rs84 : List RC := []
theorem fok84 (p : Bool) : FnOk Try.prog 84 ⟨ic84, vs84, 67, rs84, p⟩ := .mk2 Try.func84 (by kernel_rfl) (by kernel_rfl) (by kernel_rfl) (by kernel_rfl) (by kernel_rfl)

abbrev vs85 : List Nat := [0, 1, 2, 3, 8, 9, 10, 11, 12, 13, 14, 34, 36, 55, 57, 60]
def ic85 : IC := (.seq (.region [jz 4 0, jz 5 0])
 (.seq (.region [jv 2, jv 1, jq (.bin .sub .int) [.t 0, .t 1], jm 6 2])
 (.seq (.region [jw 7 (.alloc [(.cv (.int .i64 0))]) []])
 (.seq (.region [jv 1, jv 6, jq (.bin .quo .int) [.t 1, jn 4], jq (.bin .mul .int) [.t 2, jn 1], jq (.bin .add .int) [.t 0, .t 3], jm 8 4])
 (.seq (.region [jv 1, jv 6, jq (.bin .quo .int) [.t 1, jn 4], jq (.bin .mul .int) [.t 2, jn 2], jq (.bin .add .int) [.t 0, .t 3], jm 9 4])
 (.seq (.region [jv 1, jv 6, jq (.bin .quo .int) [.t 1, jn 4], jq (.bin .mul .int) [.t 2, jn 3], jq (.bin .add .int) [.t 0, .t 3], jm 10 4])
 (.seq (.seq (.region [jv 6, jw 11 (.bin .geq .int) [.t 0, jn 8]])
 (.cond 11 (.seq (.seq (.region [jv 6, jw 12 (.bin .geq .int) [.t 0, jn 50]])
 (.cond 12 (.seq (.region [jv 0, jv 8, jv 3, jk 95 [.t 0, .t 1, .v 7, .t 2], jm 8 3])
 (.seq (.region [jv 0, jv 9, jv 3, jk 95 [.t 0, .t 1, .v 7, .t 2], jm 9 3])
 (.region [jv 0, jv 10, jv 3, jk 95 [.t 0, .t 1, .v 7, .t 2], jm 10 3])))
 .skip))
 (.region [jv 0, jv 8, jv 9, jv 10, jv 3, jk 96 [.t 0, .t 1, .t 2, .t 3, .v 7, .t 4], jm 9 5]))
 .skip))
 (.seq (.region [jw 13 .load1 [.v 7]])
 (.block 0 (.seq (.region [jq (.bin .eql .int) [.v 13, jn 0], jm 14 0])
 (.cond 14 (.seq (.region [jv 9, jm 4 0, jz 5 1])
 .ret)
 (.seq (.region [jq (.bin .eql .int) [.v 13, jn 12], jm 15 0])
 (.cond 15 (.seq (.region [jv 9, jm 4 0, jz 5 2])
 .ret)
 (.seq (.region [jv 9, jm 4 0, jz 5 0])
 .ret))))))))))))))
abbrev rs85 : List RC := [(.v 4), (.v 5)]
theorem fok85 (p : Bool) : FnOk Try.prog 85 ⟨ic85, vs85, 63, rs85, p⟩ := .mk2 Try.func85 (by kernel_rfl) (by kernel_rfl) (by kernel_rfl) (by kernel_rfl) (by kernel_rfl)

abbrev vs86 : List Nat := [0, 1, 2, 3, 8, 9, 15]
def ic86l0 : IC := (.seq (.seq (.region [jv 4, jv 5, jw 6 (.bin .lss .int) [.t 0, .t 1]])
 (.cond 6 .skip
 (.exit 0)))
 (.block 1 (.seq (.dr [[], [], [], [], [], [], [4, 5], [6], [], [], [8, 9], [10], [0, 1, 0, 1, 4, 5, 6, 7, 11], [12, 7, 0, 1, 4, 5, 6, 7, 11], [2, 3, 0, 1, 2, 3, 4, 5, 6, 7, 8, 9, 10, 11, 12, 13], [14, 11, 13, 0, 1, 2, 3, 4, 5, 6, 7, 8, 9, 10, 11, 12, 13]] [jv 0, jv 4, jv 0, jv 5, jv 0, jv 5, ja 1 4 5, jl 6, jv 0, jv 4, ja 1 8 9, jl 10, ja 1 0 1, jq (.store 1) [.t 12, .t 7], ja 1 2 3, jq (.store 1) [.t 14, .t 11]])
 (.seq (.region [jv 4, jq (.bin .add .int) [.t 0, jn 1], jm 4 1])
 (.region [jv 5, jq (.bin .sub .int) [.t 0, jn 1], jm 5 1])))))
def ic86 : IC := (.seq (.region [jv 1, jm 4 0])
 (.seq (.region [jv 2, jq (.bin .sub .int) [.t 0, jn 1], jm 5 1])
 (.block 0 (.loop ic86l0))))
abbrev rs86 : List RC := []
theorem fok86 (p : Bool) : FnOk Try.prog 86 ⟨ic86, vs86, 34, rs86, p⟩ := .mk2 Try.func86 (by kernel_rfl) (by kernel_rfl) (by kernel_rfl) (by kernel_rfl) (by kernel_rfl)

abbrev vs87 : List Nat := [0, 1, 2, 3, 8, 9, 10, 11, 12, 16, 36, 41, 45, 65, 69, 84, 104, 109, 124]
def ic87l0 : IC := (.seq (.seq (.region [jv 8, jv 2, jw 17 (.bin .lss .int) [.t 0, .t 1]])
 (.cond 17 .skip
 (.exit 6)))
 (.seq (.block 7 (.seq (.seq (.dr [[], [], [], [1, 2], [3], [], [], [6], [5, 7], [8], [0, 4, 9], [10], [11]] [jv 3, jv 0, jv 8, ja 1 1 2, jl 3, jv 0, jv 8, jq (.bin .sub .int) [.t 6, jn 1], ja 1 5 7, jl 8, ⟨none, none, .call, [(.t 0), (.t 4), (.t 9)]⟩, jq (.bin .lss .int) [.t 10, jn 0], jw 18 .not [.t 11]])
 (.cond 18 (.exit 6)
 .skip))
 (.dr [[], [], [], [], [3], [], [], [6], [5, 7], [8], [], [], [10, 11], [12], [0, 1, 0, 1, 5, 6, 7, 8, 9, 13], [14, 9, 0, 1, 5, 6, 7, 8, 9, 13], [2, 4, 0, 1, 2, 3, 4, 5, 6, 7, 8, 9, 10, 11, 12, 13, 14, 15], [16, 13, 15, 0, 1, 2, 3, 4, 5, 6, 7, 8, 9, 10, 11, 12, 13, 14, 15]] [jv 0, jv 8, jv 0, jv 8, jq (.bin .sub .int) [.t 3, jn 1], jv 0, jv 8, jq (.bin .sub .int) [.t 6, jn 1], ja 1 5 7, jl 8, jv 0, jv 8, ja 1 10 11, jl 12, ja 1 0 1, jq (.store 1) [.t 14, .t 9], ja 1 2 4, jq (.store 1) [.t 16, .t 13]])))
 (.region [jv 8, jq (.bin .add .int) [.t 0, jn 1], jm 8 1])))
def ic87l1 : IC := (.seq (.seq (.region [jv 7, jw 14 (.bin .geq .int) [.t 0, jn 1]])
 (.cond 14 .skip
 (.exit 4)))
 (.seq (.block 5 (.seq (.seq (.dr [[], [], [], [1, 2], [3], [], [], [6], [5, 7], [8], [0, 4, 9], [10], [11]] [jv 3, jv 0, jv 7, ja 1 1 2, jl 3, jv 0, jv 7, jq (.bin .sub .int) [.t 6, jn 1], ja 1 5 7, jl 8, ⟨none, none, .call, [(.t 0), (.t 4), (.t 9)]⟩, jq (.bin .lss .int) [.t 10, jn 0], jw 15 .not [.t 11]])
 (.cond 15 (.exit 4)
 .skip))
 (.dr [[], [], [], [], [3], [], [], [6], [5, 7], [8], [], [], [10, 11], [12], [0, 1, 0, 1, 5, 6, 7, 8, 9, 13], [14, 9, 0, 1, 5, 6, 7, 8, 9, 13], [2, 4, 0, 1, 2, 3, 4, 5, 6, 7, 8, 9, 10, 11, 12, 13, 14, 15], [16, 13, 15, 0, 1, 2, 3, 4, 5, 6, 7, 8, 9, 10, 11, 12, 13, 14, 15]] [jv 0, jv 7, jv 0, jv 7, jq (.bin .sub .int) [.t 3, jn 1], jv 0, jv 7, jq (.bin .sub .int) [.t 6, jn 1], ja 1 5 7, jl 8, jv 0, jv 7, ja 1 10 11, jl 12, ja 1 0 1, jq (.store 1) [.t 14, .t 9], ja 1 2 4, jq (.store 1) [.t 16, .t 13]])))
 (.region [jv 7, jq (.bin .sub .int) [.t 0, jn 1], jm 7 1])))
def ic87l2 : IC := (.seq (.seq (.dr [[], [], [0, 1], [2], [3], [3], [3], [5, 6, 3], [7, 3], [3], [3], [10, 3], [9, 11, 3], [12, 3], [4, 8, 13, 3, 3], [14, 3], [15, 3], [3, 16]] [jv 5, jv 2, jq (.bin .lss .int) [.t 0, .t 1], jt 2, jh 3 true 3, jh 3 true 0, jh 3 true 5, jg 3 true (.iaS 1) [.t 5, .t 6], ji 3 true 7, jh 3 true 0, jh 3 true 5, jg 3 true (.bin .sub .int) [.t 10, jn 1], jg 3 true (.iaS 1) [.t 9, .t 11], ji 3 true 12, ⟨none, (.some (3, true)), .call, [(.t 4), (.t 8), (.t 13)]⟩, jg 3 true (.bin .lss .int) [.t 14, jn 0], jg 3 true .not [.t 15], jw 10 .pick [.t 3, .t 16, jB false]])
 (.cond 10 .skip
 (.exit 2)))
 (.block 3 (.region [jv 5, jq (.bin .add .int) [.t 0, jn 1], jm 5 1])))
def ic87l3 : IC := (.seq (.seq (.region [jv 6, jw 9 (.bin .lss .int) [.t 0, jn 5]])
 (.cond 9 .skip
 (.exit 0)))
 (.seq (.block 1 (.seq (.block 2 (.loop ic87l2))
 (.seq (.seq (.region [jv 5, jv 2, jw 11 (.bin .eql .int) [.t 0, .t 1]])
 (.cond 11 (.seq (.region [jw 4 .mv [jB true]])
 .ret)
 .skip))
 (.seq (.seq (.region [jv 2, jv 1, jq (.bin .sub .int) [.t 0, .t 1], jw 12 (.bin .lss .int) [.t 2, jn 50]])
 (.cond 12 (.seq (.region [jw 4 .mv [jB false]])
 .ret)
 .skip))
 (.seq (.dr [[], [], [], [], [3], [], [], [6], [5, 7], [8], [], [], [10, 11], [12], [0, 1, 0, 1, 5, 6, 7, 8, 9, 13], [14, 9, 0, 1, 5, 6, 7, 8, 9, 13], [2, 4, 0, 1, 2, 3, 4, 5, 6, 7, 8, 9, 10, 11, 12, 13, 14, 15], [16, 13, 15, 0, 1, 2, 3, 4, 5, 6, 7, 8, 9, 10, 11, 12, 13, 14, 15]] [jv 0, jv 5, jv 0, jv 5, jq (.bin .sub .int) [.t 3, jn 1], jv 0, jv 5, jq (.bin .sub .int) [.t 6, jn 1], ja 1 5 7, jl 8, jv 0, jv 5, ja 1 10 11, jl 12, ja 1 0 1, jq (.store 1) [.t 14, .t 9], ja 1 2 4, jq (.store 1) [.t 16, .t 13]])
 (.seq (.seq (.region [jv 5, jv 1, jq (.bin .sub .int) [.t 0, .t 1], jw 13 (.bin .geq .int) [.t 2, jn 2]])
 (.cond 13 (.seq (.region [jv 5, jq (.bin .sub .int) [.t 0, jn 1], jm 7 1])
 (.block 4 (.loop ic87l1)))
 .skip))
 (.seq (.region [jv 2, jv 5, jq (.bin .sub .int) [.t 0, .t 1], jw 16 (.bin .geq .int) [.t 2, jn 2]])
 (.cond 16 (.seq (.region [jv 5, jq (.bin .add .int) [.t 0, jn 1], jm 8 1])
 (.block 6 (.loop ic87l0)))
 .skip))))))))
 (.region [jv 6, jq (.bin .add .int) [.t 0, jn 1], jm 6 1])))
def ic87 : IC := (.seq (.region [jw 4 .mv [jB false]])
 (.seq (.region [jv 1, jq (.bin .add .int) [.t 0, jn 1], jm 5 1])
 (.seq (.seq (.region [jz 6 0])
 (.block 0 (.loop ic87l3)))
 (.seq (.region [jw 4 .mv [jB false]])
 .ret))))
abbrev rs87 : List RC := [(.v 4)]
theorem fok87 (p : Bool) : FnOk Try.prog 87 ⟨ic87, vs87, 141, rs87, p⟩ := .mk2 Try.func87 (by kernel_rfl) (by kernel_rfl) (by kernel_rfl) (by kernel_rfl) (by kernel_rfl)

abbrev vs88 : List Nat := [0, 1, 2, 3, 4, 10, 11, 12, 47, 65, 70]
def ic88l0 : IC := (.seq (.seq (.dr [[], [], [0, 1], [2], [3], [3], [3], [5, 6, 3], [7, 3], [3], [3], [9, 10, 3], [11, 3], [4, 8, 12, 3, 3], [13, 3], [3, 14]] [jv 6, jv 7, jq (.bin .leq .int) [.t 0, .t 1], jt 2, jh 3 true 4, jh 3 true 0, jh 3 true 1, jg 3 true (.iaS 1) [.t 5, .t 6], ji 3 true 7, jh 3 true 0, jh 3 true 7, jg 3 true (.iaS 1) [.t 9, .t 10], ji 3 true 11, ⟨none, (.some (3, true)), .call, [(.t 4), (.t 8), (.t 12)]⟩, jg 3 true (.bin .lss .int) [.t 13, jn 0], jw 9 .pick [.t 3, .t 14, jB false]])
 (.cond 9 .skip
 (.exit 4)))
 (.block 5 (.region [jv 7, jq (.bin .sub .int) [.t 0, jn 1], jm 7 1])))
def ic88l1 : IC := (.seq (.seq (.dr [[], [], [0, 1], [2], [3], [3], [3], [5, 6, 3], [7, 3], [3], [3], [9, 10, 3], [11, 3], [4, 8, 12, 3, 3], [13, 3], [14, 3], [3, 15]] [jv 6, jv 7, jq (.bin .leq .int) [.t 0, .t 1], jt 2, jh 3 true 4, jh 3 true 0, jh 3 true 1, jg 3 true (.iaS 1) [.t 5, .t 6], ji 3 true 7, jh 3 true 0, jh 3 true 6, jg 3 true (.iaS 1) [.t 9, .t 10], ji 3 true 11, ⟨none, (.some (3, true)), .call, [(.t 4), (.t 8), (.t 12)]⟩, jg 3 true (.bin .lss .int) [.t 13, jn 0], jg 3 true .not [.t 14], jw 8 .pick [.t 3, .t 15, jB false]])
 (.cond 8 .skip
 (.exit 2)))
 (.block 3 (.region [jv 6, jq (.bin .add .int) [.t 0, jn 1], jm 6 1])))
def ic88l2 : IC := (.block 1 (.seq (.block 2 (.loop ic88l1))
 (.seq (.block 4 (.loop ic88l0))
 (.seq (.seq (.region [jv 6, jv 7, jw 10 (.bin .gtr .int) [.t 0, .t 1]])
 (.cond 10 (.exit 0)
 .skip))
 (.seq (.dr [[], [], [], [], [], [], [4, 5], [6], [], [], [8, 9], [10], [0, 1, 0, 1, 4, 5, 6, 7, 11], [12, 7, 0, 1, 4, 5, 6, 7, 11], [2, 3, 0, 1, 2, 3, 4, 5, 6, 7, 8, 9, 10, 11, 12, 13], [14, 11, 13, 0, 1, 2, 3, 4, 5, 6, 7, 8, 9, 10, 11, 12, 13]] [jv 0, jv 6, jv 0, jv 7, jv 0, jv 7, ja 1 4 5, jl 6, jv 0, jv 6, ja 1 8 9, jl 10, ja 1 0 1, jq (.store 1) [.t 12, .t 7], ja 1 2 3, jq (.store 1) [.t 14, .t 11]])
 (.seq (.region [jv 6, jq (.bin .add .int) [.t 0, jn 1], jm 6 1])
 (.region [jv 7, jq (.bin .sub .int) [.t 0, jn 1], jm 7 1])))))))
def ic88 : IC := (.seq (.region [jz 5 0])
 (.seq (.dr [[], [], [], [], [], [], [4, 5], [6], [], [], [8, 9], [10], [0, 1, 0, 1, 4, 5, 6, 7, 11], [12, 7, 0, 1, 4, 5, 6, 7, 11], [2, 3, 0, 1, 2, 3, 4, 5, 6, 7, 8, 9, 10, 11, 12, 13], [14, 11, 13, 0, 1, 2, 3, 4, 5, 6, 7, 8, 9, 10, 11, 12, 13]] [jv 0, jv 1, jv 0, jv 3, jv 0, jv 3, ja 1 4 5, jl 6, jv 0, jv 1, ja 1 8 9, jl 10, ja 1 0 1, jq (.store 1) [.t 12, .t 7], ja 1 2 3, jq (.store 1) [.t 14, .t 11]])
 (.seq (.region [jv 1, jq (.bin .add .int) [.t 0, jn 1], jv 2, jq (.bin .sub .int) [.t 2, jn 1], jm 6 1, jm 7 3])
 (.seq (.block 0 (.loop ic88l2))
 (.seq (.region [jv 6, jm 5 0])
 .ret)))))
abbrev rs88 : List RC := [(.v 5)]
theorem fok88 (p : Bool) : FnOk Try.prog 88 ⟨ic88, vs88, 90, rs88, p⟩ := .mk2 Try.func88 (by kernel_rfl) (by kernel_rfl) (by kernel_rfl) (by kernel_rfl) (by kernel_rfl)

abbrev vs89 : List Nat := [0, 1, 2, 3, 4, 10, 11, 12, 13, 47, 66, 71, 120, 139, 144]
def ic89l0 : IC := (.seq (.seq (.dr [[], [], [0, 1], [2], [3], [3], [3], [5, 6, 3], [7, 3], [3], [3], [9, 10, 3], [11, 3], [4, 8, 12, 3, 3], [13, 3], [14, 3], [3, 15]] [jv 7, jv 8, jq (.bin .leq .int) [.t 0, .t 1], jt 2, jh 3 true 4, jh 3 true 0, jh 3 true 8, jg 3 true (.iaS 1) [.t 5, .t 6], ji 3 true 7, jh 3 true 0, jh 3 true 1, jg 3 true (.iaS 1) [.t 9, .t 10], ji 3 true 11, ⟨none, (.some (3, true)), .call, [(.t 4), (.t 8), (.t 12)]⟩, jg 3 true (.bin .lss .int) [.t 13, jn 0], jg 3 true .not [.t 14], jw 13 .pick [.t 3, .t 15, jB false]])
 (.cond 13 .skip
 (.exit 8)))
 (.block 9 (.region [jv 8, jq (.bin .sub .int) [.t 0, jn 1], jm 8 1])))
def ic89l1 : IC := (.seq (.seq (.dr [[], [], [0, 1], [2], [3], [3], [3], [5, 6, 3], [7, 3], [3], [3], [9, 10, 3], [11, 3], [4, 8, 12, 3, 3], [13, 3], [3, 14]] [jv 7, jv 8, jq (.bin .leq .int) [.t 0, .t 1], jt 2, jh 3 true 4, jh 3 true 0, jh 3 true 7, jg 3 true (.iaS 1) [.t 5, .t 6], ji 3 true 7, jh 3 true 0, jh 3 true 1, jg 3 true (.iaS 1) [.t 9, .t 10], ji 3 true 11, ⟨none, (.some (3, true)), .call, [(.t 4), (.t 8), (.t 12)]⟩, jg 3 true (.bin .lss .int) [.t 13, jn 0], jw 12 .pick [.t 3, .t 14, jB false]])
 (.cond 12 .skip
 (.exit 6)))
 (.block 7 (.region [jv 7, jq (.bin .add .int) [.t 0, jn 1], jm 7 1])))
def ic89l2 : IC := (.block 5 (.seq (.block 6 (.loop ic89l1))
 (.seq (.block 8 (.loop ic89l0))
 (.seq (.seq (.region [jv 7, jv 8, jw 14 (.bin .gtr .int) [.t 0, .t 1]])
 (.cond 14 (.exit 4)
 .skip))
 (.seq (.dr [[], [], [], [], [], [], [4, 5], [6], [], [], [8, 9], [10], [0, 1, 0, 1, 4, 5, 6, 7, 11], [12, 7, 0, 1, 4, 5, 6, 7, 11], [2, 3, 0, 1, 2, 3, 4, 5, 6, 7, 8, 9, 10, 11, 12, 13], [14, 11, 13, 0, 1, 2, 3, 4, 5, 6, 7, 8, 9, 10, 11, 12, 13]] [jv 0, jv 7, jv 0, jv 8, jv 0, jv 8, ja 1 4 5, jl 6, jv 0, jv 7, ja 1 8 9, jl 10, ja 1 0 1, jq (.store 1) [.t 12, .t 7], ja 1 2 3, jq (.store 1) [.t 14, .t 11]])
 (.seq (.region [jv 7, jq (.bin .add .int) [.t 0, jn 1], jm 7 1])
 (.region [jv 8, jq (.bin .sub .int) [.t 0, jn 1], jm 8 1])))))))
def ic89l3 : IC := (.seq (.seq (.dr [[], [], [0, 1], [2], [3], [3], [3], [5, 6, 3], [7, 3], [3], [3], [9, 10, 3], [11, 3], [4, 8, 12, 3, 3], [13, 3], [14, 3], [3, 15]] [jv 7, jv 8, jq (.bin .leq .int) [.t 0, .t 1], jt 2, jh 3 true 4, jh 3 true 0, jh 3 true 8, jg 3 true (.iaS 1) [.t 5, .t 6], ji 3 true 7, jh 3 true 0, jh 3 true 1, jg 3 true (.iaS 1) [.t 9, .t 10], ji 3 true 11, ⟨none, (.some (3, true)), .call, [(.t 4), (.t 8), (.t 12)]⟩, jg 3 true (.bin .lss .int) [.t 13, jn 0], jg 3 true .not [.t 14], jw 10 .pick [.t 3, .t 15, jB false]])
 (.cond 10 .skip
 (.exit 2)))
 (.block 3 (.region [jv 8, jq (.bin .sub .int) [.t 0, jn 1], jm 8 1])))
def ic89l4 : IC := (.seq (.seq (.dr [[], [], [0, 1], [2], [3], [3], [3], [5, 6, 3], [7, 3], [3], [3], [9, 10, 3], [11, 3], [4, 8, 12, 3, 3], [13, 3], [3, 14]] [jv 7, jv 8, jq (.bin .leq .int) [.t 0, .t 1], jt 2, jh 3 true 4, jh 3 true 0, jh 3 true 7, jg 3 true (.iaS 1) [.t 5, .t 6], ji 3 true 7, jh 3 true 0, jh 3 true 1, jg 3 true (.iaS 1) [.t 9, .t 10], ji 3 true 11, ⟨none, (.some (3, true)), .call, [(.t 4), (.t 8), (.t 12)]⟩, jg 3 true (.bin .lss .int) [.t 13, jn 0], jw 9 .pick [.t 3, .t 14, jB false]])
 (.cond 9 .skip
 (.exit 0)))
 (.block 1 (.region [jv 7, jq (.bin .add .int) [.t 0, jn 1], jm 7 1])))
def ic89 : IC := (.seq (.region [jz 5 0, jw 6 .mv [jB false]])
 (.seq (.dr [[], [], [], [], [], [], [4, 5], [6], [], [], [8, 9], [10], [0, 1, 0, 1, 4, 5, 6, 7, 11], [12, 7, 0, 1, 4, 5, 6, 7, 11], [2, 3, 0, 1, 2, 3, 4, 5, 6, 7, 8, 9, 10, 11, 12, 13], [14, 11, 13, 0, 1, 2, 3, 4, 5, 6, 7, 8, 9, 10, 11, 12, 13]] [jv 0, jv 1, jv 0, jv 3, jv 0, jv 3, ja 1 4 5, jl 6, jv 0, jv 1, ja 1 8 9, jl 10, ja 1 0 1, jq (.store 1) [.t 12, .t 7], ja 1 2 3, jq (.store 1) [.t 14, .t 11]])
 (.seq (.region [jv 1, jq (.bin .add .int) [.t 0, jn 1], jv 2, jq (.bin .sub .int) [.t 2, jn 1], jm 7 1, jm 8 3])
 (.seq (.block 0 (.loop ic89l4))
 (.seq (.block 2 (.loop ic89l3))
 (.seq (.seq (.region [jv 7, jv 8, jw 11 (.bin .gtr .int) [.t 0, .t 1]])
 (.cond 11 (.seq (.dr [[], [], [], [], [], [], [4, 5], [6], [], [], [8, 9], [10], [0, 1, 0, 1, 4, 5, 6, 7, 11], [12, 7, 0, 1, 4, 5, 6, 7, 11], [2, 3, 0, 1, 2, 3, 4, 5, 6, 7, 8, 9, 10, 11, 12, 13], [14, 11, 13, 0, 1, 2, 3, 4, 5, 6, 7, 8, 9, 10, 11, 12, 13]] [jv 0, jv 8, jv 0, jv 1, jv 0, jv 1, ja 1 4 5, jl 6, jv 0, jv 8, ja 1 8 9, jl 10, ja 1 0 1, jq (.store 1) [.t 12, .t 7], ja 1 2 3, jq (.store 1) [.t 14, .t 11]])
 (.seq (.region [jv 8, jm 5 0, jw 6 .mv [jB true]])
 .ret))
 .skip))
 (.seq (.dr [[], [], [], [], [], [], [4, 5], [6], [], [], [8, 9], [10], [0, 1, 0, 1, 4, 5, 6, 7, 11], [12, 7, 0, 1, 4, 5, 6, 7, 11], [2, 3, 0, 1, 2, 3, 4, 5, 6, 7, 8, 9, 10, 11, 12, 13], [14, 11, 13, 0, 1, 2, 3, 4, 5, 6, 7, 8, 9, 10, 11, 12, 13]] [jv 0, jv 7, jv 0, jv 8, jv 0, jv 8, ja 1 4 5, jl 6, jv 0, jv 7, ja 1 8 9, jl 10, ja 1 0 1, jq (.store 1) [.t 12, .t 7], ja 1 2 3, jq (.store 1) [.t 14, .t 11]])
 (.seq (.region [jv 7, jq (.bin .add .int) [.t 0, jn 1], jm 7 1])
 (.seq (.region [jv 8, jq (.bin .sub .int) [.t 0, jn 1], jm 8 1])
 (.seq (.block 4 (.loop ic89l2))
 (.seq (.dr [[], [], [], [], [], [], [4, 5], [6], [], [], [8, 9], [10], [0, 1, 0, 1, 4, 5, 6, 7, 11], [12, 7, 0, 1, 4, 5, 6, 7, 11], [2, 3, 0, 1, 2, 3, 4, 5, 6, 7, 8, 9, 10, 11, 12, 13], [14, 11, 13, 0, 1, 2, 3, 4, 5, 6, 7, 8, 9, 10, 11, 12, 13]] [jv 0, jv 8, jv 0, jv 1, jv 0, jv 1, ja 1 4 5, jl 6, jv 0, jv 8, ja 1 8 9, jl 10, ja 1 0 1, jq (.store 1) [.t 12, .t 7], ja 1 2 3, jq (.store 1) [.t 14, .t 11]])
 (.seq (.region [jv 8, jm 5 0, jw 6 .mv [jB false]])
 .ret))))))))))))
abbrev rs89 : List RC := [(.v 5), (.v 6)]
theorem fok89 (p : Bool) : FnOk Try.prog 89 ⟨ic89, vs89, 178, rs89, p⟩ := .mk2 Try.func89 (by kernel_rfl) (by kernel_rfl) (by kernel_rfl) (by kernel_rfl) (by kernel_rfl)

abbrev vs90 : List Nat := [0, 2, 4, 8]
def ic90 : IC := (.seq (.region [jz 1 0])
 (.seq (.seq (.region [jv 0, jw 2 (.bin .geq .int) [.t 0, .c (.cv (.int .u32 65536))]])
 (.cond 2 (.seq (.region [jv 0, jq (.bin .shr .int) [.t 0, .c (.cv (.int .u64 16))], jm 0 1])
 (.region [jz 1 16]))
 .skip))
 (.seq (.seq (.region [jv 0, jw 3 (.bin .geq .int) [.t 0, .c (.cv (.int .u32 256))]])
 (.cond 3 (.seq (.region [jv 0, jq (.bin .shr .int) [.t 0, .c (.cv (.int .u64 8))], jm 0 1])
 (.region [jv 1, jq (.bin .add .int) [.t 0, jn 8], jm 1 1]))
 .skip))
 (.seq (.region [jv 1, jv 0, jq (.conv .u8) [.t 1], jq .ixStr [.c (.cv (.str (bts [0, 1, 2, 2, 3, 3, 3, 3, 4, 4, 4, 4, 4, 4, 4, 4, 5, 5, 5, 5, 5, 5, 5, 5, 5, 5, 5, 5, 5, 5, 5, 5, 6, 6, 6, 6, 6, 6, 6, 6, 6, 6, 6, 6, 6, 6, 6, 6, 6, 6, 6, 6, 6, 6, 6, 6, 6, 6, 6, 6, 6, 6, 6, 6, 7, 7, 7, 7, 7, 7, 7, 7, 7, 7, 7, 7, 7, 7, 7, 7, 7, 7, 7, 7, 7, 7, 7, 7, 7, 7, 7, 7, 7, 7, 7, 7, 7, 7, 7, 7, 7, 7, 7, 7, 7, 7, 7, 7, 7, 7, 7, 7, 7, 7, 7, 7, 7, 7, 7, 7, 7, 7, 7, 7, 7, 7, 7, 7, 8, 8, 8, 8, 8, 8, 8, 8, 8, 8, 8, 8, 8, 8, 8, 8, 8, 8, 8, 8, 8, 8, 8, 8, 8, 8, 8, 8, 8, 8, 8, 8, 8, 8, 8, 8, 8, 8, 8, 8, 8, 8, 8, 8, 8, 8, 8, 8, 8, 8, 8, 8, 8, 8, 8, 8, 8, 8, 8, 8, 8, 8, 8, 8, 8, 8, 8, 8, 8, 8, 8, 8, 8, 8, 8, 8, 8, 8, 8, 8, 8, 8, 8, 8, 8, 8, 8, 8, 8, 8, 8, 8, 8, 8, 8, 8, 8, 8, 8, 8, 8, 8, 8, 8, 8, 8, 8, 8, 8, 8, 8, 8, 8, 8, 8, 8, 8, 8, 8, 8, 8, 8, 8, 8, 8, 8, 8, 8]))), .t 2], jq (.conv .i64) [.t 3], jq (.bin .add .int) [.t 0, .t 4], jm 1 5])
 .ret))))
abbrev rs90 : List RC := [(.v 1)]
theorem fok90 (p : Bool) : FnOk Try.prog 90 ⟨ic90, vs90, 19, rs90, p⟩ := .mk2 Try.func90 (by kernel_rfl) (by kernel_rfl) (by kernel_rfl) (by kernel_rfl) (by kernel_rfl)

abbrev vs91 : List Nat := [0, 2, 4, 8, 14]
def ic91 : IC := (.seq (.region [jz 1 0])
 (.seq (.seq (.region [jv 0, jw 2 (.bin .geq .int) [.t 0, .c (.cv (.int .u64 4294967296))]])
 (.cond 2 (.seq (.region [jv 0, jq (.bin .shr .int) [.t 0, .c (.cv (.int .u64 32))], jm 0 1])
 (.region [jz 1 32]))
 .skip))
 (.seq (.seq (.region [jv 0, jw 3 (.bin .geq .int) [.t 0, .c (.cv (.int .u64 65536))]])
 (.cond 3 (.seq (.region [jv 0, jq (.bin .shr .int) [.t 0, .c (.cv (.int .u64 16))], jm 0 1])
 (.region [jv 1, jq (.bin .add .int) [.t 0, jn 16], jm 1 1]))
 .skip))
 (.seq (.seq (.region [jv 0, jw 4 (.bin .geq .int) [.t 0, .c (.cv (.int .u64 256))]])
 (.cond 4 (.seq (.region [jv 0, jq (.bin .shr .int) [.t 0, .c (.cv (.int .u64 8))], jm 0 1])
 (.region [jv 1, jq (.bin .add .int) [.t 0, jn 8], jm 1 1]))
 .skip))
 (.seq (.region [jv 1, jv 0, jq (.conv .u8) [.t 1], jq .ixStr [.c (.cv (.str (bts [0, 1, 2, 2, 3, 3, 3, 3, 4, 4, 4, 4, 4, 4, 4, 4, 5, 5, 5, 5, 5, 5, 5, 5, 5, 5, 5, 5, 5, 5, 5, 5, 6, 6, 6, 6, 6, 6, 6, 6, 6, 6, 6, 6, 6, 6, 6, 6, 6, 6, 6, 6, 6, 6, 6, 6, 6, 6, 6, 6, 6, 6, 6, 6, 7, 7, 7, 7, 7, 7, 7, 7, 7, 7, 7, 7, 7, 7, 7, 7, 7, 7, 7, 7, 7, 7, 7, 7, 7, 7, 7, 7, 7, 7, 7, 7, 7, 7, 7, 7, 7, 7, 7, 7, 7, 7, 7, 7, 7, 7, 7, 7, 7, 7, 7, 7, 7, 7, 7, 7, 7, 7, 7, 7, 7, 7, 7, 7, 8, 8, 8, 8, 8, 8, 8, 8, 8, 8, 8, 8, 8, 8, 8, 8, 8, 8, 8, 8, 8, 8, 8, 8, 8, 8, 8, 8, 8, 8, 8, 8, 8, 8, 8, 8, 8, 8, 8, 8, 8, 8, 8, 8, 8, 8, 8, 8, 8, 8, 8, 8, 8, 8, 8, 8, 8, 8, 8, 8, 8, 8, 8, 8, 8, 8, 8, 8, 8, 8, 8, 8, 8, 8, 8, 8, 8, 8, 8, 8, 8, 8, 8, 8, 8, 8, 8, 8, 8, 8, 8, 8, 8, 8, 8, 8, 8, 8, 8, 8, 8, 8, 8, 8, 8, 8, 8, 8, 8, 8, 8, 8, 8, 8, 8, 8, 8, 8, 8, 8, 8, 8, 8, 8, 8, 8, 8, 8]))), .t 2], jq (.conv .i64) [.t 3], jq (.bin .add .int) [.t 0, .t 4], jm 1 5])
 .ret)))))
abbrev rs91 : List RC := [(.v 1)]
theorem fok91 (p : Bool) : FnOk Try.prog 91 ⟨ic91, vs91, 25, rs91, p⟩ := .mk2 Try.func91 (by kernel_rfl) (by kernel_rfl) (by kernel_rfl) (by kernel_rfl) (by kernel_rfl)

abbrev vs92 : List Nat := [0, 1, 2, 3, 4, 10, 11, 18, 40, 58]
def ic92l0 : IC := (.block 1 (.seq (.region [jv 5, jq (.bin .mul .int) [jn 2, .t 0], jq (.bin .add .int) [.t 1, jn 1], jm 6 2])
 (.seq (.seq (.region [jv 6, jv 2, jw 7 (.bin .geq .int) [.t 0, .t 1]])
 (.cond 7 (.exit 0)
 .skip))
 (.seq (.seq (.dr [[], [0], [], [1, 2], [3], [4], [4], [4], [4], [7, 8, 4], [6, 9, 4], [10, 4], [4], [4], [4], [13, 14, 4], [15, 4], [12, 16, 4], [17, 4], [5, 11, 18, 4, 4], [19, 4], [4, 20]] [jv 6, jq (.bin .add .int) [.t 0, jn 1], jv 2, jq (.bin .lss .int) [.t 1, .t 2], jt 3, jh 4 true 4, jh 4 true 0, jh 4 true 3, jh 4 true 6, jg 4 true (.bin .add .int) [.t 7, .t 8], jg 4 true (.iaS 1) [.t 6, .t 9], ji 4 true 10, jh 4 true 0, jh 4 true 3, jh 4 true 6, jg 4 true (.bin .add .int) [.t 13, .t 14], jg 4 true (.bin .add .int) [.t 15, jn 1], jg 4 true (.iaS 1) [.t 12, .t 16], ji 4 true 17, ⟨none, (.some (4, true)), .call, [(.t 5), (.t 11), (.t 18)]⟩, jg 4 true (.bin .lss .int) [.t 19, jn 0], jw 8 .pick [.t 4, .t 20, jB false]])
 (.cond 8 (.region [jv 6, jq (.bin .add .int) [.t 0, jn 1], jm 6 1])
 .skip))
 (.seq (.seq (.dr [[], [], [], [], [2, 3], [1, 4], [5], [], [], [], [8, 9], [7, 10], [11], [0, 6, 12], [13], [14]] [jv 4, jv 0, jv 3, jv 5, jq (.bin .add .int) [.t 2, .t 3], ja 1 1 4, jl 5, jv 0, jv 3, jv 6, jq (.bin .add .int) [.t 8, .t 9], ja 1 7 10, jl 11, ⟨none, none, .call, [(.t 0), (.t 6), (.t 12)]⟩, jq (.bin .lss .int) [.t 13, jn 0], jw 9 .not [.t 14]])
 (.cond 9 .ret
 .skip))
 (.seq (.dr [[], [], [], [1, 2], [], [], [], [5, 6], [], [], [], [9, 10], [8, 11], [12], [], [], [], [15, 16], [14, 17], [18], [0, 3, 0, 1, 2, 3, 8, 9, 10, 11, 12, 13, 19], [20, 13, 0, 1, 2, 3, 8, 9, 10, 11, 12, 13, 19], [4, 7, 0, 1, 2, 3, 4, 5, 6, 7, 8, 9, 10, 11, 12, 13, 14, 15, 16, 17, 18, 19, 20, 21], [22, 19, 21, 0, 1, 2, 3, 4, 5, 6, 7, 8, 9, 10, 11, 12, 13, 14, 15, 16, 17, 18, 19, 20, 21]] [jv 0, jv 3, jv 5, jq (.bin .add .int) [.t 1, .t 2], jv 0, jv 3, jv 6, jq (.bin .add .int) [.t 5, .t 6], jv 0, jv 3, jv 6, jq (.bin .add .int) [.t 9, .t 10], ja 1 8 11, jl 12, jv 0, jv 3, jv 5, jq (.bin .add .int) [.t 15, .t 16], ja 1 14 17, jl 18, ja 1 0 3, jq (.store 1) [.t 20, .t 13], ja 1 4 7, jq (.store 1) [.t 22, .t 19]])
 (.region [jv 6, jm 5 0])))))))
def ic92 : IC := (.seq (.region [jv 1, jm 5 0])
 (.block 0 (.loop ic92l0)))
abbrev rs92 : List RC := []
theorem fok92 (p : Bool) : FnOk Try.prog 92 ⟨ic92, vs92, 82, rs92, p⟩ := .mk2 Try.func92 (by kernel_rfl) (by kernel_rfl) (by kernel_rfl) (by kernel_rfl) (by kernel_rfl)

abbrev vs93 : List Nat := [0, 2]
def ic93 : IC := (.seq (.region [jw 1 .mv [.c (.cv (.int .u64 0))]])
 (.seq (.region [jv 0, jq (.conv .u64) [.t 0], jk 77 [.t 1], jq (.bin .shl .int) [.c (.cv (.int .u64 1)), .t 2], jm 1 3])
 .ret))
abbrev rs93 : List RC := [(.v 1)]
theorem fok93 (p : Bool) : FnOk Try.prog 93 ⟨ic93, vs93, 7, rs93, p⟩ := .mk2 Try.func93 (by kernel_rfl) (by kernel_rfl) (by kernel_rfl) (by kernel_rfl) (by kernel_rfl)

abbrev vs94 : List Nat := [0, 2]
def ic94 : IC := (.seq (.region [jw 1 .mv [.c (.cv (.int .u64 0))]])
 (.seq (.dr [[], [0], [1], [], [3], [4], [5], [2, 6], [0, 0, 1, 2, 3, 4, 5, 6, 7], [8, 7, 0, 1, 2, 3, 4, 5, 6, 7]] [jv 0, jc 0, jl 1, jv 0, jc 3, jl 4, jq (.bin .shl .int) [.t 5, .c (.cv (.int .u64 13))], jq (.bin .xor .int) [.t 2, .t 6], jc 0, jq (.store 1) [.t 8, .t 7]])
 (.seq (.dr [[], [0], [1], [], [3], [4], [5], [2, 6], [0, 0, 1, 2, 3, 4, 5, 6, 7], [8, 7, 0, 1, 2, 3, 4, 5, 6, 7]] [jv 0, jc 0, jl 1, jv 0, jc 3, jl 4, jq (.bin .shr .int) [.t 5, .c (.cv (.int .u64 7))], jq (.bin .xor .int) [.t 2, .t 6], jc 0, jq (.store 1) [.t 8, .t 7]])
 (.seq (.dr [[], [0], [1], [], [3], [4], [5], [2, 6], [0, 0, 1, 2, 3, 4, 5, 6, 7], [8, 7, 0, 1, 2, 3, 4, 5, 6, 7]] [jv 0, jc 0, jl 1, jv 0, jc 3, jl 4, jq (.bin .shl .int) [.t 5, .c (.cv (.int .u64 17))], jq (.bin .xor .int) [.t 2, .t 6], jc 0, jq (.store 1) [.t 8, .t 7]])
 (.seq (.region [jv 0, jc 0, jl 1, jm 1 2])
 .ret)))))
abbrev rs94 : List RC := [(.v 1)]
theorem fok94 (p : Bool) : FnOk Try.prog 94 ⟨ic94, vs94, 33, rs94, p⟩ := .mk2 Try.func94 (by kernel_rfl) (by kernel_rfl) (by kernel_rfl) (by kernel_rfl) (by kernel_rfl)

abbrev vs95 : List Nat := [0, 1, 2, 3, 8]
def ic95 : IC := (.seq (.region [jz 4 0])
 (.seq (.region [jv 0, jv 1, jq (.bin .sub .int) [.t 1, jn 1], jv 1, jv 1, jq (.bin .add .int) [.t 4, jn 1], jv 2, jv 3, jk 96 [.t 0, .t 2, .t 3, .t 5, .t 6, .t 7], jm 4 8])
 .ret))
abbrev rs95 : List RC := [(.v 4)]
theorem fok95 (p : Bool) : FnOk Try.prog 95 ⟨ic95, vs95, 18, rs95, p⟩ := .mk2 Try.func95 (by kernel_rfl) (by kernel_rfl) (by kernel_rfl) (by kernel_rfl) (by kernel_rfl)

abbrev vs96 : List Nat := [0, 1, 2, 3, 4, 5, 12]
def ic96 : IC := (.seq (.region [jz 6 0])
 (.seq (.region [jv 0, jv 1, jv 2, jv 4, jv 5, jk 97 [.t 0, .t 1, .t 2, .t 3, .t 4], jt 5, jx 0 6, jx 1 6, jm 1 7, jm 2 8])
 (.seq (.region [jv 0, jv 2, jv 3, jv 4, jv 5, jk 97 [.t 0, .t 1, .t 2, .t 3, .t 4], jt 5, jx 0 6, jx 1 6, jm 2 7, jm 3 8])
 (.seq (.region [jv 0, jv 1, jv 2, jv 4, jv 5, jk 97 [.t 0, .t 1, .t 2, .t 3, .t 4], jt 5, jx 0 6, jx 1 6, jm 1 7, jm 2 8])
 (.seq (.region [jv 2, jm 6 0])
 .ret)))))
abbrev rs96 : List RC := [(.v 6)]
theorem fok96 (p : Bool) : FnOk Try.prog 96 ⟨ic96, vs96, 41, rs96, p⟩ := .mk2 Try.func96 (by kernel_rfl) (by kernel_rfl) (by kernel_rfl) (by kernel_rfl) (by kernel_rfl)

abbrev vs97 : List Nat := [0, 1, 2, 3, 4, 10, 11, 22]
def ic97 : IC := (.seq (.region [jz 5 0, jz 6 0])
 (.seq (.seq (.dr [[], [], [], [1, 2], [3], [], [], [5, 6], [7], [0, 4, 8], [9]] [jv 4, jv 0, jv 2, ja 1 1 2, jl 3, jv 0, jv 1, ja 1 5 6, jl 7, ⟨none, none, .call, [(.t 0), (.t 4), (.t 8)]⟩, jw 7 (.bin .lss .int) [.t 9, jn 0]])
 (.cond 7 (.seq (.region [jv 3, jc 0, jl 1, jq (.bin .add .int) [.t 2, jn 1], jc 0, jq (.store 1) [.t 4, .t 3]])
 (.seq (.region [jv 2, jv 1, jm 5 0, jm 6 1])
 .ret))
 .skip))
 (.seq (.region [jv 1, jv 2, jm 5 0, jm 6 1])
 .ret)))
abbrev rs97 : List RC := [(.v 5), (.v 6)]
theorem fok97 (p : Bool) : FnOk Try.prog 97 ⟨ic97, vs97, 32, rs97, p⟩ := .mk2 Try.func97 (by kernel_rfl) (by kernel_rfl) (by kernel_rfl) (by kernel_rfl) (by kernel_rfl)

end Go.Proofs.Ytphdemhopihpnaa.AM

namespace Go.Proofs.Ytphdemhopihpnaa.AM
open Go
set_option linter.unusedVariables false

abbrev vs12 : List Nat := [0, 1, 2, 6, 7, 8, 9, 10, 11, 12, 20]
def ic12 : IC := (.seq (.region [jw 3 .mv [jB false]])
 (.seq (.region [jv 0, jk 21 [.t 0], jt 1, jx 0 2, jx 1 2, jm 4 3, jm 5 4])
 (.seq (.seq (.region [jv 0, jk 41 [.t 0], jw 10 (.bin .neq .int) [.t 1, jn 0]])
 (.cond 10 (.seq (.region [jv 5, jq (.bin .neq .int) [.t 0, jn 0], jt 1, jh 2 true 4, jg 2 true (.bin .eql .int) [.t 3, jn 0], jq .pick [.t 2, .t 4, jB false], jt 5, jf 6 true 23 [], jq .pick [.t 6, .t 7, jB false], jm 3 8])
 .ret)
 .skip))
 (.seq (.region [jq (.bslice 1 0 [] []) [], jv 0, jq (.append 1 8) [.t 0, .t 1], jm 6 2])
 (.seq (.region [jv 1, jq (.conv .i64) [.t 0], jv 6, je 2, jq (.bin .rem .int) [.t 1, .t 3], jm 7 4])
 (.seq (.region [jv 6, jv 7, jv 2, jq (.conv .i64) [.t 2], jq (.bin .rem .int) [.t 3, jn 1000000001], ja 1 0 1, jq (.store 1) [.t 5, .t 4]])
 (.seq (.region [jv 6, jk 21 [.t 0], jt 1, jx 0 2, jx 1 2, jm 8 3, jm 9 4])
 (.seq (.dr [[], [0], [1], [2], [3, 2], [2, 4], [5, 2], [6], [6], [7, 8, 6], [6], [6], [10, 11, 6], [12, 6], [6], [6], [14, 15, 6], [16, 6], [13, 17, 6], [9, 18, 6], [6, 19], [20, 6], [21], [22, 21], [21, 23], [24, 21], [25], [26, 25], [25, 27], [28, 25], [29, 29], [29, 30], [31, 30, 0, 1, 2, 3, 4, 5, 6, 7, 8, 9, 10, 11, 12, 13, 14, 15, 16, 17, 18, 19, 20, 21, 22, 23, 24, 25, 26, 27, 28, 29, 30, 31]] [jv 5, jq (.bin .eql .int) [.t 0, jn 0], jt 1, jh 2 true 9, jg 2 true (.bin .eql .int) [.t 3, jn 0], jq .pick [.t 2, .t 4, jB false], jt 5, jh 6 true 4, jh 6 true 8, jg 6 true (.bin .eql .int) [.t 7, .t 8], jh 6 true 6, jh 6 true 7, jg 6 true (.iaS 1) [.t 10, .t 11], ji 6 true 12, jh 6 true 0, jh 6 true 7, jg 6 true (.iaS 1) [.t 14, .t 15], ji 6 true 16, jg 6 true (.bin .eql .int) [.t 13, .t 17], jg 6 true (.bin .eql .bool) [.t 9, .t 18], jq .pick [.t 6, .t 19, jB false], jt 20, jh 21 true 4, jg 21 true (.bin .geq .int) [.t 22, jn 0], jq .pick [.t 21, .t 23, jB false], jt 24, jh 25 true 4, jg 25 true (.bin .lss .int) [.t 26, jn 2147483647], jq .pick [.t 25, .t 27, jB false], jt 28, jf 29 true 23 [], jq .pick [.t 29, .t 30, jB false], jm 3 31])
 .ret))))))))
abbrev rs12 : List RC := [(.v 3)]
theorem fok12 (p : Bool) : FnOk Try.prog 12 ⟨ic12, vs12, 81, rs12, p⟩ := .mk2 Try.func12 (by kernel_rfl) (by kernel_rfl) (by kernel_rfl) (by kernel_rfl) (by kernel_rfl)

end Go.Proofs.Ytphdemhopihpnaa.AM

namespace Go.Proofs.Ytphdemhopihpnaa.AM
open Go
set_option linter.unusedVariables false
set_option linter.unusedSimpArgs false

theorem c73 (z lo hi : Int) (σ : List AObj) : AC Try.prog 73 [.i z, .cv (.rp [.int .i64 lo] 0), .cv (.rp [.int .i64 hi] 0)] σ fun r τ => r = .b (decide (z < lo) || decide (z > hi)) ∧ τ = σ := by
  refine AC_FE (fok73 true) (Nat.le_of_ble_eq_true rfl) ?_
  by_cases h : z < lo <;> simp only [ic73, h, evA, if_true, if_false, beq_false, simprocAttr]

def idxF (p : Int → Bool) (zs : List Int) : Int := match zs.findIdx? p with | some i => i | none => -1

theorem idxF_some {p : Int → Bool} {zs : List Int} {i : Nat} (h : i < zs.length) (hall : ∀ j, j < i → p (zs[j]?.getD 0) = false) (hp : p (zs[i]?.getD 0) = true) : idxF p zs = i := by
  have : zs.findIdx? p = some i := by
    rw [List.findIdx?_eq_some_iff_getElem]
    refine ⟨h, by simpa [h] using hp, fun j hj => ?_⟩
    have := hall j hj
    simpa [show j < zs.length by omega] using this
  simp [idxF, this]
theorem idxF_none {p : Int → Bool} {zs : List Int} (hall : ∀ j, j < zs.length → p (zs[j]?.getD 0) = false) : idxF p zs = -1 := by
  have : zs.findIdx? p = none := by
    rw [List.findIdx?_eq_none_iff]
    intro x hx
    obtain ⟨j, hj, rfl⟩ := List.mem_iff_getElem.1 hx
    have := hall j hj
    simpa [hj] using this
  simp [idxF, this]
theorem idxF_ge (p : Int → Bool) (zs : List Int) : decide (idxF p zs ≥ 0) = zs.any p := by
  unfold idxF
  cases h : zs.findIdx? p with
  | none =>
    rw [List.findIdx?_eq_none_iff] at h
    simpa using h
  | some i =>
    rw [List.findIdx?_eq_some_iff_getElem] at h
    obtain ⟨hi, hp, _⟩ := h
    have : zs.any p = true := List.any_eq_true.2 ⟨zs[i], List.getElem_mem hi, hp⟩
    rw [this]; simp

theorem c81 (zs : List Int) (fv : AV) (p : Int → Bool) (hz : zs.length < 2 ^ 63) (hf : ∀ z σ, CallV Try.prog fv [.i z] σ fun r τ => r = .b (p z) ∧ τ = σ) (σ : List AObj) :
    AC Try.prog 81 [ints zs, fv] σ fun r τ => r = .i (idxF p zs) ∧ τ = σ := by
  refine AC_FE (fok81 true) (Nat.le_of_ble_eq_true rfl) ?_
  simp only [ic81, evA, if_true, if_false, beq_false, simprocAttr]
  refine IL_for zs.length (fun i s => (∀ j, j < i → p (zs[j]?.getD 0) = false) ∧ ∃ v3 v6 v7, s = ⟨[ints zs, fv, .i 0, v3, .i zs.length, .i i, v6, v7], σ⟩) ?_ 0 (Nat.zero_le _) ⟨by omega, _, _, _, rfl⟩
  rintro i s hi ⟨hall, v3, v6, v7, rfl⟩
  by_cases h : i < zs.length
  · simp only [ic81l0, Int.ofNat_lt, h, evA, if_true, if_false, beq_false, simprocAttr]
    refine (hf _ _).run ?_
    cases hp : p (zs[i]?.getD 0)
    · simp only [evA, if_true, if_false, beq_false, simprocAttr]
      refine kFor_go (by first | trivial | omega) ⟨fun j hj => ?_, _, _, _, by rw [wrap_in (by omega)]; rfl⟩
      rcases Nat.lt_succ_iff_lt_or_eq.1 hj with hj | rfl
      · exact hall j hj
      · exact hp
    · simp only [evA, if_true, if_false, beq_false, simprocAttr]
      exact (idxF_some h hall hp).symm
  · simp only [ic81l0, Int.ofNat_lt, h, evA, if_true, if_false, beq_false, simprocAttr]
    have : i = zs.length := by omega
    subst this
    exact (idxF_none hall).symm

theorem c72 (zs : List Int) (fv : AV) (p : Int → Bool) (hz : zs.length < 2 ^ 63) (hf : ∀ z σ, CallV Try.prog fv [.i z] σ fun r τ => r = .b (p z) ∧ τ = σ) : PC Try.prog 72 [ints zs, fv] (.b (zs.any p)) := by
  refine ⟨AC_FE (fok72 true) (Nat.le_of_ble_eq_true rfl) ?_, rfl⟩
  simp only [ic72, evA, if_true, if_false, beq_false, simprocAttr]
  refine (c81 zs fv p hz hf _).run ?_
  simp only [evA, if_true, if_false, beq_false, simprocAttr, idxF_ge]
  exact frz

/-- lot.out -/
theorem c47 (lo hi : Int) (zs : List Int) (hz : zs.length < 2 ^ 63) : PC Try.prog 47 [.i lo, .i hi, ints zs] (.b (outF lo hi zs)) := by
  refine ⟨AC_FE (fok47 true) (Nat.le_of_ble_eq_true rfl) ?_, rfl⟩
  simp only [ic47, evA, if_true, if_false, beq_false, simprocAttr]
  refine (c72 zs (.fn (.func 73) [.cv (.rp [.int .i64 lo] 0), .cv (.rp [.int .i64 hi] 0)]) (fun z => decide (z < lo) || decide (z > hi)) hz (fun z σ => c73 z lo hi σ)).call frz ?_
  exact frz

theorem c48 (n lo hi : Int) : PC Try.prog 48 [.i n, .i lo, .i hi] (.b (decide (n ≥ lo) && decide (n ≤ hi))) := by
  refine ⟨AC_FE (fok48 true) (Nat.le_of_ble_eq_true rfl) ?_, rfl⟩
  by_cases h : n ≥ lo <;> simp only [ic48, h, evA, if_true, if_false, beq_false, simprocAttr] <;> exact frz

def mixF (x : Int) : Int := (x * x + 12345) % 2147483647
def promiseF (party number : Int) : Int := mixF (mixF ((number + 1 + 7 * party) % 2147483647))

theorem mixF_bounds (x : Int) : 0 ≤ mixF x ∧ mixF x < 2147483647 := by unfold mixF; omega
theorem promiseF_bounds (x y : Int) : 0 ≤ promiseF x y ∧ promiseF x y < 2147483647 := mixF_bounds _

theorem mixF_wrap {x : Int} (h : 0 ≤ x ∧ x < 2147483647) : (IntKind.i64.wrap (IntKind.i64.wrap (x * x) + 12345)).tmod 2147483647 = mixF x := by
  have h1 : 0 ≤ x * x := Int.mul_nonneg h.1 h.1
  have h2 : x * x ≤ 2147483647 * 2147483647 := Int.mul_le_mul (by omega) (by omega) h.1 (by omega)
  rw [wrap_in (n := x * x) (by omega), wrap_in (by omega), Int.tmod_eq_emod_of_nonneg (by omega)]
  rfl

/-- the document's promise -/
theorem c49 (a n : Int) (ha : 0 ≤ a ∧ a ≤ 7) (hn : 0 ≤ n ∧ n ≤ 1000000000) : PC Try.prog 49 [.i a, .i n] (.i (promiseF a n)) := by
  refine ⟨AC_FE (fok49 true) (Nat.le_of_ble_eq_true rfl) ?_, rfl⟩
  have w1 : (IntKind.i64.wrap (IntKind.i64.wrap (n + 1) + IntKind.i64.wrap (7 * a))).tmod 2147483647 = (n + 1 + 7 * a) % 2147483647 := by
    rw [wrap_in (n := n + 1) (by omega), wrap_in (n := 7 * a) (by omega), wrap_in (by omega), Int.tmod_eq_emod_of_nonneg (by omega)]
  have b0 : 0 ≤ (n + 1 + 7 * a) % 2147483647 ∧ (n + 1 + 7 * a) % 2147483647 < 2147483647 := by omega
  have w2 := mixF_wrap b0
  have w3 := mixF_wrap (mixF_bounds ((n + 1 + 7 * a) % 2147483647))
  simp only [ic49, evA, if_true, if_false, beq_false, simprocAttr, w1]
  refine IL_unroll' ?_
  simp only [ic49l0, evA, if_true, if_false, beq_false, simprocAttr, w2]
  refine IL_unroll' ?_
  simp only [ic49l0, evA, if_true, if_false, beq_false, simprocAttr, w3]
  refine IL_unroll' ?_
  simp only [ic49l0, evA, if_true, if_false, beq_false, simprocAttr, w3]
  exact frz

end Go.Proofs.Ytphdemhopihpnaa.AM

namespace Go.Proofs.Ytphdemhopihpnaa.AM
open Go
set_option linter.unusedVariables false
set_option linter.unusedSimpArgs false

def errP (a n : Int) : Bool := !inB a 0 7 || !inB n 0 1000000000
def promV (a n : Int) : AV := if errP a n then .tup [.i 0, .i 7] else .tup [.i (promiseF a n), .i 0]

theorem locsIn_promV (a n : Int) : locsIn 0 (promV a n) = true := by unfold promV; split <;> rfl

/-- lot.Promise -/
theorem c16 (a n : Int) : PC Try.prog 16 [.i a, .i n] (promV a n) := by
  refine ⟨AC_FE (fok16 true) (Nat.le_of_ble_eq_true rfl) ?_, locsIn_promV a n⟩
  simp only [ic16, evA, if_true, if_false, beq_false, simprocAttr]
  refine (c47 0 7 [a] (by simp)).call frz ?_
  rw [outF_one]
  cases h1 : inB a 0 7
  · have hp : promV a n = .tup [.i 0, .i 7] := by simp [promV, errP, h1]
    simp only [evA, if_true, if_false, beq_false, simprocAttr, hp]
    exact frz
  · simp only [evA, if_true, if_false, beq_false, simprocAttr]
    refine (c47 0 1000000000 [n] (by simp)).call frz ?_
    rw [outF_one]
    cases h2 : inB n 0 1000000000
    · have hp : promV a n = .tup [.i 0, .i 7] := by simp [promV, errP, h1, h2]
      simp only [evA, if_true, if_false, beq_false, simprocAttr, hp]
      exact frz
    · have hp : promV a n = .tup [.i (promiseF a n), .i 0] := by simp [promV, errP, h1, h2]
      have h1 := inB_iff.1 h1
      have h2 := inB_iff.1 h2
      have w1 : IntKind.i64.wrap (IntKind.i64.wrap (n + 1) + IntKind.i64.wrap (7 * a)) = n + 1 + 7 * a := by
        rw [wrap_in (n := n + 1) (by omega), wrap_in (n := 7 * a) (by omega), wrap_in (by omega)]
      simp only [evA, if_true, if_false, beq_false, simprocAttr, hp, w1]
      have hpf : promiseF a n = mixF (mixF ((n + 1 + 7 * a) % 2147483647)) := rfl
      have hb : 0 ≤ n + 1 + 7 * a ∧ n + 1 + 7 * a < 2147483648000 := by omega
      rw [hpf]
      generalize n + 1 + 7 * a = y at hb
      have hm := mixF_bounds (y % 2147483647)
      have key : ∀ y, 0 ≤ y ∧ y < 2147483648000 → (IntKind.i64.wrap (IntKind.i64.wrap (y.tmod 2147483647 * y.tmod 2147483647) + 12345)).tmod 2147483647 = mixF (y % 2147483647) := by
        intro y hy
        rw [show y.tmod 2147483647 = y % 2147483647 from Int.tmod_eq_emod_of_nonneg hy.1]
        exact mixF_wrap (by omega)
      have k0 := key y hb
      have k1 := key _ (show 0 ≤ mixF (y % 2147483647) ∧ mixF (y % 2147483647) < 2147483648000 by omega)
      rw [Int.emod_eq_of_lt hm.1 hm.2] at k1
      clear key hm hpf w1 hp
      generalize mixF (mixF (y % 2147483647)) = M2 at k1 ⊢
      generalize mixF (y % 2147483647) = M1 at k0 k1
      refine IL_for 2 (fun i s => ∃ z v7, (i = 0 ∧ z = y ∨ i = 1 ∧ z = M1 ∨ i = 2 ∧ z = M2) ∧ s = ⟨[.i a, .i n, .i 0, .i 0, .i z, .b false, .i i, v7], _⟩) ?_ 0 (by omega) ⟨_, _, .inl ⟨rfl, rfl⟩, rfl⟩
      rintro i s hi ⟨z, v7, hz, rfl⟩
      by_cases h : i < 2
      · have hd : ((i : Int) < 2) := by omega
        simp only [ic16l0, hd, h, evA, if_true, if_false, beq_false, simprocAttr]
        refine kFor_go (by first | trivial | omega) ⟨(IntKind.i64.wrap (IntKind.i64.wrap (z.tmod 2147483647 * z.tmod 2147483647) + 12345)).tmod 2147483647, _, ?_, by rw [wrap_in (n := (i : Int) + 1) (by omega)]; rfl⟩
        rcases hz with ⟨rfl, rfl⟩ | ⟨rfl, rfl⟩ | ⟨h2, _⟩
        · exact .inr (.inl ⟨rfl, k0⟩)
        · exact .inr (.inr ⟨rfl, k1⟩)
        · omega
      · have hd : ¬ ((i : Int) < 2) := by omega
        have hz2 : z = M2 := by rcases hz with ⟨h0, _⟩ | ⟨h1, _⟩ | ⟨_, hz⟩ <;> first | omega | exact hz
        subst hz2
        simp only [ic16l0, hd, evA, if_true, if_false, beq_false, simprocAttr]
        exact frz

/-- the document's Promise -/
theorem c17 (a n : Int) : PC Try.prog 17 [.i a, .i n] (promV a n) := by
  refine ⟨AC_FE (fok17 true) (Nat.le_of_ble_eq_true rfl) ?_, locsIn_promV a n⟩
  simp only [ic17, evA, if_true, if_false, beq_false, simprocAttr]
  refine (c48 a 0 7).call frz ?_
  rw [← show inB a 0 7 = (decide (a ≥ 0) && decide (a ≤ 7)) from rfl]
  cases h1 : inB a 0 7
  · have hp : promV a n = .tup [.i 0, .i 7] := by simp [promV, errP, h1]
    simp only [evA, if_true, if_false, beq_false, simprocAttr, hp]
    exact frz
  · simp only [evA, if_true, if_false, beq_false, simprocAttr]
    refine (c48 n 0 1000000000).call frz ?_
    rw [← show inB n 0 1000000000 = (decide (n ≥ 0) && decide (n ≤ 1000000000)) from rfl]
    cases h2 : inB n 0 1000000000
    · have hp : promV a n = .tup [.i 0, .i 7] := by simp [promV, errP, h1, h2]
      simp only [evA, if_true, if_false, beq_false, simprocAttr, hp]
      exact frz
    · have hp : promV a n = .tup [.i (promiseF a n), .i 0] := by simp [promV, errP, h1, h2]
      simp only [evA, if_true, if_false, beq_false, simprocAttr, hp]
      refine (c49 a n (inB_iff.1 h1) (inB_iff.1 h2)).call frz ?_
      (try simp only [evA, if_true, if_false, beq_false, simprocAttr])
      exact frz

end Go.Proofs.Ytphdemhopihpnaa.AM

namespace Go.Proofs.Ytphdemhopihpnaa.AM
open Go
set_option linter.unusedVariables false
set_option linter.unusedSimpArgs false

/-- the error of numbers -/
def numErr (zs : List Int) : Int := if inB zs.length 1 8 then (if outF 0 1000000000 zs then 7 else 0) else 3

/-- lot.check -/
theorem c50 (zs : List Int) (hz : zs.length < 2 ^ 63) : PC Try.prog 50 [ints zs] (.i (numErr zs)) := by
  refine ⟨AC_FE (fok50 true) (Nat.le_of_ble_eq_true rfl) ?_, rfl⟩
  simp only [ic50, evA, if_true, if_false, beq_false, simprocAttr]
  refine (c47 1 8 [zs.length] (by simp)).call frz ?_
  rw [outF_one]
  cases h1 : inB zs.length 1 8
  · have : numErr zs = 3 := by simp [numErr, h1]
    simp only [evA, if_true, if_false, beq_false, simprocAttr, this]
    exact frz
  · simp only [evA, if_true, if_false, beq_false, simprocAttr]
    refine (c47 0 1000000000 zs hz).call frz ?_
    cases h2 : outF 0 1000000000 zs
    · have : numErr zs = 0 := by simp [numErr, h1, h2]
      simp only [evA, if_true, if_false, beq_false, simprocAttr, this]
      exact frz
    · have : numErr zs = 7 := by simp [numErr, h1, h2]
      simp only [evA, if_true, if_false, beq_false, simprocAttr, this]
      exact frz

/-- the document's Numbers -/
theorem c41 (zs : List Int) (hz : zs.length < 2 ^ 63) : PC Try.prog 41 [ints zs] (.i (numErr zs)) := by
  refine ⟨AC_FE (fok41 true) (Nat.le_of_ble_eq_true rfl) ?_, rfl⟩
  simp only [ic41, evA, if_true, if_false, beq_false, simprocAttr]
  refine (c48 zs.length 1 8).call frz ?_
  rw [← show inB zs.length 1 8 = (decide ((zs.length : Int) ≥ 1) && decide ((zs.length : Int) ≤ 8)) from rfl]
  cases h1 : inB zs.length 1 8
  · have : numErr zs = 3 := by simp [numErr, h1]
    simp only [evA, if_true, if_false, beq_false, simprocAttr, this]
    exact frz
  · simp only [evA, if_true, if_false, beq_false, simprocAttr]
    refine IL_for zs.length (fun i s => (∀ j, j < i → inB (zs[j]?.getD 0) 0 1000000000 = true) ∧ ∃ v4 v5, s = ⟨[ints zs, .i 0, .i i, .b false, v4, v5], []⟩) ?_ 0 (Nat.zero_le _) ⟨by omega, _, _, rfl⟩
    rintro i s hi ⟨hall, v4, v5, rfl⟩
    by_cases h : i < zs.length
    · simp only [ic41l0, Int.ofNat_lt, h, evA, if_true, if_false, beq_false, simprocAttr]
      refine (c48 _ _ _).call frz ?_
      rw [← show inB (zs[i]?.getD 0) 0 1000000000 = (decide (zs[i]?.getD 0 ≥ 0) && decide (zs[i]?.getD 0 ≤ 1000000000)) from rfl]
      cases h2 : inB (zs[i]?.getD 0) 0 1000000000
      · have : numErr zs = 7 := by simp [numErr, h1, outF_true h h2]
        simp only [evA, if_true, if_false, beq_false, simprocAttr, this]
        exact frz
      · simp only [evA, if_true, if_false, beq_false, simprocAttr]
        refine kFor_go (by first | trivial | omega) ⟨fun j hj => ?_, _, _, by rw [wrap_in (by omega)]; rfl⟩
        rcases Nat.lt_succ_iff_lt_or_eq.1 hj with hj | rfl
        · exact hall j hj
        · exact h2
    · have : i = zs.length := by omega
      subst this
      have : numErr zs = 0 := by simp [numErr, h1, outF_false.2 hall]
      simp only [ic41l0, Int.ofNat_lt, h, this, evA, if_true, if_false, beq_false, simprocAttr]
      exact frz

/-- the error of promises, for numbers -/
def promErr (ps zs : List Int) : Int := if numErr zs = 0 then (if ps.length = zs.length then (if outF 0 2147483646 ps then 7 else 0) else 3) else numErr zs

theorem numErr_cases (zs : List Int) : numErr zs = 0 ∨ numErr zs = 3 ∨ numErr zs = 7 := by
  unfold numErr; split <;> (try split) <;> simp

/-- the document's Promises -/
theorem c51 (ps zs : List Int) (hp : ps.length < 2 ^ 63) (hz : zs.length < 2 ^ 63) : PC Try.prog 51 [ints ps, ints zs] (.i (promErr ps zs)) := by
  refine ⟨AC_FE (fok51 true) (Nat.le_of_ble_eq_true rfl) ?_, rfl⟩
  simp only [ic51, evA, if_true, if_false, beq_false, simprocAttr]
  refine (c41 zs hz).call frz ?_
  -- the loop
  have loop : ∀ (e : Int) (v5 v6 v7 : AV), (e ≠ 0 ∧ promErr ps zs = e ∨ e = 0 ∧ numErr zs = 0 ∧ ps.length = zs.length) → ∀ Q : Exit → St → Prop, (∀ vals v, vals = [ints ps, ints zs, .i 0, .i (promErr ps zs)] ++ v → Q (.exit 0) ⟨vals, []⟩) →
      IL Try.prog ⟨vs51, 35, none, 0⟩ ic51l0 ⟨[ints ps, ints zs, .i 0, .i e, .i 0, v5, v6, v7], []⟩ Q := by
    intro e v5 v6 v7 he Q hQ
    refine IL_for ps.length (fun i s => ∃ e v5 v6 v7, (e ≠ 0 ∧ promErr ps zs = e ∨ e = 0 ∧ numErr zs = 0 ∧ ps.length = zs.length ∧ ∀ j, j < i → inB (ps[j]?.getD 0) 0 2147483646 = true) ∧ s = ⟨[ints ps, ints zs, .i 0, .i e, .i i, v5, v6, v7], []⟩) ?_ 0 (Nat.zero_le _)
      ⟨e, v5, v6, v7, he.imp id (fun h => ⟨h.1, h.2.1, h.2.2, by omega⟩), rfl⟩
    rintro i s hi ⟨e, v5, v6, v7, he, rfl⟩
    by_cases h : i < ps.length
    · rcases he with ⟨he, hpe⟩ | ⟨rfl, h0, hl, hall⟩
      · have hb : (e == 0) = false := by simpa using he
        simp only [ic51l0, Int.ofNat_lt, h, hb, evA, if_true, if_false, beq_false, simprocAttr]
        rw [← hpe]
        exact hQ _ _ rfl
      · simp only [ic51l0, Int.ofNat_lt, h, evA, if_true, if_false, beq_false, simprocAttr]
        refine (c48 _ _ _).call frz ?_
        rw [← show inB (ps[i]?.getD 0) 0 2147483646 = (decide (ps[i]?.getD 0 ≥ 0) && decide (ps[i]?.getD 0 ≤ 2147483646)) from rfl]
        cases h2 : inB (ps[i]?.getD 0) 0 2147483646
        · simp only [evA, if_true, if_false, beq_false, simprocAttr]
          refine kFor_go (by first | trivial | omega) ⟨7, _, _, _, .inl ⟨by decide, ?_⟩, by rw [wrap_in (by omega)]; rfl⟩
          simp [promErr, h0, hl, outF_true h h2]
        · simp only [evA, if_true, if_false, beq_false, simprocAttr]
          refine kFor_go (by first | trivial | omega) ⟨0, _, _, _, .inr ⟨rfl, h0, hl, fun j hj => ?_⟩, by rw [wrap_in (by omega)]; rfl⟩
          rcases Nat.lt_succ_iff_lt_or_eq.1 hj with hj | rfl
          · exact hall j hj
          · exact h2
    · have : i = ps.length := by omega
      subst this
      have hpe : promErr ps zs = e := by
        rcases he with ⟨_, hpe⟩ | ⟨rfl, h0, hl, hall⟩
        · exact hpe
        · simp [promErr, h0, hl, outF_false.2 hall]
      simp only [ic51l0, Int.ofNat_lt, h, evA, if_true, if_false, beq_false, simprocAttr]
      rw [← hpe]
      exact hQ _ _ rfl
  rcases numErr_cases zs with h0 | h0 | h0
  · rw [h0]
    by_cases hl : ps.length = zs.length
    · simp only [hl, evA, if_true, if_false, beq_false, simprocAttr]
      refine loop 0 _ _ _ (.inr ⟨rfl, h0, hl⟩) _ fun vals v hv => ?_
      subst hv
      simp only [evA, if_true, if_false, beq_false, simprocAttr]
      exact frz
    · have hb : ((ps.length : Int) == zs.length) = false := by simp; omega
      simp only [hb, bne, evA, if_true, if_false, beq_false, simprocAttr]
      refine loop 3 _ _ _ (.inl ⟨by decide, by simp [promErr, h0, hl]⟩) _ fun vals v hv => ?_
      subst hv
      simp only [evA, if_true, if_false, beq_false, simprocAttr]
      exact frz
  · rw [h0]
    simp only [evA, if_true, if_false, beq_false, simprocAttr]
    refine loop 3 _ _ _ (.inl ⟨by decide, by simp [promErr, h0]⟩) _ fun vals v hv => ?_
    subst hv
    simp only [evA, if_true, if_false, beq_false, simprocAttr]
    exact frz
  · rw [h0]
    simp only [evA, if_true, if_false, beq_false, simprocAttr]
    refine loop 7 _ _ _ (.inl ⟨by decide, by simp [promErr, h0]⟩) _ fun vals v hv => ?_
    subst hv
    simp only [evA, if_true, if_false, beq_false, simprocAttr]
    exact frz

end Go.Proofs.Ytphdemhopihpnaa.AM

namespace Go.Proofs.Ytphdemhopihpnaa.AM
open Go
set_option linter.unusedVariables false
set_option linter.unusedSimpArgs false

theorem hmix : Try.prog.follows .mixedOrders = true := Checked.mixed Try.checked

def cheatB (ps zs : List Int) (j : Nat) : Bool := promiseF (j : Int) (zs[j]?.getD 0) != ps[j]?.getD 0
/-- the parties before i whose promise is not that of their number -/
def cheatF (ps zs : List Int) : Nat → List Int
  | 0 => []
  | i + 1 => if cheatB ps zs i then cheatF ps zs i ++ [(i : Int)] else cheatF ps zs i

theorem cheatF_length (ps zs : List Int) : ∀ i, (cheatF ps zs i).length ≤ i
  | 0 => by simp [cheatF]
  | i + 1 => by
    have := cheatF_length ps zs i
    simp only [cheatF]; split <;> simp <;> omega

structure NumsOk (zs : List Int) : Prop where
  len : 1 ≤ zs.length ∧ zs.length ≤ 8
  rng : ∀ j, j < zs.length → 0 ≤ zs[j]?.getD 0 ∧ zs[j]?.getD 0 ≤ 1000000000

theorem numErr_ok {zs : List Int} (h : numErr zs = 0) : NumsOk zs := by
  unfold numErr at h
  split at h
  · rename_i h1
    split at h
    · cases h
    · rename_i h2
      have h1 := inB_iff.1 h1
      exact ⟨by omega, fun j hj => inB_iff.1 (outF_false.1 (by simpa using h2) j hj)⟩
  · cases h

/-- the document's cheats -/
theorem c52 (ps zs : List Int) (hz : NumsOk zs) (hl : ps.length = zs.length) : PC Try.prog 52 [ints ps, ints zs] (ints (cheatF ps zs zs.length)) := by
  refine ⟨AC_FE (fok52 true) (Nat.le_of_ble_eq_true rfl) ?_, rfl⟩
  have h8 := hz.len
  simp only [ic52, evA, if_true, if_false, beq_false, simprocAttr]
  refine IL_for zs.length (fun i s => ∃ σ v v5 v6, AccAt σ v (cheatF ps zs i) ∧ s = ⟨[ints ps, ints zs, .cv .nils, v, .i i, v5, v6], σ⟩) ?_ 0 (Nat.zero_le _) ⟨[], _, _, _, .nil _, rfl⟩
  rintro i s hi ⟨σ, v, v5, v6, hacc, rfl⟩
  by_cases h : i < zs.length
  · have hp : i < ps.length := by omega
    have hrng := hz.rng i h
    simp only [ic52l0, Int.ofNat_lt, h, evA, if_true, if_false, beq_false, simprocAttr]
    refine DW_s [5] [] hmix (by kernel_rfl) rfl ?_
    simp only [h, hp, evA, if_true, if_false, beq_false, simprocAttr]
    refine kK_keep ((c49 (i : Int) _ (by omega) hrng).call frz ⟨rfl, rfl⟩) rfl ?_
    have hb : (promiseF (i : Int) (zs[i]?.getD 0) != ps[i]?.getD 0) = cheatB ps zs i := rfl
    simp only [h, hp, hb, evA, if_true, if_false, beq_false, simprocAttr]
    have hlen := cheatF_length ps zs i
    cases hc : cheatB ps zs i
    · simp only [evA, if_true, if_false, beq_false, simprocAttr]
      refine kFor_go (by first | trivial | omega) ⟨_, _, _, _, ?_, by rw [wrap_in (by omega)]; rfl⟩
      simpa [cheatF, hc] using hacc
    · obtain ⟨v', σ', he, hacc'⟩ := acc_append (i : Int) hacc (by omega)
      simp only [he, evA, if_true, if_false, beq_false, simprocAttr]
      refine kFor_go (by first | trivial | omega) ⟨_, _, _, _, ?_, by rw [wrap_in (by omega)]; rfl⟩
      simpa [cheatF, hc] using hacc'
  · have : i = zs.length := by omega
    subst this
    simp only [ic52l0, Int.ofNat_lt, h, evA, if_true, if_false, beq_false, simprocAttr]
    exact acc_frz (fun _ => trivial) hacc

end Go.Proofs.Ytphdemhopihpnaa.AM

namespace Go.Proofs.Ytphdemhopihpnaa.AM
open Go
set_option linter.unusedVariables false
set_option linter.unusedSimpArgs false

theorem promErr_ok {ps zs : List Int} (h : promErr ps zs = 0) : numErr zs = 0 ∧ ps.length = zs.length ∧ outF 0 2147483646 ps = false := by
  unfold promErr at h
  split at h
  · rename_i h0
    split at h
    · rename_i h1
      split at h
      · cases h
      · rename_i h2; exact ⟨h0, h1, by simpa using h2⟩
    · cases h
  · rename_i h0; exact absurd h h0

theorem promErr_cases (ps zs : List Int) : promErr ps zs = 0 ∨ promErr ps zs = 3 ∨ promErr ps zs = 7 := by
  have := numErr_cases zs
  unfold promErr
  split
  · split
    · split <;> simp
    · simp
  · exact this

def cheatsV (ps zs : List Int) : AV := if promErr ps zs = 0 then .tup [ints (cheatF ps zs zs.length), .i 0] else .tup [ints [], .i (promErr ps zs)]

theorem cheatsV_cl (ps zs : List Int) : locsIn 0 (cheatsV ps zs) = true := by unfold cheatsV; split <;> rfl

/-- the document's Cheats -/
theorem c19 (ps zs : List Int) (hp : ps.length < 2 ^ 63) (hz : zs.length < 2 ^ 63) : PA Try.prog 19 [ints ps, ints zs] (cheatsV ps zs) := by
  refine ⟨AC_FE (fok19 true) (Nat.le_of_ble_eq_true rfl) ?_, cheatsV_cl ps zs, rfl⟩
  simp only [ic19, evA, if_true, if_false, beq_false, simprocAttr]
  refine (c51 ps zs hp hz).call frz ?_
  rcases promErr_cases ps zs with h0 | h0 | h0
  · obtain ⟨h1, h2, _⟩ := promErr_ok h0
    have hv : cheatsV ps zs = .tup [ints (cheatF ps zs zs.length), .i 0] := by simp [cheatsV, h0]
    simp only [h0, hv, evA, if_true, if_false, beq_false, simprocAttr]
    refine (c52 ps zs (numErr_ok h1) h2).call frz ?_
    exact frz
  · have hv : cheatsV ps zs = .tup [ints [], .i 3] := by simp [cheatsV, h0]
    simp only [h0, hv, evA, if_true, if_false, beq_false, simprocAttr]
    exact frz
  · have hv : cheatsV ps zs = .tup [ints [], .i 7] := by simp [cheatsV, h0]
    simp only [h0, hv, evA, if_true, if_false, beq_false, simprocAttr]
    exact frz

/-- lot.Cheats -/
theorem c18 (ps zs : List Int) (hp : ps.length < 2 ^ 63) (hz : zs.length < 2 ^ 63) : PC Try.prog 18 [ints ps, ints zs] (cheatsV ps zs) := by
  refine ⟨AC_FE (fok18 true) (Nat.le_of_ble_eq_true rfl) ?_, cheatsV_cl ps zs⟩
  simp only [ic18, evA, if_true, if_false, beq_false, simprocAttr]
  refine (c50 zs hz).call frz ?_
  rcases numErr_cases zs with h0 | h0 | h0
  · simp only [h0, evA, if_true, if_false, beq_false, simprocAttr]
    by_cases hl : ps.length = zs.length
    · simp only [hl, evA, if_true, if_false, beq_false, simprocAttr]
      refine (c47 0 2147483646 ps hp).call frz ?_
      cases ho : outF 0 2147483646 ps
      · have hv : cheatsV ps zs = .tup [ints (cheatF ps zs zs.length), .i 0] := by simp [cheatsV, promErr, h0, hl, ho]
        have hok := numErr_ok h0
        have h8 := hok.len
        simp only [hv, evA, if_true, if_false, beq_false, simprocAttr]
        refine IL_for zs.length (fun i s => ∃ σ v v4 v5 v6 v13 v14, AccAt σ v (cheatF ps zs i) ∧ s = ⟨[ints ps, ints zs, v, .i 0, v4, v5, v6, .b false, .b false, .b false, ints zs, .i zs.length, .i i, v13, v14], σ⟩) ?_ 0 (Nat.zero_le _) ⟨[], _, _, _, _, _, _, .nil _, rfl⟩
        rintro i s hi ⟨σ, v, v4, v5, v6, v13, v14, hacc, rfl⟩
        by_cases h : i < zs.length
        · have hpl : i < ps.length := by omega
          have hrng := hok.rng i h
          simp only [ic18l0, Int.ofNat_lt, h, evA, if_true, if_false, beq_false, simprocAttr]
          refine (c16 (i : Int) _).call frz ?_
          have hpv : promV (i : Int) (zs[i]?.getD 0) = .tup [.i (promiseF (i : Int) (zs[i]?.getD 0)), .i 0] := by
            have e1 : inB (i : Int) 0 7 = true := inB_iff.2 (by omega)
            have e2 : inB (zs[i]?.getD 0) 0 1000000000 = true := inB_iff.2 hrng
            simp [promV, errP, e1, e2]
          rw [hpv]
          have hb : (promiseF (i : Int) (zs[i]?.getD 0) != ps[i]?.getD 0) = cheatB ps zs i := rfl
          simp only [h, hpl, hb, evA, if_true, if_false, beq_false, simprocAttr]
          have hlen := cheatF_length ps zs i
          cases hc : cheatB ps zs i
          · simp only [evA, if_true, if_false, beq_false, simprocAttr]
            refine kFor_go (by first | trivial | omega) ⟨_, _, _, _, _, _, _, ?_, by rw [wrap_in (by omega)]; rfl⟩
            simpa [cheatF, hc] using hacc
          · obtain ⟨v', σ', he, hacc'⟩ := acc_append (i : Int) hacc (by omega)
            simp only [he, evA, if_true, if_false, beq_false, simprocAttr]
            refine kFor_go (by first | trivial | omega) ⟨_, _, _, _, _, _, _, ?_, by rw [wrap_in (by omega)]; rfl⟩
            simpa [cheatF, hc] using hacc'
        · have : i = zs.length := by omega
          subst this
          simp only [ic18l0, Int.ofNat_lt, h, evA, if_true, if_false, beq_false, simprocAttr]
          exact .tup (.cons (acc_frz (fun _ => trivial) hacc) (.cons (.c (.c _ trivial)) .nil))
      · have hv : cheatsV ps zs = .tup [ints [], .i 7] := by simp [cheatsV, promErr, h0, hl, ho]
        simp only [hv, evA, if_true, if_false, beq_false, simprocAttr]
        exact frz
    · have hb : ((ps.length : Int) != zs.length) = true := by simp; omega
      have hv : cheatsV ps zs = .tup [ints [], .i 3] := by simp [cheatsV, promErr, h0, hl]
      simp only [hb, hv, evA, if_true, if_false, beq_false, simprocAttr]
      exact frz
  · have hv : cheatsV ps zs = .tup [ints [], .i 3] := by simp [cheatsV, promErr, h0]
    simp only [h0, hv, evA, if_true, if_false, beq_false, simprocAttr]
    exact frz
  · have hv : cheatsV ps zs = .tup [ints [], .i 7] := by simp [cheatsV, promErr, h0]
    simp only [h0, hv, evA, if_true, if_false, beq_false, simprocAttr]
    exact frz

/-- the lot of the numbers before i -/
def lotF (zs : List Int) : Nat → Int
  | 0 => 0
  | i + 1 => (lotF zs i * 1000003 + zs[i]?.getD 0 + 1) % 2147483647

theorem lotF_bounds (zs : List Int) : ∀ i, 0 ≤ lotF zs i ∧ lotF zs i < 2147483647
  | 0 => by simp [lotF]
  | i + 1 => by simp only [lotF]; omega

theorem lotF_wrap {zs : List Int} {i : Nat} (h : 0 ≤ zs[i]?.getD 0 ∧ zs[i]?.getD 0 ≤ 1000000000) :
    (IntKind.i64.wrap (IntKind.i64.wrap (IntKind.i64.wrap (lotF zs i * 1000003) + zs[i]?.getD 0) + 1)).tmod 2147483647 = lotF zs (i + 1) := by
  have := lotF_bounds zs i
  rw [wrap_in (n := lotF zs i * 1000003) (by omega), wrap_in (n := lotF zs i * 1000003 + _) (by omega), wrap_in (by omega), Int.tmod_eq_emod_of_nonneg (by omega)]
  rfl

def lotV (zs : List Int) : AV := if numErr zs = 0 then .tup [.i (lotF zs zs.length), .i 0] else .tup [.i 0, .i (numErr zs)]
theorem lotV_cl (zs : List Int) : locsIn 0 (lotV zs) = true := by unfold lotV; split <;> rfl

/-- lot.Lot -/
theorem c21 (zs : List Int) (hz : zs.length < 2 ^ 63) : PC Try.prog 21 [ints zs] (lotV zs) := by
  refine ⟨AC_FE (fok21 true) (Nat.le_of_ble_eq_true rfl) ?_, lotV_cl zs⟩
  simp only [ic21, evA, if_true, if_false, beq_false, simprocAttr]
  refine (c50 zs hz).call frz ?_
  rcases numErr_cases zs with h0 | h0 | h0
  · have hv : lotV zs = .tup [.i (lotF zs zs.length), .i 0] := by simp [lotV, h0]
    have hok := numErr_ok h0
    have h8 := hok.len
    simp only [h0, hv, evA, if_true, if_false, beq_false, simprocAttr]
    have hinit : lotF zs 0 = 0 := rfl
    have hstep := fun i (h : i < zs.length) => lotF_wrap (hok.rng i h)
    generalize lotF zs = L at hinit hstep ⊢
    refine IL_for zs.length (fun i s => ∃ v3 v8, s = ⟨[ints zs, .i (L i), .i 0, v3, .b false, ints zs, .i zs.length, .i i, v8], []⟩) ?_ 0 (Nat.zero_le _) ⟨_, _, by rw [hinit]; rfl⟩
    rintro i s hi ⟨v3, v8, rfl⟩
    by_cases h : i < zs.length
    · simp only [ic21l0, Int.ofNat_lt, h, evA, if_true, if_false, beq_false, simprocAttr]
      exact kFor_go (by first | trivial | omega) ⟨_, _, by rw [hstep i h, wrap_in (n := (i : Int) + 1) (by omega)]; rfl⟩
    · have : i = zs.length := by omega
      subst this
      simp only [ic21l0, Int.ofNat_lt, h, evA, if_true, if_false, beq_false, simprocAttr]
      exact frz
  · have hv : lotV zs = .tup [.i 0, .i 3] := by simp [lotV, h0]
    simp only [h0, hv, evA, if_true, if_false, beq_false, simprocAttr]
    exact frz
  · have hv : lotV zs = .tup [.i 0, .i 7] := by simp [lotV, h0]
    simp only [h0, hv, evA, if_true, if_false, beq_false, simprocAttr]
    exact frz

/-- the document's Lot -/
theorem c22 (zs : List Int) (hz : zs.length < 2 ^ 63) : PC Try.prog 22 [ints zs] (lotV zs) := by
  refine ⟨AC_FE (fok22 true) (Nat.le_of_ble_eq_true rfl) ?_, lotV_cl zs⟩
  simp only [ic22, evA, if_true, if_false, beq_false, simprocAttr]
  refine (c41 zs hz).call frz ?_
  rcases numErr_cases zs with h0 | h0 | h0
  · have hv : lotV zs = .tup [.i (lotF zs zs.length), .i 0] := by simp [lotV, h0]
    have hok := numErr_ok h0
    have h8 := hok.len
    simp only [h0, hv, evA, if_true, if_false, beq_false, simprocAttr]
    have hinit : lotF zs 0 = 0 := rfl
    have hstep := fun i (h : i < zs.length) => lotF_wrap (hok.rng i h)
    generalize lotF zs = L at hinit hstep ⊢
    refine IL_for zs.length (fun i s => ∃ v7, s = ⟨[ints zs, .i 0, .i 0, .i 0, .i (L i), .i i, .b false, v7], []⟩) ?_ 0 (Nat.zero_le _) ⟨_, by rw [hinit]; rfl⟩
    rintro i s hi ⟨v7, rfl⟩
    by_cases h : i < zs.length
    · simp only [ic22l0, Int.ofNat_lt, h, evA, if_true, if_false, beq_false, simprocAttr]
      exact kFor_go (by first | trivial | omega) ⟨_, by rw [hstep i h, wrap_in (n := (i : Int) + 1) (by omega)]; rfl⟩
    · have : i = zs.length := by omega
      subst this
      simp only [ic22l0, Int.ofNat_lt, h, evA, if_true, if_false, beq_false, simprocAttr]
      exact frz
  · have hv : lotV zs = .tup [.i 0, .i 3] := by simp [lotV, h0]
    simp only [h0, hv, evA, if_true, if_false, beq_false, simprocAttr]
    exact frz
  · have hv : lotV zs = .tup [.i 0, .i 7] := by simp [lotV, h0]
    simp only [h0, hv, evA, if_true, if_false, beq_false, simprocAttr]
    exact frz

/-- the document's Ints -/
theorem c20 (xs ys : List Int) (hx : xs.length < 2 ^ 63) : PC Try.prog 20 [ints xs, ints ys] (.b (decide (xs = ys))) := by
  refine ⟨AC_FE (fok20 true) (Nat.le_of_ble_eq_true rfl) ?_, rfl⟩
  simp only [ic20, evA, if_true, if_false, beq_false, simprocAttr]
  by_cases hl : xs.length = ys.length
  · simp only [hl, evA, if_true, if_false, beq_false, simprocAttr]
    refine IL_for ys.length (fun i s => (∀ j, j < i → xs[j]?.getD 0 = ys[j]?.getD 0) ∧ ∃ v5 v6, s = ⟨[ints xs, ints ys, .b false, .i i, .b false, v5, v6], []⟩) ?_ 0 (Nat.zero_le _) ⟨by omega, _, _, rfl⟩
    rintro i s hi ⟨hall, v5, v6, rfl⟩
    by_cases h : i < ys.length
    · have hxl : i < xs.length := by omega
      simp only [ic20l0, Int.ofNat_lt, h, hxl, evA, if_true, if_false, beq_false, simprocAttr]
      refine DW_s [] [] hmix (by kernel_rfl) rfl ?_
      simp only [h, hxl, evA, if_true, if_false, beq_false, simprocAttr]
      by_cases he : xs[i]?.getD 0 = ys[i]?.getD 0
      · have hb : (xs[i]?.getD 0 != ys[i]?.getD 0) = false := by simp [he]
        simp only [hb, evA, if_true, if_false, beq_false, simprocAttr]
        refine kFor_go (by first | trivial | omega) ⟨fun j hj => ?_, _, _, by rw [wrap_in (by omega)]; rfl⟩
        rcases Nat.lt_succ_iff_lt_or_eq.1 hj with hj | rfl
        · exact hall j hj
        · exact he
      · have hb : (xs[i]?.getD 0 != ys[i]?.getD 0) = true := by simp [he]
        have hne : decide (xs = ys) = false := by simp; intro h; exact he (by rw [h])
        simp only [hb, hne, evA, if_true, if_false, beq_false, simprocAttr]
        exact frz
    · have hi' : i = ys.length := by omega
      have hxl : ¬ i < xs.length := by omega
      have heq : decide (xs = ys) = true := by
        simp
        apply List.ext_getElem (by omega)
        intro j h1 h2
        have := hall j (by omega)
        simpa [h1, h2] using this
      simp only [ic20l0, Int.ofNat_lt, hxl, heq, evA, if_true, if_false, beq_false, simprocAttr]
      exact frz
  · have hb : ((xs.length : Int) != ys.length) = true := by simp; omega
    have hne : decide (xs = ys) = false := by simp; intro h; exact hl (by rw [h])
    simp only [hb, hne, evA, if_true, if_false, beq_false, simprocAttr]
    exact frz

end Go.Proofs.Ytphdemhopihpnaa.AM

namespace Go.Proofs.Ytphdemhopihpnaa.AM
open Go

def lotTab (b30 b58 b74 : Code) : List (Nat × FE) :=
  [(16, ⟨ic16, vs16, 31, rs16, true⟩),
  (18, ⟨ic18, vs18, 49, rs18, true⟩),
  (20, ⟨ic20, vs20, 26, rs20, true⟩),
  (21, ⟨ic21, vs21, 25, rs21, true⟩),
  (23, ⟨ic23, vs23, 136, rs23, true⟩),
  (24, ⟨ic24, vs24, 51, rs24, true⟩),
  (26, ⟨ic26, vs26, 18, rs26, true⟩),
  (28, ⟨ic28, vs28, 33, rs28, true⟩),
  (30, ⟨ic30 b30, vs30, 68, rs30, true⟩),
  (32, ⟨ic32, vs32, 63, rs32, true⟩),
  (34, ⟨ic34, vs34, 69, rs34, true⟩),
  (36, ⟨ic36, vs36, 4, rs36, true⟩),
  (37, ⟨ic37, vs37, 4, rs37, true⟩),
  (47, ⟨ic47, vs47, 10, rs47, true⟩),
  (50, ⟨ic50, vs50, 11, rs50, true⟩),
  (53, ⟨ic53, vs53, 18, rs53, false⟩),
  (54, ⟨ic54, vs54, 10, rs54, false⟩),
  (55, ⟨ic55, vs55, 12, rs55, false⟩),
  (58, ⟨ic58 b58, vs58, 40, rs58, false⟩),
  (60, ⟨ic60, vs60, 6, rs60, false⟩),
  (62, ⟨ic62, vs62, 14, rs62, false⟩),
  (63, ⟨ic63, vs63, 15, rs63, true⟩),
  (64, ⟨ic64, vs64, 18, rs64, true⟩),
  (65, ⟨ic65, vs65, 20, rs65, true⟩),
  (66, ⟨ic66, vs66, 36, rs66, true⟩),
  (67, ⟨ic67, vs67, 16, rs67, false⟩),
  (68, ⟨ic68, vs68, 30, rs68, false⟩),
  (71, ⟨ic71, vs71, 26, rs71, true⟩),
  (72, ⟨ic72, vs72, 9, rs72, true⟩),
  (73, ⟨ic73, vs73, 13, rs73, true⟩),
  (74, ⟨ic74 b74, vs74, 45, rs74, false⟩),
  (75, ⟨ic75, vs75, 56, rs75, false⟩),
  (76, ⟨ic76, vs76, 148, rs76, false⟩),
  (77, ⟨ic77, vs77, 8, rs77, true⟩),
  (78, ⟨ic78, vs78, 6, rs78, true⟩),
  (79, ⟨ic79, vs79, 19, rs79, false⟩),
  (80, ⟨ic80, vs80, 17, rs80, false⟩),
  (81, ⟨ic81, vs81, 19, rs81, true⟩),
  (82, ⟨ic82, vs82, 53, rs82, false⟩),
  (83, ⟨ic83, vs83, 60, rs83, false⟩),
  (84, ⟨ic84, vs84, 67, rs84, false⟩),
  (85, ⟨ic85, vs85, 63, rs85, false⟩),
  (86, ⟨ic86, vs86, 34, rs86, false⟩),
  (87, ⟨ic87, vs87, 141, rs87, false⟩),
  (88, ⟨ic88, vs88, 90, rs88, false⟩),
  (89, ⟨ic89, vs89, 178, rs89, false⟩),
  (90, ⟨ic90, vs90, 19, rs90, true⟩),
  (91, ⟨ic91, vs91, 25, rs91, true⟩),
  (92, ⟨ic92, vs92, 82, rs92, false⟩),
  (93, ⟨ic93, vs93, 7, rs93, true⟩),
  (94, ⟨ic94, vs94, 33, rs94, false⟩),
  (95, ⟨ic95, vs95, 18, rs95, false⟩),
  (96, ⟨ic96, vs96, 41, rs96, false⟩),
  (97, ⟨ic97, vs97, 32, rs97, false⟩)]

theorem lotTab_ok : TOk Try.prog (lotTab (Try.f30.body.getD .skip) (Try.f58.body.getD .skip) (Try.f74.body.getD .skip)) :=
  ⟨fok16 _, fok18 _, fok20 _, fok21 _, fok23 _, fok24 _, fok26 _, fok28 _, fok30 _, fok32 _, fok34 _, fok36 _, fok37 _, fok47 _, fok50 _, fok53 _, fok54 _, fok55 _, fok58 _, fok60 _, fok62 _, fok63 _, fok64 _, fok65 _, fok66 _, fok67 _, fok68 _, fok71 _, fok72 _, fok73 _, fok74 _, fok75 _, fok76 _, fok77 _, fok78 _, fok79 _, fok80 _, fok81 _, fok82 _, fok83 _, fok84 _, fok85 _, fok86 _, fok87 _, fok88 _, fok89 _, fok90 _, fok91 _, fok92 _, fok93 _, fok94 _, fok95 _, fok96 _, fok97 _, trivial⟩

end Go.Proofs.Ytphdemhopihpnaa.AM

namespace Go.Proofs.Ytphdemhopihpnaa.AM
open Go
set_option maxRecDepth 100000

def drawD : AV := .agg [.cv (.rsl [.int .i64 1, .int .i64 1, .int .i64 2] 3), .cv (.rsl [.int .i64 1, .int .i64 1, .int .i64 6] 3)]
def drawE : AV := .agg [.cv (.rsl [.int .i64 1, .int .i64 1, .int .i64 2] 3), .cv (.rsl [.int .i64 1, .int .i64 1, .int .i64 6, .int .i64 6] 4)]
def TL (b30 b58 b74 : Code) (k : Kn) : Tb := ⟨tget (lotTab b30 b58 b74), k⟩
theorem TL_ok {k : Kn} (hk : KnOk Try.prog k) : TbOk Try.prog (TL (Try.f30.body.getD .skip) (Try.f58.body.getD .skip) (Try.f74.body.getD .skip) k) := ⟨fun _ _ h => TOk.get lotTab_ok _ _ h, hk⟩

theorem runShortE (b30 b58 b74 : Code) : runCall (TL b30 b58 b74 []) (callD (TL b30 b58 b74 []) 1000000 40) 1000000 [] 32 [drawE] [] = some (true, .tup [.cv (.rsl [.int .i64 2, .int .i64 3] 2), .i 0], []) := by kernel_rfl
theorem knShortE (σ : List AObj) : AC Try.prog 32 [drawE] σ fun r τ => r = .tup [.cv (.rsl [.int .i64 2, .int .i64 3] 2), .i 0] ∧ τ = σ := AC_run (Checked.mixed Try.checked) (TL_ok (k := []) trivial) 1000000 40 (runShortE _ _ _) rfl σ

theorem runCountD (b30 b58 b74 : Code) : runCall (TL b30 b58 b74 []) (callD (TL b30 b58 b74 []) 1000000 40) 1000000 [] 26 [drawD] [] = some (true, .tup [.i 3, .i 0], []) := by kernel_rfl
theorem knCountD (σ : List AObj) : AC Try.prog 26 [drawD] σ fun r τ => r = .tup [.i 3, .i 0] ∧ τ = σ := AC_run (Checked.mixed Try.checked) (TL_ok (k := []) trivial) 1000000 40 (runCountD _ _ _) rfl σ

theorem runPickD1 (b30 b58 b74 : Code) : runCall (TL b30 b58 b74 []) (callD (TL b30 b58 b74 []) 1000000 40) 1000000 [] 28 [drawD, .i 1] [] = some (true, .tup [.cv (.rsl [.int .i64 2, .int .i64 1, .int .i64 0] 3), .i 0], []) := by kernel_rfl
theorem knPickD1 (σ : List AObj) : AC Try.prog 28 [drawD, .i 1] σ fun r τ => r = .tup [.cv (.rsl [.int .i64 2, .int .i64 1, .int .i64 0] 3), .i 0] ∧ τ = σ := AC_run (Checked.mixed Try.checked) (TL_ok (k := []) trivial) 1000000 40 (runPickD1 _ _ _) rfl σ

theorem runIndexD (b30 b58 b74 : Code) : runCall (TL b30 b58 b74 []) (callD (TL b30 b58 b74 []) 1000000 40) 1000000 [] 30 [drawD, .cv (.rsl [.int .i64 2, .int .i64 1, .int .i64 0] 3)] [] = some (true, .tup [.i 1, .i 0], []) := by kernel_rfl
theorem knIndexD (σ : List AObj) : AC Try.prog 30 [drawD, .cv (.rsl [.int .i64 2, .int .i64 1, .int .i64 0] 3)] σ fun r τ => r = .tup [.i 1, .i 0] ∧ τ = σ := AC_run (Checked.mixed Try.checked) (TL_ok (k := []) trivial) 1000000 40 (runIndexD _ _ _) rfl σ

theorem runHonestD (b30 b58 b74 : Code) : runCall (TL b30 b58 b74 []) (callD (TL b30 b58 b74 []) 1000000 40) 1000000 [] 34 [drawD, .cv (.rsl [.int .i64 152436061] 1), .cv (.rsl [.int .i64 0] 1), .cv (.rsl [.int .i64 2, .int .i64 1, .int .i64 0] 3)] [] = some (true, .tup [.b true, .i 0], []) := by kernel_rfl
theorem knHonestD (σ : List AObj) : AC Try.prog 34 [drawD, .cv (.rsl [.int .i64 152436061] 1), .cv (.rsl [.int .i64 0] 1), .cv (.rsl [.int .i64 2, .int .i64 1, .int .i64 0] 3)] σ fun r τ => r = .tup [.b true, .i 0] ∧ τ = σ := AC_run (Checked.mixed Try.checked) (TL_ok (k := []) trivial) 1000000 40 (runHonestD _ _ _) rfl σ

theorem runPickE0 (b30 b58 b74 : Code) : runCall (TL b30 b58 b74 []) (callD (TL b30 b58 b74 []) 1000000 40) 1000000 [] 28 [drawE, .i 0] [] = some (true, .tup [.cv .nils, .i 9], []) := by kernel_rfl
theorem knPickE0 (σ : List AObj) : AC Try.prog 28 [drawE, .i 0] σ fun r τ => r = .tup [.cv .nils, .i 9] ∧ τ = σ := AC_run (Checked.mixed Try.checked) (TL_ok (k := []) trivial) 1000000 40 (runPickE0 _ _ _) rfl σ

def knAwake : Kn := [(32, [drawE], .tup [.cv (.rsl [.int .i64 2, .int .i64 3] 2), .i 0]), (26, [drawD], .tup [.i 3, .i 0]), (28, [drawD, .i 1], .tup [.cv (.rsl [.int .i64 2, .int .i64 1, .int .i64 0] 3), .i 0]), (30, [drawD, .cv (.rsl [.int .i64 2, .int .i64 1, .int .i64 0] 3)], .tup [.i 1, .i 0]), (34, [drawD, .cv (.rsl [.int .i64 152436061] 1), .cv (.rsl [.int .i64 0] 1), .cv (.rsl [.int .i64 2, .int .i64 1, .int .i64 0] 3)], .tup [.b true, .i 0]), (28, [drawE, .i 0], .tup [.cv .nils, .i 9])]
theorem knAwake_ok : KnOk Try.prog knAwake := ⟨⟨rfl, knShortE⟩, ⟨rfl, knCountD⟩, ⟨rfl, knPickD1⟩, ⟨rfl, knIndexD⟩, ⟨rfl, knHonestD⟩, ⟨rfl, knPickE0⟩, trivial⟩

theorem runAwake (b30 b58 b74 : Code) : runCall (TL b30 b58 b74 knAwake) (callD (TL b30 b58 b74 knAwake) 1000000 40) 1000000 [] 23 [] [] = some (true, .b true, []) := by kernel_rfl
/-- Awake returns true, wherever it is called. -/
theorem awake (σ : List AObj) : AC Try.prog 23 [] σ fun r τ => r = .b true ∧ τ = σ := AC_run (Checked.mixed Try.checked) (TL_ok knAwake_ok) 1000000 40 (runAwake _ _ _) rfl σ

end Go.Proofs.Ytphdemhopihpnaa.AM

namespace Go.Proofs.Ytphdemhopihpnaa.AM
open Go
set_option linter.unusedVariables false
set_option linter.unusedSimpArgs false
set_option maxRecDepth 20000

theorem lot_step_inj {x y c : Int} (hx : 0 ≤ x ∧ x < 2147483647) (hy : 0 ≤ y ∧ y < 2147483647) (h : (x * 1000003 + c + 1) % 2147483647 = (y * 1000003 + c + 1) % 2147483647) : x = y := by
  have d : (2147483647 : Int) ∣ (x * 1000003 + c + 1) - (y * 1000003 + c + 1) := Int.dvd_of_emod_eq_zero (Int.emod_eq_emod_iff_emod_sub_eq_zero.1 h)
  obtain ⟨q, hq⟩ := d
  clear h
  have e1 : (x - y) * 1000003 = 2147483647 * q := by omega
  have au : (1000003 : Int) * 1523789695 = 2147483647 * 709572 + 1 := by decide
  have e3 : (x - y) * (1000003 * 1523789695) = 2147483647 * q * 1523789695 := by rw [← Int.mul_assoc, e1]
  rw [au] at e3
  have e4 : x - y = 2147483647 * (q * 1523789695 - (x - y) * 709572) := by
    rw [Int.mul_add, Int.mul_one, Int.mul_left_comm, Int.mul_assoc] at e3
    rw [Int.mul_sub]
    have g : ∀ A d B : Int, A + d = B → d = B - A := by intros; omega
    exact g _ _ _ e3
  generalize q * 1523789695 - (x - y) * 709572 = m at e4
  clear e1 e3 au hq
  omega

theorem lotF_low {zs ys : List Int} : ∀ i, (∀ j, j < i → zs[j]?.getD 0 = ys[j]?.getD 0) → lotF zs i = lotF ys i
  | 0, _ => rfl
  | i + 1, h => by
    simp only [lotF]
    rw [lotF_low i fun j hj => h j (by omega), h i (by omega)]

/-- another number of one party gives another lot -/
theorem lotF_inj {zs ys : List Int} {k : Nat} (hr : 0 ≤ zs[k]?.getD 0 ∧ zs[k]?.getD 0 ≤ 1000000000) (hr' : 0 ≤ ys[k]?.getD 0 ∧ ys[k]?.getD 0 ≤ 1000000000) (hne : ∀ j, j ≠ k → zs[j]?.getD 0 = ys[j]?.getD 0) :
    ∀ i, k < i → (lotF zs i = lotF ys i ↔ zs[k]?.getD 0 = ys[k]?.getD 0)
  | 0, h => by omega
  | i + 1, h => by
    by_cases hk : i = k
    · subst hk
      simp only [lotF]
      rw [lotF_low i fun j hj => hne j (by omega)]
      have := lotF_bounds ys i
      generalize zs[i]?.getD 0 = a at hr ⊢
      generalize ys[i]?.getD 0 = b at hr' ⊢
      constructor
      · intro h; omega
      · intro h; rw [h]
    · have ih := lotF_inj hr hr' hne i (by omega)
      rw [← ih]
      simp only [lotF]
      rw [hne i hk]
      constructor
      · intro h; exact lot_step_inj (lotF_bounds zs i) (lotF_bounds ys i) h
      · intro h; rw [h]

/-- append of numbers that are only read, behind an empty slice made here -/
theorem append_copy {σ : List AObj} {l : Nat} {zs : List Int} (h : rowOf σ l = some []) (hl : zs.length < 2 ^ 40) :
    f_append 1 8 [.sl l 0 0 1, ints zs] σ = some (.sl σ.length 0 zs.length 1, σ.set l AObj.dead ++ [AObj.cells (zs.map AV.i)]) := by
  have hsrc : srcCells σ 1 (ints zs) = some (zs.map AV.i) := by simp [srcCells, List.map_map, Function.comp_def]
  simp only [f_append, h, hsrc, lenF, Option.bind_some]
  have hp : (2 : Nat) ^ 40 = 1099511627776 := by decide
  have hp2 : (2 : Nat) ^ 44 = 17592186044416 := by decide
  have hall : (zs.map AV.i).all AV.isSc = true := by simp [List.all_map, Function.comp_def, AV.isSc]
  have hc : (True ∧ 0 * 1 ≤ ([] : List AV).length ∧ zs.length * 1 = (zs.map AV.i).length ∧ (0 + zs.length) * 8 ≤ 2 ^ 44 ∧ 0 + zs.length ≤ 2 ^ 44 ∧ (zs.map AV.i).all AV.isSc = true) := by
    refine ⟨trivial, by simp, by simp, by omega, by omega, hall⟩
  rw [if_pos hc]
  simp

theorem rowOf_here {σ : List AObj} {n : Nat} {cs : List AV} (h : σ.length = n) : rowOf (σ ++ [AObj.cells cs]) n = some cs := by subst h; exact rowOf_last σ cs

theorem c12 (zs : List Int) (w o : Int) (hz : zs.length < 2 ^ 63) (hw : 0 ≤ w ∧ w ≤ 255) (ho : 0 ≤ o ∧ o ≤ 4294967295) : AC Try.prog 12 [ints zs, .cv (.int .u8 w), .cv (.int .u32 o)] [] fun r _ => r = .b true := by
  refine AC_FE (fok12 true) (Nat.le_of_ble_eq_true rfl) ?_
  simp only [ic12, evA, if_true, if_false, beq_false, simprocAttr]
  refine (c21 zs hz).call frz ?_
  by_cases h0 : numErr zs = 0
  · have hv : lotV zs = .tup [.i (lotF zs zs.length), .i 0] := by simp [lotV, h0]
    rw [hv]
    simp only [evA, if_true, if_false, beq_false, simprocAttr]
    refine (c41 zs hz).call frz ?_
    rw [h0]
    have hok := numErr_ok h0
    have h8 := hok.len
    simp only [append_copy (σ := [AObj.cells []]) (l := 0) (zs := zs) rfl (by omega), evA, if_true, if_false, beq_false, simprocAttr]
    have hlen0 : ¬ ((zs.length : Int) = 0) := by omega
    have hw64 : IntKind.i64.wrap w = w := wrap_in (by omega)
    have ho64 : IntKind.i64.wrap o = o := wrap_in (by omega)
    obtain ⟨k, hk⟩ : ∃ k : Nat, w.tmod zs.length = (k : Int) := ⟨(w.tmod zs.length).toNat, by
      rw [Int.toNat_of_nonneg]; exact Int.tmod_nonneg _ hw.1⟩
    have hkl : k < zs.length := by
      have h1 : w.tmod zs.length = w % zs.length := Int.tmod_eq_emod_of_nonneg hw.1
      have h2 := Int.emod_lt_of_pos w (show (0 : Int) < zs.length by omega)
      omega
    obtain ⟨o', ho'⟩ : ∃ o', o' = o.tmod 1000000001 := ⟨_, rfl⟩
    have hor : 0 ≤ o' ∧ o' ≤ 1000000000 := by
      rw [ho', Int.tmod_eq_emod_of_nonneg ho.1]; omega
    have hkl' : k + 1 ≤ zs.length := hkl
    simp only [hlen0, hw64, ho64, hk, ← ho', hkl, hkl', evA, if_true, if_false, beq_false, simprocAttr]
    have hyl : (zs.set k o').length = zs.length := by simp
    refine (c21 (zs.set k o') (by omega)).call (.cons (frz_ints' (fun _ => trivial) hyl.symm rfl) .nil) ?_
    have hy0 : numErr (zs.set k o') = 0 := by
      have h1 : inB (zs.length : Int) 1 8 = true := inB_iff.2 (by omega)
      have h2 : outF 0 1000000000 (zs.set k o') = false := outF_false.2 fun j hj => by
        by_cases hjk : k = j
        · subst hjk; simp [hkl, inB_iff, hor]
        · rw [List.getElem?_set_ne hjk]; exact inB_iff.2 (hok.rng j (by simpa using hj))
      simp [numErr, h1, h2]
    have hvy : lotV (zs.set k o') = .tup [.i (lotF (zs.set k o') zs.length), .i 0] := by simp [lotV, hy0]
    rw [hvy]
    simp only [evA, if_true, if_false, beq_false, simprocAttr]
    refine DW_s [30] [] hmix (by kernel_rfl) rfl ?_
    have hinj : (lotF zs zs.length == lotF (zs.set k o') zs.length) = ((zs.set k o')[k]?.getD 0 == zs[k]?.getD 0) := by
      have hsk : (zs.set k o')[k]?.getD 0 = o' := by simp [hkl]
      have := lotF_inj (zs := zs) (ys := zs.set k o') (hok.rng k hkl) (by rw [hsk]; exact hor) (fun j hj => by rw [List.getElem?_set_ne (Ne.symm hj)]) zs.length hkl
      rw [Bool.eq_iff_iff, beq_iff_eq, beq_iff_eq, this]
      exact eq_comm
    have hb := lotF_bounds zs zs.length
    have hkly : k < (zs.set k o').length := by omega
    have hge : (lotF zs zs.length ≥ 0) := hb.1
    have hlt : (lotF zs zs.length < 2147483647) := hb.2
    simp only [hkl, hkly, hinj, hge, hlt, evA, if_true, if_false, beq_false, simprocAttr]
    refine kK_keep ((awake _).run ⟨rfl, rfl⟩) rfl ?_
    simp only [evA, if_true, if_false, beq_false, simprocAttr]
  · have h3 : ∃ e, numErr zs = e ∧ e ≠ 0 := ⟨_, rfl, h0⟩
    obtain ⟨e, he, hne⟩ := h3
    have hv : lotV zs = .tup [.i 0, .i e] := by simp [lotV, he, hne]
    have hb : (e != 0) = true := by simpa using hne
    rw [hv]
    simp only [evA, if_true, if_false, beq_false, simprocAttr]
    refine (c41 zs hz).call frz ?_
    rw [he]
    simp only [hb, evA, if_true, if_false, beq_false, simprocAttr]
    refine (awake _).run ?_
    simp only [evA, if_true, if_false, beq_false, simprocAttr]

theorem law_LotLast (avs : List AV) (h : Args Try.prog Try.f12.params.toList avs) : AC Try.prog 12 avs [] fun r _ => r = .b true := by
  have h : Args Try.prog [23, 5, 50] avs := h
  obtain ⟨cs1, avs, rfl, h1, h⟩ := args_cons h
  obtain ⟨cs2, avs, rfl, h2, h⟩ := args_cons h
  obtain ⟨cs3, avs, rfl, h3, h⟩ := args_cons h
  cases args_nil h
  obtain ⟨zs, rfl, hz, _⟩ := typed_ints Try.underlying23 Try.underlying3 h1
  obtain ⟨w, rfl, hw⟩ := typed_int Try.underlying5 h2
  obtain ⟨o, rfl, ho⟩ := typed_int Try.underlying50 h3
  simp only [avOf, Try.underlying23, Try.underlying5, Try.underlying50]
  exact c12 zs w o hz (wf_u8 hw) (wf_u32 ho)

end Go.Proofs.Ytphdemhopihpnaa.AM

namespace Go.Proofs.Ytphdemhopihpnaa.AM
open Go
set_option linter.unusedVariables false
set_option linter.unusedSimpArgs false

/-- the document's Sets -/
theorem c44 (n : Nat) (hn : n ≤ 60) : PC Try.prog 44 [.i n] (.i (2 ^ n : Nat)) := by
  refine ⟨AC_FE (fok44 true) (Nat.le_of_ble_eq_true rfl) ?_, rfl⟩
  simp only [ic44, evA, if_true, if_false, beq_false, simprocAttr]
  have hstep : ∀ i, i < n → IntKind.i64.wrap (2 * ((2 ^ i : Nat) : Int)) = (2 ^ (i + 1) : Nat) := fun i hi => by
    have h60 : (2 : Nat) ^ i ≤ 2 ^ 60 := Nat.pow_le_pow_right (by omega) (by omega)
    rw [Nat.pow_succ]
    generalize 2 ^ i = p at h60 ⊢
    rw [wrap_in (by omega)]; omega
  have h0 : (1 : Int) = ((2 ^ 0 : Nat) : Int) := rfl
  rw [h0]
  generalize (fun i : Nat => 2 ^ i) = f at *
  refine IL_for n (fun i s => ∃ v4, s = ⟨[.i n, .i 0, .i (2 ^ i : Nat), .i i, v4], []⟩) ?_ 0 (Nat.zero_le _) ⟨_, rfl⟩
  rintro i s hi ⟨v4, rfl⟩
  by_cases h : i < n
  · have hs := hstep i h
    generalize ((2 ^ i : Nat) : Int) = a at hs ⊢
    simp only [ic44l0, Int.ofNat_lt, h, evA, if_true, if_false, beq_false, simprocAttr]
    exact kFor_go (by first | trivial | omega) ⟨_, by rw [hs, wrap_in (n := (i : Int) + 1) (by omega)]; rfl⟩
  · have : i = n := by omega
    subst this
    simp only [ic44l0, Int.ofNat_lt, h, evA, if_true, if_false, beq_false, simprocAttr]
    exact frz

/-- the document's Has -/
theorem c45 (s n : Nat) (hs : s < 2 ^ 62) (hn : n ≤ 60) : PC Try.prog 45 [.i s, .i n] (.b (s.testBit n)) := by
  refine ⟨AC_FE (fok45 true) (Nat.le_of_ble_eq_true rfl) ?_, rfl⟩
  simp only [ic45, evA, if_true, if_false, beq_false, simprocAttr]
  refine (c44 n hn).call frz ?_
  have hp : (2 : Nat) ^ n > 0 := Nat.pow_pos (by omega)
  have hp0 : ¬ (((2 ^ n : Nat) : Int) = 0) := by omega
  have hb : (IntKind.i64.wrap ((s : Int).tdiv ((2 ^ n : Nat) : Int))).tmod 2 = ((s / 2 ^ n % 2 : Nat) : Int) := by
    have h1 : (s : Int).tdiv ((2 ^ n : Nat) : Int) = ((s / 2 ^ n : Nat) : Int) := by rw [Int.tdiv_eq_ediv_of_nonneg (by omega)]; rfl
    have h2 : s / 2 ^ n ≤ s := Nat.div_le_self _ _
    rw [h1]
    generalize s / 2 ^ n = d at h2 ⊢
    rw [wrap_in (by omega), Int.tmod_eq_emod_of_nonneg (by omega)]; rfl
  have hv : (((s / 2 ^ n % 2 : Nat) : Int) == 1) = s.testBit n := by
    rw [Nat.testBit_eq_decide_div_mod_eq, Bool.eq_iff_iff]
    generalize s / 2 ^ n % 2 = m
    simp only [beq_iff_eq, decide_eq_true_eq]; omega
  generalize ((2 ^ n : Nat) : Int) = a at hp0 hb ⊢
  simp only [hp0, hb, hv, evA, if_true, if_false, beq_false, simprocAttr]
  exact frz

def firstBad (lo hi : Int) (zs : List Int) : Option Nat := zs.findIdx? fun z => !inB z lo hi
theorem firstBad_some {lo hi : Int} {zs : List Int} {i : Nat} (h : i < zs.length) (hall : ∀ j, j < i → inB (zs[j]?.getD 0) lo hi = true) (hb : inB (zs[i]?.getD 0) lo hi = false) : firstBad lo hi zs = some i := by
  unfold firstBad
  rw [List.findIdx?_eq_some_iff_getElem]
  refine ⟨h, by simpa [h] using hb, fun j hj => ?_⟩
  have := hall j hj
  simpa [show j < zs.length by omega] using this
theorem firstBad_none {lo hi : Int} {zs : List Int} (hall : ∀ j, j < zs.length → inB (zs[j]?.getD 0) lo hi = true) : firstBad lo hi zs = none := by
  unfold firstBad
  rw [List.findIdx?_eq_none_iff]
  intro x hx
  obtain ⟨j, hj, rfl⟩ := List.mem_iff_getElem.1 hx
  have := hall j hj
  simpa [hj] using this
theorem firstBad_iff {lo hi : Int} {zs : List Int} (h : firstBad lo hi zs = none) : ∀ j, j < zs.length → inB (zs[j]?.getD 0) lo hi = true := by
  unfold firstBad at h
  rw [List.findIdx?_eq_none_iff] at h
  intro j hj
  have := h zs[j] (List.getElem_mem hj)
  simpa [hj] using this

abbrev drw (ts ks : List Int) : AV := .agg [ints ts, ints ks]
abbrev tup3 (a b c : Int) : AV := .tup [.i a, .i b, .i c]

/-- the greatest set of so many things -/
def capF (n : Nat) : Int := ((2 ^ n : Nat) : Int) - 1

/-- part, index and error of a draw -/
def checkV (ts ks : List Int) : AV :=
  if inB ts.length 1 6 && decide (ks.length ≤ 8) then
    match firstBad 0 4 ts with
    | some i => tup3 2 i 7
    | none => match firstBad 0 (capF ts.length) ks with
      | some i => tup3 3 i 7
      | none => tup3 0 0 0
  else tup3 1 0 3
theorem checkV_cl (ts ks : List Int) : locsIn 0 (checkV ts ks) = true := by
  unfold checkV; split
  · split
    · rfl
    · split <;> rfl
  · rfl

/-- lot.Check -/
theorem c24 (ts ks : List Int) (ht : ts.length < 2 ^ 63) (hk : ks.length < 2 ^ 63) : PC Try.prog 24 [drw ts ks] (checkV ts ks) := by
  refine ⟨AC_FE (fok24 true) (Nat.le_of_ble_eq_true rfl) ?_, checkV_cl ts ks⟩
  simp only [ic24, evA, if_true, if_false, beq_false, simprocAttr]
  refine (c47 1 6 [ts.length] (by simp)).call frz ?_
  rw [outF_one]
  cases h1 : inB ts.length 1 6
  · have hv : checkV ts ks = tup3 1 0 3 := by simp [checkV, h1]
    simp only [hv, evA, if_true, if_false, beq_false, simprocAttr]
    exact frz
  by_cases h2 : ks.length ≤ 8
  rotate_left
  · have hv : checkV ts ks = tup3 1 0 3 := by simp [checkV, h2]
    have hd : ((ks.length : Int) > 8) = True := by simp; omega
    simp only [hv, hd, evA, if_true, if_false, beq_false, simprocAttr]
    exact frz
  have h6 := inB_iff.1 h1
  have hd : ((ks.length : Int) > 8) = False := by simp; omega
  simp only [hd, evA, if_true, if_false, beq_false, simprocAttr]
  refine IL_for ts.length (fun i s => (∀ j, j < i → inB (ts[j]?.getD 0) 0 4 = true) ∧ ∃ junk v5 v6 v13 v14, s = ⟨[drw ts ks, .ptr 0 0, .i 0, .i 0, .i 0, v5, v6, .undef, .undef, .b false, ints ts, .i ts.length, .i i, v13, v14, .undef, .undef, .undef, .undef, .undef], AObj.cells [ints ts, ints ks] :: junk⟩) ?_ 0 (Nat.zero_le _) ⟨by omega, [AObj.cells [.i ts.length]], _, _, _, _, rfl⟩
  rintro i s hi ⟨hall, junk, v5, v6, v13, v14, rfl⟩
  by_cases h : i < ts.length
  · simp only [ic24l1, Int.ofNat_lt, h, evA, if_true, if_false, beq_false, simprocAttr]
    refine (c47 0 4 [ts[i]?.getD 0] (by simp)).call (.cons (.c (.c _ trivial)) (.cons (.c (.c _ trivial)) (.cons (frz_one (fun _ => trivial) (by simp [rowOf])) .nil))) ?_
    rw [outF_one]
    cases hb : inB (ts[i]?.getD 0) 0 4
    · have hv : checkV ts ks = tup3 2 i 7 := by simp [checkV, h1, h2, firstBad_some h hall hb]
      simp only [hv, evA, if_true, if_false, beq_false, simprocAttr]
      exact frz
    · simp only [evA, if_true, if_false, beq_false, simprocAttr]
      refine kFor_go (by first | trivial | omega) ⟨fun j hj => ?_, _, _, _, _, _, by rw [wrap_in (by omega)]; rfl⟩
      rcases Nat.lt_succ_iff_lt_or_eq.1 hj with hj | rfl
      · exact hall j hj
      · exact hb
  · have : i = ts.length := by omega
    subst this
    have hfb := firstBad_none hall
    simp only [ic24l1, Int.ofNat_lt, h, evA, if_true, if_false, beq_false, simprocAttr]
    refine IL_for ks.length (fun i s => (∀ j, j < i → inB (ks[j]?.getD 0) 0 (capF ts.length) = true) ∧ ∃ junk v5 v6 v7 v8 v12 v13 v14 v18 v19, s = ⟨[drw ts ks, .ptr 0 0, .i 0, .i 0, .i 0, v5, v6, v7, v8, .b false, ints ts, .i ts.length, v12, v13, v14, ints ks, .i ks.length, .i i, v18, v19], AObj.cells [ints ts, ints ks] :: junk⟩) ?_ 0 (Nat.zero_le _) ⟨by omega, _, _, _, _, _, _, _, _, _, _, rfl⟩
    rintro i s hi ⟨hall2, junk, v5, v6, v7, v8, v12, v13, v14, v18, v19, rfl⟩
    by_cases h : i < ks.length
    · have hpw : (2 : Nat) ^ ts.length ≤ 2 ^ 6 := Nat.pow_le_pow_right (by omega) (by omega)
      have hsh : IntKind.i64.wrap (IntKind.i64.wrap (1 * 2 ^ min ts.length IntKind.i64.bits) - 1) = capF ts.length := by
        have h64 : IntKind.i64.bits = 64 := rfl
        have h2 : (2 : Int) ^ ts.length = ((2 ^ ts.length : Nat) : Int) := by simp
        rw [h64, Nat.min_eq_left (by omega), Int.one_mul, h2]
        unfold capF
        generalize 2 ^ ts.length = q at hpw ⊢
        rw [wrap_in (n := (q : Int)) (by omega), wrap_in (by omega)]
      have hn0 : ¬ ((ts.length : Int) < 0) := by omega
      simp only [ic24l0, Int.ofNat_lt, h, shiftI, hn0, hsh, evA, if_true, if_false, beq_false, simprocAttr]
      refine (c47 0 (capF ts.length) [ks[i]?.getD 0] (by simp)).call (.cons (.c (.c _ trivial)) (.cons (.c (.c _ trivial)) (.cons (frz_one (fun _ => trivial) (by simp [rowOf])) .nil))) ?_
      rw [outF_one]
      cases hb : inB (ks[i]?.getD 0) 0 (capF ts.length)
      · have hv : checkV ts ks = tup3 3 i 7 := by simp [checkV, h1, h2, hfb, firstBad_some h hall2 hb]
        simp only [hv, evA, if_true, if_false, beq_false, simprocAttr]
        exact frz
      · simp only [evA, if_true, if_false, beq_false, simprocAttr]
        refine kFor_go (by first | trivial | omega) ⟨fun j hj => ?_, _, _, _, _, _, _, _, _, _, _, by rw [wrap_in (n := (i : Int) + 1) (by omega)]; rfl⟩
        rcases Nat.lt_succ_iff_lt_or_eq.1 hj with hj | rfl
        · exact hall2 j hj
        · exact hb
    · have : i = ks.length := by omega
      subst this
      have hv : checkV ts ks = tup3 0 0 0 := by simp [checkV, h1, h2, hfb, firstBad_none hall2]
      simp only [ic24l0, Int.ofNat_lt, h, hv, evA, if_true, if_false, beq_false, simprocAttr]
      exact frz

end Go.Proofs.Ytphdemhopihpnaa.AM

namespace Go.Proofs.Ytphdemhopihpnaa.AM
open Go
set_option linter.unusedVariables false
set_option linter.unusedSimpArgs false

/-- the document's Check -/
theorem c25 (ts ks : List Int) (ht : ts.length < 2 ^ 63) (hk : ks.length < 2 ^ 63) : PC Try.prog 25 [drw ts ks] (checkV ts ks) := by
  refine ⟨AC_FE (fok25 true) (Nat.le_of_ble_eq_true rfl) ?_, checkV_cl ts ks⟩
  simp only [ic25, evA, if_true, if_false, beq_false, simprocAttr]
  refine (c48 ts.length 1 6).call frz ?_
  rw [← show inB ts.length 1 6 = (decide ((ts.length : Int) ≥ 1) && decide ((ts.length : Int) ≤ 6)) from rfl]
  cases h1 : inB ts.length 1 6
  · have hv : checkV ts ks = tup3 1 0 3 := by simp [checkV, h1]
    simp only [hv, evA, if_true, if_false, beq_false, simprocAttr]
    exact frz
  by_cases h2 : ks.length ≤ 8
  rotate_left
  · have hv : checkV ts ks = tup3 1 0 3 := by simp [checkV, h2]
    have hd : ((ks.length : Int) > 8) = True := by simp; omega
    simp only [hv, hd, evA, if_true, if_false, beq_false, simprocAttr]
    exact frz
  have h6 := inB_iff.1 h1
  have hd : ((ks.length : Int) > 8) = False := by simp; omega
  simp only [hd, evA, if_true, if_false, beq_false, simprocAttr]
  refine IL_for ts.length (fun i s => (∀ j, j < i → inB (ts[j]?.getD 0) 0 4 = true) ∧ ∃ v8 v9, s = ⟨[drw ts ks, .ptr 0 0, .i 0, .i 0, .i 0, .i i, .undef, .b false, v8, v9, .undef, .undef], [AObj.cells [ints ts, ints ks]]⟩) ?_ 0 (Nat.zero_le _) ⟨by omega, _, _, rfl⟩
  rintro i s hi ⟨hall, v8, v9, rfl⟩
  by_cases h : i < ts.length
  · simp only [ic25l1, Int.ofNat_lt, h, evA, if_true, if_false, beq_false, simprocAttr]
    refine (c48 _ 0 4).call frz ?_
    rw [← show inB (ts[i]?.getD 0) 0 4 = (decide (ts[i]?.getD 0 ≥ 0) && decide (ts[i]?.getD 0 ≤ 4)) from rfl]
    cases hb : inB (ts[i]?.getD 0) 0 4
    · have hv : checkV ts ks = tup3 2 i 7 := by simp [checkV, h1, h2, firstBad_some h hall hb]
      simp only [hv, evA, if_true, if_false, beq_false, simprocAttr]
      exact frz
    · simp only [evA, if_true, if_false, beq_false, simprocAttr]
      refine kFor_go (by first | trivial | omega) ⟨fun j hj => ?_, _, _, by rw [wrap_in (by omega)]; rfl⟩
      rcases Nat.lt_succ_iff_lt_or_eq.1 hj with hj | rfl
      · exact hall j hj
      · exact hb
  · have : i = ts.length := by omega
    subst this
    have hfb := firstBad_none hall
    simp only [ic25l1, Int.ofNat_lt, h, evA, if_true, if_false, beq_false, simprocAttr]
    refine IL_for ks.length (fun i s => (∀ j, j < i → inB (ks[j]?.getD 0) 0 (capF ts.length) = true) ∧ ∃ v5 v8 v9 v10 v11, s = ⟨[drw ts ks, .ptr 0 0, .i 0, .i 0, .i 0, v5, .i i, .b false, v8, v9, v10, v11], [AObj.cells [ints ts, ints ks]]⟩) ?_ 0 (Nat.zero_le _) ⟨by omega, _, _, _, _, _, rfl⟩
    rintro i s hi ⟨hall2, v5, v8, v9, v10, v11, rfl⟩
    by_cases h : i < ks.length
    · have hpw : (2 : Nat) ^ ts.length ≤ 2 ^ 6 := Nat.pow_le_pow_right (by omega) (by omega)
      have hsh : IntKind.i64.wrap (((2 ^ ts.length : Nat) : Int) - 1) = capF ts.length := by
        unfold capF
        generalize 2 ^ ts.length = q at hpw ⊢
        rw [wrap_in (by omega)]
      simp only [ic25l0, Int.ofNat_lt, h, evA, if_true, if_false, beq_false, simprocAttr]
      refine DW_s [8, 10] [] hmix (by kernel_rfl) rfl ?_
      simp only [h, evA, if_true, if_false, beq_false, simprocAttr]
      refine kK_keep ((c44 ts.length (by omega)).call frz ⟨rfl, rfl⟩) rfl ?_
      generalize ((2 ^ ts.length : Nat) : Int) = q at hsh ⊢
      simp only [hsh, evA, if_true, if_false, beq_false, simprocAttr]
      refine kK_keep ((c48 (ks[i]?.getD 0) 0 (capF ts.length)).call frz ⟨rfl, rfl⟩) rfl ?_
      rw [← show inB (ks[i]?.getD 0) 0 (capF ts.length) = (decide (ks[i]?.getD 0 ≥ 0) && decide (ks[i]?.getD 0 ≤ capF ts.length)) from rfl]
      cases hb : inB (ks[i]?.getD 0) 0 (capF ts.length)
      · have hv : checkV ts ks = tup3 3 i 7 := by simp [checkV, h1, h2, hfb, firstBad_some h hall2 hb]
        simp only [hv, evA, if_true, if_false, beq_false, simprocAttr]
        exact frz
      · simp only [evA, if_true, if_false, beq_false, simprocAttr]
        refine kFor_go (by first | trivial | omega) ⟨fun j hj => ?_, _, _, _, _, _, by rw [wrap_in (n := (i : Int) + 1) (by omega)]; rfl⟩
        rcases Nat.lt_succ_iff_lt_or_eq.1 hj with hj | rfl
        · exact hall2 j hj
        · exact hb
    · have : i = ks.length := by omega
      subst this
      have hv : checkV ts ks = tup3 0 0 0 := by simp [checkV, h1, h2, hfb, firstBad_none hall2]
      simp only [ic25l0, Int.ofNat_lt, h, hv, evA, if_true, if_false, beq_false, simprocAttr]
      exact frz

/-- a draw that is valid -/
structure DrawOk (ts ks : List Int) : Prop where
  tl : 1 ≤ ts.length ∧ ts.length ≤ 6
  kl : ks.length ≤ 8
  tr : ∀ j, j < ts.length → 0 ≤ ts[j]?.getD 0 ∧ ts[j]?.getD 0 ≤ 4
  kr : ∀ j, j < ks.length → 0 ≤ ks[j]?.getD 0 ∧ ks[j]?.getD 0 ≤ capF ts.length

def checkE (ts ks : List Int) : Int := match checkV ts ks with | .tup [_, _, .cv (.int _ e)] => e | _ => 0

theorem checkV_cases (ts ks : List Int) : (checkV ts ks = tup3 0 0 0 ∧ DrawOk ts ks) ∨ ∃ a b e, checkV ts ks = tup3 a b e ∧ e ≠ 0 := by
  cases h1 : inB ts.length 1 6 with
  | false => exact .inr ⟨1, 0, 3, by simp [checkV, h1], by decide⟩
  | true =>
    by_cases h2 : ks.length ≤ 8
    · cases h3 : firstBad 0 4 ts with
      | some i => exact .inr ⟨2, i, 7, by simp [checkV, h1, h2, h3], by decide⟩
      | none =>
        cases h4 : firstBad 0 (capF ts.length) ks with
        | some i => exact .inr ⟨3, i, 7, by simp [checkV, h1, h2, h3, h4], by decide⟩
        | none =>
          refine .inl ⟨by simp [checkV, h1, h2, h3, h4], ?_, h2, fun j hj => inB_iff.1 (firstBad_iff h3 j hj), fun j hj => inB_iff.1 (firstBad_iff h4 j hj)⟩
          have := inB_iff.1 h1; omega
    · exact .inr ⟨1, 0, 3, by simp [checkV, h2], by decide⟩

/-- the law's valid -/
theorem c38 (ts ks : List Int) (ht : ts.length < 2 ^ 63) (hk : ks.length < 2 ^ 63) : ∃ b, PC Try.prog 38 [drw ts ks] (.b b) ∧ (b = true → DrawOk ts ks ∧ checkV ts ks = tup3 0 0 0) ∧ (b = false → ∃ x y e, checkV ts ks = tup3 x y e ∧ e ≠ 0) := by
  rcases checkV_cases ts ks with ⟨hv, hok⟩ | ⟨x, y, e, hv, he⟩
  · refine ⟨true, ⟨AC_FE (fok38 true) (Nat.le_of_ble_eq_true rfl) ?_, rfl⟩, fun _ => ⟨hok, hv⟩, fun h => (by cases h)⟩
    simp only [ic38, evA, if_true, if_false, beq_false, simprocAttr]
    refine (c25 ts ks ht hk).call frz ?_
    simp only [hv, evA, if_true, if_false, beq_false, simprocAttr]
    exact frz
  · refine ⟨false, ⟨AC_FE (fok38 true) (Nat.le_of_ble_eq_true rfl) ?_, rfl⟩, fun h => (by cases h), fun _ => ⟨x, y, e, hv, he⟩⟩
    have hb : (e == 0) = false := by simpa using he
    simp only [ic38, evA, if_true, if_false, beq_false, simprocAttr]
    refine (c25 ts ks ht hk).call frz ?_
    simp only [hv, hb, evA, if_true, if_false, beq_false, simprocAttr]
    exact frz

/-- the document's less -/
theorem c61 (ts : List Int) (i : Nat) (hl : ts.length ≤ 100) (hi : i < ts.length) (hr : 0 ≤ ts[i]?.getD 0 ∧ ts[i]?.getD 0 ≤ 100) : PC Try.prog 61 [ints ts, .i i] (ints (ts.set i (ts[i]?.getD 0 - 1))) := by
  refine ⟨AC_FE (fok61 true) (Nat.le_of_ble_eq_true rfl) ?_, rfl⟩
  have hi' : i + 1 ≤ ts.length := hi
  have hw : IntKind.i64.wrap (ts[i]?.getD 0 - 1) = ts[i]?.getD 0 - 1 := wrap_in (by omega)
  simp only [ic61, append_copy (σ := [AObj.cells []]) (l := 0) (zs := ts) rfl (by omega), hi, hi', hw, evA, if_true, if_false, beq_false, simprocAttr]
  exact frz_ints' (fun _ => trivial) (by simp) rfl

end Go.Proofs.Ytphdemhopihpnaa.AM

namespace Go.Proofs.Ytphdemhopihpnaa.AM
open Go
set_option linter.unusedVariables false
set_option linter.unusedSimpArgs false

theorem set_last {rows : List AObj} {c x : AObj} {t : Nat} (h : rows.length = t) : (rows ++ [c]).set t x = rows ++ [x] := by
  subst h; simp
theorem row_last {rows : List AObj} {cs : List AV} {t : Nat} (h : rows.length = t) : rowOf (rows ++ [AObj.cells cs]) t = some cs := rowOf_here h

theorem mk1 {bytes n : Nat} {z : AV} (hb : bytes ≤ 1000) (h : n ≤ 1000000) (σ : List AObj) : f_mkslice 1 bytes [z] [.cv (.int .i64 n), .cv (.int .i64 n)] σ = some (.sl σ.length 0 n 1, σ ++ [AObj.cells (List.replicate n z)]) := by
  have h1 : n * bytes ≤ 1000000 * 1000 := Nat.mul_le_mul h hb
  have h2 : (2 : Int) ^ 46 = 70368744177664 := by decide
  have h3 : (n : Int) * (bytes : Int) = ((n * bytes : Nat) : Int) := by simp
  have hc : (0 ≤ (n : Int) ∧ True ∧ (n : Int) * bytes ≤ 2 ^ 46 ∧ (n : Int) ≤ 2 ^ 46 ∧ [z].length = 1) := by
    rw [h3, h2]; exact ⟨by omega, trivial, by omega, by omega, rfl⟩
  simp only [f_mkslice]
  rw [if_pos hc]
  simp [zcells]

/-- the outer row, when so many rows are made -/
def outerF (size T t : Nat) : List AV := (List.range T).map fun j => if j < t then .sl (j + 2) 0 size 1 else .cv .nils
theorem outerF_set {size T t : Nat} (h : t < T) : (outerF size T t).set t (.sl (t + 2) 0 size 1) = outerF size T (t + 1) := by
  apply List.ext_getElem (by simp [outerF])
  intro j h1 h2
  simp only [outerF, List.length_map, List.length_range] at h2
  by_cases hj : j = t
  · subst hj; simp [outerF]
  · rw [List.getElem_set_ne (by omega)]
    have : (j < t) ↔ (j < t + 1) := by omega
    simp [outerF, this]
theorem outerF_get {size T t j : Nat} (h : j < T) (hj : j < t) : (outerF size T t)[j]? = some (.sl (j + 2) 0 size 1) := by simp [outerF, h, hj]
theorem outerF_len {size T t : Nat} : (outerF size T t).length = T := by simp [outerF]
def fillR (size k : Nat) : List AV := List.replicate k (.i (-1)) ++ List.replicate (size - k) (.i 0)
theorem fillR_len {size k : Nat} (h : k ≤ size) : (fillR size k).length = size := by simp [fillR]; omega
theorem fillR_set {size k : Nat} (h : k < size) : (fillR size k).set k (.cv (.int .i64 (-1))) = fillR size (k + 1) := by
  unfold fillR
  have e : size - k = (size - (k + 1)) + 1 := by omega
  rw [e, List.replicate_succ, List.set_append_right _ _ (by simp)]
  simp [List.replicate_succ']

/-- a new table of the document -/
theorem c57 (ts ks : List Int) (ht : ts.length ≤ 6) (hk : ks.length ≤ 8) : AC Try.prog 57 [drw ts ks] [] fun r τ => r = .sl 1 0 ks.length 1 ∧
    τ = AObj.cells [ints ts, ints ks] :: AObj.cells (outerF (5 ^ ts.length) ks.length ks.length) :: List.replicate ks.length (AObj.cells (fillR (5 ^ ts.length) (5 ^ ts.length))) := by
  refine AC_FE (fok57 true) (Nat.le_of_ble_eq_true rfl) ?_
  simp only [ic57, evA, if_true, if_false, beq_false, simprocAttr]
  have h5 : ∀ i, i ≤ 6 → (5 : Nat) ^ i ≤ 5 ^ 6 := fun i hi => Nat.pow_le_pow_right (by omega) hi
  have hstep : ∀ i, i < ts.length → IntKind.i64.wrap (((5 ^ i : Nat) : Int) * 5) = (5 ^ (i + 1) : Nat) := fun i hi => by
    have := h5 i (by omega)
    rw [Nat.pow_succ]
    generalize 5 ^ i = p at this ⊢
    rw [wrap_in (by omega)]; omega
  refine IL_for ts.length (fun i s => ∃ v8, s = ⟨[drw ts ks, .ptr 0 0, .cv .nils, .i (5 ^ i : Nat), .i i, .undef, .undef, .undef, v8, .undef, .undef], [AObj.cells [ints ts, ints ks]]⟩) ?_ 0 (Nat.zero_le _) ⟨_, rfl⟩
  rintro i s hi ⟨v8, rfl⟩
  by_cases h : i < ts.length
  · have hs := hstep i h
    generalize ((5 ^ i : Nat) : Int) = a at hs ⊢
    simp only [ic57l2, Int.ofNat_lt, h, evA, if_true, if_false, beq_false, simprocAttr]
    exact kFor_go (by first | trivial | omega) ⟨_, by rw [hs, wrap_in (n := (i : Int) + 1) (by omega)]; rfl⟩
  · have : i = ts.length := by omega
    subst this
    have hsz := h5 ts.length ht
    generalize 5 ^ ts.length = size at hsz ⊢
    have hm1 := mk1 (bytes := 24) (n := ks.length) (z := .cv .nils) (by decide) (by omega)
    have hm2 := mk1 (bytes := 8) (n := size) (z := .cv (.int .i64 0)) (by decide) (by omega)
    have ho0 : List.replicate ks.length (AV.cv .nils) = outerF size ks.length 0 := by
      apply List.ext_getElem (by simp [outerF])
      intro j h1 h2
      simp [outerF]
    simp only [ic57l2, Int.ofNat_lt, h, hm1, evA, if_true, if_false, beq_false, simprocAttr]
    rw [ho0]
    refine IL_for ks.length (fun t s => ∃ v7 w8 v9 v10, s = ⟨[drw ts ks, .ptr 0 0, .cv .nils, .i size, .i ts.length, .sl 1 0 ks.length 1, .i t, v7, w8, v9, v10], AObj.cells [ints ts, ints ks] :: AObj.cells (outerF size ks.length t) :: List.replicate t (AObj.cells (fillR size size))⟩) ?_ 0 (Nat.zero_le _) ⟨_, _, _, _, rfl⟩
    rintro t s htl ⟨v7, w8, v9, v10, rfl⟩
    by_cases ht2 : t < ks.length
    · have ht3 : t + 1 ≤ ks.length := ht2
      have hset := outerF_set (size := size) ht2
      simp only [ic57l1, Int.ofNat_lt, ht2, ht3, hm2, outerF_len, List.length_replicate, hset, evA, if_true, if_false, beq_false, simprocAttr]
      have hf0 : List.replicate size (AV.cv (.int .i64 0)) = fillR size 0 := by simp [fillR]
      rw [hf0]
      have hget : (outerF size ks.length (t + 1))[t]? = some (.sl (t + 2) 0 size 1) := outerF_get ht2 (by omega)
      generalize hR : List.replicate t (AObj.cells (fillR size size)) = R
      have hRl : R.length = t := by rw [← hR]; simp
      refine IL_for size (fun k s => ∃ v8 v9 v10, s = ⟨[drw ts ks, .ptr 0 0, .cv .nils, .i size, .i ts.length, .sl 1 0 ks.length 1, .i t, .i k, v8, v9, v10], AObj.cells [ints ts, ints ks] :: AObj.cells (outerF size ks.length (t + 1)) :: (R ++ [AObj.cells (fillR size k)])⟩) ?_ 0 (Nat.zero_le _) ⟨_, _, _, rfl⟩
      rintro k s hks ⟨v8, v9, v10, rfl⟩
      by_cases hk2 : k < size
      · have hk3 : k + 1 ≤ size := hk2
        have hrow := row_last (cs := fillR size k) hRl
        have hsl := fun x => set_last (c := AObj.cells (fillR size k)) (x := x) hRl
        have hfl := fillR_len (size := size) (k := k) (by omega)
        have hfs := fillR_set hk2
        simp only [ic57l0, Int.ofNat_lt, hk2, hk3, ht2, hget, hrow, hsl, hfl, hfs, evA, if_true, if_false, beq_false, simprocAttr]
        exact kFor_go (by first | trivial | omega) ⟨_, _, _, by rw [wrap_in (by omega)]; rfl⟩
      · have : k = size := by omega
        subst this
        simp only [ic57l0, Int.ofNat_lt, hk2, evA, if_true, if_false, beq_false, simprocAttr]
        refine kFor_go (by first | trivial | omega) ⟨_, _, _, _, by rw [wrap_in (n := (t : Int) + 1) (by omega), ← hR, ← List.replicate_succ']; rfl⟩
    · have : t = ks.length := by omega
      subst this
      simp only [ic57l1, Int.ofNat_lt, ht2, evA, if_true, if_false, beq_false, simprocAttr]

end Go.Proofs.Ytphdemhopihpnaa.AM

namespace Go.Proofs.Ytphdemhopihpnaa.AM
open Go
set_option linter.unusedVariables false
set_option linter.unusedSimpArgs false

/-- times as digits -/
def encI (ts : List Int) : Nat → Int
  | 0 => 0
  | i + 1 => encI ts i * 5 + ts[i]?.getD 0
abbrev encN (ts : List Int) : Nat := (encI ts ts.length).toNat

theorem encI_bounds {ts : List Int} (h : ∀ j, j < ts.length → 0 ≤ ts[j]?.getD 0 ∧ ts[j]?.getD 0 ≤ 4) : ∀ i, i ≤ ts.length → 0 ≤ encI ts i ∧ encI ts i < (5 ^ i : Nat)
  | 0, _ => by simp [encI]
  | i + 1, hi => by
    have ih := encI_bounds h i (by omega)
    have hd := h i (by omega)
    simp only [encI]
    rw [Nat.pow_succ]
    generalize 5 ^ i = p at ih ⊢
    omega

/-- may the test t have examiner i, with these times left? -/
def canB (ks ts : List Int) (t i : Nat) : Bool := decide (ts[i]?.getD 0 > 0) && !((ks[t]?.getD 0).toNat.testBit i)

/-- the recursion with its memo K: r tests are left -/
def waysM (ks : List Int) : (r : Nat) → (ts : List Int) → (K : List (List Int)) → Int × List (List Int)
  | 0, _, K => (1, K)
  | r + 1, ts, K =>
    let t := ks.length - (r + 1)
    let x := (K[t]?.getD [])[encN ts]?.getD 0
    if x ≥ 0 then (x, K) else
    let p := (List.range ts.length).foldl (fun p i => if canB ks ts t i then let q := waysM ks r (ts.set i (ts[i]?.getD 0 - 1)) p.2; (p.1 + q.1, q.2) else p) (0, K)
    (p.1, p.2.set t ((p.2[t]?.getD []).set (encN ts) p.1))

/-- the loop over the examiners, before i -/
def waysL (ks : List Int) (r : Nat) (ts : List Int) (K : List (List Int)) (i : Nat) : Int × List (List Int) :=
  (List.range i).foldl (fun p i => if canB ks ts (ks.length - (r + 1)) i then let q := waysM ks r (ts.set i (ts[i]?.getD 0 - 1)) p.2; (p.1 + q.1, q.2) else p) (0, K)

theorem waysL_zero (ks : List Int) (r : Nat) (ts : List Int) (K : List (List Int)) : waysL ks r ts K 0 = (0, K) := rfl
theorem waysL_succ (ks : List Int) (r : Nat) (ts : List Int) (K : List (List Int)) (i : Nat) : waysL ks r ts K (i + 1) =
    if canB ks ts (ks.length - (r + 1)) i then ((waysL ks r ts K i).1 + (waysM ks r (ts.set i (ts[i]?.getD 0 - 1)) (waysL ks r ts K i).2).1, (waysM ks r (ts.set i (ts[i]?.getD 0 - 1)) (waysL ks r ts K i).2).2) else waysL ks r ts K i := by
  unfold waysL
  rw [List.range_succ, List.foldl_append]
  rfl

/-- the heap with other rows of the table: its outer row lies at b, its rows behind it -/
def putTab (σ : List AObj) (b : Nat) (K : List (List Int)) : List AObj := σ.mapIdx fun l o => if b + 1 ≤ l ∧ l < b + 1 + K.length then AObj.cells ((K[l - (b + 1)]?.getD []).map AV.i) else o

theorem putTab_length (σ : List AObj) (b : Nat) (K : List (List Int)) : (putTab σ b K).length = σ.length := by simp [putTab]
theorem putTab_get (σ : List AObj) (b : Nat) (K : List (List Int)) (l : Nat) : (putTab σ b K)[l]? = (σ[l]?).map fun o => if b + 1 ≤ l ∧ l < b + 1 + K.length then AObj.cells ((K[l - (b + 1)]?.getD []).map AV.i) else o := by simp [putTab, List.getElem?_mapIdx]

structure TabAt (σ : List AObj) (b T size : Nat) (K : List (List Int)) : Prop where
  out : rowOf σ b = some ((List.range T).map fun j => AV.sl (b + 1 + j) 0 size 1)
  kl : K.length = T
  rows : ∀ j, j < T → rowOf σ (b + 1 + j) = some ((K[j]?.getD []).map AV.i) ∧ (K[j]?.getD []).length = size

theorem putTab_same {σ : List AObj} {b T size : Nat} {K : List (List Int)} (h : TabAt σ b T size K) : putTab σ b K = σ := by
  apply List.ext_getElem?
  intro l
  rw [putTab_get]
  cases hl : σ[l]? with
  | none => rfl
  | some o =>
    simp only [Option.map_some, Option.some.injEq]
    split
    · rename_i hr
      have := rowOf_some (h.rows (l - (b + 1)) (by rw [← h.kl]; omega)).1
      rw [show b + 1 + (l - (b + 1)) = l by omega, hl] at this
      exact (Option.some.inj this).symm
    · rfl

theorem putTab_put (σ : List AObj) (b : Nat) {K K' : List (List Int)} (h : K.length = K'.length) : putTab (putTab σ b K) b K' = putTab σ b K' := by
  apply List.ext_getElem?
  intro l
  rw [putTab_get, putTab_get, putTab_get]
  cases σ[l]? with
  | none => rfl
  | some o =>
    simp only [Option.map_some, Option.some.injEq, h]
    split <;> rfl

theorem TabAt.put {σ : List AObj} {b T size : Nat} {K K' : List (List Int)} (h : TabAt σ b T size K) (hl : K'.length = T) (hs : ∀ j, j < T → (K'[j]?.getD []).length = size) : TabAt (putTab σ b K') b T size K' := by
  refine ⟨?_, hl, fun j hj => ⟨?_, hs j hj⟩⟩
  · have := rowOf_some h.out
    unfold rowOf
    rw [putTab_get, this]
    simp only [Option.map_some]
    rw [if_neg (by omega)]
  · have := rowOf_some (h.rows j hj).1
    unfold rowOf
    rw [putTab_get, this]
    simp only [Option.map_some]
    rw [if_pos (by omega), show b + 1 + j - (b + 1) = j by omega]

theorem putTab_set {σ : List AObj} {b T size : Nat} {K : List (List Int)} (h : TabAt σ b T size K) {t : Nat} (ht : t < T) (row : List Int) : σ.set (b + 1 + t) (AObj.cells (row.map AV.i)) = putTab σ b (K.set t row) := by
  apply List.ext_getElem?
  intro l
  rw [putTab_get]
  by_cases hlt : b + 1 + t = l
  · subst hlt
    have := rowOf_some (h.rows t ht).1
    have hlen := (List.getElem?_eq_some_iff.1 this).1
    rw [List.getElem?_set_self hlen, this]
    simp only [Option.map_some, Option.some.injEq, List.length_set]
    have hk := h.kl
    rw [if_pos (by omega), show b + 1 + t - (b + 1) = t by omega, List.getElem?_set_self (by omega)]
    rfl
  · rw [List.getElem?_set_ne hlt]
    have same := putTab_same h
    have e : (putTab σ b K)[l]? = σ[l]? := by rw [same]
    rw [putTab_get] at e
    cases hl : σ[l]? with
    | none => rfl
    | some o =>
      rw [hl] at e
      simp only [Option.map_some, Option.some.injEq, List.length_set] at e ⊢
      by_cases hr : b + 1 ≤ l ∧ l < b + 1 + K.length
      · rw [if_pos hr] at e ⊢
        rw [List.getElem?_set_ne (by omega)]
        exact e.symm
      · rw [if_neg hr]

end Go.Proofs.Ytphdemhopihpnaa.AM

namespace Go.Proofs.Ytphdemhopihpnaa.AM
open Go
set_option linter.unusedVariables false
set_option linter.unusedSimpArgs false

/-- a memo's shape, and that no entry is too great -/
structure MemoB (T size : Nat) (K : List (List Int)) : Prop where
  kl : K.length = T
  rl : ∀ j, j < T → (K[j]?.getD []).length = size
  le : ∀ (j a : Nat), j < T → (K[j]?.getD [])[a]?.getD 0 ≤ (6 ^ (T - j) : Nat)

theorem MemoB.set {T size : Nat} {K : List (List Int)} (h : MemoB T size K) {t : Nat} (ht : t < T) {a : Nat} {x : Int} (hx : x ≤ (6 ^ (T - t) : Nat)) : MemoB T size (K.set t ((K[t]?.getD []).set a x)) := by
  have hk := h.kl
  refine ⟨by simp [hk], fun j hj => ?_, fun j c hj => ?_⟩
  · by_cases hjt : t = j
    · subst hjt; rw [List.getElem?_set_self (by omega)]; simp [h.rl t ht]
    · rw [List.getElem?_set_ne hjt]; exact h.rl j hj
  · by_cases hjt : t = j
    · subst hjt
      rw [List.getElem?_set_self (by omega)]
      simp only [Option.getD_some]
      by_cases hac : a = c
      · subst hac
        by_cases hl : a < (K[t]?.getD []).length
        · rw [List.getElem?_set_self hl]; exact hx
        · rw [List.getElem?_eq_none (by simp; omega)]; simp only [Option.getD_none]; exact Int.natCast_nonneg _
      · rw [List.getElem?_set_ne hac]; exact h.le t c ht
    · rw [List.getElem?_set_ne hjt]; exact h.le j c hj

theorem waysL_bounds_of {ks : List Int} {size r : Nat} (hr : r + 1 ≤ ks.length) (ih : ∀ (ts : List Int) (K : List (List Int)), ts.length ≤ 6 → MemoB ks.length size K → 0 ≤ (waysM ks r ts K).1 ∧ (waysM ks r ts K).1 ≤ (6 ^ r : Nat) ∧ MemoB ks.length size (waysM ks r ts K).2)
    (ts : List Int) (K : List (List Int)) (ht : ts.length ≤ 6) (hK : MemoB ks.length size K) : ∀ i, i ≤ 6 → 0 ≤ (waysL ks r ts K i).1 ∧ (waysL ks r ts K i).1 ≤ ((i * 6 ^ r : Nat) : Int) ∧ MemoB ks.length size (waysL ks r ts K i).2 := by
  intro i
  induction i with
  | zero => intro _; simp [waysL_zero, hK]
  | succ i ihi =>
    intro hi
    obtain ⟨h1, h2, h3⟩ := ihi (by omega)
    rw [waysL_succ]
    have hs : ((i + 1) * 6 ^ r : Nat) = i * 6 ^ r + 6 ^ r := Nat.succ_mul i (6 ^ r)
    split
    · obtain ⟨g1, g2, g3⟩ := ih (ts.set i (ts[i]?.getD 0 - 1)) (waysL ks r ts K i).2 (by simpa using ht) h3
      refine ⟨by simp only; omega, ?_, g3⟩
      simp only
      rw [hs]
      generalize 6 ^ r = p at *
      generalize i * p = q at *
      omega
    · refine ⟨h1, ?_, h3⟩
      rw [hs]
      generalize 6 ^ r = p at *
      generalize i * p = q at *
      omega

theorem waysM_bounds {ks : List Int} {size : Nat} : ∀ (r : Nat) (ts : List Int) (K : List (List Int)), r ≤ ks.length → ts.length ≤ 6 → MemoB ks.length size K →
    0 ≤ (waysM ks r ts K).1 ∧ (waysM ks r ts K).1 ≤ (6 ^ r : Nat) ∧ MemoB ks.length size (waysM ks r ts K).2
  | 0, ts, K, hr, ht, hK => by simp [waysM, hK]
  | r + 1, ts, K, hr, ht, hK => by
    have ih := fun ts K ht hK => waysM_bounds (ks := ks) (size := size) r ts K (by omega) ht hK
    have hL : ∀ i, i ≤ 6 → 0 ≤ (waysL ks r ts K i).1 ∧ (waysL ks r ts K i).1 ≤ ((i * 6 ^ r : Nat) : Int) ∧ MemoB ks.length size (waysL ks r ts K i).2 := by
      intro i
      induction i with
      | zero => intro _; simp [waysL_zero, hK]
      | succ i ihi =>
        intro hi
        obtain ⟨h1, h2, h3⟩ := ihi (by omega)
        rw [waysL_succ]
        have hs : ((i + 1) * 6 ^ r : Nat) = i * 6 ^ r + 6 ^ r := Nat.succ_mul i (6 ^ r)
        split
        · obtain ⟨g1, g2, g3⟩ := ih (ts.set i (ts[i]?.getD 0 - 1)) (waysL ks r ts K i).2 (by simpa using ht) h3
          refine ⟨by simp only; omega, ?_, g3⟩
          simp only
          rw [hs]
          generalize 6 ^ r = p at *
          generalize i * p = q at *
          omega
        · refine ⟨h1, ?_, h3⟩
          rw [hs]
          generalize 6 ^ r = p at *
          generalize i * p = q at *
          omega
    have e : waysM ks (r + 1) ts K = if (K[ks.length - (r + 1)]?.getD [])[encN ts]?.getD 0 ≥ 0 then ((K[ks.length - (r + 1)]?.getD [])[encN ts]?.getD 0, K) else
        ((waysL ks r ts K ts.length).1, (waysL ks r ts K ts.length).2.set (ks.length - (r + 1)) (((waysL ks r ts K ts.length).2[ks.length - (r + 1)]?.getD []).set (encN ts) (waysL ks r ts K ts.length).1)) := by
      simp only [waysM, waysL]
    have htt : ks.length - (r + 1) < ks.length := by omega
    have hsub : ks.length - (ks.length - (r + 1)) = r + 1 := by omega
    rw [e]
    split
    · rename_i hx
      refine ⟨hx, ?_, hK⟩
      have := hK.le _ (encN ts) htt
      rwa [hsub] at this
    · obtain ⟨h1, h2, h3⟩ := hL ts.length ht
      have hle : (ts.length * 6 ^ r : Nat) ≤ 6 ^ (r + 1) := by rw [Nat.pow_succ, Nat.mul_comm]; exact Nat.mul_le_mul_left _ ht
      have h2' : (waysL ks r ts K ts.length).1 ≤ ((6 ^ (r + 1) : Nat) : Int) := by
        generalize ts.length * 6 ^ r = q at *
        generalize 6 ^ (r + 1) = p at *
        omega
      exact ⟨h1, h2', h3.set htt (by rw [hsub]; exact h2')⟩

end Go.Proofs.Ytphdemhopihpnaa.AM

namespace Go.Proofs.Ytphdemhopihpnaa.AM
open Go
set_option linter.unusedVariables false
set_option linter.unusedSimpArgs false

theorem objIn_ints (n : Nat) (zs : List Int) : objIn n (AObj.cells (zs.map AV.i)) = true := by
  simp only [objIn]
  induction zs with
  | nil => rfl
  | cons z zs ih => simp only [List.map_cons, locsInAll, locsIn, Bool.true_and]; exact ih

theorem putTab_obj {σ : List AObj} {b : Nat} {K : List (List Int)} {l : Nat} {o : AObj} (h : (putTab σ b K)[l]? = some o) : σ[l]? = some o ∨ (∃ row : List Int, o = AObj.cells (row.map AV.i)) := by
  rw [putTab_get, Option.map_eq_some_iff] at h
  obtain ⟨o0, h1, h2⟩ := h
  split at h2
  · exact .inr ⟨_, h2.symm⟩
  · exact .inl (by rw [h1, h2])

theorem TabAt.lt {σ : List AObj} {b T size : Nat} {K : List (List Int)} (h : TabAt σ b T size K) : b + T < σ.length := by
  by_cases hT : T = 0
  · have := (List.getElem?_eq_some_iff.1 (rowOf_some h.out)).1; omega
  · have := (List.getElem?_eq_some_iff.1 (rowOf_some (h.rows (T - 1) (by omega)).1)).1; omega

theorem TabAt.push {σ : List AObj} {b T size : Nat} {K : List (List Int)} (h : TabAt σ b T size K) (x : AObj) : TabAt (σ ++ [x]) b T size K :=
  ⟨rowOf_push h.out x, h.kl, fun j hj => ⟨rowOf_push (h.rows j hj).1 x, (h.rows j hj).2⟩⟩

theorem putTab_push {σ : List AObj} {b T size : Nat} {K K' : List (List Int)} (h : TabAt σ b T size K) (hl : K'.length = T) (x : AObj) : putTab (σ ++ [x]) b K' = putTab σ b K' ++ [x] := by
  have hlt := h.lt
  apply List.ext_getElem?
  intro l
  rw [putTab_get]
  rcases Nat.lt_or_ge l σ.length with h1 | h1
  · rw [List.getElem?_append_left h1, List.getElem?_append_left (by rw [putTab_length]; exact h1), putTab_get]
  · rw [List.getElem?_append_right h1, List.getElem?_append_right (by rw [putTab_length]; exact h1), putTab_length]
    cases hx : ([x] : List AObj)[l - σ.length]? with
    | none => rfl
    | some o =>
      simp only [Option.map_some, Option.some.injEq]
      rw [if_neg (by omega)]

theorem callOk_put {σ : List AObj} {b : Nat} {K : List (List Int)} (z : Int) : CallOk σ (.i z) (putTab σ b K) := by
  refine ⟨rfl, by rw [putTab_length]; exact Nat.le_refl _, fun l o ho hne => ?_⟩
  rcases putTab_obj ho with h | ⟨row, rfl⟩
  · exact absurd h hne
  · refine ⟨objIn_ints _ row, fun hl => ?_⟩
    have := (List.getElem?_eq_some_iff.1 ho).1
    rw [putTab_length] at this; omega

theorem c56 (ts0 ks : List Int) (hok : DrawOk ts0 ks) : ∀ (r : Nat) (ts : List Int) (K : List (List Int)) (σ : List AObj) (b : Nat), r ≤ ks.length → ts.length = ts0.length → (∀ j, j < ts.length → 0 ≤ ts[j]?.getD 0 ∧ ts[j]?.getD 0 ≤ 4) →
    MemoB ks.length (5 ^ ts0.length) K → TabAt σ b ks.length (5 ^ ts0.length) K →
    AC Try.prog 56 [drw ts0 ks, .sl b 0 ks.length 1, .i ((ks.length - r : Nat) : Int), ints ts] σ fun v τ => v = .i (waysM ks r ts K).1 ∧ τ = putTab σ b (waysM ks r ts K).2
  | 0, ts, K, σ, b, hr, hl, hd, hM, hT => by
    refine AC.cut (AC_FE (fok56 true) (Nat.le_of_ble_eq_true rfl) ?_) (putTab_length _ _ _) rfl fun l o ho => (putTab_obj ho).imp id fun ⟨row, h⟩ => by rw [h]; exact objIn_ints _ row
    simp only [ic56, rowOf_last, Nat.sub_zero, waysM, putTab_same hT, evA, if_true, if_false, beq_false, simprocAttr]
    exact ⟨_, rfl⟩
  | r + 1, ts, K, σ, b, hr, hl, hd, hM, hT => by
    refine AC.cut (AC_FE (fok56 true) (Nat.le_of_ble_eq_true rfl) ?_) (putTab_length _ _ _) rfl fun l o ho => (putTab_obj ho).imp id fun ⟨row, h⟩ => by rw [h]; exact objIn_ints _ row
    obtain ⟨t, ht⟩ : ∃ t, t = ks.length - (r + 1) := ⟨_, rfl⟩
    have htl : t < ks.length := by omega
    have hne : (((t : Nat) : Int) == (ks.length : Int)) = false := by simp; omega
    rw [← ht]
    simp only [ic56, rowOf_last, hne, evA, if_true, if_false, beq_false, simprocAttr]
    have hbox : rowOf (σ ++ [AObj.cells [ints ts0, ints ks]]) σ.length = some [ints ts0, ints ks] := rowOf_last _ _
    have hT1 := hT.push (AObj.cells [ints ts0, ints ks])
    have hlt := hT.lt
    have h6 := hok.tl
    have henc := encI_bounds hd
    have hpw : ∀ i, i ≤ 6 → (5 : Nat) ^ i ≤ 5 ^ 6 := fun i hi => Nat.pow_le_pow_right (by omega) hi
    have hw1 : ∀ i, i < ts.length → IntKind.i64.wrap (IntKind.i64.wrap (encI ts i * 5) + ts[i]?.getD 0) = encI ts (i + 1) := fun i hi => by
      have h1 := henc i (by omega)
      have h2 := hpw i (by omega)
      have h3 := hd i hi
      simp only [encI]
      generalize 5 ^ i = p at *
      rw [wrap_in (n := encI ts i * 5) (by omega), wrap_in (by omega)]
    have hfull := henc ts.length (Nat.le_refl _)
    have hN : encI ts ts.length = (encN ts : Int) := (Int.toNat_of_nonneg hfull.1).symm
    have hNlt : encN ts < 5 ^ ts0.length := by
      have := hfull.2
      rw [hN, hl] at this
      exact_mod_cast this
    -- behind the first loop
    generalize hs1 : σ ++ [AObj.cells [ints ts0, ints ks]] = σ1 at *
    have hrowt := hT1.rows t htl
    have hout : ((List.range ks.length).map fun j => AV.sl (b + 1 + j) 0 (5 ^ ts0.length) 1)[t]? = some (.sl (b + 1 + t) 0 (5 ^ ts0.length) 1) := by simp [htl]
    have hNl : encN ts < (K[t]?.getD []).length := by rw [hrowt.2]; exact hNlt
    have hW : waysM ks (r + 1) ts K = if (K[t]?.getD [])[encN ts]?.getD 0 ≥ 0 then ((K[t]?.getD [])[encN ts]?.getD 0, K) else
        ((waysL ks r ts K ts.length).1, (waysL ks r ts K ts.length).2.set t (((waysL ks r ts K ts.length).2[t]?.getD []).set (encN ts) (waysL ks r ts K ts.length).1)) := by
      rw [ht]; simp only [waysM, waysL]
    have henc0 : encI ts 0 = 0 := rfl
    refine IL_for ts.length (fun i s => ∃ v11, s = ⟨[drw ts0 ks, .sl b 0 ks.length 1, .i t, ints ts, .ptr σ.length 0, .i 0, .i (encI ts i), .i i, .undef, .undef, .b false, v11, .undef, .undef, .undef], σ1⟩) ?_ 0 (Nat.zero_le _) ⟨_, by rw [henc0]; rfl⟩
    rintro i s hi ⟨v11, rfl⟩
    by_cases h : i < ts.length
    · have hw := hw1 i h
      generalize encI ts i = a at hw ⊢
      simp only [ic56l1, Int.ofNat_lt, h, evA, if_true, if_false, beq_false, simprocAttr]
      exact kFor_go (by first | trivial | omega) ⟨_, by rw [hw, wrap_in (n := (i : Int) + 1) (by omega)]; rfl⟩
    have hie : i = ts.length := by omega
    subst hie
    rw [hN]
    generalize encN ts = N at *
    simp only [ic56l1, Int.ofNat_lt, h, htl, hT1.out, hout, hNlt, hNl, hrowt.1, evA, if_true, if_false, beq_false, simprocAttr]
    by_cases hx : (K[t]?.getD [])[N]?.getD 0 ≥ 0
    · rw [hW, if_pos hx]
      simp only [hx, htl, hT1.out, hout, hNlt, hNl, hrowt.1, evA, if_true, if_false, beq_false, simprocAttr]
      exact ⟨_, by rw [putTab_same hT]; exact hs1.symm⟩
    · rw [hW, if_neg hx]
      simp only [hx, htl, hT1.out, hout, hNlt, hNl, hrowt.1, evA, if_true, if_false, beq_false, simprocAttr]
      have hL := waysL_bounds_of (ks := ks) (size := 5 ^ ts0.length) hr (fun ts K h1 h2 => waysM_bounds r ts K (by omega) h1 h2) ts K (by omega) hM
      have hsm : (6 : Nat) ^ r ≤ 6 ^ 8 := Nat.pow_le_pow_right (by omega) (by have := hok.kl; omega)
      have h00 : (waysL ks r ts K 0).1 = 0 := rfl
      have h01 : putTab σ1 b (waysL ks r ts K 0).2 = σ1 := putTab_same hT1
      have hTL : ∀ i, i ≤ 6 → TabAt (putTab σ1 b (waysL ks r ts K i).2) b ks.length (5 ^ ts0.length) (waysL ks r ts K i).2 := fun i hi => hT1.put (hL i hi).2.2.kl (hL i hi).2.2.rl
      have hbx : ∀ i, i ≤ 6 → rowOf (putTab σ1 b (waysL ks r ts K i).2) σ.length = some [ints ts0, ints ks] := fun i hi => by
        have h1 := rowOf_some hbox
        have h2 := (hL i hi).2.2.kl
        unfold rowOf
        rw [putTab_get, h1]
        simp only [Option.map_some]
        rw [if_neg (by omega)]
      refine IL_for ts.length (fun i s => ∃ v13 v14, s = ⟨[drw ts0 ks, .sl b 0 ks.length 1, .i t, ints ts, .ptr σ.length 0, .i 0, .i N, .i ts.length, .i (waysL ks r ts K i).1, .i i, .b false, .b false, .b false, v13, v14], putTab σ1 b (waysL ks r ts K i).2⟩) ?_ 0 (Nat.zero_le _) ⟨_, _, by rw [h00, h01]; rfl⟩
      rintro i s hi ⟨v13, v14, rfl⟩
      by_cases h : i < ts.length
      · have hi6 : i ≤ 6 := by omega
        have hbxi := hbx i hi6
        have hTi := hTL i hi6
        have hLi := hL i hi6
        have hsucc := waysL_succ ks r ts K i
        rw [← ht] at hsucc
        have hc : canB ks ts t i = (decide (ts[i]?.getD 0 > 0) && !((ks[t]?.getD 0).toNat.testBit i)) := rfl
        rw [hc] at hsucc
        generalize hA : waysL ks r ts K i = A at *
        have hkr := hok.kr t htl
        obtain ⟨S, hS⟩ : ∃ S : Nat, ks[t]?.getD 0 = (S : Int) := ⟨(ks[t]?.getD 0).toNat, (Int.toNat_of_nonneg hkr.1).symm⟩
        have hS2 : S < 2 ^ 62 := by
          have h1 := hkr.2
          have h2 : (2 : Nat) ^ ts0.length ≤ 2 ^ 6 := Nat.pow_le_pow_right (by omega) (by omega)
          unfold capF at h1
          rw [hS] at h1
          generalize 2 ^ ts0.length = q at h1 h2
          omega
        rw [hS, Int.toNat_natCast] at hsucc
        have ht1 : IntKind.i64.wrap ((t : Int) + 1) = ((ks.length - r : Nat) : Int) := by rw [wrap_in (by have := hok.kl; omega)]; omega
        have hil : i < ts.length := h
        cases hgt : decide (ts[i]?.getD 0 > 0)
        · rw [hgt] at hsucc
          simp only [ic56l0, Int.ofNat_lt, h, hgt, evA, if_true, if_false, beq_false, simprocAttr]
          simp only [Bool.false_and, Bool.false_eq_true, if_false] at hsucc
          exact kFor_go (by first | trivial | omega) ⟨_, _, by rw [hsucc, wrap_in (n := (i : Int) + 1) (by omega)]; rfl⟩
        · rw [hgt] at hsucc
          simp only [ic56l0, Int.ofNat_lt, h, hgt, hbxi, htl, hS, evA, if_true, if_false, beq_false, simprocAttr]
          refine (c45 S i hS2 (by omega)).call frz ?_
          cases hbt : S.testBit i
          · rw [hbt] at hsucc
            simp only [Bool.not_false, Bool.and_true, if_true] at hsucc
            have hts : (ts.set i (ts[i]?.getD 0 - 1)).length = ts.length := by simp
            have hgt' : ts[i]?.getD 0 > 0 := by simpa using hgt
            have hdi := hd i h
            have ihc := c56 ts0 ks hok r (ts.set i (ts[i]?.getD 0 - 1)) A.2 (putTab σ1 b A.2) b (by omega) (by rw [hts]; exact hl) (fun j hj => by
              by_cases hij : i = j
              · subst hij; simp only [h, List.getElem?_set_self, Option.getD_some]; omega
              · rw [List.getElem?_set_ne hij]; exact hd j (by omega)) hLi.2.2 hTi
            have hMb := waysM_bounds (ks := ks) (size := 5 ^ ts0.length) r (ts.set i (ts[i]?.getD 0 - 1)) A.2 (by omega) (by rw [hts]; omega) hLi.2.2
            rw [putTab_put σ1 b (K := A.2) (by rw [hLi.2.2.kl, hMb.2.2.kl])] at ihc
            have hc61 := c61 ts i (by omega) h (by omega)
            have hco : CallOk (putTab σ1 b A.2) (.i (waysM ks r (ts.set i (ts[i]?.getD 0 - 1)) A.2).1) (putTab σ1 b (waysM ks r (ts.set i (ts[i]?.getD 0 - 1)) A.2).2) := by
              have := callOk_put (σ := putTab σ1 b A.2) (b := b) (K := (waysM ks r (ts.set i (ts[i]?.getD 0 - 1)) A.2).2) (waysM ks r (ts.set i (ts[i]?.getD 0 - 1)) A.2).1
              rwa [putTab_put σ1 b (K := A.2) (by rw [hLi.2.2.kl, hMb.2.2.kl])] at this
            generalize waysM ks r (ts.set i (ts[i]?.getD 0 - 1)) A.2 = M at *
            have hsum : IntKind.i64.wrap (A.1 + M.1) = A.1 + M.1 := by
              have h1 := hLi.2.1
              have h2 := hMb.2.1
              have h3 : i * 6 ^ r ≤ 6 * 6 ^ 8 := Nat.mul_le_mul (by omega) hsm
              generalize i * 6 ^ r = p1 at *
              generalize 6 ^ r = p2 at *
              rw [wrap_in (by omega)]
            simp only [h, evA, if_true, if_false, beq_false, simprocAttr]
            refine DW_s [7] [] hmix (by kernel_rfl) rfl ?_
            simp only [h, hbxi, ht1, evA, if_true, if_false, beq_false, simprocAttr]
            refine kK_keep (hc61.call frz ⟨rfl, rfl⟩) rfl ?_
            simp only [evA, if_true, if_false, beq_false, simprocAttr]
            refine kK_turn (v := .i M.1) (τ := putTab σ1 b M.2) ihc hco ?_
            simp only [hsum, evA, if_true, if_false, beq_false, simprocAttr]
            exact kFor_go (by first | trivial | omega) ⟨_, _, by rw [hsucc, wrap_in (n := (i : Int) + 1) (by omega)]; rfl⟩
          · rw [hbt] at hsucc
            simp only [Bool.not_true, Bool.and_false, Bool.false_eq_true, if_false] at hsucc
            simp only [h, evA, if_true, if_false, beq_false, simprocAttr]
            exact kFor_go (by first | trivial | omega) ⟨_, _, by rw [hsucc, wrap_in (n := (i : Int) + 1) (by omega)]; rfl⟩
      · have hie : i = ts.length := by omega
        subst hie
        have hTi := hTL ts.length (by omega)
        have hLi := hL ts.length (by omega)
        generalize hA : waysL ks r ts K ts.length = A at *
        have hrt := hTi.rows t htl
        have hNl2 : N + 1 ≤ (A.2[t]?.getD []).length := by rw [hrt.2]; exact hNlt
        have hfin : (putTab σ1 b A.2).set (b + 1 + t) (AObj.cells (((A.2[t]?.getD []).set N A.1).map AV.i)) = putTab σ1 b (A.2.set t ((A.2[t]?.getD []).set N A.1)) := by
          rw [putTab_set hTi htl, putTab_put]
          simp
        simp only [ic56l0, Int.ofNat_lt, h, htl, hTi.out, hout, hNlt, hNl2, hrt.1, hfin, evA, if_true, if_false, beq_false, simprocAttr]
        refine ⟨[AObj.cells [ints ts0, ints ks]], ?_⟩
        rw [← hs1]
        exact putTab_push hT (by rw [List.length_set]; exact hLi.2.2.kl) _

end Go.Proofs.Ytphdemhopihpnaa.AM

namespace Go.Proofs.Ytphdemhopihpnaa.AM
open Go
set_option linter.unusedVariables false
set_option linter.unusedSimpArgs false

/-- an empty memo -/
def K0 (T size : Nat) : List (List Int) := List.replicate T (List.replicate size (-1))

theorem fillR_full (size : Nat) : fillR size size = (List.replicate size (-1 : Int)).map AV.i := by simp [fillR]

theorem rens_ints (g : Nat → Nat) : ∀ zs : List Int, rens g (zs.map AV.i) = zs.map AV.i
  | [] => rfl
  | z :: zs => by simp only [List.map_cons, rens, ren, rens_ints g zs]

theorem rens_rep (g : Nat → Nat) (n : Nat) (z : Int) : rens g (List.replicate n (AV.i z)) = List.replicate n (AV.i z) := by
  have := rens_ints g (List.replicate n z)
  simpa using this

theorem rens_map {α : Type} (g : Nat → Nat) (f : α → AV) : ∀ l : List α, rens g (l.map f) = l.map fun a => ren g (f a)
  | [] => rfl
  | a :: l => by simp only [List.map_cons, rens, rens_map g f l]

theorem c57f (ts ks : List Int) (hok : DrawOk ts ks) (σ : List AObj) : ∃ τ, AC Try.prog 57 [drw ts ks] σ (fun v τ' => v = .sl (σ.length + 1) 0 ks.length 1 ∧ τ' = σ ++ τ) ∧ TabAt (σ ++ τ) (σ.length + 1) ks.length (5 ^ ts.length) (K0 ks.length (5 ^ ts.length)) ∧ CallOk σ (.sl (σ.length + 1) 0 ks.length 1) (σ ++ τ) := by
  refine ⟨AObj.cells [ints ts, ints ks] :: AObj.cells ((List.range ks.length).map fun j => AV.sl (σ.length + 1 + 1 + j) 0 (5 ^ ts.length) 1) :: List.replicate ks.length (AObj.cells ((List.replicate (5 ^ ts.length) (-1 : Int)).map AV.i)), ?_, ?_, ?_⟩
  · refine (AC.frame rfl (c57 ts ks hok.tl.2 hok.kl) σ).mono ?_
    rintro v τ ⟨r0, τ0, ⟨rfl, rfl⟩, rfl, rfl⟩
    refine ⟨by simp only [ren, sh]; congr 1; omega, ?_⟩
    congr 1
    simp only [List.map_cons, List.map_replicate, renO, rens, ren, fillR_full, rens_ints, outerF, rens_map]
    rw [rens_rep]
    congr 2
    congr 1
    apply List.map_congr_left
    intro j hj
    have : j < ks.length := by simpa using hj
    simp only [this, if_true, ren, sh]
    congr 1; omega
  · generalize 5 ^ ts.length = size
    refine ⟨?_, by simp [K0], fun j hj => ⟨?_, by simp [K0, hj]⟩⟩
    · simp [rowOf]
    · have e : σ.length + 1 + 1 + j = σ.length + (j + 2) := by omega
      simp [rowOf, e, K0, hj]
  · generalize 5 ^ ts.length = size
    refine ⟨by simp [locsIn], by simp, fun l o ho hne => ?_⟩
    rcases Nat.lt_or_ge l σ.length with h | h
    · rw [List.getElem?_append_left h] at ho; exact absurd ho hne
    · rw [List.getElem?_append_right h] at ho
      have hm := List.mem_of_getElem? ho
      simp only [List.mem_cons, List.mem_replicate] at hm
      rcases hm with rfl | rfl | ⟨_, rfl⟩
      · exact ⟨rfl, fun _ => trivial⟩
      · refine ⟨?_, fun _ => trivial⟩
        simp only [objIn]
        rw [locsInAll_iff]
        intro v hv
        simp only [List.mem_map, List.mem_range] at hv
        obtain ⟨j, hj, rfl⟩ := hv
        simp [locsIn]; omega
      · exact ⟨objIn_ints _ _, fun _ => trivial⟩

end Go.Proofs.Ytphdemhopihpnaa.AM

namespace Go.Proofs.Ytphdemhopihpnaa.AM
open Go
set_option linter.unusedVariables false
set_option linter.unusedSimpArgs false

theorem K0_memo (T size : Nat) : MemoB T size (K0 T size) := by
  refine ⟨by simp [K0], fun j hj => by simp [K0, hj], fun j a hj => ?_⟩
  have : (K0 T size)[j]?.getD [] = List.replicate size (-1) := by simp [K0, hj]
  rw [this]
  have h0 : (0 : Int) ≤ ((6 ^ (T - j) : Nat) : Int) := Int.natCast_nonneg _
  generalize ((6 ^ (T - j) : Nat) : Int) = p at h0 ⊢
  by_cases ha : a < size
  · have : (List.replicate size (-1 : Int))[a]?.getD 0 = -1 := by simp [ha]
    rw [this]; omega
  · rw [List.getElem?_eq_none (by simp; omega)]; exact h0

/-- how many assignments the document counts -/
def countM (ts ks : List Int) : Int := (waysM ks ks.length ts (K0 ks.length (5 ^ ts.length))).1

/-- the document's Count, of a valid draw -/
theorem c27_ok (ts ks : List Int) (ht : ts.length < 2 ^ 63) (hk : ks.length < 2 ^ 63) (hv : checkV ts ks = tup3 0 0 0) (hok : DrawOk ts ks) : PC Try.prog 27 [drw ts ks] (.tup [.i (countM ts ks), .i 0]) := by
  refine ⟨AC_FE (fok27 true) (Nat.le_of_ble_eq_true rfl) ?_, rfl⟩
  simp only [ic27, evA, if_true, if_false, beq_false, simprocAttr]
  refine (c25 ts ks ht hk).call frz ?_
  simp only [hv, evA, if_true, if_false, beq_false, simprocAttr]
  obtain ⟨τ, hac, htab, hco⟩ := c57f ts ks hok [AObj.cells [ints ts, ints ks]]
  have hw := c56 ts ks hok ks.length ts (K0 ks.length (5 ^ ts.length)) ([AObj.cells [ints ts, ints ks]] ++ τ) 2 (Nat.le_refl _) rfl hok.tr (K0_memo _ _) htab
  have hco2 := callOk_put (σ := [AObj.cells [ints ts, ints ks]] ++ τ) (b := 2) (K := (waysM ks ks.length ts (K0 ks.length (5 ^ ts.length))).2) (countM ts ks)
  rw [Nat.sub_self] at hw
  rw [show (waysM ks ks.length ts (K0 ks.length (5 ^ ts.length))).1 = countM ts ks from rfl] at hw
  simp only [List.cons_append, List.nil_append] at hac hco hw hco2
  generalize (waysM ks ks.length ts (K0 ks.length (5 ^ ts.length))).2 = K' at hw hco2
  generalize countM ts ks = N at hw hco2 ⊢
  refine DW_s [] [(0, 2), (4, 2)] hmix (by kernel_rfl) rfl ?_
  simp only [evA, if_true, if_false, beq_false, simprocAttr]
  refine kK_turn hac hco ?_
  simp only [evA, if_true, if_false, beq_false, simprocAttr]
  refine kK_turn hw hco2 ?_
  simp only [evA, if_true, if_false, beq_false, simprocAttr]
  exact frz

theorem c27_err (ts ks : List Int) (ht : ts.length < 2 ^ 63) (hk : ks.length < 2 ^ 63) {x y e : Int} (hv : checkV ts ks = tup3 x y e) (he : e ≠ 0) : PC Try.prog 27 [drw ts ks] (.tup [.i 0, .i e]) := by
  refine ⟨AC_FE (fok27 true) (Nat.le_of_ble_eq_true rfl) ?_, rfl⟩
  have hb : (e != 0) = true := by simpa using he
  simp only [ic27, evA, if_true, if_false, beq_false, simprocAttr]
  refine (c25 ts ks ht hk).call frz ?_
  simp only [hv, hb, evA, if_true, if_false, beq_false, simprocAttr]
  exact frz

end Go.Proofs.Ytphdemhopihpnaa.AM

namespace Go.Proofs.Ytphdemhopihpnaa.AM
open Go
set_option linter.unusedVariables false
set_option linter.unusedSimpArgs false

def Dig (n : Nat) (ts : List Int) : Prop := ts.length = n ∧ ∀ j, j < ts.length → 0 ≤ ts[j]?.getD 0 ∧ ts[j]?.getD 0 ≤ 4

theorem encI_inj {ts us : List Int} {n : Nat} (h : Dig n ts) (g : Dig n us) : ∀ i, i ≤ n → encI ts i = encI us i → ∀ j, j < i → ts[j]?.getD 0 = us[j]?.getD 0
  | 0, _, _, j, hj => by omega
  | i + 1, hi, he, j, hj => by
    simp only [encI] at he
    have h1 := h.2 i (by rw [h.1]; omega)
    have h2 := g.2 i (by rw [g.1]; omega)
    have e1 : encI ts i = encI us i := by omega
    by_cases hji : j = i
    · subst hji; omega
    · exact encI_inj h g i (by omega) e1 j (by omega)

theorem encN_inj {ts us : List Int} {n : Nat} (h : Dig n ts) (g : Dig n us) (he : encN ts = encN us) : ts = us := by
  have b1 := (encI_bounds h.2 ts.length (Nat.le_refl _)).1
  have b2 := (encI_bounds g.2 us.length (Nat.le_refl _)).1
  have e : encI ts n = encI us n := by
    have e1 : (encN ts : Int) = encI ts ts.length := Int.toNat_of_nonneg b1
    have e2 : (encN us : Int) = encI us us.length := Int.toNat_of_nonneg b2
    rw [h.1] at e1; rw [g.1] at e2
    rw [← e1, ← e2, he]
  apply List.ext_getElem (by rw [h.1, g.1])
  intro j h1 h2
  have := encI_inj h g n (Nat.le_refl _) e j (by rw [← h.1]; exact h1)
  simpa [h1, h2] using this

/-- how many ways there are, with r tests left -/
def waysF (ks : List Int) : Nat → List Int → Int
  | 0, _ => 1
  | r + 1, ts => ((List.range ts.length).map fun i => if canB ks ts (ks.length - (r + 1)) i then waysF ks r (ts.set i (ts[i]?.getD 0 - 1)) else 0).sum

/-- a memo that is right -/
def Right (ks : List Int) (n : Nat) (K : List (List Int)) : Prop := ∀ r ts, r + 1 ≤ ks.length → Dig n ts → (K[ks.length - (r + 1)]?.getD [])[encN ts]?.getD 0 ≥ 0 → (K[ks.length - (r + 1)]?.getD [])[encN ts]?.getD 0 = waysF ks (r + 1) ts

theorem dig_less {ks ts : List Int} {n t i : Nat} (h : Dig n ts) (hi : i < ts.length) (hc : canB ks ts t i = true) : Dig n (ts.set i (ts[i]?.getD 0 - 1)) := by
  refine ⟨by simpa using h.1, fun j hj => ?_⟩
  simp only [List.length_set] at hj
  by_cases hij : i = j
  · subst hij
    simp only [canB, Bool.and_eq_true, decide_eq_true_eq] at hc
    have := h.2 i hi
    simp only [hi, List.getElem?_set_self, Option.getD_some]; omega
  · rw [List.getElem?_set_ne hij]; exact h.2 j hj

theorem waysM_right {ks : List Int} {n : Nat} (hn : n ≤ 6) : ∀ (r : Nat) (ts : List Int) (K : List (List Int)), r ≤ ks.length → Dig n ts → MemoB ks.length (5 ^ n) K → Right ks n K →
    (waysM ks r ts K).1 = waysF ks r ts ∧ Right ks n (waysM ks r ts K).2
  | 0, ts, K, hr, hd, hM, hR => by simp [waysM, waysF, hR]
  | r + 1, ts, K, hr, hd, hM, hR => by
    have hb := fun ts K (h : ts.length ≤ 6) hK => waysM_bounds (ks := ks) (size := 5 ^ n) r ts K (by omega) h hK
    have hlen : ts.length ≤ 6 := by rw [hd.1]; exact hn
    have hL := waysL_bounds_of (ks := ks) (size := 5 ^ n) hr hb ts K hlen hM
    have key : ∀ i, i ≤ ts.length → (waysL ks r ts K i).1 = ((List.range i).map fun i => if canB ks ts (ks.length - (r + 1)) i then waysF ks r (ts.set i (ts[i]?.getD 0 - 1)) else 0).sum ∧ Right ks n (waysL ks r ts K i).2 := by
      intro i
      induction i with
      | zero => intro _; exact ⟨rfl, hR⟩
      | succ i ihi =>
        intro hi
        obtain ⟨h1, h2⟩ := ihi (by omega)
        rw [waysL_succ, List.range_succ, List.map_append, List.sum_append]
        by_cases hc : canB ks ts (ks.length - (r + 1)) i = true
        · rw [if_pos hc]
          obtain ⟨g1, g2⟩ := waysM_right hn r (ts.set i (ts[i]?.getD 0 - 1)) (waysL ks r ts K i).2 (by omega) (dig_less hd (by omega) hc) (hL i (by omega)).2.2 h2
          refine ⟨?_, g2⟩
          simp [hc, h1, g1]
        · rw [if_neg hc]
          exact ⟨by simp [hc, h1], h2⟩
    obtain ⟨k1, k2⟩ := key ts.length (Nat.le_refl _)
    have e : waysM ks (r + 1) ts K = if (K[ks.length - (r + 1)]?.getD [])[encN ts]?.getD 0 ≥ 0 then ((K[ks.length - (r + 1)]?.getD [])[encN ts]?.getD 0, K) else
        ((waysL ks r ts K ts.length).1, (waysL ks r ts K ts.length).2.set (ks.length - (r + 1)) (((waysL ks r ts K ts.length).2[ks.length - (r + 1)]?.getD []).set (encN ts) (waysL ks r ts K ts.length).1)) := by
      simp only [waysM, waysL]
    rw [e]
    by_cases hx : (K[ks.length - (r + 1)]?.getD [])[encN ts]?.getD 0 ≥ 0
    · rw [if_pos hx]; exact ⟨hR r ts hr hd hx, hR⟩
    · rw [if_neg hx]
      have hval : (waysL ks r ts K ts.length).1 = waysF ks (r + 1) ts := k1
      refine ⟨hval, fun r' us hr' hu hge => ?_⟩
      have hMl := (hL ts.length hlen).2.2
      by_cases ht : ks.length - (r + 1) = ks.length - (r' + 1)
      · have hrr : r = r' := by omega
        subst hrr
        rw [List.getElem?_set_self (by rw [hMl.kl]; omega)] at hge ⊢
        simp only [Option.getD_some] at hge ⊢
        by_cases hN : encN ts = encN us
        · have := encN_inj hd hu hN
          subst this
          have hNlt : encN ts < ((waysL ks r ts K ts.length).2[ks.length - (r + 1)]?.getD []).length := by
            rw [hMl.rl _ (by omega)]
            have := encI_bounds hd.2 ts.length (Nat.le_refl _)
            have e1 : (encN ts : Int) = encI ts ts.length := Int.toNat_of_nonneg this.1
            have h2 := this.2
            rw [← e1, hd.1] at h2
            exact_mod_cast h2
          rw [List.getElem?_set_self hNlt]
          exact hval
        · rw [List.getElem?_set_ne hN] at hge ⊢
          exact k2 r us hr' hu hge
      · rw [List.getElem?_set_ne ht] at hge ⊢
        exact k2 r' us hr' hu hge

theorem K0_right (ks : List Int) (n : Nat) : Right ks n (K0 ks.length (5 ^ n)) := by
  intro r ts hr hd hge
  have hNlt : encN ts < 5 ^ n := by
    have := encI_bounds hd.2 ts.length (Nat.le_refl _)
    have e1 : (encN ts : Int) = encI ts ts.length := Int.toNat_of_nonneg this.1
    have h2 := this.2
    rw [← e1, hd.1] at h2
    exact_mod_cast h2
  have hlt : ks.length - (r + 1) < ks.length := by omega
  generalize 5 ^ n = size at *
  have h1 : (K0 ks.length size)[ks.length - (r + 1)]?.getD [] = List.replicate size (-1) := by
    unfold K0; rw [List.getElem?_replicate, if_pos hlt]; rfl
  rw [h1, List.getElem?_replicate, if_pos hNlt] at hge
  simp at hge

/-- the document counts the ways -/
theorem countM_eq {ts ks : List Int} (hok : DrawOk ts ks) : countM ts ks = waysF ks ks.length ts :=
  (waysM_right hok.tl.2 ks.length ts _ (Nat.le_refl _) ⟨rfl, hok.tr⟩ (K0_memo _ _) (K0_right ks ts.length)).1

end Go.Proofs.Ytphdemhopihpnaa.AM

namespace Go.Proofs.Ytphdemhopihpnaa.AM
open Go
set_option linter.unusedVariables false
set_option linter.unusedSimpArgs false

/-- what the examiners have left, in six cells -/
def pad6 (ts : List Int) : List Int := ts ++ List.replicate (6 - ts.length) 0
theorem pad6_len {ts : List Int} (h : ts.length ≤ 6) : (pad6 ts).length = 6 := by simp [pad6]; omega
theorem pad6_get {ts : List Int} {i : Nat} (h : i < ts.length) : (pad6 ts)[i]? = some (ts[i]?.getD 0) := by
  simp [pad6, List.getElem?_append_left h, h]
theorem pad6_set {ts : List Int} {i : Nat} (h : i < ts.length) (x : Int) : (pad6 ts).set i x = pad6 (ts.set i x) := by
  simp [pad6, List.set_append_left _ _ h]

abbrev keyCs (t : Nat) (ts : List Int) : List AV := .i t :: (pad6 ts).map AV.i
abbrev keyV (t : Nat) (ts : List Int) : AV := .agg (keyCs t ts)
abbrev kk7 : Bool × List KK := (true, [.int .i64, .int .i64, .int .i64, .int .i64, .int .i64, .int .i64, .int .i64])

abbrev Memo := List ((Nat × List Int) × Int)
def rendK (K : Memo) : List (AV × AV) := K.map fun e => (keyV e.1.1 e.1.2, .i e.2)

def findQ (t : Nat) (ts : List Int) : Memo → Nat → Option (Nat × Int)
  | [], _ => none
  | (k, v) :: K, i => if k = (t, ts) then some (i, v) else findQ t ts K (i + 1)

/-- a key that may stand in the map -/
def KeyOk (n : Nat) (k : Nat × List Int) : Prop := k.1 ≤ 100 ∧ Dig n k.2
def KeysOk (n : Nat) (K : Memo) : Prop := ∀ e ∈ K, KeyOk n e.1

theorem kkOk_i {z : Int} (h : 0 ≤ z ∧ z ≤ 100) : kkOk (.int .i64) (.i z) = true := by
  simp only [kkOk, decide_true, Bool.true_and, Lit.wf, Bool.and_eq_true, decide_eq_true_eq, IntKind.min, IntKind.max, IntKind.bits, IntKind.signed, if_true]
  simp; omega

theorem kks_all : ∀ (zs : List Int), (∀ z ∈ zs, 0 ≤ z ∧ z ≤ 100) → kksOk (List.replicate zs.length (.int .i64)) (zs.map AV.i) = true
  | [], _ => rfl
  | z :: zs, h => by
    simp only [List.length_cons, List.replicate_succ, List.map_cons, kksOk, Bool.and_eq_true]
    exact ⟨kkOk_i (h z (by simp)), kks_all zs fun z hz => h z (by simp [hz])⟩

theorem pad6_mem {ts : List Int} {n : Nat} (h : Dig n ts) : ∀ z ∈ pad6 ts, 0 ≤ z ∧ z ≤ 100 := by
  intro z hz
  simp only [pad6, List.mem_append, List.mem_replicate] at hz
  rcases hz with hz | ⟨_, rfl⟩
  · obtain ⟨j, hj, rfl⟩ := List.mem_iff_getElem.1 hz
    have := h.2 j hj
    simp [hj] at this; omega
  · omega

theorem keyOk_kks {n t : Nat} {ts : List Int} (hn : n ≤ 6) (h : KeyOk n (t, ts)) : kksOk kk7.2 (keyCs t ts) = true := by
  have := kks_all ((t : Int) :: pad6 ts) (by
    intro z hz
    rcases List.mem_cons.1 hz with rfl | hz
    · have := h.1; dsimp only at this; omega
    · exact pad6_mem h.2 z hz)
  rw [List.length_cons, pad6_len (by rw [h.2.1]; exact hn)] at this
  exact this

theorem keyIs_ok {n t : Nat} {ts : List Int} (hn : n ≤ 6) (h : KeyOk n (t, ts)) : keyIs kk7 (keyV t ts) = true := keyOk_kks hn h

theorem cellsEq_ints : ∀ (xs ys : List Int), cellsEq (xs.map AV.i) (ys.map AV.i) = decide (xs = ys)
  | [], [] => by simp [cellsEq]
  | [], _ :: _ => by simp [cellsEq]
  | _ :: _, [] => by simp [cellsEq]
  | x :: xs, y :: ys => by
    simp only [List.map_cons, cellsEq, cellEq, cellsEq_ints xs ys, List.cons.injEq]
    by_cases h : x = y <;> simp [h]

theorem pad6_inj {n : Nat} {xs ys : List Int} (hx : Dig n xs) (hy : Dig n ys) (h : pad6 xs = pad6 ys) : xs = ys := by
  unfold pad6 at h
  exact (List.append_inj h (by rw [hx.1, hy.1])).1

theorem keyEq_ok {n t t' : Nat} {ts ts' : List Int} (hn : n ≤ 6) (h : KeyOk n (t, ts)) (h' : KeyOk n (t', ts')) : keyEqK kk7 (keyV t ts) (keyV t' ts') = some (decide ((t', ts') = (t, ts))) := by
  simp only [keyEqK, keyCells, keyOk_kks hn h, keyOk_kks hn h', Bool.and_self, if_true, Option.some.injEq]
  have := cellsEq_ints ((t : Int) :: pad6 ts) ((t' : Int) :: pad6 ts')
  simp only [List.map_cons] at this
  rw [this]
  by_cases he : (t', ts') = (t, ts)
  · cases he; simp
  · rw [decide_eq_false he]
    simp only [decide_eq_false_iff_not]
    intro hc
    simp only [List.cons.injEq, Int.natCast_inj] at hc
    have h2 : ts = ts' := pad6_inj h.2 h'.2 hc.2
    exact he (by rw [hc.1, h2])

theorem findKey_rend {n t : Nat} {ts : List Int} (hn : n ≤ 6) (h : KeyOk n (t, ts)) : ∀ (K : Memo) (i : Nat), KeysOk n K → findKey kk7 (keyV t ts) (rendK K) i = some ((findQ t ts K i).map fun p => (p.1, .i p.2))
  | [], _, _ => rfl
  | (k, v) :: K, i, hK => by
    have hk := hK (k, v) (by simp)
    obtain ⟨t', ts'⟩ := k
    have ih := findKey_rend hn h K (i + 1) fun e he => hK e (by simp [he])
    simp only [rendK, List.map_cons, findKey, findQ]
    rw [keyEq_ok hn h hk]
    by_cases he : (t', ts') = (t, ts)
    · simp [he]
    · simp only [he, decide_false, if_false]
      exact ih

def putQ (K : Memo) (t : Nat) (ts : List Int) (v : Int) : Memo :=
  match findQ t ts K 0 with
  | some (i, _) => K.set i ((t, ts), v)
  | none => K ++ [((t, ts), v)]

theorem mapPut_rend (K : Memo) (t : Nat) (ts : List Int) (v : Int) : mapPut (rendK K) (keyV t ts) (.i v) ((findQ t ts K 0).map fun p => (p.1, .i p.2)) = rendK (putQ K t ts v) := by
  unfold putQ
  cases findQ t ts K 0 with
  | none => simp [mapPut, rendK]
  | some p => simp [mapPut, rendK]

theorem putQ_mem {K : Memo} {t : Nat} {ts : List Int} {v : Int} {e : (Nat × List Int) × Int} (h : e ∈ putQ K t ts v) : e ∈ K ∨ e = ((t, ts), v) := by
  unfold putQ at h
  split at h
  · exact List.mem_or_eq_of_mem_set h
  · simpa using h

theorem findQ_mem {t : Nat} {ts : List Int} : ∀ {K : Memo} {i j : Nat} {v : Int}, findQ t ts K i = some (j, v) → ((t, ts), v) ∈ K
  | (k, v) :: K, i, j, x, h => by
    simp only [findQ] at h
    split at h
    · rename_i hk; cases h; simp [hk]
    · have := findQ_mem h; simp [this]

/-- the recursion with its map: r tests are left -/
def waysQ (ks : List Int) : (r : Nat) → (ts : List Int) → (K : Memo) → Int × Memo
  | 0, _, K => (1, K)
  | r + 1, ts, K =>
    match findQ (ks.length - (r + 1)) ts K 0 with
    | some (_, x) => (x, K)
    | none =>
      let p := (List.range ts.length).foldl (fun p i => if canB ks ts (ks.length - (r + 1)) i then let q := waysQ ks r (ts.set i (ts[i]?.getD 0 - 1)) p.2; (p.1 + q.1, q.2) else p) (0, K)
      (p.1, putQ p.2 (ks.length - (r + 1)) ts p.1)

def waysQL (ks : List Int) (r : Nat) (ts : List Int) (K : Memo) (i : Nat) : Int × Memo :=
  (List.range i).foldl (fun p i => if canB ks ts (ks.length - (r + 1)) i then let q := waysQ ks r (ts.set i (ts[i]?.getD 0 - 1)) p.2; (p.1 + q.1, q.2) else p) (0, K)

theorem waysQL_succ (ks : List Int) (r : Nat) (ts : List Int) (K : Memo) (i : Nat) : waysQL ks r ts K (i + 1) =
    if canB ks ts (ks.length - (r + 1)) i then ((waysQL ks r ts K i).1 + (waysQ ks r (ts.set i (ts[i]?.getD 0 - 1)) (waysQL ks r ts K i).2).1, (waysQ ks r (ts.set i (ts[i]?.getD 0 - 1)) (waysQL ks r ts K i).2).2) else waysQL ks r ts K i := by
  unfold waysQL
  rw [List.range_succ, List.foldl_append]
  rfl

/-- a map that is right: its entries are ways -/
def RightQ (ks : List Int) (n : Nat) (K : Memo) : Prop := ∀ e ∈ K, e.1.1 < ks.length ∧ Dig n e.1.2 ∧ e.2 = waysF ks (ks.length - e.1.1) e.1.2

theorem RightQ.keys {ks : List Int} {n : Nat} {K : Memo} (hk : ks.length ≤ 100) (h : RightQ ks n K) : KeysOk n K := fun e he => ⟨by have := (h e he).1; omega, (h e he).2.1⟩

theorem waysQ_right {ks : List Int} {n : Nat} : ∀ (r : Nat) (ts : List Int) (K : Memo), r ≤ ks.length → Dig n ts → RightQ ks n K → (waysQ ks r ts K).1 = waysF ks r ts ∧ RightQ ks n (waysQ ks r ts K).2
  | 0, ts, K, hr, hd, hR => ⟨rfl, hR⟩
  | r + 1, ts, K, hr, hd, hR => by
    have key : ∀ i, i ≤ ts.length → (waysQL ks r ts K i).1 = ((List.range i).map fun i => if canB ks ts (ks.length - (r + 1)) i then waysF ks r (ts.set i (ts[i]?.getD 0 - 1)) else 0).sum ∧ RightQ ks n (waysQL ks r ts K i).2 := by
      intro i
      induction i with
      | zero => intro _; exact ⟨rfl, hR⟩
      | succ i ihi =>
        intro hi
        obtain ⟨h1, h2⟩ := ihi (by omega)
        rw [waysQL_succ, List.range_succ, List.map_append, List.sum_append]
        by_cases hc : canB ks ts (ks.length - (r + 1)) i = true
        · rw [if_pos hc]
          obtain ⟨g1, g2⟩ := waysQ_right r (ts.set i (ts[i]?.getD 0 - 1)) (waysQL ks r ts K i).2 (by omega) (dig_less hd (by omega) hc) h2
          exact ⟨by simp [hc, h1, g1], g2⟩
        · rw [if_neg hc]
          exact ⟨by simp [hc, h1], h2⟩
    obtain ⟨k1, k2⟩ := key ts.length (Nat.le_refl _)
    simp only [waysQ]
    split
    · rename_i j x hf
      have := hR _ (findQ_mem hf)
      dsimp only at this
      refine ⟨?_, hR⟩
      rw [this.2.2, show ks.length - (ks.length - (r + 1)) = r + 1 by omega]
    · refine ⟨k1, fun e he => ?_⟩
      rcases putQ_mem he with h | rfl
      · exact k2 e h
      · dsimp only
        refine ⟨by omega, hd, ?_⟩
        rw [show ks.length - (ks.length - (r + 1)) = r + 1 by omega]
        exact k1

theorem sum_le {l : List Nat} {f : Nat → Int} {M : Int} (h : ∀ i ∈ l, 0 ≤ f i ∧ f i ≤ M) : 0 ≤ (l.map f).sum ∧ (l.map f).sum ≤ l.length * M := by
  induction l with
  | nil => simp
  | cons a l ih =>
    have h1 := h a (by simp)
    have h2 := ih fun i hi => h i (by simp [hi])
    simp only [List.map_cons, List.sum_cons, List.length_cons]
    have : ((l.length + 1 : Nat) : Int) * M = l.length * M + M := by rw [Int.natCast_add]; simp [Int.add_mul]
    omega

theorem waysF_bounds (ks : List Int) : ∀ (r : Nat) (ts : List Int), ts.length ≤ 6 → 0 ≤ waysF ks r ts ∧ waysF ks r ts ≤ (6 ^ r : Nat)
  | 0, ts, _ => by simp [waysF]
  | r + 1, ts, h => by
    have h0 : (0 : Int) ≤ ((6 ^ r : Nat) : Int) := Int.natCast_nonneg _
    have := sum_le (l := List.range ts.length) (f := fun i => if canB ks ts (ks.length - (r + 1)) i then waysF ks r (ts.set i (ts[i]?.getD 0 - 1)) else 0) (M := (6 ^ r : Nat)) (fun i hi => by
      split
      · exact waysF_bounds ks r _ (by simpa using h)
      · omega)
    rw [List.length_range] at this
    simp only [waysF]
    refine ⟨this.1, Int.le_trans this.2 ?_⟩
    have h2 : ((6 ^ (r + 1) : Nat) : Int) = 6 * ((6 ^ r : Nat) : Int) := by rw [Nat.pow_succ]; omega
    rw [h2]
    exact Int.mul_le_mul_of_nonneg_right (by omega) h0

end Go.Proofs.Ytphdemhopihpnaa.AM

namespace Go.Proofs.Ytphdemhopihpnaa.AM
open Go
set_option linter.unusedVariables false
set_option linter.unusedSimpArgs false

theorem arr_addr {N : Nat} {l o k : Nat} (h : k < N) (σ : List AObj) : f_iaA N 1 [.ptr l o, .cv (.int .i64 k)] σ = some (.ptr l (o + k), σ) := by
  simp [f_iaA, h]
theorem cons_get1 {α : Type} (x : α) (cs : List α) (k : Nat) : (x :: cs)[1 + k]? = cs[k]? := by rw [Nat.add_comm]; rfl
theorem cons_set1 {α : Type} (x : α) (cs : List α) (k : Nat) (v : α) : (x :: cs).set (1 + k) v = x :: cs.set k v := by rw [Nat.add_comm]; rfl
theorem isSc_ints (zs : List Int) : (zs.map AV.i).all AV.isSc = true := by simp [AV.isSc]
theorem setRange_len (vs : List AV) : ∀ (cs : List AV) (n : Nat), (setRange cs n vs).length = cs.length := by
  induction vs with
  | nil => intro cs n; rfl
  | cons v vs ih => intro cs n; simp [setRange, ih]
theorem setRange_all : ∀ (vs pre cs : List AV), cs.length = vs.length → setRange (pre ++ cs) pre.length vs = pre ++ vs
  | [], pre, cs, h => by
    have : cs = [] := List.eq_nil_of_length_eq_zero (by simpa using h)
    subst this; rfl
  | v :: vs, pre, [], h => by simp at h
  | v :: vs, pre, c :: cs, h => by
    have e : (pre ++ c :: cs).set pre.length v = (pre ++ [v]) ++ cs := by simp
    rw [setRange, e]
    have := setRange_all vs (pre ++ [v]) cs (by simpa using h)
    rw [List.length_append] at this
    rw [show pre.length + 1 = pre.length + [v].length from rfl, this]
    simp
theorem setRange_1 {x : AV} {cs vs : List AV} (h : cs.length = vs.length) : setRange (x :: cs) 1 vs = x :: vs := setRange_all vs [x] cs h
theorem setRange_0 {cs vs : List AV} (h : cs.length = vs.length) : setRange cs 0 vs = vs := setRange_all vs [] cs h

/-- append of a list of numbers to a slice whose row is known -/
def apI (zs : List Int) (n l : Nat) (σ : List AObj) (r : Option (List AV)) : Option (AV × List AObj) :=
  match r with
  | some cs => if n ≤ cs.length ∧ (n + zs.length) * 8 ≤ 2 ^ 44 then some (.sl σ.length 0 (n + zs.length) 1, σ.set l .dead ++ [.cells (cs.take n ++ zs.map AV.i)]) else none
  | none => none
theorem append_I {σ : List AObj} {l n : Nat} {zs : List Int} : f_append 1 8 [.sl l 0 n 1, ints zs] σ = apI zs n l σ (rowOf σ l) := by
  have hsrc : srcCells σ 1 (ints zs) = some (zs.map AV.i) := by simp [srcCells, List.map_map, Function.comp_def]
  simp only [f_append, hsrc, lenF, apI]
  cases rowOf σ l with
  | none => rfl
  | some cs =>
    have hall : (zs.map AV.i).all AV.isSc = true := isSc_ints zs
    simp only [Option.bind_some, hall, List.length_map, Nat.mul_one]
    by_cases h : n ≤ cs.length ∧ (n + zs.length) * 8 ≤ 2 ^ 44
    · rw [if_pos h, if_pos ⟨trivial, h.1, trivial, h.2, by omega, trivial⟩]
    · rw [if_neg h, if_neg (fun g => h ⟨g.2.1, g.2.2.2.1⟩)]
theorem apI_nil {zs : List Int} (h : zs.length < 2 ^ 40) (l : Nat) (σ : List AObj) : apI zs 0 l σ (some []) = some (.sl σ.length 0 zs.length 1, σ.set l .dead ++ [.cells (zs.map AV.i)]) := by
  have hp : (2 : Nat) ^ 40 = 1099511627776 := by decide
  have hp2 : (2 : Nat) ^ 44 = 17592186044416 := by decide
  simp only [apI]
  rw [if_pos ⟨Nat.zero_le _, by omega⟩]
  simp
/-- append of one number -/
def apO (n l : Nat) (σ : List AObj) (r : Option (List AV)) (v : Option (List AV)) : Option (AV × List AObj) :=
  match r, v with
  | some cs, some (x :: _) => if n ≤ cs.length ∧ (n + 1) * 8 ≤ 2 ^ 44 ∧ x.isSc = true then some (.sl σ.length 0 (n + 1) 1, σ.set l .dead ++ [.cells (cs.take n ++ [x])]) else none
  | _, _ => none
theorem append_O {σ : List AObj} {l n l2 : Nat} : f_append 1 8 [.sl l 0 n 1, .sl l2 0 1 1] σ = apO n l σ (rowOf σ l) (rowOf σ l2) := by
  simp only [f_append, srcCells, lenF, apO]
  cases rowOf σ l with
  | none => rfl
  | some cs =>
    cases rowOf σ l2 with
    | none => rfl
    | some vs =>
      cases vs with
      | nil => rfl
      | cons x vs =>
        simp only [Option.bind_some, List.length_cons, List.length_nil, Nat.mul_one, List.all_cons, List.all_nil, Bool.and_true, List.drop_zero, List.take_succ_cons, List.take_zero, if_true, Nat.zero_add]
        rw [if_pos (by omega)]
        simp only [Option.bind_some, List.length_cons, List.length_nil, List.all_cons, List.all_nil, Bool.and_true, Nat.zero_add]
        by_cases h : n ≤ cs.length ∧ (n + 1) * 8 ≤ 2 ^ 44 ∧ x.isSc = true
        · rw [if_pos h, if_pos ⟨trivial, h.1, trivial, h.2.1, by omega, h.2.2⟩]
        · rw [if_neg h, if_neg (fun g => h ⟨g.2.1, g.2.2.2.1, g.2.2.2.2.2⟩)]
theorem apO_ints {zs : List Int} (h : zs.length < 2 ^ 40) (l : Nat) (σ : List AObj) (z : Int) (r : List AV) : apO zs.length l σ (some (zs.map AV.i)) (some (.cv (.int .i64 z) :: r)) = some (.sl σ.length 0 (zs.length + 1) 1, σ.set l .dead ++ [.cells ((zs ++ [z]).map AV.i)]) := by
  have hp : (2 : Nat) ^ 40 = 1099511627776 := by decide
  have hp2 : (2 : Nat) ^ 44 = 17592186044416 := by decide
  simp only [apO]
  rw [if_pos ⟨by simp, by omega, rfl⟩, List.take_of_length_le (by simp)]
  simp

theorem bit_and (x i : Nat) (hx : x < 2 ^ 62) (hi : i < 60) : (IntKind.i64.wrap ((BitVec.ofInt IntKind.i64.bits (((x : Nat) : Int).fdiv (2 ^ min i IntKind.i64.bits)) &&& BitVec.ofInt IntKind.i64.bits 1).toNat) == 0) = (!x.testBit i) := by
  have hb : IntKind.i64.bits = 64 := rfl
  have h1 : min i 64 = i := by omega
  rw [hb, h1]
  have h2 : ((x : Nat) : Int).fdiv (2 ^ i) = ((x / 2 ^ i : Nat) : Int) := by
    rw [Int.fdiv_eq_ediv_of_nonneg _ (by exact_mod_cast Nat.zero_le _)]
    norm_cast
  rw [h2]
  have h3 : x / 2 ^ i < 2 ^ 62 := Nat.lt_of_le_of_lt (Nat.div_le_self _ _) hx
  rw [Nat.testBit_eq_decide_div_mod_eq]
  generalize x / 2 ^ i = y at h3 ⊢
  have h4 : (BitVec.ofInt 64 (y : Int) &&& BitVec.ofInt 64 1).toNat = y % 2 := by
    rw [BitVec.toNat_and]
    have e1 : (BitVec.ofInt 64 (y : Int)).toNat = y := by
      rw [BitVec.toNat_ofInt]; omega
    have e2 : (BitVec.ofInt 64 1).toNat = 1 := by decide
    rw [e1, e2, Nat.and_one_is_mod]
  rw [h4, wrap_in (by omega)]
  by_cases h : y % 2 = 1
  · simp [h]
  · have : y % 2 = 0 := by omega
    simp [this]

/-- next hands back its loop -/
theorem c60 (d : Nat) (t : Nat) (us : List Int) (σ : List AObj) (hu : us.length ≤ 6) : AC Try.prog 60 [.ptr d 0, keyV t us] σ fun r τ => r = .fn (.func 75) [.ptr σ.length 0, .ptr (σ.length + 1) 0] ∧ τ = σ ++ [AObj.cells [.ptr d 0], AObj.cells (keyCs t us)] := by
  refine AC_FE (fok60 true) (Nat.le_of_ble_eq_true rfl) ?_
  simp only [ic60, f_box, cellsOf, List.append_assoc, List.length_append, evA, if_true, if_false, beq_false, simprocAttr]

theorem set_end (σ : List AObj) (x y : AObj) : (σ ++ [x]).set σ.length y = σ ++ [y] := by simp
theorem copy_pad {σ : List AObj} {l : Nat} {ts : List Int} (h : rowOf σ l = some [.i 0, .i 0, .i 0, .i 0, .i 0, .i 0, .i 0]) (ht : ts.length ≤ 6) : f_copy 1 [.sl l 1 6 1, ints ts] σ = some (.i ts.length, σ.set l (.cells (keyCs 0 ts))) := by
  have hsrc : srcCells σ 1 (ints ts) = some (ts.map AV.i) := by simp [srcCells]
  have hmin : Nat.min ts.length 6 = ts.length := Nat.min_eq_left ht
  have htk : (ts.map AV.i).take (ts.length * 1) = ts.map AV.i := List.take_of_length_le (by simp)
  have hrow : setRange [AV.i 0, .i 0, .i 0, .i 0, .i 0, .i 0, .i 0] 1 (ts.map AV.i) = keyCs 0 ts := by
    have e : [AV.i 0, .i 0, .i 0, .i 0, .i 0, .i 0, .i 0] = .i 0 :: (List.replicate ts.length (.i 0) ++ List.replicate (6 - ts.length) (.i 0)) := by
      rw [List.replicate_append_replicate, show ts.length + (6 - ts.length) = 6 by omega]; rfl
    rw [e]
    have key : ∀ (vs pre cs rest : List AV), cs.length = vs.length → setRange (pre ++ (cs ++ rest)) pre.length vs = pre ++ (vs ++ rest) := by
      intro vs
      induction vs with
      | nil => intro pre cs rest h; have : cs = [] := List.eq_nil_of_length_eq_zero (by simpa using h); subst this; rfl
      | cons v vs ih =>
        intro pre cs rest h
        cases cs with
        | nil => simp at h
        | cons c cs =>
          have e : (pre ++ (c :: cs ++ rest)).set pre.length v = (pre ++ [v]) ++ (cs ++ rest) := by simp
          rw [setRange, e]
          have := ih (pre ++ [v]) cs rest (by simpa using h)
          rw [List.length_append] at this
          rw [show pre.length + 1 = pre.length + [v].length from rfl, this]
          simp
    have := key (ts.map AV.i) [.i 0] (List.replicate ts.length (.i 0)) (List.replicate (6 - ts.length) (.i 0)) (by simp)
    simp only [List.cons_append, List.nil_append, List.length_cons, List.length_nil] at this
    rw [this]
    simp [keyCs, pad6]
  simp only [f_copy, h, hsrc, lenF, Option.bind_some]
  rw [if_pos ⟨trivial, by simp, by simp, isSc_ints ts⟩, hmin, htk, hrow]

/-- begin -/
theorem c55 (d : Nat) (ts : List Int) (rest : List AV) (σ : List AObj) (hd : rowOf σ d = some (ints ts :: rest)) (ht : ts.length ≤ 6) : AC Try.prog 55 [.ptr d 0] σ fun r τ => r = keyV 0 ts ∧ τ = σ := by
  refine (AC.cut (σ2 := σ) (v := keyV 0 ts) (AC_FE (fok55 true) (Nat.le_of_ble_eq_true rfl) ?_) rfl ?_ (fun l o ho => .inl ho))
  · have hd1 := fun x => rowOf_push hd x
    have hl := fun cs => rowOf_last σ cs
    have hcp := copy_pad (ts := ts) (hl _) ht
    have h6 := pad6_len ht
    have htk : ((pad6 ts).map AV.i).take 6 = (pad6 ts).map AV.i := List.take_of_length_le (by simp [h6])
    have hsr : ∀ x : AV, setRange (x :: (pad6 ts).map AV.i) 1 ((pad6 ts).map AV.i) = x :: (pad6 ts).map AV.i := fun x => setRange_1 rfl
    simp only [ic55, evA, if_true, if_false, beq_false, simprocAttr]
    refine DW_s [] [] hmix (by kernel_rfl) rfl ?_
    simp only [Nat.reduceLT, f_slA, bnds, hl, hd1, hcp, set_end, h6, htk, hsr, cellsOf, isSc_ints, evA, if_true, if_false, beq_false, simprocAttr]
    exact ⟨rfl, _, rfl⟩
  · simp only [keyV, locsIn]
    rw [locsInAll_iff]
    intro v hv
    rcases List.mem_cons.1 hv with rfl | hv
    · rfl
    · obtain ⟨z, _, rfl⟩ := List.mem_map.1 hv; rfl

theorem key_cl (k t : Nat) (ts : List Int) : locsIn k (keyV t ts) = true := by
  simp only [keyV, locsIn]
  rw [locsInAll_iff]
  intro v hv
  rcases List.mem_cons.1 hv with rfl | hv
  · rfl
  · obtain ⟨z, _, rfl⟩ := List.mem_map.1 hv; rfl

theorem objIn_key (k t : Nat) (ts : List Int) : objIn k (AObj.cells (keyCs t ts)) = true := by
  simpa only [objIn, keyV, locsIn] using key_cl k t ts

/-- the loop of next: H i is the heap behind the examiners before i; go tells whether the body goes on -/
theorem c75 (ts0 ks us : List Int) (M : AV) (a b D l t : Nat) (H F : Nat → List AObj) (go : Nat → Bool) (hok : DrawOk ts0 ks) (hu : us.length = ts0.length) (hd : ∀ j, j < us.length → 0 ≤ us[j]?.getD 0 ∧ us[j]?.getD 0 ≤ 4) (ht : t < ks.length)
    (hH : ∀ i, i ≤ us.length → (H i).length = (H 0).length ∧ rowOf (H i) a = some [.ptr D 0] ∧ rowOf (H i) D = some [ints ts0, ints ks, M] ∧ rowOf (H i) b = some (keyCs t us) ∧ ∀ o ∈ H i, objIn (H 0).length o = true)
    (hll : l < (H 0).length)
    (hn : ∀ i, i < us.length → canB ks us t i = false → H (i + 1) = H i)
    (hy : ∀ i, i < us.length → canB ks us t i = true → (∀ j, j < i → canB ks us t j = true → go j = true) → YC Try.prog l [.i i, keyV (t + 1) (us.set i (us[i]?.getD 0 - 1))] (H i ++ [AObj.cells (keyCs (t + 1) (us.set i (us[i]?.getD 0 - 1)))]) fun v τ => v = .b (go i) ∧ τ = if go i then H (i + 1) ++ [AObj.cells (keyCs (t + 1) (us.set i (us[i]?.getD 0 - 1)))] else F i)
    (hF : ∀ i, i < us.length → canB ks us t i = true → (∀ j, j < i → canB ks us t j = true → go j = true) → go i = false → CallOk (H i ++ [AObj.cells (keyCs (t + 1) (us.set i (us[i]?.getD 0 - 1)))]) (.b false) (F i)) :
    AC Try.prog 75 [.yld l, .ptr a 0, .ptr b 0] (H 0) fun v τ =>
      (∃ J, τ = H us.length ++ J ∧ ∀ j, j < us.length → canB ks us t j = true → go j = true) ∨ ∃ j, τ = F j ∧ j < us.length ∧ canB ks us t j = true ∧ go j = false ∧ ∀ k, k < j → canB ks us t k = true → go k = true := by
  refine AC_FE (fok75 true) (Nat.le_of_ble_eq_true rfl) ?_
  have h0 := hH 0 (Nat.zero_le _)
  have h6 := hok.tl
  have hu6 : us.length ≤ 6 := by omega
  have hp6 := pad6_len hu6
  have htk : ((pad6 us).map AV.i).take 6 = (pad6 us).map AV.i := List.take_of_length_le (by simp [hp6])
  have hsr : ∀ x : AV, setRange [x, .cv (.int .i64 0), .cv (.int .i64 0), .cv (.int .i64 0), .cv (.int .i64 0), .cv (.int .i64 0), .cv (.int .i64 0)] 1 ((pad6 us).map AV.i) = x :: (pad6 us).map AV.i := fun x => setRange_1 (by simp [hp6])
  have hkt := hok.kr t ht
  have hks8 := hok.kl
  obtain ⟨S, hS⟩ : ∃ S : Nat, ks[t]?.getD 0 = (S : Int) := ⟨(ks[t]?.getD 0).toNat, (Int.toNat_of_nonneg hkt.1).symm⟩
  have hS62 : S < 2 ^ 62 := by
    have h2 := hkt.2
    rw [hS] at h2
    unfold capF at h2
    have hp : (2 : Nat) ^ ts0.length ≤ 2 ^ 6 := Nat.pow_le_pow_right (by omega) (by omega)
    generalize 2 ^ ts0.length = q at *
    omega
  have hloc : ∀ i, i ≤ us.length → a < (H i).length ∧ b < (H i).length := fun i hi =>
    ⟨(List.getElem?_eq_some_iff.1 (rowOf_some (hH i hi).2.1)).1, (List.getElem?_eq_some_iff.1 (rowOf_some (hH i hi).2.2.2.1)).1⟩
  have hw1 : IntKind.i64.wrap ((t : Int) + 1) = ((t + 1 : Nat) : Int) := by rw [wrap_in (by omega)]; rfl
  simp only [ic75, h0.2.1, h0.2.2.1, evA, if_true, if_false, beq_false, simprocAttr]
  rw [← hu]
  refine IL_for us.length (fun i s => (∀ j, j < i → canB ks us t j = true → go j = true) ∧ ∃ v3 v4 v7 v8, s = ⟨[.yld l, .ptr a 0, .ptr b 0, v3, v4, .i us.length, .i i, v7, v8], H i⟩) ?_ 0 (Nat.zero_le _) ⟨fun j hj => absurd hj (Nat.not_lt_zero _), _, _, _, _, rfl⟩
  rintro i s hi ⟨hall, v3, v4, v7, v8, rfl⟩
  by_cases h : i < us.length
  rotate_left
  · have hie : i = us.length := by omega
    simp only [ic75l0, Int.ofNat_lt, h, evA, if_true, if_false, beq_false, simprocAttr]
    subst hie
    exact .inl ⟨[], by simp, hall⟩
  have hHi := hH i hi
  obtain ⟨g1, g2, g3, g4, g5⟩ := hHi
  have hHs := hH (i + 1) h
  have q2 := fun x => rowOf_push g2 x
  have q3 := fun x => rowOf_push g3 x
  have q4 := fun x => rowOf_push g4 x
  have ql := fun cs => rowOf_last (H i) cs
  have hi6 : i < 6 := by omega
  have hi7 : 1 + i ≤ 6 := by omega
  have hget : ((pad6 us).map AV.i)[i]? = some (.i (us[i]?.getD 0)) := by rw [List.getElem?_map, pad6_get h]; rfl
  have hdi := hd i h
  have hw2 : IntKind.i64.wrap (us[i]?.getD 0 - 1) = us[i]?.getD 0 - 1 := wrap_in (by omega)
  have hst : ((pad6 us).map AV.i).set i (.cv (.int .i64 (us[i]?.getD 0 - 1))) = (pad6 (us.set i (us[i]?.getD 0 - 1))).map AV.i := by rw [set_ints, pad6_set h]
  have hget2 : ((pad6 (us.set i (us[i]?.getD 0 - 1))).map AV.i)[i]? = some (.i (us[i]?.getD 0 - 1)) := by rw [List.getElem?_map, pad6_get (by simpa using h)]; simp [h]
  have hp62 : (pad6 (us.set i (us[i]?.getD 0 - 1))).length = 6 := pad6_len (by simpa using hu6)
  have htk2 : ((pad6 (us.set i (us[i]?.getD 0 - 1))).map AV.i).take 6 = (pad6 (us.set i (us[i]?.getD 0 - 1))).map AV.i := List.take_of_length_le (by simp [hp62])
  have hbit := bit_and S i hS62 (by omega)
  have hcan : canB ks us t i = (decide (us[i]?.getD 0 > 0) && !S.testBit i) := by unfold canB; rw [hS]; rfl
  have hge : decide (us[i]?.getD 0 - 1 ≥ 0) = decide (us[i]?.getD 0 > 0) := by
    rw [decide_eq_decide]; omega
  have hyi := hy i h
  have hFi := hF i h
  have hni := hn i h
  have hi0 : ¬ ((i : Int) < 0) := by omega
  generalize hus' : us.set i (us[i]?.getD 0 - 1) = us' at *
  simp only [ic75l0, Int.ofNat_lt, h, hi7, g2, g3, g4, q2, q3, q4, ql, htk, hsr, hw1, hp6, cellsOf, isSc_ints, set_end, arr_addr hi6, cons_get1, cons_set1, hget, hw2, hst, evA, if_true, if_false, beq_false, simprocAttr]
  refine DW_s [] [] hmix (by kernel_rfl) rfl ?_
  have hsub : ∀ (J : List AObj) (y3 y4 y7 y8 : AV), Weak ⟨vs75, 56, none, (H 0).length⟩ ⟨[.yld l, .ptr a 0, .ptr b 0, y3, y4, .i us.length, .i ((i + 1 : Nat) : Int), y7, y8], H (i + 1) ++ J⟩ ⟨[.yld l, .ptr a 0, .ptr b 0, .undef, .undef, .i us.length, .i ((i + 1 : Nat) : Int), .undef, .undef], H (i + 1)⟩ := fun J y3 y4 y7 y8 =>
    Weak.cut ⟨.inl rfl, .inl rfl, .inl rfl, .inr rfl, .inr rfl, .inl rfl, .inl rfl, .inr rfl, .inr rfl, trivial⟩ (by rw [hHs.1]; exact Nat.le_refl _) (by
      have := hloc (i + 1) h
      rw [hHs.1] at this
      simp [locsInAll, locsIn, this.1, this.2, hHs.1, hll]) (fun o ho => by rw [hHs.1]; exact hHs.2.2.2.2 o ho)
  have hwi : IntKind.i64.wrap ((i : Int) + 1) = ((i + 1 : Nat) : Int) := by rw [wrap_in (by omega)]; rfl
  cases hbt : S.testBit i
  · rw [hbt] at hbit hcan
    simp only [Bool.not_false, Bool.and_true] at hbit hcan
    rw [← hge] at hcan
    by_cases hpos : us[i]?.getD 0 - 1 ≥ 0
    · rw [decide_eq_true hpos] at hcan
      simp only [h, hi7, g2, g3, g4, q2, q3, q4, ql, htk, htk2, hsr, hw1, hp6, hp62, cellsOf, isSc_ints, set_end, arr_addr hi6, cons_get1, cons_set1, hget, hget2, hw2, hst, ht, hS, shiftI, hi0, hbit, hpos, evA, if_true, if_false, beq_false, simprocAttr]
      have hyc := hyi hcan hall
      cases hgo : go i
      · rw [hgo] at hyc
        simp only [Bool.false_eq_true, if_false] at hyc
        refine kK_turn hyc (hFi hcan hall hgo) ?_
        simp only [evA, if_true, if_false, beq_false, simprocAttr]
        exact .inr ⟨i, rfl, h, hcan, hgo, hall⟩
      · rw [hgo] at hyc
        simp only [if_true] at hyc
        refine kK_turn hyc (callOk_same (by simp [g1, hHs.1]) rfl (fun l o ho hne => ?_)) ?_
        · rcases List.mem_append.1 (List.mem_of_getElem? ho) with hm | hm
          · exact objIn_mono _ _ _ (by simp [hHs.1]) (hHs.2.2.2.2 o hm)
          · simp only [List.mem_singleton] at hm; subst hm; exact objIn_key _ _ _
        · simp only [hwi, evA, if_true, if_false, beq_false, simprocAttr]
          refine kFor_weak (by first | trivial | omega) (hsub _ _ _ _ _) ⟨fun j hj hcj => ?_, _, _, _, _, rfl⟩
          rcases Nat.lt_succ_iff_lt_or_eq.1 hj with hj | rfl
          · exact hall j hj hcj
          · exact hgo
    · rw [decide_eq_false hpos] at hcan
      simp only [h, hi7, g2, g3, g4, q2, q3, q4, ql, htk, htk2, hsr, hw1, hp6, hp62, cellsOf, isSc_ints, set_end, arr_addr hi6, cons_get1, cons_set1, hget, hget2, hw2, hst, ht, hS, shiftI, hi0, hbit, hpos, hwi, evA, if_true, if_false, beq_false, simprocAttr]
      rw [← hni hcan]
      refine kFor_weak (by first | trivial | omega) (hsub _ _ _ _ _) ⟨fun j hj hcj => ?_, _, _, _, _, rfl⟩
      rcases Nat.lt_succ_iff_lt_or_eq.1 hj with hj | rfl
      · exact hall j hj hcj
      · rw [hcan] at hcj; cases hcj
  · rw [hbt] at hbit hcan
    simp only [Bool.not_true, Bool.and_false] at hbit hcan
    simp only [h, hi7, g2, g3, g4, q2, q3, q4, ql, htk, htk2, hsr, hw1, hp6, hp62, cellsOf, isSc_ints, set_end, arr_addr hi6, cons_get1, cons_set1, hget, hget2, hw2, hst, ht, hS, shiftI, hi0, hbit, hwi, evA, if_true, if_false, beq_false, simprocAttr]
    rw [← hni hcan]
    refine kFor_weak (by first | trivial | omega) (hsub _ _ _ _ _) ⟨fun j hj hcj => ?_, _, _, _, _, rfl⟩
    rcases Nat.lt_succ_iff_lt_or_eq.1 hj with hj | rfl
    · exact hall j hj hcj
    · rw [hcan] at hcj; cases hcj

end Go.Proofs.Ytphdemhopihpnaa.AM

namespace Go.Proofs.Ytphdemhopihpnaa.AM
open Go
set_option linter.unusedVariables false
set_option linter.unusedSimpArgs false

theorem ren_key (g : Nat → Nat) (t : Nat) (ts : List Int) : ren g (keyV t ts) = keyV t ts := by
  simp only [keyV, ren, rens, rens_ints]
theorem ren_rend (g : Nat → Nat) (K : Memo) : (rendK K).map (fun e => (ren g e.1, ren g e.2)) = rendK K := by
  simp only [rendK, List.map_map]
  apply List.map_congr_left
  intro e _
  show (ren g (keyV e.1.1 e.1.2), ren g (.i e.2)) = _
  rw [ren_key]; rfl
theorem objIn_rend (k : Nat) (K : Memo) : objIn k (.map (rendK K)) = true := by
  simp only [objIn, List.all_eq_true, Bool.and_eq_true]
  intro e he
  simp only [rendK, List.mem_map] at he
  obtain ⟨x, _, rfl⟩ := he
  exact ⟨key_cl _ _ _, rfl⟩

theorem look_rend {σ : List AObj} {l n t : Nat} {us : List Int} {K : Memo} (h : mapOf σ l = some (rendK K)) (hn : n ≤ 6) (hk : KeyOk n (t, us)) (hK : KeysOk n K) :
    f_lookup kk7 (.i 0) true [.map l, keyV t us] σ = some (.tup [.i (((findQ t us K 0).map (·.2)).getD 0), .b (findQ t us K 0).isSome], σ) := by
  simp only [f_lookup, h, Option.bind_some, keyIs_ok hn hk, findKey_rend hn hk K 0 hK, Option.map_some]
  cases findQ t us K 0 <;> rfl
theorem put_rend {σ : List AObj} {l n t : Nat} {us : List Int} {K : Memo} {v : Int} (h : mapOf σ l = some (rendK K)) (hn : n ≤ 6) (hk : KeyOk n (t, us)) (hK : KeysOk n K) :
    f_mapset kk7 [.map l, keyV t us, .i v] σ = some (.undef, σ.set l (.map (rendK (putQ K t us v)))) := by
  simp only [f_mapset, h, Option.bind_some, keyIs_ok hn hk, findKey_rend hn hk K 0 hK, Option.map_some, mapPut_rend]
  rfl

theorem mapOf_z {es : List (AV × AV)} {σ : List AObj} : mapOf (.map es :: σ) 0 = some es := rfl
theorem mapOf_s {o : AObj} {σ : List AObj} {n : Nat} : mapOf (o :: σ) (n + 1) = mapOf σ n := rfl

/-- the heap that the counting closure looks at -/
abbrev hp4 (ts0 ks : List Int) (K : Memo) : List AObj := [.cells [.ptr 1 0], .cells [ints ts0, ints ks, .map 2], .map (rendK K), .cells [.fn (.func 74) [.ptr 0 0, .ptr 3 0]]]

theorem set_same {σ : List AObj} {a : Nat} {o : AObj} (h : σ[a]? = some o) : σ.set a o = σ := by
  apply List.ext_getElem?
  intro l
  by_cases hl : a = l
  · subst hl; rw [List.getElem?_set_self (List.getElem?_eq_some_iff.1 h).1, h]
  · rw [List.getElem?_set_ne hl]

theorem at74 {ts0 ks : List Int} {K K' : Memo} {t : Nat} {us : List Int} {n : Int} (h : AC Try.prog 74 [keyV t us, .ptr 0 0, .ptr 3 0] (hp4 ts0 ks K) fun v τ => v = .i n ∧ τ = hp4 ts0 ks K') {σ : List AObj} (a b c d : Nat) (hnd : [a, b, c, d].Nodup)
    (h0 : σ[a]? = some (.cells [.ptr b 0])) (h1 : σ[b]? = some (.cells [ints ts0, ints ks, .map c])) (h2 : σ[c]? = some (.map (rendK K))) (h3 : σ[d]? = some (.cells [.fn (.func 74) [.ptr a 0, .ptr d 0]])) :
    AC Try.prog 74 [keyV t us, .ptr a 0, .ptr d 0] σ fun v τ => v = .i n ∧ τ = σ.set c (.map (rendK K')) := by
  have hr := AC.at (σ := σ) [a, b, c, d] h hnd (by show (locsIn _ (keyV t us) && _) = true; rw [key_cl]; rfl) (by
    refine ⟨⟨trivial, rfl, ?_⟩, ⟨trivial, rfl, ?_⟩, ⟨trivial, objIn_rend _ _, ?_⟩, ⟨trivial, rfl, ?_⟩, trivial⟩
    · rw [h0]; rfl
    · rw [h1]; rfl
    · rw [h2]; simp only [renO, ren_rend]
    · rw [h3]; rfl)
  have he : rens (atF [a, b, c, d] σ.length) [keyV t us, .ptr 0 0, .ptr 3 0] = [keyV t us, .ptr a 0, .ptr d 0] := by
    simp only [rens, ren_key]; rfl
  rw [he] at hr
  refine hr.mono ?_
  rintro r τ ⟨r0, τ0, ⟨rfl, rfl⟩, _, rfl, rfl⟩
  refine ⟨rfl, ?_⟩
  have e : (hp4 ts0 ks K').map (renO (atF [a, b, c, d] σ.length)) = [.cells [.ptr b 0], .cells [ints ts0, ints ks, .map c], .map (rendK K'), .cells [.fn (.func 74) [.ptr a 0, .ptr d 0]]] := by
    simp only [List.map_cons, List.map_nil, renO, ren_rend]; rfl
  rw [e]
  simp only [putL]
  rw [set_same h0, set_same h1]
  have hcd : c ≠ d := by simp at hnd; exact hnd.2.2
  have h3' : (σ.set c (.map (rendK K')))[d]? = some (.cells [.fn (.func 74) [.ptr a 0, .ptr d 0]]) := by rw [List.getElem?_set_ne hcd]; exact h3
  rw [set_same h3', List.append_nil]

def ia74 : IC := (.region [jw 6 (.alloc [(.cv (.int .i64 0)), (.cv (.int .i64 0)), (.cv (.int .i64 0)), (.cv (.int .i64 0)), (.cv (.int .i64 0)), (.cv (.int .i64 0)), (.cv (.int .i64 0))]) [], jq (.store 7) [.v 6, .v 11]])
def ib74 : IC := (.block 1 (.dr [[], [], [], [1, 2], [0, 3], [4, 3, 0, 1, 2, 3, 4]] [jL 4, jL 2, jN 7 6, ⟨none, none, .call, [(.t 1), (.t 2)]⟩, jq (.bin .add .int) [.t 0, .t 3], jq (.store 1) [.v 4, .t 4]]))
theorem ca74 : compC Try.prog vs74 45 (nav [1, 1, 1, 1, 0, 1, 0, 2] (Try.f74.body.getD .skip)) = some ia74 := by kernel_rfl
theorem cb74 : compC Try.prog vs74 45 (nav [1, 1, 1, 1, 0, 1, 0, 3] (Try.f74.body.getD .skip)) = some ib74 := by kernel_rfl

theorem waysQ_step (ks : List Int) (r : Nat) (us : List Int) (K : Memo) : waysQ ks (r + 1) us K = match findQ (ks.length - (r + 1)) us K 0 with
    | some (_, x) => (x, K)
    | none => ((waysQL ks r us K us.length).1, putQ (waysQL ks r us K us.length).2 (ks.length - (r + 1)) us (waysQL ks r us K us.length).1) := by
  simp only [waysQ]
  cases findQ (ks.length - (r + 1)) us K 0 <;> rfl

theorem waysQL_right {ks : List Int} {n r : Nat} {us : List Int} {K : Memo} (hr : r + 1 ≤ ks.length) (hd : Dig n us) (hn : n ≤ 6) (hR : RightQ ks n K) : ∀ i, i ≤ us.length → RightQ ks n (waysQL ks r us K i).2 ∧ 0 ≤ (waysQL ks r us K i).1 ∧ (waysQL ks r us K i).1 ≤ ((i * 6 ^ r : Nat) : Int) := by
  intro i
  induction i with
  | zero => intro _; exact ⟨hR, Int.le_refl _, by simp [waysQL]⟩
  | succ i ih =>
    intro hi
    obtain ⟨h1, h2, h3⟩ := ih (by omega)
    rw [waysQL_succ]
    have hs : ((i + 1) * 6 ^ r : Nat) = i * 6 ^ r + 6 ^ r := Nat.succ_mul i (6 ^ r)
    split
    · rename_i hc
      have hd' := dig_less hd (by omega) hc
      obtain ⟨g1, g2⟩ := waysQ_right r (us.set i (us[i]?.getD 0 - 1)) (waysQL ks r us K i).2 (by omega) hd' h1
      have g3 := waysF_bounds ks r (us.set i (us[i]?.getD 0 - 1)) (by rw [hd'.1]; exact hn)
      rw [← g1] at g3
      refine ⟨g2, ?_, ?_⟩
      · simp only; omega
      · simp only
        rw [hs]
        generalize 6 ^ r = p at *
        generalize i * p = q at *
        omega
    · refine ⟨h1, h2, ?_⟩
      rw [hs]
      generalize 6 ^ r = p at *
      generalize i * p = q at *
      omega

theorem c74 (ts0 ks : List Int) (hok : DrawOk ts0 ks) : ∀ (r : Nat) (us : List Int) (K : Memo), r ≤ ks.length → Dig ts0.length us → RightQ ks ts0.length K →
    AC Try.prog 74 [keyV (ks.length - r) us, .ptr 0 0, .ptr 3 0] (hp4 ts0 ks K) fun v τ => v = .i (waysQ ks r us K).1 ∧ τ = hp4 ts0 ks (waysQ ks r us K).2
  | 0, us, K, hr, hd, hR => by
    refine AC.cut (AC_FE (fok74 true) (Nat.le_of_ble_eq_true rfl) ?_) rfl rfl (fun l o ho => .inl ho)
    simp only [ic74, Nat.sub_zero, f_box, cellsOf, waysQ, evA, if_true, if_false, beq_false, simprocAttr]
    refine DW_s [] [] hmix (by kernel_rfl) rfl ?_
    simp only [f_box, cellsOf, waysQ, evA, if_true, if_false, beq_false, simprocAttr]
    exact Exists.intro _ rfl
  | r + 1, us, K, hr, hd, hR => by
    obtain ⟨t, ht⟩ : ∃ t, t = ks.length - (r + 1) := ⟨_, rfl⟩
    have htl : t < ks.length := by omega
    have h6 := hok.tl
    have hk8 := hok.kl
    have hu6 : us.length ≤ 6 := by rw [hd.1]; exact h6.2
    have hkey : KeyOk ts0.length (t, us) := ⟨by show t ≤ 100; omega, hd⟩
    have hKs := hR.keys (by omega)
    have hne : (((t : Nat) : Int) == (ks.length : Int)) = false := by simp; omega
    have hlook := fun (o0 o1 : AObj) (σ : List AObj) => look_rend (σ := o0 :: o1 :: AObj.map (rendK K) :: σ) (l := 2) rfl h6.2 hkey hKs
    have hp6 := pad6_len hu6
    have htk : ((pad6 us).map AV.i).take 6 = (pad6 us).map AV.i := List.take_of_length_le (by simp [hp6])
    have hstep := waysQ_step ks r us K
    rw [← ht] at hstep ⊢
    generalize hX : waysQ ks (r + 1) us K = X at hstep ⊢
    refine AC.cut (σ2 := hp4 ts0 ks X.2) (v := .i X.1) (AC_FE (fok74 true) (Nat.le_of_ble_eq_true rfl) ?_) rfl rfl (fun l o ho => ?_)
    rotate_left
    · match l, ho with
      | 0, ho => exact .inl ho
      | 1, ho => exact .inl ho
      | 2, ho => cases ho; exact .inr (objIn_rend _ _)
      | 3, ho => exact .inl ho
    simp only [ic74, f_box, cellsOf, evA, if_true, if_false, beq_false, simprocAttr]
    refine DW_s [] [] hmix (by kernel_rfl) rfl ?_
    simp only [hne, f_box, cellsOf, evA, if_true, if_false, beq_false, simprocAttr]
    refine DW_s [] [] hmix (by kernel_rfl) rfl ?_
    cases hf : findQ t us K 0 with
    | some p =>
      obtain ⟨j, x⟩ := p
      rw [hf] at hstep hlook
      simp only at hstep
      subst hstep
      simp only [Option.map_some, Option.getD_some, Option.isSome_some] at hlook
      simp only [hlook, hp6, htk, f_box, cellsOf, evA, if_true, if_false, beq_false, simprocAttr]
      exact Exists.intro _ rfl
    | none =>
      rw [hf] at hstep hlook
      simp only at hstep
      simp only [Option.map_none, Option.getD_none, Option.isSome_none] at hlook
      simp only [hlook, hp6, htk, f_box, cellsOf, evA, if_true, if_false, beq_false, simprocAttr]
      refine AC.run (c60 1 t us _ hu6) ?_
      simp only [hlook, hp6, htk, f_box, cellsOf, evA, if_true, if_false, beq_false, simprocAttr]
      refine RW_s (gf := 75) (cap := [.ptr 6 0, .ptr 7 0]) rfl (Nat.le_of_ble_eq_true rfl) (fun l h => by cases h) ?_
      generalize hRR : newLoop _ _ _ _ _ = R
      simp only [evA, if_true, if_false, beq_false, simprocAttr]
      have e1 : R.vars = vs74 := by rw [← hRR]; rfl
      have e2 : R.ntmps = 45 := by rw [← hRR]; rfl
      have e3 : R.params = [31, 32] := by rw [← hRR]; rfl
      have e4 : R.vals = [keyV t us, .ptr 0 0, .ptr 3 0, .ptr 4 0, .ptr 5 0, .b false, .undef, .b false, .b false, .fn (.func 75) [.ptr 6 0, .ptr 7 0], .undef, .undef] := by rw [← hRR]; rfl
      have e5 : R.state = .ready := by rw [← hRR]; rfl
      have e6 : R.pending = none := by rw [← hRR]; rfl
      have e7 : compC Try.prog vs74 45 R.assign = some ia74 := by rw [← hRR]; exact ca74
      have e8 : compC Try.prog vs74 45 R.body = some ib74 := by rw [← hRR]; exact cb74
      have e9 : ({ { R with state := .busy, pending := none } with state := .ready, pending := none } : ALoop) = R := by
        clear hRR; cases R; simp_all
      have e10 : objIn 9 (AObj.loop R) = true := by
        simp only [objIn, e4, locsInAll, key_cl]; rfl
      clear hRR
      have hQL := waysQL_right (ks := ks) (r := r) (us := us) hr hd h6.2 hR
      have hsm : 6 ^ r ≤ 6 ^ 8 := Nat.pow_le_pow_right (by omega) (by omega)
      have htr : ks.length - r = t + 1 := by omega
      obtain ⟨H, hH⟩ : ∃ H : Nat → List AObj, ∀ i, H i = [AObj.cells [.ptr 1 0], AObj.cells [ints ts0, ints ks, .map 2], AObj.map (rendK (waysQL ks r us K i).2), AObj.cells [.fn (.func 74) [.ptr 0 0, .ptr 3 0]], AObj.cells (keyCs t us), AObj.cells [.i (waysQL ks r us K i).1], AObj.cells [.ptr 1 0], AObj.cells (keyCs t us), AObj.loop R] := ⟨_, fun i => rfl⟩
      have hH0 : H 0 = [AObj.cells [.ptr 1 0], AObj.cells [ints ts0, ints ks, .map 2], AObj.map (rendK K), AObj.cells [.fn (.func 74) [.ptr 0 0, .ptr 3 0]], AObj.cells (keyCs t us), AObj.cells [.i 0], AObj.cells [.ptr 1 0], AObj.cells (keyCs t us), AObj.loop R] := hH 0
      rw [← hH0]
      refine (c75 ts0 ks us (.map 2) 6 7 1 8 t H (fun _ => []) (fun _ => true) hok hd.1 hd.2 htl (fun i hi => ?_) (by rw [hH0]; exact Nat.le_of_ble_eq_true rfl) (fun i hi hc => ?_) (fun i hi hc _ => ?_) (fun i hi hc _ h => by cases h)).mono ?_
      · rw [hH0, hH i]
        refine ⟨rfl, rfl, rfl, rfl, fun o ho => ?_⟩
        simp only [List.mem_cons, List.not_mem_nil, or_false] at ho
        rcases ho with rfl | rfl | rfl | rfl | rfl | rfl | rfl | rfl | rfl
        · rfl
        · rfl
        · exact objIn_rend _ _
        · rfl
        · exact objIn_key _ _ _
        · rfl
        · rfl
        · exact objIn_key _ _ _
        · exact e10
      · rw [hH, hH, waysQL_succ, ht] at *
        rw [hc]; rfl
      · have hdi := dig_less hd hi hc
        have hQi := hQL i (by omega)
        have ih := c74 ts0 ks hok r (us.set i (us[i]?.getD 0 - 1)) (waysQL ks r us K i).2 (by omega) hdi hQi.1
        have hW := waysQ_right r (us.set i (us[i]?.getD 0 - 1)) (waysQL ks r us K i).2 (by omega) hdi hQi.1
        have hWb := waysF_bounds ks r (us.set i (us[i]?.getD 0 - 1)) (by rw [hdi.1]; exact h6.2)
        rw [← hW.1] at hWb
        have hsucc := waysQL_succ ks r us K i
        rw [← ht, hc, if_pos rfl] at hsucc
        have hsum : IntKind.i64.wrap ((waysQL ks r us K i).1 + (waysQ ks r (us.set i (us[i]?.getD 0 - 1)) (waysQL ks r us K i).2).1) = (waysQL ks r us K (i + 1)).1 := by
          have h1 := hQi.2
          have h3 : i * 6 ^ r ≤ 6 * 6 ^ 8 := Nat.mul_le_mul (by omega) hsm
          rw [hsucc]
          generalize i * 6 ^ r = p1 at *
          generalize 6 ^ r = p2 at *
          rw [wrap_in (by omega)]
        have hK' : (waysQ ks r (us.set i (us[i]?.getD 0 - 1)) (waysQL ks r us K i).2).2 = (waysQL ks r us K (i + 1)).2 := by rw [hsucc]
        rw [htr, hK'] at ih
        generalize us.set i (us[i]?.getD 0 - 1) = us' at *
        have hp62 : (pad6 us').length = 6 := pad6_len (by rw [hdi.1]; exact h6.2)
        have htk2 : ((pad6 us').map AV.i).take 6 = (pad6 us').map AV.i := List.take_of_length_le (by simp [hp62])
        have hsr : ∀ x : AV, setRange [x, .cv (.int .i64 0), .cv (.int .i64 0), .cv (.int .i64 0), .cv (.int .i64 0), .cv (.int .i64 0), .cv (.int .i64 0)] 1 ((pad6 us').map AV.i) = x :: (pad6 us').map AV.i := fun x => setRange_1 (by simp [hp62])
        generalize (waysQ ks r us' (waysQL ks r us K i).2).1 = m at *
        rw [hH, hH]
        generalize (waysQL ks r us K i).1 = A1 at *
        generalize (waysQL ks r us K i).2 = A2 at *
        generalize (waysQL ks r us K (i + 1)).1 = B1 at *
        generalize (waysQL ks r us K (i + 1)).2 = B2 at *
        simp only [if_true]
        refine YC.cut (YC_IS (r := R) ia74 ib74 rfl e5 (by rw [e3]; rfl) (by rw [e1, e2, e3]; rfl) (by rw [e1, e2]; exact e7) (by rw [e1, e2]; exact e8) ?_) rfl rfl (fun l o ho => ?_)
        · rw [e1, e2, e3, e4]
          have x31 : vs74.idxOf? 31 = some 10 := by decide
          have x32 : vs74.idxOf? 32 = some 11 := by decide
          simp only [ia74, putPars, x31, x32, cellsOf, hp62, isSc_ints, hsr, kAsg_n, evA, if_true, if_false, beq_false, simprocAttr]
          refine ⟨R, rfl, e5, ?_⟩
          simp only [ib74, setLoop, evA, if_true, if_false, beq_false, simprocAttr]
          refine DW_s [] [(0, 3)] hmix (by kernel_rfl) rfl ?_
          simp only [htk2, hp62, cellsOf, evA, if_true, if_false, beq_false, simprocAttr]
          refine kK_turn (at74 ih 0 1 2 3 (by decide) rfl rfl rfl rfl) (callOk_set rfl (objIn_rend _ _)) ?_
          simp only [hsum, kRnd_n, evA, if_true, if_false, beq_false, simprocAttr]
          refine ⟨_, rfl, [AObj.cells (keyCs (t + 1) us')], ?_⟩
          simp only [setLoop, e6, evA, if_true, if_false, beq_false, simprocAttr]
          rw [e9]
        · match l, ho with
          | 2, ho => cases ho; exact .inr (objIn_rend _ _)
          | 5, ho => cases ho; exact .inr rfl
          | 0, ho | 1, ho | 3, ho | 4, ho | 6, ho | 7, ho | 8, ho | 9, ho => exact .inl ho
      · rintro v τ (⟨J, rfl, _⟩ | ⟨j, _, _, _, hf2, _⟩)
        rotate_left
        · cases hf2
        rw [hH]
        refine ⟨R, rfl, (by rw [e5]; intro h; cases h), ?_⟩
        rw [e6]
        have hput := fun (o0 o1 : AObj) (σ : List AObj) (v : Int) => put_rend (σ := o0 :: o1 :: AObj.map (rendK (waysQL ks r us K us.length).2) :: σ) (l := 2) (v := v) rfl h6.2 hkey ((hQL us.length (Nat.le_refl _)).1.keys (by omega))
        simp only [setLoop, evA, if_true, if_false, beq_false, simprocAttr]
        refine DW_s [] [] hmix (by kernel_rfl) rfl ?_
        simp only [hput, hp6, htk, cellsOf, hstep, evA, if_true, if_false, beq_false, simprocAttr]
        exact Exists.intro _ rfl

end Go.Proofs.Ytphdemhopihpnaa.AM

namespace Go.Proofs.Ytphdemhopihpnaa.AM
open Go
set_option linter.unusedVariables false
set_option linter.unusedSimpArgs false

abbrev hp2 (ts0 ks : List Int) (K : Memo) : List AObj := [.cells [ints ts0, ints ks, .map 1], .map (rendK K)]

theorem c54 (ts0 ks : List Int) (hok : DrawOk ts0 ks) (r : Nat) (us : List Int) (K : Memo) (hr : r ≤ ks.length) (hd : Dig ts0.length us) (hR : RightQ ks ts0.length K) :
    AC Try.prog 54 [.ptr 0 0, keyV (ks.length - r) us] (hp2 ts0 ks K) fun v τ => v = .i (waysQ ks r us K).1 ∧ τ = hp2 ts0 ks (waysQ ks r us K).2 := by
  have h74 := c74 ts0 ks hok r us K hr hd hR
  have hu6 : us.length ≤ 6 := by rw [hd.1]; exact hok.tl.2
  have hp6 := pad6_len hu6
  have htk : ((pad6 us).map AV.i).take 6 = (pad6 us).map AV.i := List.take_of_length_le (by simp [hp6])
  generalize waysQ ks r us K = X at *
  generalize ks.length - r = t at *
  refine AC.cut (σ2 := hp2 ts0 ks X.2) (v := .i X.1) (AC_FE (fok54 true) (Nat.le_of_ble_eq_true rfl) ?_) rfl rfl (fun l o ho => ?_)
  · simp only [ic54, f_box, hp6, htk, cellsOf, isSc_ints, evA, if_true, if_false, beq_false, simprocAttr]
    refine AC.run (at74 h74 2 0 1 4 (by decide) rfl rfl rfl rfl) ?_
    simp only [evA, if_true, if_false, beq_false, simprocAttr]
    exact Exists.intro _ rfl
  · match l, ho with
    | 0, ho => exact .inl ho
    | 1, ho => cases ho; exact .inr (objIn_rend _ _)

/-- ways, in any heap; the map is right before and behind -/
theorem c54f (ts0 ks : List Int) (hok : DrawOk ts0 ks) (r : Nat) (us : List Int) (K : Memo) (hr : r ≤ ks.length) (hd : Dig ts0.length us) (hR : RightQ ks ts0.length K) {σ : List AObj} (d c : Nat) (hne : d ≠ c)
    (h0 : σ[d]? = some (.cells [ints ts0, ints ks, .map c])) (h1 : σ[c]? = some (.map (rendK K))) :
    AC Try.prog 54 [.ptr d 0, keyV (ks.length - r) us] σ fun v τ => v = .i (waysF ks r us) ∧ τ = σ.set c (.map (rendK (waysQ ks r us K).2)) := by
  have h := c54 ts0 ks hok r us K hr hd hR
  rw [(waysQ_right r us K hr hd hR).1] at h
  generalize (waysQ ks r us K).2 = K' at *
  generalize waysF ks r us = n at *
  generalize ks.length - r = t at *
  have hr := AC.at (σ := σ) [d, c] h (by simpa using hne) (by show (true && (locsIn _ (keyV t us) && _)) = true; rw [key_cl]; rfl) (by
    refine ⟨⟨trivial, rfl, ?_⟩, ⟨trivial, objIn_rend _ _, ?_⟩, trivial⟩
    · rw [h0]; rfl
    · rw [h1]; simp only [renO, ren_rend])
  have he : rens (atF [d, c] σ.length) [.ptr 0 0, keyV t us] = [.ptr d 0, keyV t us] := by
    simp only [rens, ren_key]; rfl
  rw [he] at hr
  refine hr.mono ?_
  rintro r τ ⟨r0, τ0, ⟨rfl, rfl⟩, _, rfl, rfl⟩
  refine ⟨rfl, ?_⟩
  have e : (hp2 ts0 ks K').map (renO (atF [d, c] σ.length)) = [.cells [ints ts0, ints ks, .map c], .map (rendK K')] := by
    simp only [List.map_cons, List.map_nil, renO, ren_rend]; rfl
  rw [e]
  simp only [putL]
  rw [set_same h0, List.append_nil]

theorem right_nil (ks : List Int) (n : Nat) : RightQ ks n [] := fun e he => absurd he (List.not_mem_nil)

/-- open, of any draw -/
theorem c53 (ts ks : List Int) (ht : ts.length < 2 ^ 63) (hk : ks.length < 2 ^ 63) {x y e : Int} (hv : checkV ts ks = tup3 x y e) :
    AC Try.prog 53 [drw ts ks] [] fun v τ => v = .tup [.ptr 2 0, .i e] ∧ τ = [.cells [ints ts, ints ks], .map [], .cells [ints ts, ints ks, .map 1]] := by
  refine AC_FE (fok53 true) (Nat.le_of_ble_eq_true rfl) ?_
  simp only [ic53, f_box, cellsOf, evA, if_true, if_false, beq_false, simprocAttr]
  refine (c24 ts ks ht hk).call frz ?_
  simp only [hv, f_box, f_mkmap, cellsOf, evA, if_true, if_false, beq_false, simprocAttr]

theorem c53f (ts ks : List Int) (ht : ts.length < 2 ^ 63) (hk : ks.length < 2 ^ 63) {x y e : Int} (hv : checkV ts ks = tup3 x y e) (σ : List AObj) :
    AC Try.prog 53 [drw ts ks] σ fun v τ => v = .tup [.ptr (σ.length + 2) 0, .i e] ∧ τ = σ ++ [.cells [ints ts, ints ks], .map [], .cells [ints ts, ints ks, .map (σ.length + 1)]] := by
  refine (AC.frame rfl (c53 ts ks ht hk hv) σ).mono ?_
  rintro v τ ⟨r0, τ0, ⟨rfl, rfl⟩, rfl, rfl⟩
  refine ⟨by simp only [ren, rens, sh, Nat.add_comm], ?_⟩
  simp only [List.map_cons, List.map_nil, renO, ren, rens, sh, Nat.add_comm]

/-- Count, of a valid draw -/
theorem c26_ok (ts ks : List Int) (ht : ts.length < 2 ^ 63) (hk : ks.length < 2 ^ 63) (hv : checkV ts ks = tup3 0 0 0) (hok : DrawOk ts ks) : PC Try.prog 26 [drw ts ks] (.tup [.i (waysF ks ks.length ts), .i 0]) := by
  refine ⟨AC_FE (fok26 true) (Nat.le_of_ble_eq_true rfl) ?_, rfl⟩
  simp only [ic26, f_box, cellsOf, evA, if_true, if_false, beq_false, simprocAttr]
  refine AC.run (c53f ts ks ht hk hv _) ?_
  simp only [evA, if_true, if_false, beq_false, simprocAttr]
  refine AC.run (c55 3 ts [ints ks, .map 2] _ rfl hok.tl.2) ?_
  have h := c54f ts ks hok ks.length ts [] (Nat.le_refl _) ⟨rfl, hok.tr⟩ (right_nil _ _) (σ := [AObj.cells [ints ts, ints ks], AObj.cells [ints ts, ints ks], AObj.map [], AObj.cells [ints ts, ints ks, .map 2]]) 3 2 (by decide) rfl rfl
  rw [Nat.sub_self] at h
  generalize (waysQ ks ks.length ts []).2 = K' at h
  generalize waysF ks ks.length ts = n at h ⊢
  simp only [evA, if_true, if_false, beq_false, simprocAttr]
  refine AC.run h ?_
  simp only [evA, if_true, if_false, beq_false, simprocAttr]
  exact frz

theorem c26_err (ts ks : List Int) (ht : ts.length < 2 ^ 63) (hk : ks.length < 2 ^ 63) {x y e : Int} (hv : checkV ts ks = tup3 x y e) (he : e ≠ 0) : PC Try.prog 26 [drw ts ks] (.tup [.i 0, .i e]) := by
  refine ⟨AC_FE (fok26 true) (Nat.le_of_ble_eq_true rfl) ?_, rfl⟩
  have hb : (e != 0) = true := by simpa using he
  simp only [ic26, f_box, cellsOf, evA, if_true, if_false, beq_false, simprocAttr]
  refine AC.run (c53f ts ks ht hk hv _) ?_
  simp only [hb, evA, if_true, if_false, beq_false, simprocAttr]
  exact frz

end Go.Proofs.Ytphdemhopihpnaa.AM

namespace Go.Proofs.Ytphdemhopihpnaa.AM
open Go
set_option linter.unusedVariables false
set_option linter.unusedSimpArgs false

theorem typed_draw {cs : List CV} (h : Typed Try.prog 34 cs) : ∃ ts ks : List Int, avOf Try.prog 34 cs = drw ts ks ∧ ts.length < 2 ^ 63 ∧ ks.length < 2 ^ 63 ∧ (∀ z ∈ ts, (Lit.int .i64 z).wf = true) ∧ ∀ z ∈ ks, (Lit.int .i64 z).wf = true := by
  obtain ⟨L, rfl, hn, hf⟩ := typed_struct Try.underlying34 h
  match L, hn with
  | [a, b], _ =>
    obtain ⟨ts, rfl, h1, h3⟩ := typed_ints Try.underlying23 Try.underlying3 (hf 0 _ a rfl rfl)
    obtain ⟨ks, rfl, h2, h4⟩ := typed_ints Try.underlying23 Try.underlying3 (hf 1 _ b rfl rfl)
    refine ⟨ts, ks, ?_, h1, h2, h3, h4⟩
    simp [avOf, Try.underlying34]

end Go.Proofs.Ytphdemhopihpnaa.AM


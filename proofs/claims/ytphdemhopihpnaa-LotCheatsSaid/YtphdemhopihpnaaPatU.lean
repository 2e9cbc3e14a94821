/- The arguments of a law, by their types. -/
import Derived.Test.YtphdemhopihpnaaPatA
namespace Go.Proofs.Ytphdemhopihpnaa.AM
open Go
set_option linter.unusedVariables false
set_option linter.unusedSimpArgs false

theorem typed_int {P : Program} {t : TypeId} {k : IntKind} {cs : List CV} (ht : P.underlying t = some (.int k)) (h : Typed P t cs) : ∃ n, cs = [.int k n] ∧ (Lit.int k n).wf = true := by
  cases h with
  | int ht' n hw => rw [ht] at ht'; cases ht'; exact ⟨n, rfl, hw⟩
  | bool ht' => rw [ht] at ht'; cases ht'
  | str ht' => rw [ht] at ht'; cases ht'
  | slc ht' => rw [ht] at ht'; cases ht'
  | arr ht' => rw [ht] at ht'; cases ht'
  | struct ht' => rw [ht] at ht'; cases ht'

theorem typed_str {P : Program} {t : TypeId} {cs : List CV} (ht : P.underlying t = some .string) (h : Typed P t cs) : ∃ s : ByteArray, cs = [.str s] ∧ s.size ≤ maxLen := by
  cases h with
  | str ht' s hs => exact ⟨s, rfl, hs⟩
  | bool ht' => rw [ht] at ht'; cases ht'
  | int ht' => rw [ht] at ht'; cases ht'
  | slc ht' => rw [ht] at ht'; cases ht'
  | arr ht' => rw [ht] at ht'; cases ht'
  | struct ht' => rw [ht] at ht'; cases ht'

theorem typed_slc {P : Program} {t e : TypeId} {cs : List CV} (ht : P.underlying t = some (.slice e)) (h : Typed P t cs) : ∃ L : List (List CV), cs = [.rsl L.flatten L.length] ∧ L.length ≤ maxLen ∧ (∀ l ∈ L, l.length = P.cellsOf e) ∧ ∀ l ∈ L, Typed P e l := by
  cases h with
  | slc ht' L hn hl h => rw [ht] at ht'; cases ht'; exact ⟨L, rfl, hn, hl, h⟩
  | bool ht' => rw [ht] at ht'; cases ht'
  | int ht' => rw [ht] at ht'; cases ht'
  | str ht' => rw [ht] at ht'; cases ht'
  | arr ht' => rw [ht] at ht'; cases ht'
  | struct ht' => rw [ht] at ht'; cases ht'

theorem typed_arr {P : Program} {t e : TypeId} {n : Nat} {cs : List CV} (ht : P.underlying t = some (.array n e)) (h : Typed P t cs) : ∃ L : List (List CV), cs = L.flatten ∧ L.length = n ∧ (∀ l ∈ L, l.length = P.cellsOf e) ∧ ∀ l ∈ L, Typed P e l := by
  cases h with
  | arr ht' L hn hl h => rw [ht] at ht'; cases ht'; exact ⟨L, rfl, hn, hl, h⟩
  | bool ht' => rw [ht] at ht'; cases ht'
  | int ht' => rw [ht] at ht'; cases ht'
  | str ht' => rw [ht] at ht'; cases ht'
  | slc ht' => rw [ht] at ht'; cases ht'
  | struct ht' => rw [ht] at ht'; cases ht'

theorem typed_struct {P : Program} {t : TypeId} {fs : Array Field} {cs : List CV} (ht : P.underlying t = some (.struct fs)) (h : Typed P t cs) : ∃ L : List (List CV), cs = L.flatten ∧ L.length = fs.size ∧ ∀ (i : Nat) (f : Field) (l : List CV), fs[i]? = some f → L[i]? = some l → Typed P f.type l := by
  cases h with
  | struct ht' L hn hl h => rw [ht] at ht'; cases ht'; exact ⟨L, rfl, hn, h⟩
  | bool ht' => rw [ht] at ht'; cases ht'
  | int ht' => rw [ht] at ht'; cases ht'
  | str ht' => rw [ht] at ht'; cases ht'
  | slc ht' => rw [ht] at ht'; cases ht'
  | arr ht' => rw [ht] at ht'; cases ht'

theorem ints_of {P : Program} {e : TypeId} {k : IntKind} (he : P.underlying e = some (.int k)) : ∀ L : List (List CV), (∀ l ∈ L, Typed P e l) → ∃ zs : List Int, L.flatten = zs.map (.int k) ∧ L.length = zs.length ∧ ∀ z ∈ zs, (Lit.int k z).wf = true
  | [], _ => ⟨[], rfl, rfl, by simp⟩
  | l :: L, h => by
    obtain ⟨n, rfl, hn⟩ := typed_int he (h l (by simp))
    obtain ⟨zs, h1, h2, h3⟩ := ints_of he L fun l hl => h l (by simp [hl])
    exact ⟨n :: zs, by simp [h1], by simp [h2], by simpa using ⟨hn, h3⟩⟩

theorem typed_ints {P : Program} {t e : TypeId} {k : IntKind} {cs : List CV} (ht : P.underlying t = some (.slice e)) (he : P.underlying e = some (.int k)) (h : Typed P t cs) : ∃ zs : List Int, cs = [.rsl (zs.map (.int k)) zs.length] ∧ zs.length < 2 ^ 63 ∧ ∀ z ∈ zs, (Lit.int k z).wf = true := by
  obtain ⟨L, rfl, hn, _, hl⟩ := typed_slc ht h
  obtain ⟨zs, h1, h2, h3⟩ := ints_of he L hl
  refine ⟨zs, by rw [h1, h2], ?_, h3⟩
  rw [← h2]; unfold maxLen at hn; omega

theorem wf_i64 {n : Int} (h : (Lit.int .i64 n).wf = true) : -9223372036854775808 ≤ n ∧ n ≤ 9223372036854775807 := by
  simp only [Lit.wf, Bool.and_eq_true, decide_eq_true_eq, IntKind.min, IntKind.max, IntKind.bits, IntKind.signed] at h
  simp at h; omega
theorem wf_u8 {n : Int} (h : (Lit.int .u8 n).wf = true) : 0 ≤ n ∧ n ≤ 255 := by
  simp only [Lit.wf, Bool.and_eq_true, decide_eq_true_eq, IntKind.min, IntKind.max, IntKind.bits, IntKind.signed] at h
  simp at h; omega
theorem wf_u32 {n : Int} (h : (Lit.int .u32 n).wf = true) : 0 ≤ n ∧ n ≤ 4294967295 := by
  simp only [Lit.wf, Bool.and_eq_true, decide_eq_true_eq, IntKind.min, IntKind.max, IntKind.bits, IntKind.signed] at h
  simp at h; omega

theorem args_cons {P : Program} {t : TypeId} {ts : List TypeId} {avs : List AV} (h : Args P (t :: ts) avs) : ∃ cs avs', avs = avOf P t cs :: avs' ∧ Typed P t cs ∧ Args P ts avs' := by
  generalize hts : t :: ts = u at h
  cases h with
  | nil => cases hts
  | cons h1 h2 => cases hts; exact ⟨_, _, rfl, h1, h2⟩
theorem args_nil {P : Program} {avs : List AV} (h : Args P [] avs) : avs = [] := by
  generalize hts : ([] : List TypeId) = u at h
  cases h with
  | nil => rfl
  | cons h1 h2 => cases hts

end Go.Proofs.Ytphdemhopihpnaa.AM

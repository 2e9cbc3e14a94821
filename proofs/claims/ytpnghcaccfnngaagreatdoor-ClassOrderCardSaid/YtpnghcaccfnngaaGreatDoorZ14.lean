/- Parts of the proof, joined: ClsSL to ClsC6. -/
import Derived.Shelf.Strings.OnBuilder
import Derived.Shelf.Strings.Split
import Derived.Shelf.Strings.Search3
import Derived.Shelf.Strings.Count
import Derived.Shelf.SlSortCmp.WholeK
import Derived.Shelf.SlGeneric
import Derived.Ground.SlsfProg
import Derived.Ground.Names2Prog
import Derived.Test.YtpnghcaccfnngaaGreatDoorProg
import Derived.Test.YtpnghcaccfnngaaGreatDoorZ13
set_option linter.unusedVariables false
set_option linter.unusedSimpArgs false
set_option linter.unusedSectionVars false
namespace Go.Proofs.YtpnghcaccfnngaaGreatDoor.AM
open Go Go.Shelf
def sortL_ren : Go.Shelf.Ren := ⟨fun | 6 => 95 | 15 => 116 | 14 => 115 | 28 => 138 | 29 => 139 | 20 => 130 | 21 => 131 | 22 => 132 | 23 => 133 | 24 => 134 | 25 => 135 | 26 => 136 | 27 => 137 | 46 => 146 | 47 => 147 | 48 => 148 | 49 => 149 | 50 => 150 | 57 => 155 | n => n, fun | 22 => 39 | 24 => 60 | 25 => 136 | 3 => 3 | 39 => 158 | 0 => 0 | 53 => 175 | 55 => 177 | 4 => 4 | 46 => 168 | 45 => 167 | 50 => 172 | 5 => 5 | 9 => 9 | 66 => 183 | 70 => 187 | 76 => 193 | 77 => 194 | n => n, fun | n => n⟩
theorem sortL : Go.Proofs.SlLaysF0.n6 Tryz.prog sortL_ren := {
 mixed := by kernel_rfl
 f6 := ⟨Tryz.f95.name, by decide, Tryz.func95.trans (congrArg some (by kernel_rfl))⟩
 f14 := ⟨Tryz.f115.name, by decide, Tryz.func115.trans (congrArg some (by kernel_rfl))⟩
 f15 := Tryz.func116.trans (congrArg some (by kernel_rfl))
 f20 := ⟨Tryz.f130.name, by decide, Tryz.func130.trans (congrArg some (by kernel_rfl))⟩
 f21 := ⟨Tryz.f131.name, by decide, Tryz.func131.trans (congrArg some (by kernel_rfl))⟩
 f22 := ⟨Tryz.f132.name, by decide, Tryz.func132.trans (congrArg some (by kernel_rfl))⟩
 f23 := ⟨Tryz.f133.name, by decide, Tryz.func133.trans (congrArg some (by kernel_rfl))⟩
 f24 := ⟨Tryz.f134.name, by decide, Tryz.func134.trans (congrArg some (by kernel_rfl))⟩
 f25 := ⟨Tryz.f135.name, by decide, Tryz.func135.trans (congrArg some (by kernel_rfl))⟩
 f26 := ⟨Tryz.f136.name, by decide, Tryz.func136.trans (congrArg some (by kernel_rfl))⟩
 f27 := ⟨Tryz.f137.name, by decide, Tryz.func137.trans (congrArg some (by kernel_rfl))⟩
 f28 := Tryz.func138.trans (congrArg some (by kernel_rfl))
 f29 := Tryz.func139.trans (congrArg some (by kernel_rfl))
 f46 := ⟨Tryz.f146.name, by decide, Tryz.func146.trans (congrArg some (by kernel_rfl))⟩
 f47 := Tryz.func147.trans (congrArg some (by kernel_rfl))
 f48 := Tryz.func148.trans (congrArg some (by kernel_rfl))
 f49 := ⟨Tryz.f149.name, by decide, Tryz.func149.trans (congrArg some (by kernel_rfl))⟩
 f50 := ⟨Tryz.f150.name, by decide, Tryz.func150.trans (congrArg some (by kernel_rfl))⟩
 f57 := ⟨Tryz.f155.name, by decide, Tryz.func155.trans (congrArg some (by kernel_rfl))⟩
 t0 := Tryz.underlying0
 a0 := Tryz.isAgg0
 z0 := Tryz.sizeOf0
 v0 := Tryz.zeroValue0
 t3 := Tryz.underlying3
 a3 := Tryz.isAgg3
 z3 := Tryz.sizeOf3
 v3 := Tryz.zeroValue3
 t4 := Tryz.underlying4
 a4 := Tryz.isAgg4
 z4 := Tryz.sizeOf4
 v4 := Tryz.zeroValue4
 t5 := Tryz.underlying5
 a5 := Tryz.isAgg5
 z5 := Tryz.sizeOf5
 v5 := Tryz.zeroValue5
 t9 := Tryz.underlying9
 a9 := Tryz.isAgg9
 z9 := Tryz.sizeOf9
 v9 := Tryz.zeroValue9
 t22 := Tryz.underlying39
 a22 := Tryz.isAgg39
 z22 := Tryz.sizeOf39
 v22 := Tryz.zeroValue39
 t25 := Tryz.underlying136
 a25 := Tryz.isAgg136
 z25 := Tryz.sizeOf136
 v25 := Tryz.zeroValue136
 t39 := Tryz.underlying158
 a39 := Tryz.isAgg158
 z39 := Tryz.sizeOf158
 v39 := Tryz.zeroValue158
 t45 := Tryz.underlying167
 a45 := Tryz.isAgg167
 z45 := Tryz.sizeOf167
 v45 := Tryz.zeroValue167
 t46 := Tryz.underlying168
 a46 := Tryz.isAgg168
 z46 := Tryz.sizeOf168
 v46 := Tryz.zeroValue168
 t50 := Tryz.underlying172
 a50 := Tryz.isAgg172
 z50 := Tryz.sizeOf172
 v50 := Tryz.zeroValue172
 t53 := Tryz.underlying175
 a53 := Tryz.isAgg175
 z53 := Tryz.sizeOf175
 v53 := Tryz.zeroValue175
 t55 := Tryz.underlying177
 a55 := Tryz.isAgg177
 z55 := Tryz.sizeOf177
 v55 := Tryz.zeroValue177
 t66 := Tryz.underlying183
 a66 := Tryz.isAgg183
 z66 := Tryz.sizeOf183
 v66 := Tryz.zeroValue183
 t70 := Tryz.underlying187
 a70 := Tryz.isAgg187
 z70 := Tryz.sizeOf187
 v70 := Tryz.zeroValue187
 t76 := Tryz.underlying193
 a76 := Tryz.isAgg193
 z76 := Tryz.sizeOf193
 v76 := Tryz.zeroValue193
 t77 := Tryz.underlying194
 a77 := Tryz.isAgg194
 z77 := Tryz.sizeOf194
 v77 := Tryz.zeroValue194 }
def joinL_ren : Go.Shelf.Ren := ⟨fun | 156 => 73 | 165 => 100 | 166 => 101 | 169 => 102 | 240 => 119 | 241 => 120 | 276 => 140 | 277 => 141 | n => n, fun | 31 => 36 | 9 => 9 | 3 => 3 | 4 => 4 | 0 => 0 | 20 => 20 | 72 => 140 | 76 => 144 | 70 => 138 | 37 => 74 | 75 => 143 | 127 => 159 | 164 => 178 | 5 => 5 | 80 => 146 | n => n, fun | n => n⟩
theorem joinL : Go.Proofs.Lays.n156 Tryz.prog joinL_ren := {
 mixed := by kernel_rfl
 f156 := Tryz.func73.trans (congrArg some (by kernel_rfl))
 f165 := Tryz.func100.trans (congrArg some (by kernel_rfl))
 f166 := Tryz.func101.trans (congrArg some (by kernel_rfl))
 f169 := Tryz.func102.trans (congrArg some (by kernel_rfl))
 f240 := Tryz.func119.trans (congrArg some (by kernel_rfl))
 f241 := Tryz.func120.trans (congrArg some (by kernel_rfl))
 f276 := Tryz.func140.trans (congrArg some (by kernel_rfl))
 f277 := Tryz.func141.trans (congrArg some (by kernel_rfl))
 t0 := Tryz.underlying0
 a0 := Tryz.isAgg0
 z0 := Tryz.sizeOf0
 v0 := Tryz.zeroValue0
 t3 := Tryz.underlying3
 a3 := Tryz.isAgg3
 z3 := Tryz.sizeOf3
 v3 := Tryz.zeroValue3
 t4 := Tryz.underlying4
 a4 := Tryz.isAgg4
 z4 := Tryz.sizeOf4
 v4 := Tryz.zeroValue4
 t9 := Tryz.underlying9
 a9 := Tryz.isAgg9
 z9 := Tryz.sizeOf9
 v9 := Tryz.zeroValue9
 t20 := Tryz.underlying20
 a20 := Tryz.isAgg20
 z20 := Tryz.sizeOf20
 v20 := Tryz.zeroValue20
 t31 := Tryz.underlying36
 a31 := Tryz.isAgg36
 z31 := Tryz.sizeOf36
 v31 := Tryz.zeroValue36
 t37 := Tryz.underlying74
 a37 := Tryz.isAgg74
 z37 := Tryz.sizeOf74
 v37 := Tryz.zeroValue74
 t70 := Tryz.underlying138
 a70 := Tryz.isAgg138
 z70 := Tryz.sizeOf138
 v70 := Tryz.zeroValue138
 t72 := Tryz.underlying140
 a72 := Tryz.isAgg140
 z72 := Tryz.sizeOf140
 v72 := Tryz.zeroValue140
 t75 := Tryz.underlying143
 a75 := Tryz.isAgg143
 z75 := Tryz.sizeOf143
 v75 := Tryz.zeroValue143
 t76 := Tryz.underlying144
 a76 := Tryz.isAgg144
 z76 := Tryz.sizeOf144
 v76 := Tryz.zeroValue144
 t127 := Tryz.underlying159
 a127 := Tryz.isAgg159
 z127 := Tryz.sizeOf159
 v127 := Tryz.zeroValue159
 t164 := Tryz.underlying178
 a164 := Tryz.isAgg178
 z164 := Tryz.sizeOf178
 v164 := Tryz.zeroValue178 }
theorem joinX : Go.Proofs.Builder.Extra Tryz.prog joinL_ren := {
 sizeBuilder := by kernel_rfl
 liesBuilder := by kernel_rfl
 t5 := Tryz.underlying5
 a5 := Tryz.isAgg5
 z5 := Tryz.sizeOf5
 v5 := Tryz.zeroValue5
 infoByte := by kernel_rfl
 cellsByte := by kernel_rfl
 sizeByte := by kernel_rfl
 neB5 := by decide }
def idxL_ren : Go.Shelf.Ren := ⟨fun | 143 => 127 | 219 => 143 | 217 => 151 | 225 => 152 | 224 => 153 | 267 => 154 | 266 => 156 | 314 => 157 | n => n, fun | 9 => 9 | 3 => 3 | 4 => 4 | 5 => 5 | 46 => 158 | 146 => 196 | 51 => 175 | n => n, fun | 1 => 0 | n => n⟩
theorem idxL : Go.Proofs.Lays.n143 Tryz.prog idxL_ren := {
 mixed := by kernel_rfl
 f143 := Tryz.func127.trans (congrArg some (by kernel_rfl))
 f217 := Tryz.func151.trans (congrArg some (by kernel_rfl))
 f219 := Tryz.func143.trans (congrArg some (by kernel_rfl))
 f224 := Tryz.func153.trans (congrArg some (by kernel_rfl))
 f225 := Tryz.func152.trans (congrArg some (by kernel_rfl))
 f266 := Tryz.func156.trans (congrArg some (by kernel_rfl))
 f267 := Tryz.func154.trans (congrArg some (by kernel_rfl))
 f314 := Tryz.func157.trans (congrArg some (by kernel_rfl))
 t3 := Tryz.underlying3
 a3 := Tryz.isAgg3
 z3 := Tryz.sizeOf3
 v3 := Tryz.zeroValue3
 t4 := Tryz.underlying4
 a4 := Tryz.isAgg4
 z4 := Tryz.sizeOf4
 v4 := Tryz.zeroValue4
 t5 := Tryz.underlying5
 a5 := Tryz.isAgg5
 z5 := Tryz.sizeOf5
 v5 := Tryz.zeroValue5
 t9 := Tryz.underlying9
 a9 := Tryz.isAgg9
 z9 := Tryz.sizeOf9
 v9 := Tryz.zeroValue9
 t46 := Tryz.underlying158
 a46 := Tryz.isAgg158
 z46 := Tryz.sizeOf158
 v46 := Tryz.zeroValue158
 t51 := Tryz.underlying175
 a51 := Tryz.isAgg175
 z51 := Tryz.sizeOf175
 v51 := Tryz.zeroValue175
 t146 := Tryz.underlying196
 a146 := Tryz.isAgg196
 z146 := Tryz.sizeOf196
 v146 := Tryz.zeroValue196
 g1 := by kernel_rfl }
def genL_ren : Go.Shelf.Ren := ⟨fun | 221 => 110 | 268 => 128 | 138 => 129 | 143 => 127 | 195 => 144 | 197 => 126 | 218 => 145 | 219 => 143 | 260 => 142 | 217 => 151 | 225 => 152 | 224 => 153 | 267 => 154 | 266 => 156 | 314 => 157 | n => n, fun | 9 => 9 | 3 => 3 | 31 => 36 | 4 => 4 | 0 => 0 | 105 => 162 | 21 => 21 | 5 => 5 | 46 => 158 | 119 => 189 | 139 => 192 | 138 => 191 | 146 => 196 | 51 => 175 | n => n, fun | 1 => 0 | 3 => 1 | 4 => 2 | n => n⟩
theorem genL : Go.Proofs.Lays.n221 Tryz.prog genL_ren := {
 mixed := by kernel_rfl
 f138 := Tryz.func129.trans (congrArg some (by kernel_rfl))
 f143 := Tryz.func127.trans (congrArg some (by kernel_rfl))
 f195 := Tryz.func144.trans (congrArg some (by kernel_rfl))
 f197 := Tryz.func126.trans (congrArg some (by kernel_rfl))
 f217 := Tryz.func151.trans (congrArg some (by kernel_rfl))
 f218 := Tryz.func145.trans (congrArg some (by kernel_rfl))
 f219 := Tryz.func143.trans (congrArg some (by kernel_rfl))
 f221 := Tryz.func110.trans (congrArg some (by kernel_rfl))
 f224 := Tryz.func153.trans (congrArg some (by kernel_rfl))
 f225 := Tryz.func152.trans (congrArg some (by kernel_rfl))
 f260 := Tryz.func142.trans (congrArg some (by kernel_rfl))
 f266 := Tryz.func156.trans (congrArg some (by kernel_rfl))
 f267 := Tryz.func154.trans (congrArg some (by kernel_rfl))
 f268 := Tryz.func128.trans (congrArg some (by kernel_rfl))
 f314 := Tryz.func157.trans (congrArg some (by kernel_rfl))
 t0 := Tryz.underlying0
 a0 := Tryz.isAgg0
 z0 := Tryz.sizeOf0
 v0 := Tryz.zeroValue0
 t3 := Tryz.underlying3
 a3 := Tryz.isAgg3
 z3 := Tryz.sizeOf3
 v3 := Tryz.zeroValue3
 t4 := Tryz.underlying4
 a4 := Tryz.isAgg4
 z4 := Tryz.sizeOf4
 v4 := Tryz.zeroValue4
 t5 := Tryz.underlying5
 a5 := Tryz.isAgg5
 z5 := Tryz.sizeOf5
 v5 := Tryz.zeroValue5
 t9 := Tryz.underlying9
 a9 := Tryz.isAgg9
 z9 := Tryz.sizeOf9
 v9 := Tryz.zeroValue9
 t21 := Tryz.underlying21
 a21 := Tryz.isAgg21
 z21 := Tryz.sizeOf21
 v21 := Tryz.zeroValue21
 t31 := Tryz.underlying36
 a31 := Tryz.isAgg36
 z31 := Tryz.sizeOf36
 v31 := Tryz.zeroValue36
 t46 := Tryz.underlying158
 a46 := Tryz.isAgg158
 z46 := Tryz.sizeOf158
 v46 := Tryz.zeroValue158
 t51 := Tryz.underlying175
 a51 := Tryz.isAgg175
 z51 := Tryz.sizeOf175
 v51 := Tryz.zeroValue175
 t105 := Tryz.underlying162
 a105 := Tryz.isAgg162
 z105 := Tryz.sizeOf162
 v105 := Tryz.zeroValue162
 t119 := Tryz.underlying189
 a119 := Tryz.isAgg189
 z119 := Tryz.sizeOf189
 t138 := Tryz.underlying191
 a138 := Tryz.isAgg191
 z138 := Tryz.sizeOf191
 v138 := Tryz.zeroValue191
 t139 := Tryz.underlying192
 a139 := Tryz.isAgg192
 z139 := Tryz.sizeOf192
 v139 := Tryz.zeroValue192
 t146 := Tryz.underlying196
 a146 := Tryz.isAgg196
 z146 := Tryz.sizeOf196
 v146 := Tryz.zeroValue196
 g1 := by kernel_rfl
 g3 := by kernel_rfl
 g4 := by kernel_rfl }
end Go.Proofs.YtpnghcaccfnngaaGreatDoor.AM
namespace Go.Proofs.YtpnghcaccfnngaaGreatDoor.AM
variable [Dr]
open Go
theorem c88 (z lo hi : Int) (σ : List AObj) : AC Tryz.prog 88 [.i z, .cv (.rp [.int .i64 lo] 0), .cv (.rp [.int .i64 hi] 0)] σ fun r τ => r = .b (decide (z < lo) || decide (z > hi)) ∧ τ = σ := by
 refine AC_FE (fok88 true) (Nat.le_of_ble_eq_true rfl) ?_
 by_cases h : z < lo <;> simp only [ic88, h, evA, if_true, if_false, beq_false, simprocAttr]
def idxF (p : Int → Bool) (zs : List Int) : Int := match zs.findIdx? p with | some i => i | none => -1
theorem idxF_some {p : Int → Bool} {zs : List Int} {i : Nat} (h : i < zs.length) (hall : ∀ j, j < i → p (zs[j]?.getD 0) = false) (hp : p (zs[i]?.getD 0) = true) : idxF p zs = i := by
 have : zs.findIdx? p = some i := by
  rw [List.findIdx?_eq_some_iff_getElem]
  refine ⟨h, by simpa [h] using hp, fun j hj => ?_⟩
  have := hall j hj
  simpa [show j < zs.length by omega] using this
 simp [idxF, this]
theorem idxF_none {p : Int → Bool} {zs : List Int} (hall : ∀ j, j < zs.length → p (zs[j]?.getD 0) = false) : idxF p zs = -1 := by
 have : zs.findIdx? p = none := by
  rw [List.findIdx?_eq_none_iff]
  intro x hx
  obtain ⟨j, hj, rfl⟩ := List.mem_iff_getElem.1 hx
  have := hall j hj
  simpa [hj] using this
 simp [idxF, this]
theorem idxF_ge (p : Int → Bool) (zs : List Int) : decide (idxF p zs ≥ 0) = zs.any p := by
 unfold idxF
 cases h : zs.findIdx? p with
 | none =>
  rw [List.findIdx?_eq_none_iff] at h
  simpa using h
 | some i =>
  rw [List.findIdx?_eq_some_iff_getElem] at h
  obtain ⟨hi, hp, _⟩ := h
  have : zs.any p = true := List.any_eq_true.2 ⟨zs[i], List.getElem_mem hi, hp⟩
  rw [this]; simp
theorem c111 (zs : List Int) (fv : AV) (p : Int → Bool) (hz : zs.length < 2 ^ 63) (hf : ∀ z σ, CallV Tryz.prog fv [.i z] σ fun r τ => r = .b (p z) ∧ τ = σ) (σ : List AObj) :
  AC Tryz.prog 111 [ints zs, fv] σ fun r τ => r = .i (idxF p zs) ∧ τ = σ := by
 refine AC_FE (fok111 true) (Nat.le_of_ble_eq_true rfl) ?_
 simp only [ic111, evA, if_true, if_false, beq_false, simprocAttr]
 refine IL_for zs.length (fun i s => (∀ j, j < i → p (zs[j]?.getD 0) = false) ∧ ∃ v3 v6 v7, s = ⟨[ints zs, fv, .i 0, v3, .i zs.length, .i i, v6, v7], σ⟩) ?_ 0 (Nat.zero_le _) ⟨by omega, _, _, _, rfl⟩
 rintro i s hi ⟨hall, v3, v6, v7, rfl⟩
 by_cases h : i < zs.length
 ·simp only [ic111l0, Int.ofNat_lt, h, evA, if_true, if_false, beq_false, simprocAttr]
  refine (hf _ _).run ?_
  cases hp : p (zs[i]?.getD 0)
  ·simp only [evA, if_true, if_false, beq_false, simprocAttr]
   refine kFor_go (by first | trivial | omega) ⟨fun j hj => ?_, _, _, _, by rw [wrap_in (by omega)]; rfl⟩
   rcases Nat.lt_succ_iff_lt_or_eq.1 hj with hj | rfl
   ·exact hall j hj
   ·exact hp
  ·simp only [evA, if_true, if_false, beq_false, simprocAttr]
   exact (idxF_some h hall hp).symm
 ·simp only [ic111l0, Int.ofNat_lt, h, evA, if_true, if_false, beq_false, simprocAttr]
  have : i = zs.length := by omega
  subst this
  exact (idxF_none hall).symm
theorem c87 (zs : List Int) (fv : AV) (p : Int → Bool) (hz : zs.length < 2 ^ 63) (hf : ∀ z σ, CallV Tryz.prog fv [.i z] σ fun r τ => r = .b (p z) ∧ τ = σ) : PC Tryz.prog 87 [ints zs, fv] (.b (zs.any p)) := by
 refine ⟨AC_FE (fok87 true) (Nat.le_of_ble_eq_true rfl) ?_, rfl⟩
 simp only [ic87, evA, if_true, if_false, beq_false, simprocAttr]
 refine (c111 zs fv p hz hf _).run ?_
 simp only [evA, if_true, if_false, beq_false, simprocAttr, idxF_ge]
 exact frz
theorem c56 (lo hi : Int) (zs : List Int) (hz : zs.length < 2 ^ 63) : PC Tryz.prog 56 [.i lo, .i hi, ints zs] (.b (outF lo hi zs)) := by
 refine ⟨AC_FE (fok56 true) (Nat.le_of_ble_eq_true rfl) ?_, rfl⟩
 simp only [ic56, evA, if_true, if_false, beq_false, simprocAttr]
 refine (c87 zs (.fn (.func 88) [.cv (.rp [.int .i64 lo] 0), .cv (.rp [.int .i64 hi] 0)]) (fun z => decide (z < lo) || decide (z > hi)) hz (fun z σ => c88 z lo hi σ)).call frz ?_
 exact frz
def leapB (y : Int) : Bool := (y.tmod 4 == 0) && ((y.tmod 100 != 0) || (y.tmod 400 == 0))
def lenL (y : Int) : List Int := [31, if leapB y then 29 else 28, 31, 30, 31, 30, 31, 31, 30, 31, 30, 31]
theorem c57 (y : Int) : PC Tryz.prog 57 [.i y] (.agg ((lenL y).map AV.i)) := by
 refine ⟨AC_FE (fok57 true) (Nat.le_of_ble_eq_true rfl) ?_, rfl⟩
 have hw : IntKind.i64.wrap (28 + 1) = 29 := by decide
 cases h4 : (y.tmod 4 == 0) with
 | false =>
  have hl : lenL y = [31, 28, 31, 30, 31, 30, 31, 31, 30, 31, 30, 31] := by simp [lenL, leapB, h4]
  rw [hl]
  simp only [ic57, h4, f_iaA, evA, if_true, if_false, beq_false, simprocAttr]
  exact frz
 | true =>
  cases h1 : (y.tmod 100 != 0) with
  | true =>
   have hl : lenL y = [31, 29, 31, 30, 31, 30, 31, 31, 30, 31, 30, 31] := by simp only [lenL, leapB, h4, h1]; rfl
   rw [hl]
   simp only [ic57, h4, h1, hw, f_iaA, evA, if_true, if_false, beq_false, simprocAttr]
   exact frz
  | false =>
   cases h0 : (y.tmod 400 == 0) with
   | true =>
    have hl : lenL y = [31, 29, 31, 30, 31, 30, 31, 31, 30, 31, 30, 31] := by simp only [lenL, leapB, h4, h1, h0]; rfl
    rw [hl]
    simp only [ic57, h4, h1, h0, hw, f_iaA, evA, if_true, if_false, beq_false, simprocAttr]
    exact frz
   | false =>
    have hl : lenL y = [31, 28, 31, 30, 31, 30, 31, 31, 30, 31, 30, 31] := by simp only [lenL, leapB, h4, h1, h0]; rfl
    rw [hl]
    simp only [ic57, h4, h1, h0, f_iaA, evA, if_true, if_false, beq_false, simprocAttr]
    exact frz
def yearsF (n : Int) : Int := 365 * n + (n + 3) / 4 - (n - 1) / 100
theorem c58 (y n : Int) (hy : y = 2000 + n) (h0 : 0 ≤ n) (h1 : n ≤ 400) : PC Tryz.prog 58 [.i y] (.i (if n = 0 then 0 else yearsF n)) := by
 refine ⟨AC_FE (fok58 true) (Nat.le_of_ble_eq_true rfl) ?_, rfl⟩
 have hs : IntKind.i64.wrap (y - 2000) = n := by rw [wrap_in (by omega)]; omega
 by_cases hz : n = 0
 ·have hb : (n == 0) = true := by simpa using hz
  rw [if_pos hz]
  simp only [ic58, hs, hb, evA, if_true, if_false, beq_false, simprocAttr]
  exact frz
 ·have hb : (n == 0) = false := by simpa using hz
  have hv : IntKind.i64.wrap (IntKind.i64.wrap (IntKind.i64.wrap (365 * n) + IntKind.i64.wrap ((IntKind.i64.wrap (n + 3)).tdiv 4)) - IntKind.i64.wrap ((IntKind.i64.wrap (n - 1)).tdiv 100)) = yearsF n := by
   unfold yearsF
   rw [wrap_in (n := 365 * n) (by omega), wrap_in (n := n + 3) (by omega), wrap_in (n := n - 1) (by omega), Int.tdiv_eq_ediv_of_nonneg (by omega), Int.tdiv_eq_ediv_of_nonneg (by omega), wrap_in (n := (n + 3) / 4) (by omega), wrap_in (n := (n - 1) / 100) (by omega), wrap_in (n := 365 * n + (n + 3) / 4) (by omega), wrap_in (by omega)]
  rw [if_neg hz]
  simp only [ic58, hs, hb, hv, evA, if_true, if_false, beq_false, simprocAttr]
  exact frz
theorem c59 (n lo hi : Int) : PC Tryz.prog 59 [.i n, .i lo, .i hi] (.b (decide (n ≥ lo) && decide (n ≤ hi))) := by
 refine ⟨AC_FE (fok59 true) (Nat.le_of_ble_eq_true rfl) ?_, rfl⟩
 by_cases h : n ≥ lo <;> simp only [ic59, h, evA, if_true, if_false, beq_false, simprocAttr] <;> exact frz
def leapD (y : Int) : Bool := (y.tmod 400 == 0) || ((y.tmod 4 == 0) && (y.tmod 100 != 0))
theorem leap_eq (y : Int) : leapD y = leapB y := by
 have h1 : y.tmod 400 = 0 → y.tmod 4 = 0 := fun h => by
  rw [← Int.dvd_iff_tmod_eq_zero] at h ⊢
  exact Int.dvd_trans (by decide) h
 unfold leapD leapB
 cases h4 : (y.tmod 4 == 0) <;> cases h400 : (y.tmod 400 == 0) <;> cases h100 : (y.tmod 100 != 0) <;> simp_all
def longF (y m : Int) : Int := if m = 4 ∨ m = 6 ∨ m = 9 ∨ m = 11 then 30 else if m ≠ 2 then 31 else if leapD y then 29 else 28
theorem hmix : Tryz.prog.follows .mixedOrders = true := Checked.mixed Tryz.checked
theorem lenL_len (y : Int) : (lenL y).length = 12 := by simp [lenL]
def befM (y : Int) (m : Int) : Nat → Int
 | 0 => 0
 | k + 1 => befM y m k + if ((k : Int) + 1 < m) then (lenL y)[k]?.getD 0 else 0
theorem lenL_ran (y : Int) (k : Nat) : 0 ≤ (lenL y)[k]?.getD 0 ∧ (lenL y)[k]?.getD 0 ≤ 31 := by
 match k with
 | 0 | 2 | 3 | 4 | 5 | 6 | 7 | 8 | 9 | 10 | 11 => simp [lenL]
 | 1 => simp only [lenL, List.getElem?_cons_succ, List.getElem?_cons_zero, Option.getD_some]; split <;> omega
 | k + 12 => simp [lenL]
theorem befM_ran (y m : Int) : ∀ k, 0 ≤ befM y m k ∧ befM y m k ≤ 31 * (k : Int)
 | 0 => by simp [befM]
 | k + 1 => by
  have ih := befM_ran y m k
  have := lenL_ran y k
  unfold befM
  split <;> omega
def dayT (y m d : Int) : Int := (if y - 2000 = 0 then 0 else yearsF (y - 2000)) + d - 1 + befM y m 12
def dayV (y m d : Int) : AV :=
 if inB m 1 12 = false then .tup [.i 0, .i 6]
 else if inB d 1 ((lenL y)[(m - 1).toNat]?.getD 0) = false then .tup [.i 0, .i 6]
 else if inB y 2000 2200 = false then .tup [.i 0, .i 7]
 else if dayT y m d > 40000 then .tup [.i 0, .i 7] else .tup [.i (dayT y m d), .i 0]
theorem c18 (y m d : Int) : PC Tryz.prog 18 [.agg [.i y, .i m, .i d]] (dayV y m d) := by
 refine ⟨AC_FE (fok18 true) (Nat.le_of_ble_eq_true rfl) ?_, by unfold dayV; repeat (split <;> try rfl)⟩
 unfold dayV
 cases h1 : inB m 1 12 with
 | false =>
  rw [if_pos rfl]
  simp only [ic18, f_box, cellsOf, evA, if_true, if_false, beq_false, simprocAttr]
  refine DW_s [3, 7, 15] [(6, 14), (7, 14), (9, 14)] hmix (by kernel_rfl) rfl ?_
  simp only [evA, if_true, if_false, beq_false, simprocAttr]
  refine kK_keep ((c56 1 12 [m] (by simp)).call frz ⟨rfl, rfl⟩) rfl ?_
  rw [outF_one, h1]
  simp only [Bool.not_false, evA, if_true, if_false, beq_false, simprocAttr]
  exact frz
 | true =>
 rw [if_neg (by decide)]
 rw [inB_iff] at h1
 obtain ⟨k, hk⟩ : ∃ k : Nat, m - 1 = (k : Int) := ⟨(m - 1).toNat, by omega⟩
 have hwm : IntKind.i64.wrap (m - 1) = (k : Int) := by rw [wrap_in (by omega)]; exact hk
 have hk12 : k < 12 := by omega
 have hld : ((lenL y).map AV.i)[k * 1]? = some (.i ((lenL y)[k]?.getD 0)) := by
  have := lenL_len y
  rw [Nat.mul_one, List.getElem?_map, List.getElem?_eq_getElem (by omega)]; rfl
 rw [hk, Int.toNat_natCast]
 have hix : ∀ σ, f_ixA 12 1 1 false [.agg ((lenL y).map AV.i), .cv (.int .i64 k)] σ = some (.i ((lenL y)[k]?.getD 0), σ) := fun σ => by
  simp only [f_ixA, Int.toNat_natCast, hld]
  rw [if_pos (by omega)]; rfl
 have h57 := c57 y
 have h1' : (!inB m 1 12) = false := by rw [inB_iff.2 h1]; rfl
 cases h2 : inB d 1 ((lenL y)[k]?.getD 0) with
 | false =>
  rw [if_pos rfl]
  simp only [ic18, f_box, cellsOf, evA, if_true, if_false, beq_false, simprocAttr]
  refine DW_s [3, 7, 15] [(6, 14), (7, 14), (9, 14)] hmix (by kernel_rfl) rfl ?_
  simp only [evA, if_true, if_false, beq_false, simprocAttr]
  refine kK_keep ((c56 1 12 [m] (by simp)).call frz ⟨rfl, rfl⟩) rfl ?_
  rw [outF_one, h1']
  simp only [evA, if_true, if_false, beq_false, simprocAttr]
  refine kK_keep (h57.call frz ⟨rfl, rfl⟩) rfl ?_
  simp only [hwm, hix, evA, if_true, if_false, beq_false, simprocAttr]
  refine kK_keep ((c56 1 ((lenL y)[k]?.getD 0) [d] (by simp)).call frz ⟨rfl, rfl⟩) rfl ?_
  rw [outF_one, h2]
  simp only [Bool.not_false, evA, if_true, if_false, beq_false, simprocAttr]
  exact frz
 | true =>
 rw [if_neg (by decide)]
 have h2' : (!inB d 1 ((lenL y)[k]?.getD 0)) = false := by rw [h2]; rfl
 have start : ∀ {Q : Exit → St → Prop}, IS Tryz.prog ⟨vs18, 54, none, ([] : List AObj).length⟩ ic18 ⟨initVals vs18 [.agg [.i y, .i m, .i d]], []⟩ Q .mk .mk → IS Tryz.prog ⟨vs18, 54, none, ([] : List AObj).length⟩ ic18 ⟨initVals vs18 [.agg [.i y, .i m, .i d]], []⟩ Q .mk .mk := fun h => h
 have hl57 := lenL_ran y k
 rw [inB_iff] at h2
 cases h3 : inB y 2000 2200 with
 | false =>
  rw [if_pos rfl]
  simp only [ic18, f_box, cellsOf, evA, if_true, if_false, beq_false, simprocAttr]
  refine DW_s [3, 7, 15] [(6, 14), (7, 14), (9, 14)] hmix (by kernel_rfl) rfl ?_
  simp only [evA, if_true, if_false, beq_false, simprocAttr]
  refine kK_keep ((c56 1 12 [m] (by simp)).call frz ⟨rfl, rfl⟩) rfl ?_
  rw [outF_one, h1']
  simp only [evA, if_true, if_false, beq_false, simprocAttr]
  refine kK_keep (h57.call frz ⟨rfl, rfl⟩) rfl ?_
  simp only [hwm, hix, evA, if_true, if_false, beq_false, simprocAttr]
  refine kK_keep ((c56 1 ((lenL y)[k]?.getD 0) [d] (by simp)).call frz ⟨rfl, rfl⟩) rfl ?_
  rw [outF_one, h2']
  simp only [evA, if_true, if_false, beq_false, simprocAttr]
  refine (c56 2000 2200 [y] (by simp)).call frz ?_
  rw [outF_one, h3]
  simp only [Bool.not_false, evA, if_true, if_false, beq_false, simprocAttr]
  exact frz
 | true =>
 rw [if_neg (by decide)]
 have h3' : (!inB y 2000 2200) = false := by rw [h3]; rfl
 rw [inB_iff] at h3
 have h58 := c58 y (y - 2000) (by omega) (by omega) (by omega)
 have hB := befM_ran y m
 have hyr : 0 ≤ (if y - 2000 = 0 then 0 else yearsF (y - 2000)) ∧ (if y - 2000 = 0 then 0 else yearsF (y - 2000)) ≤ 100000 := by
  unfold yearsF; split <;> omega
 have hT : dayT y m d = (if y - 2000 = 0 then 0 else yearsF (y - 2000)) + d - 1 + befM y m 12 := rfl
 generalize (if y - 2000 = 0 then 0 else yearsF (y - 2000)) = Y at h58 hyr hT
 have hw1 : IntKind.i64.wrap (IntKind.i64.wrap (Y + d) - 1) = Y + d - 1 := by rw [wrap_in (n := Y + d) (by omega), wrap_in (by omega)]
 simp only [ic18, f_box, cellsOf, evA, if_true, if_false, beq_false, simprocAttr]
 refine DW_s [3, 7, 15] [(6, 14), (7, 14), (9, 14)] hmix (by kernel_rfl) rfl ?_
 simp only [evA, if_true, if_false, beq_false, simprocAttr]
 refine kK_keep ((c56 1 12 [m] (by simp)).call frz ⟨rfl, rfl⟩) rfl ?_
 rw [outF_one, h1']
 simp only [evA, if_true, if_false, beq_false, simprocAttr]
 refine kK_keep (h57.call frz ⟨rfl, rfl⟩) rfl ?_
 simp only [hwm, hix, evA, if_true, if_false, beq_false, simprocAttr]
 refine kK_keep ((c56 1 ((lenL y)[k]?.getD 0) [d] (by simp)).call frz ⟨rfl, rfl⟩) rfl ?_
 rw [outF_one, h2']
 simp only [evA, if_true, if_false, beq_false, simprocAttr]
 refine (c56 2000 2200 [y] (by simp)).call frz ?_
 rw [outF_one, h3']
 simp only [evA, if_true, if_false, beq_false, simprocAttr]
 refine DW_s [2] [] hmix (by kernel_rfl) rfl ?_
 simp only [evA, if_true, if_false, beq_false, simprocAttr]
 refine kK_keep (h58.call frz ⟨rfl, rfl⟩) rfl ?_
 simp only [hw1, evA, if_true, if_false, beq_false, simprocAttr]
 refine h57.call frz ?_
 simp only [evA, if_true, if_false, beq_false, simprocAttr]
 refine IL_for 12 (fun i s => ∃ v5 v6 v11 v12, s = ⟨[.agg [.i y, .i m, .i d], .ptr 0 0, .i 0, .i 0, .i (Y + d - 1 + befM y m i), v5, v6, .b false, .b false, .agg ((lenL y).map AV.i), .i i, v11, v12, .undef], [.cells [.i y, .i m, .i d], .cells [.i m], .cells [.i d], .cells [.i y]]⟩) ?_ 0 (Nat.zero_le _) ⟨_, _, _, _, by rw [show befM y m 0 = 0 from rfl, Int.add_zero]; rfl⟩
 rintro i s hi ⟨v5, v6, v11, v12, rfl⟩
 by_cases h : i < 12
 ·have hlt : decide ((i : Int) < 12) = true := decide_eq_true (by omega)
  have hldi : ((lenL y).map AV.i)[i * 1]? = some (.i ((lenL y)[i]?.getD 0)) := by
   have := lenL_len y
   rw [Nat.mul_one, List.getElem?_map, List.getElem?_eq_getElem (by omega)]; rfl
  have hixi : ∀ σ, f_ixA 12 1 1 false [.agg ((lenL y).map AV.i), .cv (.int .i64 i)] σ = some (.i ((lenL y)[i]?.getD 0), σ) := fun σ => by
   simp only [f_ixA, Int.toNat_natCast, hldi]
   rw [if_pos (by omega)]; rfl
  have hws : IntKind.i64.wrap ((i : Int) + 1) = ((i + 1 : Nat) : Int) := wrap_succ (by omega)
  have hb := befM_ran y m i
  have hli := lenL_ran y i
  cases hc : decide (((i + 1 : Nat) : Int) < m) with
  | false =>
   have hn : befM y m (i + 1) = befM y m i := by
    have := of_decide_eq_false hc
    rw [befM, if_neg (by omega), Int.add_zero]
   simp only [ic18l0, hlt, hixi, hws, hc, evA, if_true, if_false, beq_false, simprocAttr]
   exact kFor_go (by first | trivial | omega) ⟨_, _, _, _, by rw [hn]⟩
  | true =>
   have hn : befM y m (i + 1) = befM y m i + (lenL y)[i]?.getD 0 := by
    have := of_decide_eq_true hc
    rw [befM, if_pos (by omega)]
   have hadd : IntKind.i64.wrap (Y + d - 1 + befM y m i + (lenL y)[i]?.getD 0) = Y + d - 1 + befM y m (i + 1) := by
    rw [hn, wrap_in (by omega)]; omega
   simp only [ic18l0, hlt, hixi, hws, hc, hadd, evA, if_true, if_false, beq_false, simprocAttr]
   exact kFor_go (by first | trivial | omega) ⟨_, _, _, _, rfl⟩
 have : i = 12 := by omega
 subst this
 have hlt : decide (((12 : Nat) : Int) < 12) = false := by decide
 rw [hT]
 generalize Y + d - 1 + befM y m 12 = T
 by_cases hg : T > 40000
 ·rw [if_pos hg]
  simp only [ic18l0, hlt, hg, evA, if_true, if_false, beq_false, simprocAttr]
  exact frz
 ·rw [if_neg hg]
  simp only [ic18l0, hlt, hg, evA, if_true, if_false, beq_false, simprocAttr]
  exact frz
def begF : Nat → Int
 | 0 => 0
 | k + 1 => begF k + 337 + longF (2000 + (k : Int)) 2
theorem longF_ran (y m : Int) : 28 ≤ longF y m ∧ longF y m ≤ 31 := by
 unfold longF
 split
 ·omega
 ·split
  ·omega
  ·split <;> omega
set_option maxRecDepth 100000 in
theorem begF_eq : ∀ k, k < 401 → begF k = if (k : Int) = 0 then 0 else yearsF k := by
 have step : ∀ k : Fin 400, yearsF ((k.val : Int) + 1) = (if (k.val : Int) = 0 then 0 else yearsF k.val) + 337 + longF (2000 + (k.val : Int)) 2 := by decide +kernel
 intro k
 induction k with
 | zero => intro _; rfl
 | succ k ih =>
  intro hk
  have h := step ⟨k, by omega⟩
  rw [begF, ih (by omega)]
  rw [if_neg (c := ((k + 1 : Nat) : Int) = 0) (by omega)]
  exact h.symm
theorem long_len (y : Int) : ∀ k : Nat, k < 12 → (lenL y)[k]?.getD 0 = longF y ((k : Int) + 1) := by
 intro k hk
 have hle := leap_eq y
 match k, hk with
 | 0, _ => simp [lenL, longF]
 | 1, _ => simp [lenL, longF, hle]
 | 2, _ => simp [lenL, longF]
 | 3, _ => simp [lenL, longF]
 | 4, _ => simp [lenL, longF]
 | 5, _ => simp [lenL, longF]
 | 6, _ => simp [lenL, longF]
 | 7, _ => simp [lenL, longF]
 | 8, _ => simp [lenL, longF]
 | 9, _ => simp [lenL, longF]
 | 10, _ => simp [lenL, longF]
 | 11, _ => simp [lenL, longF]
def sumL (y : Int) : Nat → Int
 | 0 => 0
 | k + 1 => sumL y k + longF y ((k : Int) + 1)
theorem sumL_ran (y : Int) : ∀ k, 0 ≤ sumL y k ∧ sumL y k ≤ 31 * (k : Int)
 | 0 => by simp [sumL]
 | k + 1 => by
  have := sumL_ran y k
  have := longF_ran y ((k : Int) + 1)
  unfold sumL; omega
theorem inD_iff {n lo hi : Int} : (decide (n ≥ lo) && decide (n ≤ hi)) = inB n lo hi := by
 rw [Bool.eq_iff_iff, inB_iff]; simp
end Go.Proofs.YtpnghcaccfnngaaGreatDoor.AM

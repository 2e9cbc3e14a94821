/- Parts of the proof, joined: AmU to AmYh. -/
import Derived.Test.YtpnghcaccfnngaaGreatDoorRows
import Derived.WalkKit
import Derived.ProofKit
import Derived.OpenShut
import Derived.Carry
import Derived.Test.YtpnghcaccfnngaaGreatDoorZ6
set_option linter.unusedVariables false
set_option linter.unusedSimpArgs false
set_option linter.unusedSectionVars false
namespace Go.Proofs.YtpnghcaccfnngaaGreatDoor.AM
variable [Dr]
open Go Go.ChangeShapes Go.WideShapes Go.ChangeAt Go.RowKit
inductive Typed (P : Program) : TypeId → List CV → Prop
 | bool {t : TypeId} (ht : P.underlying t = some .bool) (b : Bool) : Typed P t [.bool b]
 | int {t : TypeId} {k : IntKind} (ht : P.underlying t = some (.int k)) (n : Int) (hw : (Lit.int k n).wf = true) : Typed P t [.int k n]
 | str {t : TypeId} (ht : P.underlying t = some .string) (s : ByteArray) (hs : s.size ≤ maxLen) : Typed P t [.str s]
 | slc {t e : TypeId} (ht : P.underlying t = some (.slice e)) (L : List (List CV)) (hn : L.length ≤ maxLen) (hl : ∀ l ∈ L, l.length = P.cellsOf e) (h : ∀ l ∈ L, Typed P e l) : Typed P t [.rsl L.flatten L.length]
 | arr {t e : TypeId} {n : Nat} (ht : P.underlying t = some (.array n e)) (L : List (List CV)) (hn : L.length = n) (hl : ∀ l ∈ L, l.length = P.cellsOf e) (h : ∀ l ∈ L, Typed P e l) : Typed P t L.flatten
 | struct {t : TypeId} {fs : Array Field} (ht : P.underlying t = some (.struct fs)) (L : List (List CV)) (hn : L.length = fs.size)
   (hl : ∀ (i : Nat) (f : Field) (l : List CV), fs[i]? = some f → L[i]? = some l → l.length = P.cellsOf f.type)
   (h : ∀ (i : Nat) (f : Field) (l : List CV), fs[i]? = some f → L[i]? = some l → Typed P f.type l) : Typed P t L.flatten
def openT (P : Program) : Nat → TypeId → Bool
 | 0, _ => false
 | n + 1, t =>
  match P.underlying t with
  | some .bool | some (.int _) | some .string => true
  | some (.slice e) => openT P n e
  | some (.array k e) => openT P n e && decide (P.cellsOf t = k * P.cellsOf e)
  | some (.struct fs) => fs.toList.all (fun f => openT P n f.type) && decide (fieldsEnd P fs.toList 0 = some (P.cellsOf t))
  | _ => false
section
variable {H : Type} {enc : TypeId × Value → H} {P : Program} {W : World}
def avOf (P : Program) (t : TypeId) (cs : List CV) : AV :=
 match P.underlying t with
 | some (.struct _) | some (.array _ _) => .agg (cs.map .cv)
 | _ => .cv (cs.headD .nilp)
abbrev nom : LM := fun _ => none
inductive Args (P : Program) : List TypeId → List AV → Prop
 | nil : Args P [] []
 | cons {t : TypeId} {ts : List TypeId} {cs : List CV} {avs : List AV} (h : Typed P t cs) (hs : Args P ts avs) : Args P (t :: ts) (avOf P t cs :: avs)
end
end Go.Proofs.YtpnghcaccfnngaaGreatDoor.AM
namespace Go.Proofs.YtpnghcaccfnngaaGreatDoor.AM
variable [Dr]
open Go
def kindOf : IOp → Nat
 | .mv | .pick | .not | .bin _ _ | .conv _ | .build _ _ | .nilck | .mkfn _ | .mkbm _ | .eqS _ _ | .slS _ _ _ | .slStr _ _ | .fadd _ | .fld _ _ _ | .iaA _ _ | .iaS _ | .ixA _ _ _ _ | .ixStr | .extract _ | .len _ | .min2 | .max2 | .slS3 | .cap => 0
 | .load1 | .loadN _ | .slA _ _ _ _ | .lookup _ _ _ | .maplen => 1
 | _ => 2
theorem stepF_pure {io : IOp} {as_ : List AV} {σ σ' : List AObj} {r : AV} (hk : kindOf io = 0) (h : stepF io as_ σ = some (r, σ')) : σ' = σ ∧ ∀ τ, stepF io as_ τ = some (r, τ) := by
 cases io <;> (try (cases hk; done)) <;> simp only [stepF] at h ⊢
 case mv => unfold f_mv at h ⊢; split at h <;> cases h; exact ⟨rfl, fun _ => rfl⟩
 case pick => unfold f_pick at h ⊢; split at h <;> cases h; exact ⟨rfl, fun _ => rfl⟩
 case not => unfold f_not at h ⊢; split at h <;> cases h; exact ⟨rfl, fun _ => rfl⟩
 case bin => unfold f_bin at h ⊢; split at h <;> simp only [Option.map_eq_some_iff, reduceCtorEq] at h; obtain ⟨v, hv, he⟩ := h; cases he; exact ⟨rfl, fun _ => by simp [hv]⟩
 case conv => unfold f_conv at h ⊢; split at h <;> cases h; exact ⟨rfl, fun _ => rfl⟩
 case build => unfold f_build at h ⊢; simp only [Option.map_eq_some_iff] at h ⊢; obtain ⟨v, hv, he⟩ := h; cases he; exact ⟨rfl, fun _ => ⟨v, hv, rfl⟩⟩
 case nilck => unfold f_nilck at h ⊢; split at h <;> cases h <;> exact ⟨rfl, fun _ => rfl⟩
 case mkfn => unfold f_mkfn at h ⊢; cases h; exact ⟨rfl, fun _ => rfl⟩
 case mkbm => unfold f_mkbm at h ⊢; cases h; exact ⟨rfl, fun _ => rfl⟩
 case slS =>
  unfold f_slS at h ⊢
  split at h <;> simp only [Option.bind_eq_some_iff, reduceCtorEq] at h
  all_goals
   obtain ⟨⟨a, b⟩, hb, h⟩ := h
   simp only at h
   split at h <;> try (cases h; done)
  ·rename_i hc
   split at h
   ·rename_i h2; cases h; exact ⟨rfl, fun _ => by simp only [hb, Option.bind_some]; rw [if_pos hc, if_pos h2]⟩
   ·rename_i h2; cases h; exact ⟨rfl, fun _ => by simp only [hb, Option.bind_some]; rw [if_pos hc, if_neg h2]⟩
  ·rename_i hc; cases h; exact ⟨rfl, fun _ => by simp only [hb, Option.bind_some]; rw [if_pos hc]⟩
  ·rename_i hc; cases h; exact ⟨rfl, fun _ => by simp only [hb, Option.bind_some]; rw [if_pos hc]⟩
  ·rename_i hc
   split at h
   ·rename_i h2; cases h; exact ⟨rfl, fun _ => by simp only [hb, Option.bind_some]; rw [if_pos hc, if_pos h2]⟩
   ·rename_i h2; cases h; exact ⟨rfl, fun _ => by simp only [hb, Option.bind_some]; rw [if_pos hc, if_neg h2]⟩
 case slStr =>
  unfold f_slStr at h ⊢
  split at h <;> simp only [Option.bind_eq_some_iff, reduceCtorEq] at h
  obtain ⟨⟨a, b⟩, hb, h⟩ := h
  simp only at h
  split at h <;> try (cases h; done)
  rename_i hc; cases h; exact ⟨rfl, fun _ => by simp only [hb, Option.bind_some]; rw [if_pos hc]⟩
 case fadd => unfold f_fadd at h ⊢; split at h <;> cases h <;> exact ⟨rfl, fun _ => rfl⟩
 case fld =>
  unfold f_fld at h ⊢; split at h <;> try (cases h; done)
  ·split at h <;> cases h; rename_i hc; exact ⟨rfl, fun _ => by rw [if_pos hc]⟩
  ·simp only [Option.map_eq_some_iff] at h; obtain ⟨v, hv, he⟩ := h; cases he; exact ⟨rfl, fun _ => by simp [hv]⟩
 case iaA => unfold f_iaA at h ⊢; split at h <;> (try (cases h; done)) <;> (split at h <;> cases h; rename_i hc; exact ⟨rfl, fun _ => by rw [if_pos hc]⟩)
 case iaS => unfold f_iaS at h ⊢; split at h <;> (try (cases h; done)) <;> (split at h <;> cases h; rename_i hc; exact ⟨rfl, fun _ => by rw [if_pos hc]⟩)
 case ixA =>
  unfold f_ixA at h ⊢; split at h <;> try (cases h; done)
  ·split at h <;> cases h; rename_i hc; exact ⟨rfl, fun _ => by rw [if_pos hc]⟩
  ·split at h <;> (try (cases h; done)); rename_i hc; simp only [Option.map_eq_some_iff] at h; obtain ⟨v, hv, he⟩ := h; cases he; exact ⟨rfl, fun _ => by rw [if_pos hc]; simp [hv]⟩
 case ixStr => unfold f_ixStr at h ⊢; split at h <;> (try (cases h; done)); split at h <;> (try (cases h; done)); rename_i hc; simp only [Option.map_eq_some_iff] at h; obtain ⟨v, hv, he⟩ := h; cases he; exact ⟨rfl, fun _ => by rw [if_pos hc]; simp [hv]⟩
 case extract => unfold f_extract at h ⊢; split at h <;> (try (cases h; done)); simp only [Option.map_eq_some_iff] at h; obtain ⟨v, hv, he⟩ := h; cases he; exact ⟨rfl, fun _ => by simp [hv]⟩
 case len => unfold f_len at h ⊢; split at h <;> cases h <;> exact ⟨rfl, fun _ => rfl⟩
 case min2 => unfold f_min2 at h ⊢; split at h <;> (try (cases h; done)); split at h <;> cases h; rename_i hc; exact ⟨rfl, fun _ => by rw [if_pos hc]⟩
 case max2 => unfold f_max2 at h ⊢; split at h <;> (try (cases h; done)); split at h <;> cases h; rename_i hc; exact ⟨rfl, fun _ => by rw [if_pos hc]⟩
 case eqS => unfold f_eqS at h ⊢; split at h <;> (try (cases h; done)); simp only [Option.map_eq_some_iff] at h ⊢; obtain ⟨v, hv, he⟩ := h; cases he; exact ⟨rfl, fun _ => ⟨v, hv, rfl⟩⟩
 case slS3 =>
  unfold f_slS3 at h ⊢; split at h <;> (try (cases h; done)) <;> (
   simp only [Option.bind_eq_some_iff] at h; obtain ⟨a, ha, b, hb, c, hc, h⟩ := h
   split at h <;> (try (cases h; done))
   rename_i hcc; cases h; exact ⟨rfl, fun _ => by simp only [ha, hb, hc, Option.bind_some]; rw [if_pos hcc]⟩)
 case cap => unfold f_cap at h ⊢; split at h <;> cases h; exact ⟨rfl, fun _ => rfl⟩
theorem stepF_reads {io : IOp} {as_ : List AV} {σ σ' : List AObj} {r : AV} (hk : kindOf io = 1) (h : stepF io as_ σ = some (r, σ')) : σ' = σ := by
 cases io <;> (try (cases hk; done)) <;> simp only [stepF] at h
 case load1 =>
  unfold f_load1 at h; split at h <;> (try (cases h; done))
  ·simp only [Option.bind_eq_some_iff, Option.map_eq_some_iff] at h; obtain ⟨_, _, _, _, he⟩ := h; cases he; rfl
  ·simp only [Option.map_eq_some_iff] at h; obtain ⟨_, _, he⟩ := h; cases he; rfl
 case loadN =>
  unfold f_loadN at h; split at h <;> (try (cases h; done))
  ·simp only [Option.bind_eq_some_iff] at h; obtain ⟨_, _, h⟩ := h; split at h <;> cases h; rfl
  ·split at h <;> cases h; rfl
 case slA => unfold f_slA at h; split at h <;> (try (cases h; done)); simp only [Option.bind_eq_some_iff] at h; obtain ⟨_, _, _, _, h⟩ := h; split at h <;> cases h; rfl
 case lookup => unfold f_lookup at h; split at h <;> (try (cases h; done)); simp only [Option.bind_eq_some_iff] at h; obtain ⟨_, _, h⟩ := h; split at h <;> (try (cases h; done)); simp only [Option.map_eq_some_iff] at h; obtain ⟨_, _, he⟩ := h; cases he; rfl
 case maplen => unfold f_maplen at h; split at h <;> (try (cases h; done)); simp only [Option.map_eq_some_iff] at h; obtain ⟨_, _, he⟩ := h; cases he; rfl
theorem locsInAll_iff {k : Nat} : ∀ {vs : List AV}, locsInAll k vs = true ↔ ∀ v ∈ vs, locsIn k v = true
 | [] => by simp [locsInAll]
 | v :: vs => by simp [locsInAll, locsInAll_iff (vs := vs)]
theorem locsInAll_take {k n : Nat} {vs : List AV} (h : locsInAll k vs = true) : locsInAll k (vs.take n) = true :=
 locsInAll_iff.2 fun v hv => locsInAll_iff.1 h v (List.mem_of_mem_take hv)
theorem locsInAll_drop {k n : Nat} {vs : List AV} (h : locsInAll k vs = true) : locsInAll k (vs.drop n) = true :=
 locsInAll_iff.2 fun v hv => locsInAll_iff.1 h v (List.mem_of_mem_drop hv)
theorem locsInAll_append {k : Nat} {vs us : List AV} (h : locsInAll k vs = true) (h' : locsInAll k us = true) : locsInAll k (vs ++ us) = true :=
 locsInAll_iff.2 fun v hv => (List.mem_append.1 hv).elim (locsInAll_iff.1 h v) (locsInAll_iff.1 h' v)
theorem locsInAll_cv {k : Nat} (cs : List CV) : locsInAll k (cs.map .cv) = true :=
 locsInAll_iff.2 fun v hv => by obtain ⟨c, _, rfl⟩ := List.mem_map.1 hv; rfl
theorem locsInAll_set {k i : Nat} {vs : List AV} {v : AV} (h : locsInAll k vs = true) (hv : locsIn k v = true) : locsInAll k (vs.set i v) = true :=
 locsInAll_iff.2 fun u hu => by
  rcases List.mem_or_eq_of_mem_set hu with h1 | rfl
  ·exact locsInAll_iff.1 h u h1
  ·exact hv
theorem locsInAll_setRange {k : Nat} : ∀ {us vs : List AV} {off : Nat}, locsInAll k vs = true → locsInAll k us = true → locsInAll k (setRange vs off us) = true
 | [], vs, off, h, _ => by simpa [setRange] using h
 | u :: us, vs, off, h, h' => by
  simp only [locsInAll, Bool.and_eq_true] at h'
  simp only [setRange]
  exact locsInAll_setRange (locsInAll_set h h'.1) h'.2
theorem locsInAll_cellsOf {k : Nat} {v : AV} (h : locsIn k v = true) : locsInAll k (cellsOf v) = true := by
 cases v <;> simp_all [cellsOf, locsIn, locsInAll]
theorem locsInAll_get {k i : Nat} {vs : List AV} {v : AV} (h : locsInAll k vs = true) (hv : vs[i]? = some v) : locsIn k v = true := locsInAll_iff.1 h v (List.mem_of_getElem? hv)
theorem locsInAll_zcells {k n : Nat} {zs : List AV} (h : locsInAll k zs = true) : locsInAll k (zcells n zs) = true := by
 unfold zcells
 split
 ·rename_i z
  exact locsInAll_iff.2 fun v hv => by rw [(List.mem_replicate.1 hv).2]; simpa [locsInAll] using h
 ·exact locsInAll_iff.2 fun v hv => by obtain ⟨i, _, rfl⟩ := List.mem_map.1 hv; exact locsInAll_getD h _
theorem locsInAll_fill {k : Nat} : ∀ {ps : List (Nat × Nat)} {vs zs cs : List AV}, fillF zs ps vs = some cs → locsInAll k zs = true → locsInAll k vs = true → locsInAll k cs = true
 | [], [], zs, cs, h, hz, _ => by simp [fillF] at h; subst h; exact hz
 | (off, n) :: ps, v :: vs, zs, cs, h, hz, hv => by
  simp only [locsInAll, Bool.and_eq_true] at hv
  simp only [fillF] at h
  split at h
  ·exact locsInAll_fill h (locsInAll_setRange hz (locsInAll_cellsOf hv.1)) hv.2
  ·cases h
 | [], _ :: _, _, _, h, _, _ => by simp [fillF] at h
 | _ :: _, [], _, _, h, _, _ => by simp [fillF] at h
theorem locs_le {a b : Nat} (hab : a ≤ b) {v : AV} (h : locsIn a v = true) : locsIn b v = true := locsIn_mono hab v h
theorem locsAll_le {a b : Nat} (hab : a ≤ b) {v : List AV} (h : locsInAll a v = true) : locsInAll b v = true := locsInAll_mono hab v h
def ioCl : IOp → Bool
 | .alloc zs | .clear zs | .build zs _ | .bslice _ _ zs _ | .mkslice _ _ zs | .mksliceC _ _ zs | .appendz _ _ zs => locsInAll 0 zs
 | .lookup _ z _ => locsIn 0 z
 | _ => true
def Cl (σ : List AObj) : Prop := ∀ (l : Nat) o, σ[l]? = some o → objIn σ.length o = true
theorem Cl.row {σ : List AObj} (h : Cl σ) {l : Nat} {cs : List AV} (hr : rowOf σ l = some cs) : locsInAll σ.length cs = true ∧ l < σ.length := by
 unfold rowOf at hr
 split at hr
 ·rename_i cs' ho; cases hr
  exact ⟨h l _ ho, (List.getElem?_eq_some_iff.1 ho).1⟩
 ·cases hr
theorem Cl.mapOf {σ : List AObj} (h : Cl σ) {l : Nat} {es : List (AV × AV)} (hr : mapOf σ l = some es) : (∀ e ∈ es, locsIn σ.length e.1 = true ∧ locsIn σ.length e.2 = true) ∧ l < σ.length := by
 unfold AM.mapOf at hr
 split at hr
 ·rename_i cs' ho; cases hr
  have := h l _ ho
  simp only [objIn, List.all_eq_true, Bool.and_eq_true] at this
  exact ⟨this, (List.getElem?_eq_some_iff.1 ho).1⟩
 ·cases hr
theorem Cl.set {σ : List AObj} (h : Cl σ) (l : Nat) {o : AObj} (ho : objIn σ.length o = true) : Cl (σ.set l o) := by
 intro x o' hx
 rw [List.getElem?_set] at hx
 rw [List.length_set]
 split at hx
 ·split at hx
  ·cases hx; exact ho
  ·cases hx
 ·exact h x o' hx
theorem Cl.push {σ : List AObj} (h : Cl σ) {o : AObj} (ho : objIn (σ.length + 1) o = true) : Cl (σ ++ [o]) := by
 intro x o' hx
 rw [List.length_append, List.length_singleton]
 rcases Nat.lt_or_ge x σ.length with hlt | hge
 ·rw [List.getElem?_append_left hlt] at hx
  exact objIn_mono _ _ o' (Nat.le_succ _) (h x o' hx)
 ·rw [List.getElem?_append_right hge] at hx
  have : x - σ.length = 0 := by
   have := (List.getElem?_eq_some_iff.1 hx).1
   simp at this; omega
  rw [this] at hx; simp at hx; subst hx; exact ho
theorem src_locs {σ : List AObj} (h : Cl σ) {esz : Nat} {x : AV} {new : List AV} (hs : srcCells σ esz x = some new) : locsInAll σ.length new = true := by
 unfold srcCells at hs
 split at hs
 ·cases hs; rfl
 ·split at hs <;> cases hs; exact locsInAll_cv _
 ·split at hs
  ·simp only [Option.bind_eq_some_iff] at hs
   obtain ⟨cs, hcs, hs⟩ := hs
   split at hs <;> cases hs
   exact locsInAll_take (locsInAll_drop (h.row hcs).1)
  ·cases hs
 ·split at hs <;> cases hs
  exact locsInAll_iff.2 fun v hv => by obtain ⟨c, _, rfl⟩ := List.mem_map.1 hv; rfl
 ·split at hs
  ·simp only [Option.bind_eq_some_iff] at hs
   obtain ⟨cs, hcs, hs⟩ := hs
   split at hs <;> cases hs
   exact locsInAll_take (locsInAll_drop (h.row hcs).1)
  ·cases hs
 ·cases hs
theorem find_locs {k : Nat} {ks : Bool × List KK} {key : AV} : ∀ {es : List (AV × AV)} {i : Nat} {r : Option (Nat × AV)}, (∀ e ∈ es, locsIn k e.1 = true ∧ locsIn k e.2 = true) → findKey ks key es i = some r → ∀ p, r = some p → locsIn k p.2 = true
 | [], i, r, _, h, p, hp => by simp [findKey] at h; subst h; cases hp
 | (k', v) :: es, i, r, he, h, p, hp => by
  simp only [findKey] at h
  split at h
  ·cases h; cases hp; exact (he (k', v) (by simp)).2
  ·exact find_locs (fun e hh => he e (by simp [hh])) h p hp
  ·cases h
theorem stepF_locs {io : IOp} {as_ : List AV} {σ σ' : List AObj} {r : AV} (hcl : ioCl io = true) (ha : locsInAll σ.length as_ = true) (hσ : Cl σ) (h : stepF io as_ σ = some (r, σ')) : locsIn σ'.length r = true ∧ Cl σ' := by
 cases io <;> simp only [stepF] at h
 case mv => unfold f_mv at h; split at h <;> cases h; simp only [locsInAll, Bool.and_true] at ha; exact ⟨ha, hσ⟩
 case pick => unfold f_pick at h; split at h <;> cases h; simp only [locsInAll, Bool.and_true, Bool.and_eq_true] at ha; exact ⟨by split; exact ha.2.1; exact ha.2.2, hσ⟩
 case not => unfold f_not at h; split at h <;> cases h; exact ⟨rfl, hσ⟩
 case bin op tk =>
  unfold f_bin at h; split at h <;> simp only [Option.map_eq_some_iff, reduceCtorEq] at h; obtain ⟨v, hv, he⟩ := h; cases he
  refine ⟨?_, hσ⟩
  unfold binF at hv
  split at hv
  ·split at hv
   ·unfold shiftI at hv; split at hv <;> (try (cases hv; done)); split at hv <;> cases hv <;> rfl
   ·split at hv <;> (try (cases hv; done)); unfold binI at hv; split at hv <;> first | (cases hv; rfl; done) | (split at hv <;> cases hv; rfl) | cases hv
  all_goals first | (unfold eqNil at hv; split at hv <;> cases hv <;> rfl; done) | (unfold binS at hv; split at hv <;> first | (cases hv; rfl; done) | (split at hv <;> cases hv; rfl) | cases hv) | cases hv
 case conv => unfold f_conv at h; split at h <;> cases h; exact ⟨rfl, hσ⟩
 case alloc zs => unfold f_alloc at h; split at h <;> cases h; exact ⟨by simp [locsIn], hσ.push (locsAll_le (Nat.zero_le _) hcl)⟩
 case box =>
  unfold f_box at h; split at h <;> (try (cases h; done)); split at h <;> cases h
  simp only [locsInAll, Bool.and_true] at ha
  exact ⟨by simp [locsIn], hσ.push (locsAll_le (Nat.le_succ _) (locsInAll_cellsOf ha))⟩
 case build zs ps =>
  unfold f_build at h; simp only [Option.map_eq_some_iff] at h; obtain ⟨v, hv, he⟩ := h; cases he
  exact ⟨locsInAll_fill hv (locsAll_le (Nat.zero_le _) hcl) ha, hσ⟩
 case bslice esz len zs ps =>
  unfold f_bslice at h; simp only [Option.map_eq_some_iff] at h; obtain ⟨v, hv, he⟩ := h; cases he
  exact ⟨by simp [locsIn], hσ.push (locsAll_le (Nat.le_succ _) (locsInAll_fill hv (locsAll_le (Nat.zero_le _) hcl) ha))⟩
 case load1 =>
  unfold f_load1 at h; split at h <;> (try (cases h; done))
  ·simp only [Option.bind_eq_some_iff, Option.map_eq_some_iff] at h; obtain ⟨cs, hcs, v, hv, he⟩ := h; cases he; exact ⟨locsInAll_get (hσ.row hcs).1 hv, hσ⟩
  ·simp only [Option.map_eq_some_iff] at h; obtain ⟨_, _, he⟩ := h; cases he; exact ⟨rfl, hσ⟩
 case loadN n =>
  unfold f_loadN at h; split at h <;> (try (cases h; done))
  ·simp only [Option.bind_eq_some_iff] at h; obtain ⟨cs, hcs, h⟩ := h; split at h <;> cases h; exact ⟨locsInAll_take (locsInAll_drop (hσ.row hcs).1), hσ⟩
  ·split at h <;> cases h
   refine ⟨?_, hσ⟩
   simp only [locsIn]; exact locsInAll_cv _
 case store n =>
  unfold f_store at h; split at h <;> (try (cases h; done)); simp only [Option.bind_eq_some_iff] at h; obtain ⟨cs, hcs, h⟩ := h; split at h <;> cases h
  simp only [locsInAll, Bool.and_true, Bool.and_eq_true] at ha
  exact ⟨rfl, hσ.set _ (locsInAll_setRange (hσ.row hcs).1 (locsInAll_cellsOf ha.2))⟩
 case nilck => unfold f_nilck at h; split at h <;> cases h <;> (simp only [locsInAll, Bool.and_true] at ha; exact ⟨ha, hσ⟩)
 case mkfn => unfold f_mkfn at h; cases h; exact ⟨ha, hσ⟩
 case mkbm => unfold f_mkbm at h; cases h; exact ⟨ha, hσ⟩
 case mkmap => unfold f_mkmap at h; split at h <;> cases h; exact ⟨by simp [locsIn], hσ.push rfl⟩
 case mkslice esz bytes zs => unfold f_mkslice at h; split at h <;> (try (cases h; done)); split at h <;> cases h; exact ⟨by simp [locsIn], hσ.push (locsInAll_zcells (locsAll_le (Nat.zero_le _) hcl))⟩
 case slA n esz lo hi =>
  unfold f_slA at h; split at h <;> (try (cases h; done)); simp only [Option.bind_eq_some_iff] at h; obtain ⟨cs, hcs, p, hp, h⟩ := h; split at h <;> cases h
  exact ⟨by simp [locsIn, (hσ.row hcs).2], hσ⟩
 case slS esz lo hi =>
  unfold f_slS at h; split at h <;> (try (cases h; done)) <;> simp only [Option.bind_eq_some_iff] at h <;> obtain ⟨p, hp, h⟩ := h <;> (try simp only at h) <;> split at h <;> (try (cases h; done))
  ·simp only [locsInAll, Bool.and_eq_true, locsIn] at ha
   split at h <;> cases h
   ·exact ⟨rfl, hσ⟩
   ·exact ⟨by simpa [locsIn] using ha.1, hσ⟩
  ·cases h; exact ⟨rfl, hσ⟩
  ·cases h; exact ⟨rfl, hσ⟩
  ·simp only [locsInAll, Bool.and_eq_true, locsIn] at ha
   split at h <;> cases h
   ·exact ⟨rfl, hσ⟩
   ·exact ⟨by simpa [locsIn] using ha.1, hσ⟩
 case slStr lo hi =>
  unfold f_slStr at h; split at h <;> (try (cases h; done)); simp only [Option.bind_eq_some_iff] at h; obtain ⟨p, hp, h⟩ := h; (try simp only at h); split at h <;> cases h; exact ⟨rfl, hσ⟩
 case fadd off => unfold f_fadd at h; split at h <;> cases h <;> (simp only [locsInAll, Bool.and_true, locsIn] at ha; first | exact ⟨rfl, hσ⟩ | exact ⟨by simpa [locsIn] using ha, hσ⟩)
 case fld off n agg =>
  unfold f_fld at h; split at h <;> (try (cases h; done)) <;> simp only [locsInAll, Bool.and_true, locsIn] at ha
  ·split at h <;> cases h; exact ⟨locsInAll_take (locsInAll_drop ha), hσ⟩
  ·simp only [Option.map_eq_some_iff] at h; obtain ⟨v, hv, he⟩ := h; cases he; exact ⟨locsInAll_get ha hv, hσ⟩
 case iaA len esz => unfold f_iaA at h; split at h <;> (try (cases h; done)) <;> simp only [locsInAll, Bool.and_true, locsIn] at ha <;> split at h <;> cases h <;> first | exact ⟨rfl, hσ⟩ | exact ⟨by simpa [locsIn] using ha, hσ⟩
 case iaS esz => unfold f_iaS at h; split at h <;> (try (cases h; done)) <;> simp only [locsInAll, Bool.and_true, locsIn] at ha <;> split at h <;> cases h <;> first | exact ⟨rfl, hσ⟩ | exact ⟨by simpa [locsIn] using ha, hσ⟩
 case ixA len esz n agg =>
  unfold f_ixA at h; split at h <;> (try (cases h; done)) <;> simp only [locsInAll, Bool.and_true, locsIn] at ha
  ·split at h <;> cases h; exact ⟨locsInAll_take (locsInAll_drop ha), hσ⟩
  ·split at h <;> (try (cases h; done)); simp only [Option.map_eq_some_iff] at h; obtain ⟨v, hv, he⟩ := h; cases he; exact ⟨locsInAll_get ha hv, hσ⟩
 case ixStr => unfold f_ixStr at h; split at h <;> (try (cases h; done)); split at h <;> (try (cases h; done)); simp only [Option.map_eq_some_iff] at h; obtain ⟨v, hv, he⟩ := h; cases he; exact ⟨rfl, hσ⟩
 case extract i => unfold f_extract at h; split at h <;> (try (cases h; done)); simp only [Option.map_eq_some_iff] at h; obtain ⟨v, hv, he⟩ := h; cases he; simp only [locsInAll, Bool.and_true, locsIn] at ha; exact ⟨locsInAll_get ha hv, hσ⟩
 case len => unfold f_len at h; split at h <;> cases h <;> exact ⟨rfl, hσ⟩
 case min2 => unfold f_min2 at h; split at h <;> (try (cases h; done)); split at h <;> cases h; exact ⟨rfl, hσ⟩
 case max2 => unfold f_max2 at h; split at h <;> (try (cases h; done)); split at h <;> cases h; exact ⟨rfl, hσ⟩
 case append esz bytes =>
  unfold f_append at h
  split at h <;> (try (cases h; done))
  ·simp only [Option.bind_eq_some_iff] at h; obtain ⟨new, hnew, n, hn, h⟩ := h
   split at h
   ·cases h; exact ⟨rfl, hσ⟩
   ·split at h <;> cases h; exact ⟨by simp [locsIn], hσ.push (locsAll_le (Nat.le_succ _) (src_locs hσ hnew))⟩
  ·simp only [Option.bind_eq_some_iff] at h; obtain ⟨cs, hcs, new, hnew, n, hn, h⟩ := h
   split at h <;> cases h
   refine ⟨by simp [locsIn], (hσ.set _ rfl).push ?_⟩
   rw [List.length_set]
   exact locsAll_le (Nat.le_succ _) (locsInAll_append (locsInAll_take (hσ.row hcs).1) (src_locs hσ hnew))
  ·simp only [Option.bind_eq_some_iff] at h; obtain ⟨cs, hcs, new, hnew, n, hn, h⟩ := h
   simp only [locsInAll, Bool.and_eq_true, locsIn] at ha
   split at h
   ·split at h <;> cases h
    exact ⟨by simpa [locsIn] using ha.1, hσ.set _ (locsInAll_setRange (hσ.row hcs).1 (src_locs hσ hnew))⟩
   ·split at h <;> cases h
    exact ⟨by simp [locsIn], hσ.push (locsAll_le (Nat.le_succ _) (locsInAll_append (locsInAll_take (locsInAll_drop (hσ.row hcs).1)) (src_locs hσ hnew)))⟩
 case clear zs =>
  unfold f_clear at h; split at h <;> (try (cases h; done)) <;> (
   simp only [Option.bind_eq_some_iff] at h; obtain ⟨cs, hcs, h⟩ := h; split at h <;> cases h
   exact ⟨rfl, hσ.set _ (locsInAll_setRange (hσ.row hcs).1 (locsInAll_zcells (locsAll_le (Nat.zero_le _) hcl)))⟩)
 case copy esz =>
  unfold f_copy at h; split at h <;> (try (cases h; done)); simp only [Option.bind_eq_some_iff] at h; obtain ⟨cs, hcs, new, hnew, n, hn, h⟩ := h; split at h <;> cases h
  exact ⟨rfl, hσ.set _ (locsInAll_setRange (hσ.row hcs).1 (locsInAll_take (src_locs hσ hnew)))⟩
 case lookup ks z ok =>
  unfold f_lookup at h; split at h <;> (try (cases h; done)); simp only [Option.bind_eq_some_iff] at h; obtain ⟨es, hes, h⟩ := h; split at h <;> (try (cases h; done)); simp only [Option.map_eq_some_iff] at h; obtain ⟨res, hres, he⟩ := h; cases he
  have hg : locsIn σ.length ((res.map (·.2)).getD z) = true := by
   cases res with
   | none => exact locs_le (Nat.zero_le _) hcl
   | some p => exact find_locs (hσ.mapOf hes).1 hres p rfl
  refine ⟨?_, hσ⟩
  split
  ·simp only [locsIn, locsInAll, hg, Bool.and_true, Bool.true_and]
  ·exact hg
 case mapset ks =>
  unfold f_mapset at h; split at h <;> (try (cases h; done)); simp only [Option.bind_eq_some_iff] at h; obtain ⟨es, hes, h⟩ := h; split at h <;> (try (cases h; done)); simp only [Option.map_eq_some_iff] at h; obtain ⟨res, hres, he⟩ := h; cases he
  simp only [locsInAll, Bool.and_true, Bool.and_eq_true] at ha
  refine ⟨rfl, hσ.set _ ?_⟩
  simp only [objIn, List.all_eq_true, Bool.and_eq_true]
  intro e he
  cases res with
  | none =>
   simp only [mapPut, List.mem_append, List.mem_singleton] at he
   rcases he with he | rfl
   ·exact (hσ.mapOf hes).1 e he
   ·exact ⟨ha.2.1, ha.2.2⟩
  | some p =>
   simp only [mapPut] at he
   rcases List.mem_or_eq_of_mem_set he with h1 | rfl
   ·exact (hσ.mapOf hes).1 e h1
   ·exact ⟨ha.2.1, ha.2.2⟩
 case mapdel ks =>
  unfold f_mapdel at h; split at h <;> (try (cases h; done)); simp only [Option.bind_eq_some_iff] at h; obtain ⟨es, hes, h⟩ := h; split at h <;> (try (cases h; done)); simp only [Option.map_eq_some_iff] at h; obtain ⟨res, hres, he⟩ := h; cases he
  refine ⟨rfl, hσ.set _ ?_⟩
  simp only [objIn, List.all_eq_true, Bool.and_eq_true]
  intro e he
  cases res with
  | none => exact (hσ.mapOf hes).1 e he
  | some p => exact (hσ.mapOf hes).1 e (List.mem_of_mem_eraseIdx he)
 case maplen => unfold f_maplen at h; split at h <;> (try (cases h; done)); simp only [Option.map_eq_some_iff] at h; obtain ⟨_, _, he⟩ := h; cases he; exact ⟨rfl, hσ⟩
 case eqS neg ks => unfold f_eqS at h; split at h <;> (try (cases h; done)); simp only [Option.map_eq_some_iff] at h; obtain ⟨v, hv, he⟩ := h; cases he; exact ⟨rfl, hσ⟩
 case mksliceC esz bytes zs => unfold f_mksliceC at h; split at h <;> (try (cases h; done)); split at h <;> cases h; exact ⟨by simp [locsIn], hσ.push (locsInAll_zcells (locsAll_le (Nat.zero_le _) hcl))⟩
 case slS3 => unfold f_slS3 at h; split at h <;> (try (cases h; done)) <;> (simp only [Option.bind_eq_some_iff] at h; obtain ⟨_, _, _, _, _, _, h⟩ := h; split at h <;> cases h; exact ⟨rfl, hσ⟩)
 case cap => unfold f_cap at h; split at h <;> cases h; exact ⟨rfl, hσ⟩
 case appendz esz bytes zs =>
  unfold f_appendz at h; split at h <;> (try (cases h; done)); simp only [Option.bind_eq_some_iff] at h; obtain ⟨cs, hcs, h⟩ := h; split at h <;> cases h
  exact ⟨by simp [locsIn], hσ.push (locsAll_le (Nat.le_succ _) (locsInAll_append (locsInAll_take (locsInAll_drop (hσ.row hcs).1)) (locsInAll_zcells (locsAll_le (Nat.zero_le _) hcl))))⟩
 case stuck => cases h
 case mapent => cases h
 case entst => cases h
 case rstr => unfold f_rstr at h; split at h <;> cases h; exact ⟨by simp [locsIn], hσ.push rfl⟩
 case snext =>
  unfold f_snext at h; split at h <;> (try (cases h; done)); simp only [Option.map_eq_some_iff] at h; obtain ⟨_, _, h⟩ := h; split at h <;> cases h
  ·exact ⟨rfl, hσ.set _ rfl⟩
  ·exact ⟨rfl, hσ⟩
end Go.Proofs.YtpnghcaccfnngaaGreatDoor.AM
namespace Go.Proofs.YtpnghcaccfnngaaGreatDoor.AM
set_option linter.unusedSectionVars false
variable [Dr]
open Go
set_option linter.unusedVariables false
set_option linter.unusedSimpArgs false
theorem kindOf_le (io : IOp) : kindOf io ≤ 2 := by
 unfold kindOf; split <;> omega
theorem stepF_made {io : IOp} {as_ : List AV} {σ σ' : List AObj} {r : AV} (h : stepF io as_ σ = some (r, σ')) : ∀ (l : Nat) o, σ.length ≤ l → σ'[l]? = some o → o.live := by
 have same : σ' = σ → ∀ (l : Nat) o, σ.length ≤ l → σ'[l]? = some o → o.live := by
  rintro rfl l o hl ho
  rw [List.getElem?_eq_none hl] at ho; cases ho
 have push : ∀ (τ : List AObj) (x : AObj), σ' = τ ++ [x] → τ.length = σ.length → x.live → ∀ (l : Nat) o, σ.length ≤ l → σ'[l]? = some o → o.live := by
  rintro τ x rfl ht hx l o hl ho
  rw [List.getElem?_append_right (by omega)] at ho
  have : l - τ.length = 0 := by
   have := (List.getElem?_eq_some_iff.1 ho).1
   simp at this; omega
  rw [this] at ho; simp at ho; subst ho; exact hx
 have set : ∀ (x : Nat) (y : AObj), σ' = σ.set x y → ∀ (l : Nat) o, σ.length ≤ l → σ'[l]? = some o → o.live := by
  rintro x y rfl l o hl ho
  rw [List.getElem?_eq_none (by simp; omega)] at ho; cases ho
 by_cases h0 : kindOf io = 0
 ·exact same (stepF_pure h0 h).1
 by_cases h1 : kindOf io = 1
 ·exact same (stepF_reads h1 h)
 cases io <;> (try (exact absurd rfl h0)) <;> (try (exact absurd rfl h1)) <;> simp only [stepF] at h
 case alloc zs => unfold f_alloc at h; split at h <;> cases h; exact push _ _ rfl rfl trivial
 case box => unfold f_box at h; split at h <;> (try (cases h; done)); split at h <;> cases h; exact push _ _ rfl rfl trivial
 case bslice esz len zs ps => unfold f_bslice at h; simp only [Option.map_eq_some_iff] at h; obtain ⟨v, hv, he⟩ := h; cases he; exact push _ _ rfl rfl trivial
 case store n => unfold f_store at h; split at h <;> (try (cases h; done)); simp only [Option.bind_eq_some_iff] at h; obtain ⟨cs, hcs, h⟩ := h; split at h <;> cases h; exact set _ _ rfl
 case mkmap => unfold f_mkmap at h; split at h <;> cases h; exact push _ _ rfl rfl trivial
 case mkslice esz bytes zs => unfold f_mkslice at h; split at h <;> (try (cases h; done)); split at h <;> cases h; exact push _ _ rfl rfl trivial
 case mksliceC esz bytes zs => unfold f_mksliceC at h; split at h <;> (try (cases h; done)); split at h <;> cases h; exact push _ _ rfl rfl trivial
 case append esz bytes =>
  unfold f_append at h
  split at h <;> (try (cases h; done))
  ·simp only [Option.bind_eq_some_iff] at h; obtain ⟨new, hnew, n, hn, h⟩ := h
   split at h
   ·cases h; exact same rfl
   ·split at h <;> cases h; exact push _ _ rfl rfl trivial
  ·simp only [Option.bind_eq_some_iff] at h; obtain ⟨cs, hcs, new, hnew, n, hn, h⟩ := h
   split at h <;> cases h
   exact push _ _ rfl (by simp) trivial
  ·simp only [Option.bind_eq_some_iff] at h; obtain ⟨cs, hcs, new, hnew, n, hn, h⟩ := h
   split at h
   ·split at h <;> cases h; exact set _ _ rfl
   ·split at h <;> cases h; exact push _ _ rfl rfl trivial
 case clear zs => unfold f_clear at h; split at h <;> (try (cases h; done)) <;> (simp only [Option.bind_eq_some_iff] at h; obtain ⟨cs, hcs, h⟩ := h; split at h <;> cases h; exact set _ _ rfl)
 case copy esz => unfold f_copy at h; split at h <;> (try (cases h; done)); simp only [Option.bind_eq_some_iff] at h; obtain ⟨cs, hcs, new, hnew, n, hn, h⟩ := h; split at h <;> cases h; exact set _ _ rfl
 case mapset ks => unfold f_mapset at h; split at h <;> (try (cases h; done)); simp only [Option.bind_eq_some_iff] at h; obtain ⟨es, hes, h⟩ := h; split at h <;> (try (cases h; done)); simp only [Option.map_eq_some_iff] at h; obtain ⟨res, hres, he⟩ := h; cases he; exact set _ _ rfl
 case mapdel ks => unfold f_mapdel at h; split at h <;> (try (cases h; done)); simp only [Option.bind_eq_some_iff] at h; obtain ⟨es, hes, h⟩ := h; split at h <;> (try (cases h; done)); simp only [Option.map_eq_some_iff] at h; obtain ⟨res, hres, he⟩ := h; cases he; exact set _ _ rfl
 case stuck => cases h
 case mapent => cases h
 case entst => cases h
 case appendz esz bytes zs => unfold f_appendz at h; split at h <;> (try (cases h; done)); simp only [Option.bind_eq_some_iff] at h; obtain ⟨cs, hcs, h⟩ := h; split at h <;> cases h; exact push _ _ rfl rfl trivial
 case rstr => unfold f_rstr at h; split at h <;> cases h; exact push _ _ rfl rfl trivial
 case snext =>
  unfold f_snext at h; split at h <;> (try (cases h; done)); simp only [Option.map_eq_some_iff] at h; obtain ⟨_, _, h⟩ := h; split at h <;> cases h
  ·exact set _ _ rfl
  ·exact same rfl
def kindI (kp : List Nat) (j : Nat) (i : Ins) : Nat :=
 match i.op with
 | .prim io => kindOf io
 | .call => if kp.contains j then 1 else 2
def insCl (i : Ins) : Bool :=
 (match i.op with | .prim io => ioCl io | .call => true) && i.args.all fun | .c a => locsIn 0 a | _ => true
def pdAt (pds : List (List Nat)) (j : Nat) : List Nat := pds.getD j []
def readsVar (x : Nat) (i : Ins) : Bool := (i.args.any fun | .v y => x == y | _ => false) || i.dst == some x
def CallOk (σ : List AObj) (v : AV) (τ : List AObj) : Prop :=
 locsIn τ.length v = true ∧ σ.length ≤ τ.length ∧ ∀ (l : Nat) o, τ[l]? = some o → σ[l]? ≠ some o → objIn τ.length o = true ∧ (σ.length ≤ l → o.live)
def RP (P : Program) (kp : List Nat) : Nat → List Ins → List AV → List AV → List AObj → (List AV → List AV → List AObj → Prop) → Prop
 | _, [], vals, ρ, σ, K => K vals ρ σ
 | j, i :: is, vals, ρ, σ, K =>
  match gdOk ρ i.gd with
  | none => False
  | some false => RP P kp (j + 1) is (setD i.dst vals (.tup [])) (ρ ++ [.tup []]) σ K
  | some true =>
   match i.op, i.args.map (evalO vals ρ) with
   | .prim io, as_ =>
    match stepF io as_ σ with
    | some (v, σ') => RP P kp (j + 1) is (setD i.dst vals v) (ρ ++ [v]) σ' K
    | none => False
   | .call, fv :: as_ => if kp.contains j then ∃ v, CallV P fv as_ σ (fun v' τ' => v' = v ∧ τ' = σ) ∧ locsIn σ.length v = true ∧ RP P kp (j + 1) is (setD i.dst vals v) (ρ ++ [v]) σ K
     else ∃ v τ, CallV P fv as_ σ (fun v' τ' => v' = v ∧ τ' = τ) ∧ CallOk σ v τ ∧ RP P kp (j + 1) is (setD i.dst vals v) (ρ ++ [v]) τ K
   | .call, [] => False
def StepOk (P : Program) (kp : List Nat) (j : Nat) (i : Ins) (vals ρ : List AV) (σ : List AObj) (v : AV) (τ : List AObj) : Prop :=
 match gdOk ρ i.gd with
 | none => False
 | some false => v = .tup [] ∧ τ = σ
 | some true =>
  match i.op, i.args.map (evalO vals ρ) with
  | .prim io, as_ => stepF io as_ σ = some (v, τ)
  | .call, fv :: as_ => CallV P fv as_ σ (fun v' τ' => v' = v ∧ τ' = τ) ∧ CallOk σ v τ ∧ (kp.contains j = true → τ = σ)
  | .call, [] => False
variable {P : Program} {fx : Fx} {Q : Exit → St → Prop} {s : St}
theorem CallOk.refl {σ : List AObj} {v : AV} (h : locsIn σ.length v = true) : CallOk σ v σ := ⟨h, Nat.le_refl _, fun l o h1 h2 => absurd h1 h2⟩
theorem hideL_none (σ : List AObj) (f : Nat → Bool) (hf : ∀ l, f l = false) : hideL f σ = σ := by
 apply List.ext_getElem?
 intro l
 rw [hideL_get, hf]
 cases σ[l]? <;> simp
theorem evalO_locs {n : Nat} {vals ρ : List AV} {x : Opd} (hv : locsInAll n vals = true) (hr : locsInAll n ρ = true) (hc : (match x with | .c a => locsIn 0 a | _ => true) = true) : locsIn n (evalO vals ρ x) = true := by
 cases x with
 | v i => exact locsInAll_getD hv i
 | t j => exact locsInAll_getD hr j
 | c a => exact locs_le (Nat.zero_le _) hc
end Go.Proofs.YtpnghcaccfnngaaGreatDoor.AM
namespace Go.Proofs.YtpnghcaccfnngaaGreatDoor.AM
set_option linter.unusedSectionVars false
variable [Dr]
open Go
set_option linter.unusedVariables false
set_option linter.unusedSimpArgs false
theorem Enter_of {P : Program} {f : FuncId} {fn : Func} {c : Code} (hf : P.funcs[f]? = some fn) (hn : (fn.name == "runtime.NumGoroutine") = false) (hb : fn.body = some c) : Enter P f := by
 intro args w
 unfold callFunc
 simp only [Sem.run_bind, show (program).run P w = .ok P w from rfl, Result.andThen_ok, hf, hn, hb, Option.isNone, Bool.false_eq_true, if_false, Sem.run_pure]
mutual
def ren (g : Nat → Nat) : AV → AV
 | .cv c => .cv c
 | .ptr l o => .ptr (g l) o
 | .sl l o n e => .sl (g l) o n e
 | .map l => .map (g l)
 | .fn f cs => .fn f (rens g cs)
 | .bm f cs => .bm f (rens g cs)
 | .yld l => .yld (g l)
 | .agg cs => .agg (rens g cs)
 | .tup cs => .tup (rens g cs)
 | .undef => .undef
 | .slc l o n c e => .slc (g l) o n c e
def rens (g : Nat → Nat) : List AV → List AV
 | [] => []
 | a :: as_ => ren g a :: rens g as_
end
def renO (g : Nat → Nat) : AObj → AObj
 | .dead => .dead
 | .cells cs => .cells (rens g cs)
 | .map es => .map (es.map fun e => (ren g e.1, ren g e.2))
 | .siter s p => .siter s p
 | .loop r => .loop { r with vals := rens g r.vals }
theorem rens_length (g : Nat → Nat) : ∀ vs : List AV, (rens g vs).length = vs.length
 | [] => rfl
 | v :: vs => by simp [rens, rens_length g vs]
theorem rens_getD (g : Nat → Nat) : ∀ (vs : List AV) (i : Nat), (rens g vs).getD i .undef = ren g (vs.getD i .undef)
 | [], i => by simp [rens, ren]
 | v :: vs, 0 => by simp [rens]
 | v :: vs, i + 1 => by simpa [rens] using rens_getD g vs i
mutual
theorem ren_id {g : Nat → Nat} {k : Nat} (hg : ∀ l, l < k → g l = l) : ∀ a : AV, locsIn k a = true → ren g a = a
 | .cv _, _ => rfl
 | .ptr l _, h => by simp only [locsIn, decide_eq_true_eq] at h; simp [ren, hg l h]
 | .sl l _ _ _, h => by simp only [locsIn, decide_eq_true_eq] at h; simp [ren, hg l h]
 | .map l, h => by simp only [locsIn, decide_eq_true_eq] at h; simp [ren, hg l h]
 | .fn _ cs, h => by simp only [locsIn] at h; simp [ren, rens_id hg cs h]
 | .bm _ cs, h => by simp only [locsIn] at h; simp [ren, rens_id hg cs h]
 | .yld l, h => by simp only [locsIn, decide_eq_true_eq] at h; simp [ren, hg l h]
 | .agg cs, h => by simp only [locsIn] at h; simp [ren, rens_id hg cs h]
 | .tup cs, h => by simp only [locsIn] at h; simp [ren, rens_id hg cs h]
 | .undef, _ => rfl
 | .slc l _ _ _ _, h => by simp only [locsIn, decide_eq_true_eq] at h; simp [ren, hg l h]
theorem rens_id {g : Nat → Nat} {k : Nat} (hg : ∀ l, l < k → g l = l) : ∀ vs : List AV, locsInAll k vs = true → rens g vs = vs
 | [], _ => rfl
 | v :: vs, h => by simp only [locsInAll, Bool.and_eq_true] at h; simp [rens, ren_id hg v h.1, rens_id hg vs h.2]
end
theorem renO_id {g : Nat → Nat} {k : Nat} (hg : ∀ l, l < k → g l = l) {o : AObj} (h : objIn k o = true) : renO g o = o := by
 cases o with
 | dead => rfl
 | cells cs => simp [renO, rens_id hg cs h]
 | map es =>
  simp only [objIn, List.all_eq_true, Bool.and_eq_true] at h
  simp only [renO, AObj.map.injEq]
  conv => rhs; rw [← List.map_id es]
  apply List.map_congr_left
  intro e he
  simp [ren_id hg _ (h e he).1, ren_id hg _ (h e he).2]
 | siter _ _ => rfl
 | loop r => simp only [objIn] at h; simp [renO, rens_id hg _ h]
section
variable {m m2 : LM} {X : Nat → Prop} {w : World} {g : Nat → Nat} {k : Nat}
mutual
theorem VRel.ren (hm : ∀ l, l < k → m2 l = m (g l)) (ho : ∀ b, Own m2 X b → Own m X b) : ∀ (a : AV) (v : Value), locsIn k a = true → VRel m X w (AM.ren g a) v → VRel m2 X w a v
 | .cv c, v, _, h => by simp only [AM.ren, VRel] at h ⊢; exact CV.rep_less ho c v h
 | .ptr l off, v, hk, h => by simp only [AM.ren, VRel, locsIn, decide_eq_true_eq] at h hk ⊢; rw [hm l hk]; exact h
 | .sl l off len esz, v, hk, h => by simp only [AM.ren, VRel, locsIn, decide_eq_true_eq] at h hk ⊢; rw [hm l hk]; exact h
 | .map l, v, hk, h => by simp only [AM.ren, VRel, locsIn, decide_eq_true_eq] at h hk ⊢; rw [hm l hk]; exact h
 | .fn f cs, v, hk, h => by simp only [AM.ren, VRel, locsIn] at h hk ⊢; obtain ⟨vs, h1, h2⟩ := h; exact ⟨vs, h1, VRels.ren hm ho cs vs hk h2⟩
 | .bm f cs, v, hk, h => by simp only [AM.ren, VRel, locsIn] at h hk ⊢; obtain ⟨vs, h1, h2⟩ := h; exact ⟨vs, h1, VRels.ren hm ho cs vs hk h2⟩
 | .yld l, v, hk, h => by simp only [AM.ren, VRel, locsIn, decide_eq_true_eq] at h hk ⊢; rw [hm l hk]; exact h
 | .agg cs, v, hk, h => by simp only [AM.ren, VRel, locsIn] at h hk ⊢; obtain ⟨vs, h1, h2⟩ := h; exact ⟨vs, h1, VRels.ren hm ho cs vs hk h2⟩
 | .tup cs, v, hk, h => by simp only [AM.ren, VRel, locsIn] at h hk ⊢; obtain ⟨vs, h1, h2⟩ := h; exact ⟨vs, h1, VRels.ren hm ho cs vs hk h2⟩
 | .undef, v, _, _ => by simp [VRel]
 | .slc l off len cap esz, v, hk, h => by simp only [AM.ren, VRel, locsIn, decide_eq_true_eq] at h hk ⊢; rw [hm l hk]; exact h
theorem VRels.ren (hm : ∀ l, l < k → m2 l = m (g l)) (ho : ∀ b, Own m2 X b → Own m X b) : ∀ (as_ : List AV) (vs : List Value), locsInAll k as_ = true → VRels m X w (AM.rens g as_) vs → VRels m2 X w as_ vs
 | [], [], _, _ => by simp [VRels]
 | a :: as_, v :: vs, hk, h => by simp only [AM.rens, VRels, locsInAll, Bool.and_eq_true] at h hk ⊢; exact ⟨VRel.ren hm ho a v hk.1 h.1, VRels.ren hm ho as_ vs hk.2 h.2⟩
 | [], _ :: _, _, h => by simp [AM.rens, VRels] at h
 | _ :: _, [], _, h => by simp [AM.rens, VRels] at h
end
theorem ORel.ren (hm : ∀ l, l < k → m2 l = m (g l)) (ho : ∀ b, Own m2 X b → Own m X b) {b : Option Nat} {o : AObj} (hk : objIn k o = true) (h : ORel m X w b (renO g o)) : ORel m2 X w b o := by
 cases b with
 | none => cases o <;> simp [ORel, renO] at h ⊢
 | some b =>
  cases o with
  | dead => trivial
  | cells cs =>
   simp only [ORel, renO, objIn, rens_length] at h hk ⊢
   obtain ⟨c, e, h1, h2, h3⟩ := h
   exact ⟨c, e, h1, h2, VRels.ren hm ho _ _ hk h3⟩
  | map es =>
   simp only [ORel, renO, objIn, List.length_map] at h hk ⊢
   obtain ⟨ces, clock, h1, h2, h3, h4, h5⟩ := h
   refine ⟨ces, clock, h1, h2, h3, h4, fun i kk a hi => ?_⟩
   obtain ⟨e, he, g1, g2⟩ := h5 i (AM.ren g kk) (AM.ren g a) (by rw [List.getElem?_map, hi]; rfl)
   rw [List.all_eq_true] at hk
   have := hk _ (List.mem_of_getElem? hi)
   simp only [Bool.and_eq_true] at this
   exact ⟨e, he, VRel.ren hm ho _ _ this.1 g1, VRel.ren hm ho _ _ this.2 g2⟩
  | siter s0 p => exact h
  | loop r =>
   simp only [ORel, renO, objIn, rens_length] at h hk ⊢
   obtain ⟨tmps, d, fi, h1, h2, h3⟩ := h
   refine ⟨tmps, d, fi, h1, fun i t hi => ?_, h3⟩
   have := h2 i t hi
   simp only [rens_getD] at this
   exact VRel.ren hm ho _ _ (locsInAll_getD hk i) this
end
theorem renO_live {g : Nat → Nat} {o : AObj} (h : o.live) : (renO g o).live := by cases o <;> simp_all [renO, AObj.live]
variable {P : Program}
structure Tidy (n0 : Nat) (σ : List AObj) (r : AV) (σ' : List AObj) (g : Nat → Nat) (r2 : AV) (σ2 : List AObj) : Prop where
 low : ∀ l, l < n0 → g l = l
 rise : ∀ a b, a < b → b < σ2.length → g a < g b
 le : n0 ≤ σ2.length
 res : r = ren g r2
 rin : locsIn σ2.length r2 = true
 obj : ∀ (l : Nat) o, σ2[l]? = some o → (l < n0 ∧ σ[l]? = some o ∧ σ'[l]? = some o) ∨ (objIn σ2.length o = true ∧ σ'[g l]? = some (renO g o))
theorem AC.tidy {f : FuncId} {args : List AV} {σ : List AObj} {Q Q' : AV → List AObj → Prop} (h : AC P f args σ Q) (hq : ∀ r σ', Q r σ' → ∃ g r2 σ2, Tidy σ.length σ r σ' g r2 σ2 ∧ Q' r2 σ2) : AC P f args σ Q' := by
 refine ⟨h.1, fun m X w cargs ha hh => (h.2 m X w cargs ha hh).mono ?_⟩
 rintro e w' ⟨c, r, σ', m', rfl, hQ, hr, hh', hst, hle⟩
 obtain ⟨g, r2, σ2, ht, hQ'⟩ := hq r σ' hQ
 let m2 : LM := fun l => if l < σ2.length then m' (g l) else none
 have hm2 : ∀ l, l < σ2.length → m2 l = m' (g l) := fun l hl => by simp only [m2]; rw [if_pos hl]
 have hm2s : ∀ l b, m2 l = some b → l < σ2.length ∧ m' (g l) = some b := fun l b hl => by
  simp only [m2] at hl
  split at hl
  ·rename_i h; exact ⟨h, hl⟩
  ·cases hl
 have how : ∀ b, Own m2 X b → Own m' X b := by
  rintro b (hx | ⟨l, hl⟩)
  ·exact .inl hx
  ·exact .inr ⟨g l, (hm2s l b hl).2⟩
 have hobj : ∀ (l : Nat) o, σ2[l]? = some o → objIn σ2.length o = true ∧ σ'[g l]? = some (renO g o) := by
  intro l o ho
  rcases ht.obj l o ho with ⟨h1, h2, h3⟩ | h1
  ·have hin := hh.closed l o h2
   refine ⟨objIn_mono _ _ o ht.le hin, ?_⟩
   rw [ht.low l h1, renO_id ht.low hin]; exact h3
  ·exact h1
 refine ⟨c, r2, σ2, m2, rfl, hQ', ?_, ⟨hh'.xb, ?_, ?_, ?_, ?_⟩, ⟨?_, ?_, hst.size, hst.fr, hst.shp, hst.os, hst.tape, hst.output, hst.drawn⟩, ht.le⟩
 ·exact VRel.ren hm2 how r2 c ht.rin (by rw [← ht.res]; exact hr)
 ·intro l b hl; obtain ⟨h1, h2⟩ := hm2s l b hl; exact ⟨h1, (hh'.dom _ b h2).2⟩
 ·intro l b o hl ho hv
  obtain ⟨h1, h2⟩ := hm2s l b hl
  exact hh'.own (g l) b _ h2 (hobj l o ho).2 (renO_live hv)
 ·intro l l' b o' hl hl' ho' hv
  obtain ⟨h1, h2⟩ := hm2s l b hl
  obtain ⟨h1', h2'⟩ := hm2s l' b hl'
  have := hh'.inj (g l) (g l') b _ h2 h2' (hobj l' o' ho').2 (renO_live hv)
  rcases Nat.lt_or_ge l' l with hlt | hge
  ·have := ht.rise l' l hlt h1; omega
  ·exact hge
 ·intro l o ho
  obtain ⟨h1, h2⟩ := hobj l o ho
  have hl : l < σ2.length := (List.getElem?_eq_some_iff.1 ho).1
  rw [hm2 l hl]
  exact ORel.ren hm2 how h1 (hh'.obj _ _ h2)
 ·intro l hl
  rw [hm2 l (by have := ht.le; omega), ht.low l hl]; exact hst.keep l hl
 ·intro l b hl; exact hst.new _ b (hm2s l b hl).2
end Go.Proofs.YtpnghcaccfnngaaGreatDoor.AM
namespace Go.Proofs.YtpnghcaccfnngaaGreatDoor.AM
set_option linter.unusedSectionVars false
variable [Dr]
open Go
set_option linter.unusedVariables false
set_option linter.unusedSimpArgs false
section
variable {P : Program} {b : Frame} {a : Act} {k : List Item} {cs : List Frame} {w : World}
theorem stepR_scope {c : Code} : step P (lone (b.atR a (.code (.scope c) :: k)) cs w) = .next (lone (b.atR a (.code c :: .inScope c :: k)) cs w) :=
 step_lone_go (by simp [stepG, stepG.exec, Frame.atR])
theorem stepR_inScope {c : Code} : step P (lone (b.atR a (.inScope c :: k)) cs w) = .next (lone (b.atR a k) cs w) :=
 step_lone_go (by simp [stepG, stepG.exec, Frame.atR])
theorem wpIn_scope_straight {F : Fence} {n : Nat} {Q : Exit → Act → World → Prop} {c : Code} (h : c.wpIn F n P (fun e a w => match e with | .goto _ => False | e => Q e a w) a w) : (Code.scope c).wpIn F n P Q a w := by
 intro b k cs hro hb hr
 have h0 : (lone (b.atR a (.code (.scope c) :: k)) cs w).fenced P F := fenced_calm hb hr rfl
 obtain ⟨e, a₁, w₁, hq, harr⟩ := h b (.inScope c :: k) cs hro hb hr
 cases e with
 | normal => exact ⟨.normal, a₁, w₁, hq, .head h0 stepR_scope (StepsIn.trans harr (.one (fenced_calm hb hr rfl) stepR_inScope))⟩
 | exit id' =>
  have hx : exitTo id' (.inScope c :: k) = exitTo id' k := by simp [exitTo]
  exact ⟨.exit id', a₁, w₁, hq, fun k' hk => .head h0 stepR_scope (harr.1 k' (by rw [hx]; exact hk)),
   fun hr' hk => let ⟨k₁, h1, h2⟩ := harr.2 hr' (by rw [hx]; exact hk); ⟨k₁, h1, .head h0 stepR_scope h2⟩⟩
 | goto l => exact hq.elim
 | ret => exact ⟨_, a₁, w₁, hq, .of_steps (.one h0 stepR_scope) harr⟩
 | panic ch => exact ⟨_, a₁, w₁, hq, .of_steps (.one h0 stepR_scope) harr⟩
 | outgrown => exact ⟨_, a₁, w₁, hq, .of_steps (.one h0 stepR_scope) harr⟩
end
theorem W_scope {P : Program} {fx : Fx} {s : St} {Q : Exit → St → Prop} {c : Code} (h : W P fx c s fun e s' => match e with | .goto _ => False | e => Q e s') : W P fx (.scope c) s Q := by
 intro m X en ac w hs hr
 refine wpIn_scope_straight (wpIn_mono (h m X en ac w hs hr) ?_)
 rintro e ac' w' ⟨s', m', hq, hs', hst⟩
 cases e with
 | goto l => exact hq.elim
 | _ => exact ⟨s', m', hq, hs', hst⟩
theorem W_cond_const {P : Program} {fx : Fx} {s : St} {Q : Exit → St → Prop} {b : Bool} {x y : Code} (h : W P fx (if b then x else y) s Q) : W P fx (.cond (.const (.bool b)) x y) s Q :=
 fun m X en ac w hs hr => wpIn_cond (t := b) rfl (h m X en ac w hs hr)
inductive IC where
 | scope (a : IC)
 | skip
 | label (l : Nat)
 | exit (i : Nat)
 | ret
 | seq (a b : IC)
 | block (i : Nat) (a : IC)
 | cond (i : Nat) (a b : IC)
 | loop (a : IC)
 | region (is : List Ins)
 | draw (dirs : List (List Nat)) (is : List Ins) (pds : List (List Nat))
 | rangef (g : Opd) (ps : Array Nat) (assign body : Code) (ia ib : IC)
def pdsOf : List (List Nat) → List (List Nat) → List (List Nat)
 | [], pds => pds
 | d :: ds, pds => pdsOf ds (pds ++ [(d ++ d.flatMap fun e => pds.getD e []).eraseDups])
def dirsOf (ops : Array Oper) : List (List Nat) := (List.range ops.size).map (dirOf ops)
def IC.dr (dirs : List (List Nat)) (is : List Ins) : IC := .draw dirs is (pdsOf dirs [])
def compC (P : Program) (vars : List Nat) (N : Nat) : Code → Option IC
 | .skip => some .skip
 | .label l => some (.label l)
 | .exit i => some (.exit i)
 | .ret => some .ret
 | .seq a b => (compC P vars N a).bind fun x => (compC P vars N b).map fun y => .seq x y
 | .block i a => (compC P vars N a).map fun x => .block i x
 | .loop a => (compC P vars N a).map fun x => .loop x
 | .scope a => (compC P vars N a).map fun x => .scope x
 | .cond (.const (.bool b)) x y => if b then compC P vars N x else compC P vars N y
 | .cond (.tmp t) a b => (vars.idxOf? t).bind fun i => (compC P vars N a).bind fun x => (compC P vars N b).map fun y => .cond i x y
 | .region _ ops false => (compReg P vars N ops).map .region
 | .region _ ops true => (compReg P vars N ops).map fun is => .draw (dirsOf ops) is (pdsOf (dirsOf ops) [])
 | .rangeFunc g ps assign body => (compC P vars N assign).bind fun ia => (compC P vars N body).map fun ib => .rangef (compOpd vars [] g) ps assign body ia ib
 | _ => none
variable {P : Program} {fx : Fx} {s : St} {Q : Exit → St → Prop}
def DW (P : Program) (fx : Fx) (dirs : List (List Nat)) (is : List Ins) (s : St) (Q : Exit → St → Prop) : Prop :=
 ∀ id ops, dirsOf ops = dirs → compReg P fx.vars fx.N ops = some is → W P fx (.region id ops true) s Q
def IL (P : Program) (fx : Fx) (a : IC) (s : St) (Q : Exit → St → Prop) : Prop :=
 ∀ c, compC P fx.vars fx.N c = some a → WL P fx c s Q
def RW (P : Program) (fx : Fx) (g : Opd) (ps : Array Nat) (assign body : Code) (s : St) (Q : Exit → St → Prop) : Prop :=
 ∃ gf cap, evalO s.vals [] g = .fn (.func gf) cap ∧ s.vals.length ≤ fx.vars.length ∧ (∀ l0, fx.r = some l0 → ∃ r0, s.heap[l0]? = some (.loop r0)) ∧
  AC P gf (.yld s.heap.length :: cap) (s.heap ++ [.loop (newLoop fx s.vals ps assign body)]) fun _ σ' => afterLoop P fx s.vals s.heap.length Q σ'
def IW (P : Program) (fx : Fx) : IC → St → (Exit → St → Prop) → Prop
 | .skip, s, Q => Q .normal s
 | .label _, s, Q => Q .normal s
 | .exit i, s, Q => Q (.exit i) s
 | .ret, s, Q => Q .ret s
 | .seq a b, s, Q => IW P fx a s fun e s' => match e with | .normal => IW P fx b s' Q | e => Q e s'
 | .block i a, s, Q => IW P fx a s fun e s' => match e with | .exit i' => if i' = i then Q .normal s' else Q (.exit i') s' | e => Q e s'
 | .cond i a b, s, Q => ∃ t, s.vals.getD i .undef = .b t ∧ (if t then IW P fx a s Q else IW P fx b s Q)
 | .loop a, s, Q => IL P fx a s Q
 | .scope a, s, Q => IW P fx a s fun e s' => match e with | .goto _ => False | e => Q e s'
 | .region is, s, Q => RG P is s.vals [] s.heap fun vals _ σ => Q .normal ⟨vals, σ⟩
 | .draw dirs is _, s, Q => DW P fx dirs is s Q
 | .rangef g ps assign body _ _, s, Q => RW P fx g ps assign body s Q
theorem IW_sound : ∀ (c : Code) (ic : IC) (s : St) (Q : Exit → St → Prop), compC P fx.vars fx.N c = some ic → IW P fx ic s Q → W P fx c s Q
 | .skip, ic, s, Q, hc, h => by simp only [compC, Option.some.injEq] at hc; subst hc; exact W_skip h
 | .label l, ic, s, Q, hc, h => by simp only [compC, Option.some.injEq] at hc; subst hc; exact W_label h
 | .exit i, ic, s, Q, hc, h => by simp only [compC, Option.some.injEq] at hc; subst hc; exact W_exit h
 | .ret, ic, s, Q, hc, h => by simp only [compC, Option.some.injEq] at hc; subst hc; exact W_ret h
 | .seq a b, ic, s, Q, hc, h => by
  simp only [compC, Option.bind_eq_some_iff, Option.map_eq_some_iff] at hc
  obtain ⟨x, hx, y, hy, rfl⟩ := hc
  refine W_seq ((IW_sound a x s _ hx h).mono ?_)
  intro e s' hq
  cases e with
  | normal => exact IW_sound b y s' Q hy hq
  | _ => exact hq
 | .block i a, ic, s, Q, hc, h => by
  simp only [compC, Option.map_eq_some_iff] at hc
  obtain ⟨x, hx, rfl⟩ := hc
  exact W_block (IW_sound a x s _ hx h)
 | .loop a, ic, s, Q, hc, h => by
  simp only [compC, Option.map_eq_some_iff] at hc
  obtain ⟨x, hx, rfl⟩ := hc
  exact W_loop (h a hx)
 | .scope a, ic, s, Q, hc, h => by
  simp only [compC, Option.map_eq_some_iff] at hc
  obtain ⟨x, hx, rfl⟩ := hc
  exact W_scope (IW_sound a x s _ hx h)
 | .cond (.const v) a b, ic, s, Q, hc, h => by
  cases v <;> simp only [compC, reduceCtorEq] at hc
  rename_i t
  cases t with
  | true => simp only [if_true] at hc; exact W_cond_const (IW_sound a ic s Q hc h)
  | false => simp only [Bool.false_eq_true, if_false] at hc; exact W_cond_const (IW_sound b ic s Q hc h)
 | .cond (.tmp t) a b, ic, s, Q, hc, h => by
  simp only [compC, Option.bind_eq_some_iff, Option.map_eq_some_iff] at hc
  obtain ⟨i, hi, x, hx, y, hy, rfl⟩ := hc
  obtain ⟨b', hb, h⟩ := h
  refine W_cond (idxOf?_some hi) hb ?_
  cases b' with
  | true => exact IW_sound a x s Q hx h
  | false => exact IW_sound b y s Q hy h
 | .region id ops false, ic, s, Q, hc, h => by
  simp only [compC, Option.map_eq_some_iff] at hc
  obtain ⟨is, his, rfl⟩ := hc
  exact W_region his h
 | .region id ops true, ic, s, Q, hc, h => by
  simp only [compC, Option.map_eq_some_iff] at hc
  obtain ⟨is, his, rfl⟩ := hc
  exact h id ops rfl his
 | .rangeFunc g ps assign body, ic, s, Q, hc, h => by
  simp only [compC, Option.bind_eq_some_iff, Option.map_eq_some_iff] at hc
  obtain ⟨ia, h1, ib, h2, rfl⟩ := hc
  obtain ⟨gf, cap, g1, g2, g3, g4⟩ := h
  exact W_rangeFunc rfl g1 g2 g3 g4
 | .cond (.global _) _ _, _, _, _, hc, _ => by simp [compC] at hc
 | .cond (.func _) _ _, _, _, _, hc, _ => by simp [compC] at hc
 | .goto _, _, _, _, hc, _ => by simp [compC] at hc
 | .refuse _, _, _, _, hc, _ => by simp [compC] at hc
theorem IL_unroll {a : IC} (h : IW P fx a s fun e s' => match e with | .normal => IL P fx a s' Q | e => Q e s') : IL P fx a s Q :=
 fun c hc => WL_unroll ((IW_sound c a s _ hc h).mono fun e s' hq => by
  cases e with
  | normal => exact hq c hc
  | _ => exact hq)
theorem IL.weak {a : IC} {s' : St} (hw : Weak fx s s') (h : IL P fx a s' Q) : IL P fx a s Q := fun c hc => (h c hc).weak hw
theorem AC_IW {f : FuncId} {fn : Func} {c : Code} {ic : IC} {args : List AV} {σ : List AObj} {Q : AV → List AObj → Prop} (vars : List Nat) (hf : P.funcs[f]? = some fn) (hb : fn.body = some c) (hn : (fn.name == "runtime.NumGoroutine") = false) (hargs : args.length ≤ fn.ntmps)
  (hc : compC P vars fn.ntmps c = some ic)
  (h : IW P ⟨vars, fn.ntmps, none, σ.length⟩ ic ⟨initVals vars args, σ⟩ fun e s' => match e with
   | .normal | .ret => ∃ r, resAll P vars s'.vals s'.heap fn.results.toList = some r ∧ Q r s'.heap
   | _ => False) : AC P f args σ Q :=
 AC_of_body hf hb (Enter_of hf hn hb) hargs (IW_sound (fx := ⟨vars, fn.ntmps, none, σ.length⟩) c ic _ _ hc h)
def bts (l : List Nat) : ByteArray := ⟨(l.map UInt8.ofNat).toArray⟩
def nav : List Nat → Code → Code
 | [], c => c
 | 0 :: p, .seq a _ => nav p a
 | 1 :: p, .seq _ b => nav p b
 | 0 :: p, .cond _ a _ => nav p a
 | 1 :: p, .cond _ _ b => nav p b
 | 0 :: p, .block _ a => nav p a
 | 0 :: p, .loop a => nav p a
 | 0 :: p, .scope a => nav p a
 | 2 :: p, .rangeFunc _ _ a _ => nav p a
 | 3 :: p, .rangeFunc _ _ _ b => nav p b
 | _, _ => .skip
end Go.Proofs.YtpnghcaccfnngaaGreatDoor.AM
namespace Go.Proofs.YtpnghcaccfnngaaGreatDoor.AM
variable [Dr]
open Go
def locOf : AV → List Nat
 | .ptr l _ => [l]
 | .sl l _ _ _ => [l]
 | .map l => [l]
 | .slc l _ _ _ _ => [l]
 | _ => []
inductive PlT where
 | no
 | at (io : IOp) (as_ : List AV) (n : Nat)
 deriving Inhabited
def newLoc (k n : Nat) : List Nat := match k with | 2 => [n] | _ => []
def plLocs : PlT → List Nat
 | .no => []
 | .at io as_ n => as_.flatMap locOf ++ newLoc (kindOf io) n
def plOf (i : Ins) (as_ : List AV) (σ : List AObj) : PlT :=
 match i.op with
 | .prim io => .at io as_ σ.length
 | .call => .no
theorem hideL_push {f : Nat → Bool} {σ : List AObj} {x : AObj} (h : f σ.length = false) : hideL f (σ ++ [x]) = hideL f σ ++ [x] := by
 simp [hideL, List.mapIdx_append, h]
theorem hideL_set {f : Nat → Bool} {σ : List AObj} {l : Nat} {x : AObj} (h : f l = false) : hideL f (σ.set l x) = (hideL f σ).set l x := by
 apply List.ext_getElem?
 intro k
 rw [hideL_get]
 by_cases hk : l = k
 ·subst hk
  by_cases hl : l < σ.length
  ·rw [List.getElem?_set_self hl, List.getElem?_set_self (by rw [hideL_length]; exact hl)]
   simp [h]
  ·rw [List.getElem?_eq_none (by simp; omega), List.getElem?_eq_none (by simp [hideL_length]; omega)]; rfl
 ·rw [List.getElem?_set_ne hk, List.getElem?_set_ne hk, hideL_get]
theorem rowOf_hide {f : Nat → Bool} {σ : List AObj} {l : Nat} (h : f l = false) : rowOf (hideL f σ) l = rowOf σ l := by
 unfold rowOf; rw [hideL_get]
 cases σ[l]? with
 | none => rfl
 | some o => simp [h]
theorem mapOf_hide {f : Nat → Bool} {σ : List AObj} {l : Nat} (h : f l = false) : mapOf (hideL f σ) l = mapOf σ l := by
 unfold mapOf; rw [hideL_get]
 cases σ[l]? with
 | none => rfl
 | some o => simp [h]
theorem siterOf_hide {f : Nat → Bool} {σ : List AObj} {l : Nat} (h : f l = false) : siterOf (hideL f σ) l = siterOf σ l := by
 unfold siterOf; rw [hideL_get]
 cases σ[l]? with
 | none => rfl
 | some o => simp [h]
theorem src_hide {f : Nat → Bool} {σ : List AObj} {e : Nat} {x : AV} (h : ∀ l ∈ locOf x, f l = false) : srcCells (hideL f σ) e x = srcCells σ e x := by
 cases x with
 | sl l off len esz =>
  simp only [srcCells]
  rw [rowOf_hide (h l (by simp [locOf]))]
 | slc l off len cap esz =>
  simp only [srcCells]
  rw [rowOf_hide (h l (by simp [locOf]))]
 | cv c => cases c <;> rfl
 | _ => rfl
theorem stepF_hide {io : IOp} {as_ : List AV} {σ σ' : List AObj} {r : AV} {f : Nat → Bool} (h : stepF io as_ σ = some (r, σ')) (hf : ∀ l ∈ plLocs (.at io as_ σ.length), f l = false) : stepF io as_ (hideL f σ) = some (r, hideL f σ') := by
 by_cases h0 : kindOf io = 0
 ·obtain ⟨e1, e2⟩ := stepF_pure h0 h
  rw [e1]; exact e2 _
 have hn : kindOf io = 2 → f σ.length = false := fun hk => hf _ (by simp [plLocs, hk, newLoc])
 cases io <;> (try exact absurd rfl h0) <;> simp only [stepF] at h ⊢
 case alloc zs =>
  unfold f_alloc at h ⊢; split at h <;> (try (cases h; done))
  cases h; rw [hideL_push (hn rfl), hideL_length]
 case box =>
  unfold f_box at h ⊢; split at h <;> (try (cases h; done))
  split at h <;> (try (cases h; done))
  rename_i hc
  cases h; rw [if_neg hc, hideL_push (hn rfl), hideL_length]
 case bslice e n zs ps =>
  unfold f_bslice at h ⊢
  simp only [Option.map_eq_some_iff] at h ⊢
  obtain ⟨cs, h1, h2⟩ := h
  cases h2
  exact ⟨cs, h1, by rw [hideL_push (hn rfl), hideL_length]⟩
 case load1 =>
  unfold f_load1 at h ⊢; split at h <;> (try (cases h; done))
  ·rename_i l off
   rw [rowOf_hide (hf l (by simp [plLocs, locOf]))]
   simp only [Option.bind_eq_some_iff, Option.map_eq_some_iff] at h ⊢; obtain ⟨cs, h1, v, h2, he⟩ := h; cases he; exact ⟨cs, h1, _, h2, rfl⟩
  ·simp only [Option.map_eq_some_iff] at h ⊢; obtain ⟨v, h1, he⟩ := h; cases he; exact ⟨v, h1, rfl⟩
 case loadN n =>
  unfold f_loadN at h ⊢; split at h <;> (try (cases h; done))
  ·rename_i l off
   rw [rowOf_hide (hf l (by simp [plLocs, locOf]))]
   simp only [Option.bind_eq_some_iff] at h ⊢; obtain ⟨cs, h1, h⟩ := h
   split at h <;> (try (cases h; done))
   rename_i hc; cases h; exact ⟨cs, h1, by rw [if_pos hc]⟩
  ·split at h <;> (try (cases h; done))
   rename_i hc; cases h; rw [if_pos hc]
 case store n =>
  unfold f_store at h ⊢; split at h <;> (try (cases h; done))
  rename_i l off v
  have hl := hf l (by simp [plLocs, locOf])
  rw [rowOf_hide hl]
  simp only [Option.bind_eq_some_iff] at h ⊢; obtain ⟨cs, h1, h⟩ := h
  split at h <;> (try (cases h; done))
  rename_i hc; cases h; exact ⟨cs, h1, by rw [if_pos hc, hideL_set hl]⟩
 case mkmap =>
  unfold f_mkmap at h ⊢; split at h <;> (try (cases h; done))
  cases h; rw [hideL_push (hn rfl), hideL_length]
 case mkslice e b zs =>
  unfold f_mkslice at h ⊢; split at h <;> (try (cases h; done))
  split at h <;> (try (cases h; done))
  rename_i hc
  cases h; rw [if_pos hc, hideL_push (hn rfl), hideL_length]
 case mksliceC e b zs =>
  unfold f_mksliceC at h ⊢; split at h <;> (try (cases h; done))
  split at h <;> (try (cases h; done))
  rename_i hc
  cases h; rw [if_pos hc, hideL_push (hn rfl), hideL_length]
 case slA n e lo hi =>
  unfold f_slA at h ⊢; split at h <;> (try (cases h; done))
  rename_i l off bs
  rw [rowOf_hide (hf l (by simp [plLocs, locOf]))]
  simp only [Option.bind_eq_some_iff] at h ⊢; obtain ⟨cs, h1, p, h2, h⟩ := h
  split at h <;> (try (cases h; done))
  rename_i hc; cases h; exact ⟨cs, h1, p, h2, by rw [if_pos hc]⟩
 case append e b =>
  unfold f_append at h ⊢; split at h <;> (try (cases h; done))
  ·rename_i x
   rw [src_hide (fun l hl => hf l (by simp [plLocs, hl]))]
   simp only [Option.bind_eq_some_iff] at h ⊢; obtain ⟨new, h1, n, h2, h⟩ := h
   refine ⟨new, h1, n, h2, ?_⟩
   split at h
   ·rename_i hc; cases h; rw [if_pos hc]
   ·rename_i hc
    rw [if_neg hc]
    split at h <;> (try (cases h; done))
    rename_i hc2; cases h; rw [if_pos hc2, hideL_push (hn rfl), hideL_length]
  ·rename_i l len e' x
   have hl := hf l (by simp [plLocs, locOf])
   rw [src_hide (fun l hl => hf l (by simp [plLocs, hl])), rowOf_hide hl]
   simp only [Option.bind_eq_some_iff] at h ⊢; obtain ⟨cs, h0, new, h1, n, h2, h⟩ := h
   refine ⟨cs, h0, new, h1, n, h2, ?_⟩
   split at h <;> (try (cases h; done))
   rename_i hc2; cases h
   rw [if_pos hc2, hideL_push (by rw [List.length_set]; exact hn rfl), hideL_set hl, hideL_length]
  ·rename_i l off len cap e' x
   have hl := hf l (by simp [plLocs, locOf])
   rw [src_hide (fun l hl => hf l (by simp [plLocs, hl])), rowOf_hide hl]
   simp only [Option.bind_eq_some_iff] at h ⊢; obtain ⟨cs, h0, new, h1, n, h2, h⟩ := h
   refine ⟨cs, h0, new, h1, n, h2, ?_⟩
   split at h
   ·rename_i hcc; rw [if_pos hcc]
    split at h <;> (try (cases h; done))
    rename_i hc2; cases h; rw [if_pos hc2, hideL_set hl]
   ·rename_i hcc; rw [if_neg hcc]
    split at h <;> (try (cases h; done))
    rename_i hc2; cases h; rw [if_pos hc2, hideL_push (hn rfl), hideL_length]
 case clear zs =>
  unfold f_clear at h ⊢; split at h <;> (try (cases h; done))
  ·rename_i l off len e'
   have hl := hf l (by simp [plLocs, locOf])
   rw [rowOf_hide hl]
   simp only [Option.bind_eq_some_iff] at h ⊢; obtain ⟨cs, h0, h⟩ := h
   refine ⟨cs, h0, ?_⟩
   split at h <;> (try (cases h; done))
   rename_i hc2; cases h
   rw [if_pos hc2, hideL_set hl]
  ·rename_i l off len cap e'
   have hl := hf l (by simp [plLocs, locOf])
   rw [rowOf_hide hl]
   simp only [Option.bind_eq_some_iff] at h ⊢; obtain ⟨cs, h0, h⟩ := h
   refine ⟨cs, h0, ?_⟩
   split at h <;> (try (cases h; done))
   rename_i hc2; cases h
   rw [if_pos hc2, hideL_set hl]
 case copy e =>
  unfold f_copy at h ⊢; split at h <;> (try (cases h; done))
  rename_i l off len e' x
  have hl := hf l (by simp [plLocs, locOf])
  rw [src_hide (fun l hl => hf l (by simp [plLocs, hl])), rowOf_hide hl]
  simp only [Option.bind_eq_some_iff] at h ⊢; obtain ⟨cs, h0, new, h1, n, h2, h⟩ := h
  refine ⟨cs, h0, new, h1, n, h2, ?_⟩
  split at h <;> (try (cases h; done))
  rename_i hc2; cases h
  rw [if_pos hc2, hideL_set hl]
 case lookup ks z ok =>
  unfold f_lookup at h ⊢; split at h <;> (try (cases h; done))
  rename_i l k
  rw [mapOf_hide (hf l (by simp [plLocs, locOf]))]
  simp only [Option.bind_eq_some_iff] at h ⊢; obtain ⟨es, h1, h⟩ := h
  refine ⟨es, h1, ?_⟩
  split at h <;> (try (cases h; done))
  rename_i hc
  rw [if_neg hc]
  simp only [Option.map_eq_some_iff] at h ⊢; obtain ⟨v, h2, he⟩ := h; cases he; exact ⟨v, h2, rfl⟩
 case mapset ks =>
  unfold f_mapset at h ⊢; split at h <;> (try (cases h; done))
  rename_i l k v
  have hl := hf l (by simp [plLocs, locOf])
  rw [mapOf_hide hl]
  simp only [Option.bind_eq_some_iff] at h ⊢; obtain ⟨es, h1, h⟩ := h
  refine ⟨es, h1, ?_⟩
  split at h <;> (try (cases h; done))
  rename_i hc
  rw [if_neg hc]
  simp only [Option.map_eq_some_iff] at h ⊢; obtain ⟨v, h2, he⟩ := h; cases he; exact ⟨v, h2, by rw [hideL_set hl]⟩
 case mapdel ks =>
  unfold f_mapdel at h ⊢; split at h <;> (try (cases h; done))
  rename_i l k
  have hl := hf l (by simp [plLocs, locOf])
  rw [mapOf_hide hl]
  simp only [Option.bind_eq_some_iff] at h ⊢; obtain ⟨es, h1, h⟩ := h
  refine ⟨es, h1, ?_⟩
  split at h <;> (try (cases h; done))
  rename_i hc
  rw [if_neg hc]
  simp only [Option.map_eq_some_iff] at h ⊢; obtain ⟨v, h2, he⟩ := h; cases he; exact ⟨v, h2, by rw [hideL_set hl]⟩
 case maplen =>
  unfold f_maplen at h ⊢; split at h <;> (try (cases h; done))
  rename_i l
  rw [mapOf_hide (hf l (by simp [plLocs, locOf]))]
  simp only [Option.map_eq_some_iff] at h ⊢; obtain ⟨v, h2, he⟩ := h; cases he; exact ⟨v, h2, rfl⟩
 case appendz e b zs =>
  unfold f_appendz at h ⊢; split at h <;> (try (cases h; done))
  rename_i l off len cap e' k nn
  have hl := hf l (by simp [plLocs, locOf])
  rw [rowOf_hide hl]
  simp only [Option.bind_eq_some_iff] at h ⊢; obtain ⟨cs, h0, h⟩ := h
  refine ⟨cs, h0, ?_⟩
  split at h <;> (try (cases h; done))
  rename_i hc2; cases h
  rw [if_pos hc2, hideL_push (hn rfl), hideL_length]
 case stuck => cases h
 case mapent => cases h
 case entst => cases h
 case rstr =>
  unfold f_rstr at h ⊢; split at h <;> (try (cases h; done))
  cases h; rw [hideL_push (hn rfl), hideL_length]
 case snext =>
  unfold f_snext at h ⊢; split at h <;> (try (cases h; done))
  rename_i l
  have hl := hf l (by simp [plLocs, locOf])
  rw [siterOf_hide hl]
  simp only [Option.map_eq_some_iff] at h ⊢; obtain ⟨sp, h2, h⟩ := h
  refine ⟨sp, h2, ?_⟩
  split at h
  ·rename_i hc; cases h; rw [if_pos hc, hideL_set hl]
  ·rename_i hc; cases h; rw [if_neg hc]
theorem ch_push {σ : List AObj} {x : AObj} {l : Nat} (h : (σ ++ [x])[l]? ≠ σ[l]?) : l = σ.length := by
 rcases Nat.lt_trichotomy l σ.length with h1 | h1 | h1
 ·rw [List.getElem?_append_left h1] at h; exact absurd rfl h
 ·exact h1
 ·rw [List.getElem?_eq_none (by simp; omega), List.getElem?_eq_none (by omega)] at h; exact absurd rfl h
theorem ch_set {σ : List AObj} {x : AObj} {l l0 : Nat} (h : (σ.set l0 x)[l]? ≠ σ[l]?) : l = l0 := by
 by_cases h1 : l0 = l
 ·exact h1.symm
 ·rw [List.getElem?_set_ne h1] at h; exact absurd rfl h
theorem stepF_ch {io : IOp} {as_ : List AV} {σ σ' : List AObj} {r : AV} (h : stepF io as_ σ = some (r, σ')) {l : Nat} (hl : σ'[l]? ≠ σ[l]?) : l ∈ plLocs (.at io as_ σ.length) := by
 by_cases h0 : kindOf io = 0
 ·rw [(stepF_pure h0 h).1] at hl; exact absurd rfl hl
 by_cases h1 : kindOf io = 1
 ·rw [stepF_reads h1 h] at hl; exact absurd rfl hl
 have hnew : kindOf io = 2 → ∀ x, σ' = σ ++ [x] → l ∈ plLocs (.at io as_ σ.length) := fun hk x he => by
  rw [he] at hl; rw [ch_push hl]; simp [plLocs, hk, newLoc]
 have hset : ∀ l0 x, l0 ∈ as_.flatMap locOf → σ' = σ.set l0 x → l ∈ plLocs (.at io as_ σ.length) := fun l0 x hm he => by
  rw [he] at hl; rw [ch_set hl]; simp only [plLocs, List.mem_append]; exact .inl hm
 cases io <;> (try exact absurd rfl h0) <;> (try exact absurd rfl h1) <;> simp only [stepF] at h
 case alloc zs =>
  unfold f_alloc at h; split at h <;> (try (cases h; done))
  cases h; exact hnew rfl _ rfl
 case box =>
  unfold f_box at h; split at h <;> (try (cases h; done))
  split at h <;> (try (cases h; done))
  cases h; exact hnew rfl _ rfl
 case bslice e n zs ps =>
  unfold f_bslice at h
  simp only [Option.map_eq_some_iff] at h
  obtain ⟨cs, h1, h2⟩ := h
  cases h2; exact hnew rfl _ rfl
 case store n =>
  unfold f_store at h; split at h <;> (try (cases h; done))
  simp only [Option.bind_eq_some_iff] at h; obtain ⟨cs, h1, h⟩ := h
  split at h <;> (try (cases h; done))
  cases h; exact hset _ _ (by simp [locOf]) rfl
 case mkmap =>
  unfold f_mkmap at h; split at h <;> (try (cases h; done))
  cases h; exact hnew rfl _ rfl
 case mkslice e b zs =>
  unfold f_mkslice at h; split at h <;> (try (cases h; done))
  split at h <;> (try (cases h; done))
  cases h; exact hnew rfl _ rfl
 case mksliceC e b zs =>
  unfold f_mksliceC at h; split at h <;> (try (cases h; done))
  split at h <;> (try (cases h; done))
  cases h; exact hnew rfl _ rfl
 case append e b =>
  unfold f_append at h; split at h <;> (try (cases h; done))
  ·simp only [Option.bind_eq_some_iff] at h; obtain ⟨new, h1, n, h2, h⟩ := h
   split at h
   ·cases h; exact absurd rfl hl
   ·split at h <;> (try (cases h; done))
    cases h; exact hnew rfl _ rfl
  ·rename_i l0 len e' x
   simp only [Option.bind_eq_some_iff] at h; obtain ⟨cs, h0, new, h1, n, h2, h⟩ := h
   split at h <;> (try (cases h; done))
   cases h
   by_cases he : l = l0
   ·subst he; simp [plLocs, locOf]
   ·have : (σ.set l0 AObj.dead)[l]? = σ[l]? := List.getElem?_set_ne (fun h => he h.symm)
    rw [← this] at hl
    have := ch_push hl
    rw [List.length_set] at this
    rw [this]; simp [plLocs, kindOf, newLoc]
  ·simp only [Option.bind_eq_some_iff] at h; obtain ⟨cs, h0, new, h1, n, h2, h⟩ := h
   split at h
   ·split at h <;> (try (cases h; done))
    cases h; exact hset _ _ (by simp [locOf]) rfl
   ·split at h <;> (try (cases h; done))
    cases h; exact hnew rfl _ rfl
 case clear zs =>
  unfold f_clear at h; split at h <;> (try (cases h; done)) <;> (
   simp only [Option.bind_eq_some_iff] at h; obtain ⟨cs, h0, h⟩ := h
   split at h <;> (try (cases h; done))
   cases h; exact hset _ _ (by simp [locOf]) rfl)
 case copy e =>
  unfold f_copy at h; split at h <;> (try (cases h; done))
  simp only [Option.bind_eq_some_iff] at h; obtain ⟨cs, h0, new, h1, n, h2, h⟩ := h
  split at h <;> (try (cases h; done))
  cases h; exact hset _ _ (by simp [locOf]) rfl
 case mapset ks =>
  unfold f_mapset at h; split at h <;> (try (cases h; done))
  simp only [Option.bind_eq_some_iff] at h; obtain ⟨es, h1, h⟩ := h
  split at h <;> (try (cases h; done))
  simp only [Option.map_eq_some_iff] at h; obtain ⟨v, h2, he⟩ := h; cases he; exact hset _ _ (by simp [locOf]) rfl
 case mapdel ks =>
  unfold f_mapdel at h; split at h <;> (try (cases h; done))
  simp only [Option.bind_eq_some_iff] at h; obtain ⟨es, h1, h⟩ := h
  split at h <;> (try (cases h; done))
  simp only [Option.map_eq_some_iff] at h; obtain ⟨v, h2, he⟩ := h; cases he; exact hset _ _ (by simp [locOf]) rfl
 case appendz e b zs =>
  unfold f_appendz at h; split at h <;> (try (cases h; done))
  simp only [Option.bind_eq_some_iff] at h; obtain ⟨cs, h0, h⟩ := h
  split at h <;> (try (cases h; done))
  cases h; exact hnew rfl _ rfl
 case stuck => cases h
 case mapent => cases h
 case entst => cases h
 case rstr =>
  unfold f_rstr at h; split at h <;> (try (cases h; done))
  cases h; exact hnew rfl _ rfl
 case snext =>
  unfold f_snext at h; split at h <;> (try (cases h; done))
  simp only [Option.map_eq_some_iff] at h; obtain ⟨_, _, h⟩ := h; split at h <;> cases h
  ·exact hset _ _ (by simp [locOf]) rfl
  ·exact absurd rfl hl
end Go.Proofs.YtpnghcaccfnngaaGreatDoor.AM
namespace Go.Proofs.YtpnghcaccfnngaaGreatDoor.AM
set_option linter.unusedSectionVars false
variable [Dr]
open Go
set_option linter.unusedVariables false
set_option linter.unusedSimpArgs false
def isPrim (i : Ins) : Bool := match i.op with | .prim _ => true | .call => false
def isPush : IOp → Bool
 | .alloc _ | .box | .bslice _ _ _ _ | .mkslice _ _ _ | .mkmap | .rstr | .mksliceC _ _ _ | .appendz _ _ _ => true
 | _ => false
def isPushI (i : Ins) : Bool := match i.op with | .prim io => isPush io | .call => false
theorem stepF_push {io : IOp} {as_ : List AV} {σ σ' : List AObj} {r : AV} (hp : isPush io = true) (h : stepF io as_ σ = some (r, σ')) : ∃ o, σ' = σ ++ [o] := by
 cases io <;> (try (cases hp; done)) <;> simp only [stepF] at h
 case alloc zs => unfold f_alloc at h; split at h <;> cases h; exact ⟨_, rfl⟩
 case box => unfold f_box at h; split at h <;> (try (cases h; done)); split at h <;> cases h; exact ⟨_, rfl⟩
 case bslice esz len zs ps => unfold f_bslice at h; simp only [Option.map_eq_some_iff] at h; obtain ⟨v, hv, he⟩ := h; cases he; exact ⟨_, rfl⟩
 case mkslice esz bytes zs => unfold f_mkslice at h; split at h <;> (try (cases h; done)); split at h <;> cases h; exact ⟨_, rfl⟩
 case mkmap => unfold f_mkmap at h; split at h <;> cases h; exact ⟨_, rfl⟩
 case appendz esz bytes zs => unfold f_appendz at h; split at h <;> (try (cases h; done)); simp only [Option.bind_eq_some_iff] at h; obtain ⟨cs, hcs, h⟩ := h; split at h <;> cases h; exact ⟨_, rfl⟩
 case mksliceC esz bytes zs => unfold f_mksliceC at h; split at h <;> (try (cases h; done)); split at h <;> cases h; exact ⟨_, rfl⟩
 case rstr => unfold f_rstr at h; split at h <;> cases h; exact ⟨_, rfl⟩
theorem hideL_high {σ : List AObj} {f : Nat → Bool} (h : ∀ l, l < σ.length → f l = false) : hideL f σ = σ := by
 apply List.ext_getElem?
 intro l
 rw [hideL_get]
 by_cases hl : l < σ.length
 ·simp [h l hl, hl]
 ·simp [hl]
def ordOkx (ops : Array Oper) (is : List Ins) (pds : List (List Nat)) (kp : List Nat) (xs : List (Nat × Nat)) : Bool :=
 (xs.all fun p => decide (p.2 < is.length) && match is[p.1]? with | some i => isPrim i || (decide (p.1 < p.2) && (match is[p.2]? with | some i' => isPushI i' | none => false)) | none => false) &&
 (List.range ops.size).all fun j =>
  (dirOf ops j).all (fun e => decide (e < j)) &&
  (pdAt pds j).all (fun k => decide (k < j) && ((dirOf ops j).contains k || (dirOf ops j).any fun e => (pdAt pds e).contains k)) &&
  match is[j]? with
  | none => true
  | some i => insCl i && i.args.all (fun | .t k => (pdAt pds j).contains k | _ => true) && (match i.gd with | some (k, _) => (pdAt pds j).contains k | none => true) &&
   (List.range ops.size).all fun k =>
    match is[k]? with
    | none => true
    | some i' => decide (j = k) || (pdAt pds j).contains k || (pdAt pds k).contains j ||
      ((match i'.dst with | some x => !readsVar x i | none => true) && (!(decide (kindI kp k i' = 2) && decide (kindI kp j i ≠ 0)) || xs.contains (j, k)))
def ordOkx' (dirs : List (List Nat)) (is : List Ins) (pds : List (List Nat)) (kp : List Nat) (xs : List (Nat × Nat)) : Bool :=
 (xs.all fun p => decide (p.2 < is.length) && match is[p.1]? with | some i => isPrim i || (decide (p.1 < p.2) && (match is[p.2]? with | some i' => isPushI i' | none => false)) | none => false) &&
 (List.range dirs.length).all fun j =>
  (dirs.getD j []).all (fun e => decide (e < j)) &&
  (pdAt pds j).all (fun k => decide (k < j) && ((dirs.getD j []).contains k || (dirs.getD j []).any fun e => (pdAt pds e).contains k)) &&
  match is[j]? with
  | none => true
  | some i => insCl i && i.args.all (fun | .t k => (pdAt pds j).contains k | _ => true) && (match i.gd with | some (k, _) => (pdAt pds j).contains k | none => true) &&
   (List.range dirs.length).all fun k =>
    match is[k]? with
    | none => true
    | some i' => decide (j = k) || (pdAt pds j).contains k || (pdAt pds k).contains j ||
      ((match i'.dst with | some x => !readsVar x i | none => true) && (!(decide (kindI kp k i' = 2) && decide (kindI kp j i ≠ 0)) || xs.contains (j, k)))
theorem ordOkx_of {ops : Array Oper} {is : List Ins} {pds : List (List Nat)} {kp : List Nat} {xs : List (Nat × Nat)} (h : ordOkx' (dirsOf ops) is pds kp xs = true) : ordOkx ops is pds kp xs = true := by
 have hl : (dirsOf ops).length = ops.size := by simp [dirsOf]
 have hg : ∀ j, j < ops.size → (dirsOf ops).getD j [] = dirOf ops j := fun j hj => by simp [dirsOf, List.getD, hj]
 unfold ordOkx' at h
 unfold ordOkx
 rw [hl, Bool.and_eq_true] at h
 rw [Bool.and_eq_true]
 refine ⟨h.1, ?_⟩
 have h := h.2
 rw [List.all_eq_true] at h ⊢
 intro j hj
 have hj' : j < ops.size := by simpa using hj
 have := h j hj
 rw [hg j hj'] at this
 exact this
def xOne : List Nat → List AObj → List AObj → Prop
 | [], _, _ => True
 | l :: ls, a, b => a[l]? = b[l]? ∧ xOne ls a b
theorem xOne_get : ∀ {ls : List Nat} {a b : List AObj}, xOne ls a b → ∀ l ∈ ls, a[l]? = b[l]?
 | [], _, _, _, l, hl => by simp at hl
 | l0 :: ls, a, b, h, l, hl => by
  rcases List.mem_cons.1 hl with rfl | hl
  ·exact h.1
  ·exact xOne_get h.2 l hl
def xAll : List (Nat × Nat) → List PlT → List (List AObj) → Prop
 | [], _, _ => True
 | p :: xs, pl, hs => xOne (plLocs (pl.getD p.1 .no)) (hs.getD (p.2 + 1) []) (hs.getD p.2 []) ∧ xAll xs pl hs
theorem xAll_get : ∀ {xs : List (Nat × Nat)} {pl : List PlT} {hs : List (List AObj)}, xAll xs pl hs → ∀ a k, (a, k) ∈ xs → ∀ l ∈ plLocs (pl.getD a .no), (hs.getD (k + 1) [])[l]? = (hs.getD k [])[l]?
 | [], pl, hs, _, a, k, hm, l, hl => by simp at hm
 | p :: xs, pl, hs, h, a, k, hm, l, hl => by
  simp only [xAll] at h
  rcases List.mem_cons.1 hm with rfl | hm
  ·exact xOne_get h.1 l hl
  ·exact xAll_get h.2 a k hm l hl
def RPx (P : Program) (kp : List Nat) (xs : List (Nat × Nat)) : Nat → List Ins → List PlT → List (List AObj) → List AV → List AV → List AObj → (List AV → List AV → List AObj → Prop) → Prop
 | _, [], pl, hs, vals, ρ, σ, K => xAll xs pl (hs ++ [σ]) ∧ K vals ρ σ
 | j, i :: is, pl, hs, vals, ρ, σ, K =>
  match gdOk ρ i.gd with
  | none => False
  | some false => RPx P kp xs (j + 1) is (pl ++ [.no]) (hs ++ [σ]) (setD i.dst vals (.tup [])) (ρ ++ [.tup []]) σ K
  | some true =>
   match i.op, i.args.map (evalO vals ρ) with
   | .prim io, as_ =>
    match stepF io as_ σ with
    | some (v, σ') => RPx P kp xs (j + 1) is (pl ++ [plOf i as_ σ]) (hs ++ [σ]) (setD i.dst vals v) (ρ ++ [v]) σ' K
    | none => False
   | .call, fv :: as_ => if kp.contains j then ∃ v, CallV P fv as_ σ (fun v' τ' => v' = v ∧ τ' = σ) ∧ locsIn σ.length v = true ∧ RPx P kp xs (j + 1) is (pl ++ [.no]) (hs ++ [σ]) (setD i.dst vals v) (ρ ++ [v]) σ K
     else ∃ v τ, CallV P fv as_ σ (fun v' τ' => v' = v ∧ τ' = τ) ∧ CallOk σ v τ ∧ RPx P kp xs (j + 1) is (pl ++ [.no]) (hs ++ [σ]) (setD i.dst vals v) (ρ ++ [v]) τ K
   | .call, [] => False
variable {P : Program} {fx : Fx} {Q : Exit → St → Prop} {s : St}
def plAt (is : List Ins) (V : Nat → List AV) (pre : List AV) (r : Nat → AV) (S : Nat → List AObj) (q : Nat) : PlT :=
 match is[q]? with
 | some i => match gdOk (pre ++ (List.range q).map r) i.gd with
  | some true => plOf i (i.args.map (evalO (V q) (pre ++ (List.range q).map r))) (S q)
  | _ => .no
 | none => .no
theorem RPx_trace {kp : List Nat} {xs : List (Nat × Nat)} {K : List AV → List AV → List AObj → Prop} : ∀ (is : List Ins) (j : Nat) (pl : List PlT) (hs : List (List AObj)) (vals ρ : List AV) (σ : List AObj), RPx P kp xs j is pl hs vals ρ σ K →
  ∃ (V : Nat → List AV) (r : Nat → AV) (S : Nat → List AObj), V 0 = vals ∧ S 0 = σ ∧
   (∀ (q : Nat) i, is[q]? = some i → V (q + 1) = setD i.dst (V q) (r q) ∧ StepOk P kp (j + q) i (V q) (ρ ++ (List.range q).map r) (S q) (r q) (S (q + 1))) ∧
   xAll xs (pl ++ (List.range is.length).map (plAt is V ρ r S)) (hs ++ (List.range (is.length + 1)).map S) ∧
   K (V is.length) (ρ ++ (List.range is.length).map r) (S is.length)
 | [], j, pl, hs, vals, ρ, σ, h => ⟨fun _ => vals, fun _ => .undef, fun _ => σ, rfl, rfl, by simp, by simpa [RPx] using h.1, by simpa [RPx] using h.2⟩
 | i :: is, j, pl, hs, vals, ρ, σ, h => by
  have main : ∀ v τ p, p = (match gdOk ρ i.gd with | some true => plOf i (i.args.map (evalO vals ρ)) σ | _ => .no) → StepOk P kp j i vals ρ σ v τ → RPx P kp xs (j + 1) is (pl ++ [p]) (hs ++ [σ]) (setD i.dst vals v) (ρ ++ [v]) τ K →
    ∃ (V : Nat → List AV) (r : Nat → AV) (S : Nat → List AObj), V 0 = vals ∧ S 0 = σ ∧
    (∀ (q : Nat) i', (i :: is)[q]? = some i' → V (q + 1) = setD i'.dst (V q) (r q) ∧ StepOk P kp (j + q) i' (V q) (ρ ++ (List.range q).map r) (S q) (r q) (S (q + 1))) ∧
    xAll xs (pl ++ (List.range (i :: is).length).map (plAt (i :: is) V ρ r S)) (hs ++ (List.range ((i :: is).length + 1)).map S) ∧
    K (V (i :: is).length) (ρ ++ (List.range (i :: is).length).map r) (S (i :: is).length) := by
   intro v τ p hp hs' hr
   obtain ⟨V, r, S, h1, h2, h3, hx3, h4⟩ := RPx_trace is (j + 1) (pl ++ [p]) (hs ++ [σ]) _ _ _ hr
   have hrg : ∀ q, (List.range (q + 1)).map (fun q => match q with | 0 => v | q + 1 => r q) = v :: (List.range q).map r := by
    intro q; rw [List.range_succ_eq_map]; simp [Function.comp_def]
   have hrgS : ∀ q, (List.range (q + 1)).map (fun q => match q with | 0 => σ | q + 1 => S q) = σ :: (List.range q).map S := by
    intro q; rw [List.range_succ_eq_map]; simp [Function.comp_def]
   refine ⟨fun q => match q with | 0 => vals | q + 1 => V q, fun q => match q with | 0 => v | q + 1 => r q, fun q => match q with | 0 => σ | q + 1 => S q, rfl, rfl, ?_, ?_, ?_⟩
   ·intro q i' hq
    cases q with
    | zero =>
     simp at hq; subst hq
     refine ⟨by simp [h1], ?_⟩
     simpa [h2] using hs'
    | succ q =>
     simp at hq
     obtain ⟨g1, g2⟩ := h3 q i' hq
     refine ⟨g1, ?_⟩
     rw [hrg, show j + (q + 1) = j + 1 + q by omega]
     simpa using g2
   ·have e : ∀ q, (List.range (q + 1)).map (plAt (i :: is) (fun q => match q with | 0 => vals | q + 1 => V q) ρ (fun q => match q with | 0 => v | q + 1 => r q) (fun q => match q with | 0 => σ | q + 1 => S q)) = p :: (List.range q).map (plAt is V (ρ ++ [v]) r S) := by
     intro q
     rw [List.range_succ_eq_map]
     simp only [List.map_cons, List.map_map, List.cons.injEq]
     refine ⟨?_, List.map_congr_left fun k _ => ?_⟩
     ·rw [hp]; simp [plAt]
     ·simp only [Function.comp, plAt, List.getElem?_cons_succ]
      rw [hrg]
      simp
    simp only [List.length_cons]
    rw [e, hrgS]
    simpa using hx3
   ·simp only [List.length_cons]
    rw [hrg]; simpa using h4
  simp only [RPx] at h
  cases hg : gdOk ρ i.gd with
  | none => rw [hg] at h; exact h.elim
  | some b =>
   rw [hg] at h
   cases b with
   | false => exact main (.tup []) σ .no (by rw [hg]) (by simp [StepOk, hg]) h
   | true =>
    simp only at h
    cases hop : i.op with
    | prim io =>
     simp only [hop] at h
     cases hst : stepF io (i.args.map (evalO vals ρ)) σ with
     | none => rw [hst] at h; exact h.elim
     | some p => rw [hst] at h; exact main p.1 p.2 _ (by rw [hg]) (by simp [StepOk, hg, hop, hst]) h
    | call =>
     have hpl : ∀ as_, plOf i as_ σ = .no := fun as_ => by simp [plOf, hop]
     simp only [hop] at h
     cases hargs : i.args.map (evalO vals ρ) with
     | nil => rw [hargs] at h; exact h.elim
     | cons fv as_ =>
      rw [hargs] at h
      simp only at h
      split at h
      ·rename_i hk
       obtain ⟨v, h1, h2, h3⟩ := h
       exact main v σ .no (by rw [hg, hpl]) (by simp only [StepOk, hg, hop, hargs]; exact ⟨h1, .refl h2, fun _ => trivial⟩) h3
      ·rename_i hk
       obtain ⟨v, τ, h1, h2, h3⟩ := h
       exact main v τ .no (by rw [hg, hpl]) (by simp only [StepOk, hg, hop, hargs]; exact ⟨h1, h2, fun h => absurd h hk⟩) h3
theorem W_region_ordx {id : Nat} {ops : Array Oper} {is : List Ins} (pds : List (List Nat)) (kp : List Nat) (xs : List (Nat × Nat)) (hmix : P.follows .mixedOrders = true) (hc : compReg P fx.vars fx.N ops = some is) (hord : ordOkx ops is pds kp xs = true)
  (hvl : s.vals.length = fx.vars.length) (h : RPx P kp xs 0 is [] [] s.vals [] s.heap fun vals _ σ => Q .normal ⟨vals, σ⟩) : W P fx (.region id ops true) s Q := by
 intro m X en ac w hs hr
 obtain ⟨V, r, S, hV0, hS0, htr, hx0, hK⟩ := RPx_trace is 0 [] [] _ _ _ h
 simp only [List.nil_append, Nat.zero_add] at htr hK hx0
 have hlen : is.length = ops.size := by
  unfold compReg at hc
  split at hc
  ·rw [compAll_eq] at hc
   have key : ∀ (l : List Oper) (js : List Ins), l.mapM (compIns P fx.vars (ops.toList.map (·.dst))) = some js → js.length = l.length := by
    intro l
    induction l with
    | nil => intro js h; simp at h; subst h; rfl
    | cons x l ih =>
     intro js h
     simp only [List.mapM_cons, Option.bind_eq_bind, Option.bind_eq_some_iff, Option.pure_def, Option.some.injEq] at h
     obtain ⟨i, _, js', h2, rfl⟩ := h
     simp [ih _ h2]
   simpa using key _ _ hc
  ·cases hc
 simp only [ordOkx, Bool.and_eq_true] at hord
 obtain ⟨hxs, hord⟩ := hord
 rw [List.all_eq_true] at hxs
 simp only [List.all_eq_true, List.mem_range, Bool.and_eq_true, decide_eq_true_eq] at hord
 have hi : ∀ j, j < ops.size → ∃ i, is[j]? = some i := fun j hj => ⟨is[j], List.getElem?_eq_getElem (by omega)⟩
 have hlt : ∀ (j : Nat) i, is[j]? = some i → j < ops.size := fun j i h => by have := (List.getElem?_eq_some_iff.1 h).1; omega
 have st := fun (j : Nat) (i : Ins) (h : is[j]? = some i) => by
  have := (hord j (hlt j i h)).2
  rw [h] at this
  simpa only [Bool.and_eq_true, List.all_eq_true, List.mem_range] using this
 have hpair : ∀ (j k : Nat) i i', is[j]? = some i → is[k]? = some i' → j ≠ k → k ∉ pdAt pds j → j ∉ pdAt pds k → (∀ x, i'.dst = some x → readsVar x i = false) ∧ (kindI kp k i' = 2 → kindI kp j i = 0 ∨ (j, k) ∈ xs) := by
  intro j k i i' hj hk hne h1 h2
  have := (st j i hj).2 k (hlt k i' hk)
  rw [hk] at this
  simp only [Bool.or_eq_true, decide_eq_true_eq, List.contains_iff_mem, hne, h1, h2, false_or, Bool.and_eq_true, Bool.not_eq_true', Bool.and_eq_false_iff, decide_eq_false_iff_not, ne_eq, Decidable.not_not] at this
  refine ⟨fun x hx => ?_, fun h2 => ?_⟩
  ·have := this.1; rw [hx] at this; simpa using this
  ·rcases this.2 with (h | h) | h
   ·exact absurd h2 h
   ·exact .inl h
   ·exact .inr h
 have hxl : ∀ (j k : Nat), (j, k) ∈ xs → k < is.length ∧ ∃ i, is[j]? = some i ∧ ((∃ io, i.op = .prim io) ∨ (i.op = .call ∧ j < k ∧ ∃ i' io, is[k]? = some i' ∧ i'.op = .prim io ∧ isPush io = true)) := by
  intro j k hm
  have := hxs _ hm
  simp only [Bool.and_eq_true, decide_eq_true_eq] at this
  obtain ⟨h1, h2⟩ := this
  refine ⟨h1, ?_⟩
  cases hij : is[j]? with
  | none => rw [hij] at h2; simp at h2
  | some i =>
   rw [hij] at h2
   refine ⟨i, rfl, ?_⟩
   cases hop : i.op with
   | prim io => exact .inl ⟨io, rfl⟩
   | call =>
    simp only [isPrim, hop, Bool.false_or, Bool.and_eq_true, decide_eq_true_eq] at h2
    obtain ⟨h4, h5⟩ := h2
    refine .inr ⟨rfl, h4, ?_⟩
    cases hik : is[k]? with
    | none => rw [hik] at h5; cases h5
    | some i' =>
     rw [hik] at h5
     simp only [isPushI] at h5
     split at h5
     ·rename_i io ho; exact ⟨i', io, rfl, ho, h5⟩
     ·cases h5
 have hx : ∀ (j k : Nat) (i : Ins), (j, k) ∈ xs → is[j]? = some i → gdOk ((List.range j).map r) i.gd = some true → ∀ l ∈ plLocs (plOf i (i.args.map (evalO (V j) ((List.range j).map r))) (S j)), (S (k + 1))[l]? = (S k)[l]? := by
  intro j k i hm hij hg l hl
  obtain ⟨hk, _⟩ := hxl j k hm
  have hjl : j < is.length := (List.getElem?_eq_some_iff.1 hij).1
  have := xAll_get hx0 j k hm l (by simpa [List.getD, List.getElem?_map, List.getElem?_range hjl, plAt, hij, hg] using hl)
  simpa [List.getD, List.getElem?_map, List.getElem?_range (show k + 1 < is.length + 1 by omega), List.getElem?_range (show k < is.length + 1 by omega)] using this
 have stepcases : ∀ (j : Nat) i, is[j]? = some i → (S j).length ≤ (S (j + 1)).length ∧ (kindI kp j i ≠ 2 → S (j + 1) = S j) ∧ (∀ (l : Nat) o, (S j).length ≤ l → (S (j + 1))[l]? = some o → o.live) ∧
   (Cl (S j) → locsInAll (S j).length (V j) = true → locsInAll (S j).length ((List.range j).map r) = true → Cl (S (j + 1)) ∧ locsIn (S (j + 1)).length (r j) = true) := by
  intro j i hj
  have hso := (htr j i hj).2
  unfold StepOk at hso
  have same : r j = .tup [] → S (j + 1) = S j → _ := fun (e1 : r j = .tup []) (e2 : S (j + 1) = S j) => show (S j).length ≤ (S (j + 1)).length ∧ (kindI kp j i ≠ 2 → S (j + 1) = S j) ∧ (∀ (l : Nat) o, (S j).length ≤ l → (S (j + 1))[l]? = some o → o.live) ∧
   (Cl (S j) → locsInAll (S j).length (V j) = true → locsInAll (S j).length ((List.range j).map r) = true → Cl (S (j + 1)) ∧ locsIn (S (j + 1)).length (r j) = true) from by
    rw [e2, e1]
    refine ⟨Nat.le_refl _, fun _ => rfl, fun l o hl ho => ?_, fun h _ _ => ⟨h, rfl⟩⟩
    rw [List.getElem?_eq_none hl] at ho; cases ho
  split at hso
  ·exact hso.elim
  ·exact same hso.1 hso.2
  ·cases hop : i.op with
   | prim io =>
    simp only [hop] at hso
    have hk : kindI kp j i = kindOf io := by simp [kindI, hop]
    refine ⟨stepF_le hso, fun hk2 => ?_, stepF_made hso, fun h1 h2 h3 => ?_⟩
    ·rw [hk] at hk2
     by_cases h0 : kindOf io = 0
     ·exact (stepF_pure h0 hso).1
     ·by_cases h1 : kindOf io = 1
      ·exact stepF_reads h1 hso
      ·have := kindOf_le io
       omega
    ·have hcl := (st j i hj).1.1.1
     unfold insCl at hcl
     rw [hop] at hcl
     simp only [Bool.and_eq_true, List.all_eq_true] at hcl
     have := stepF_locs hcl.1 (locsInAll_iff.2 fun v hv => by
      obtain ⟨x, hx, rfl⟩ := List.mem_map.1 hv
      exact evalO_locs h2 h3 (hcl.2 x hx)) h1 hso
     exact ⟨this.2, this.1⟩
   | call =>
    have hso' : ∃ σ0, CallOk σ0 (r j) (S (j + 1)) ∧ σ0 = S j ∧ (kp.contains j = true → S (j + 1) = S j) := by
     cases has : i.args.map (evalO (V j) ((List.range j).map r)) with
     | nil => simp only [hop, has] at hso
     | cons fv as_ => simp only [hop, has] at hso; exact ⟨S j, hso.2.1, rfl, hso.2.2⟩
    obtain ⟨_, ⟨g1, g2, g3⟩, rfl, g4⟩ := hso'
    refine ⟨g2, fun hk2 => ?_, fun l o hl ho => (g3 l o ho (by rw [List.getElem?_eq_none hl]; simp)).2 hl, fun h1 _ _ => ⟨fun l o ho => ?_, g1⟩⟩
    ·simp only [kindI, hop] at hk2
     by_cases hkp : kp.contains j = true
     ·exact g4 hkp
     ·rw [if_neg hkp] at hk2; exact absurd rfl hk2
    ·by_cases he : (S j)[l]? = some o
     ·exact objIn_mono _ _ o g2 (h1 l o he)
     ·exact (g3 l o ho he).1
 have inv : ∀ j, j ≤ ops.size → Cl (S j) ∧ locsInAll (S j).length (V j) = true ∧ locsInAll (S j).length ((List.range j).map r) = true := by
  intro j
  induction j with
  | zero =>
   intro _
   rw [hS0, hV0]
   exact ⟨fun l o ho => hs.heap.closed l o ho, hs.vals_locs (Nat.le_of_eq hvl), rfl⟩
  | succ j ih =>
   intro hj
   obtain ⟨i, hij⟩ := hi j (by omega)
   obtain ⟨h1, h2, h3⟩ := ih (by omega)
   obtain ⟨g1, _, _, g4⟩ := stepcases j i hij
   obtain ⟨g5, g6⟩ := g4 h1 h2 h3
   refine ⟨g5, ?_, ?_⟩
   ·rw [(htr j i hij).1]
    unfold setD; split
    ·exact locsInAll_set (locsAll_le g1 h2) g6
    ·exact locsAll_le g1 h2
   ·rw [List.range_succ, List.map_append]
    exact locsInAll_append (locsAll_le g1 h3) (by simp [locsInAll, g6])
 have hmono : ∀ j d, j + d ≤ ops.size → (S j).length ≤ (S (j + d)).length := by
  intro j d
  induction d with
  | zero => intro _; exact Nat.le_refl _
  | succ d ih =>
   intro hd
   obtain ⟨i3, hi3⟩ := hi (j + d) (by omega)
   exact Nat.le_trans (ih (by omega)) (stepcases (j + d) i3 hi3).1
 have hpush : ∀ (j k : Nat) (i' : Ins) (io : IOp), j < k → is[k]? = some i' → i'.op = .prim io → isPush io = true → ∀ l, (S (k + 1))[l]? ≠ (S k)[l]? → (S (j + 1)).length ≤ l := by
  intro j k i' io hjk hik e4 e5 l hch2
  have hle := hmono (j + 1) (k - (j + 1)) (by have := hlt k i' hik; omega)
  rw [show j + 1 + (k - (j + 1)) = k by omega] at hle
  have hso2 := (htr k i' hik).2
  unfold StepOk at hso2
  split at hso2
  ·exact hso2.elim
  ·exact absurd (by rw [hso2.2]) hch2
  ·simp only [e4] at hso2
   obtain ⟨o, ho⟩ := stepF_push e5 hso2
   refine Nat.le_of_not_lt fun hl => hch2 ?_
   rw [ho, List.getElem?_append_left (by omega)]
 let kd : Nat → Nat := fun j => match is[j]? with | some i => kindI kp j i | none => 0
 have hkd : ∀ (j : Nat) i, is[j]? = some i → kd j = kindI kp j i := fun j i h => by simp only [kd, h]
 let ch : Nat → Nat → Bool := fun k l => Classical.propDecidable (kd k = 2 ∧ (S (k + 1))[l]? ≠ (S k)[l]?) |>.decide
 let hd : Nat → Nat → Bool := fun j l => Classical.propDecidable ((kd j = 0 ∨ ∃ k', (j, k') ∈ xs) ∧ ∃ k, k < ops.size ∧ k ≠ j ∧ k ∉ pdAt pds j ∧ j ∉ pdAt pds k ∧ ch k l = true) |>.decide
 have hch : ∀ k l, ch k l = true ↔ (kd k = 2 ∧ (S (k + 1))[l]? ≠ (S k)[l]?) := fun k l => by simp only [ch, decide_eq_true_eq]
 have hhd : ∀ j l, hd j l = true ↔ ((kd j = 0 ∨ ∃ k', (j, k') ∈ xs) ∧ ∃ k, k < ops.size ∧ k ≠ j ∧ k ∉ pdAt pds j ∧ j ∉ pdAt pds k ∧ ch k l = true) := fun j l => by simp only [hd, decide_eq_true_eq]
 have hF : Free P fx ops is V r S (pdAt pds) ch hd := by
  refine ⟨?_, ?_, ?_, by rw [hV0]; exact hvl, fun j i hj => (htr j i hj).1, ?_, ?_, ?_, ?_, ?_, ?_, ?_, ?_, ?_, ?_, ?_, ?_⟩
  ·intro j hj e he; exact (hord j hj).1.1 e he
  ·intro j hj k hk; exact ((hord j hj).1.2 k hk).1
  ·intro j hj k hk
   have := ((hord j hj).1.2 k hk).2
   simp only [Bool.or_eq_true, List.contains_iff_mem, List.any_eq_true] at this
   exact this
  ·intro j hj; obtain ⟨i, hij⟩ := hi j hj; exact (stepcases j i hij).1
  ·intro j hj l hcl
   obtain ⟨i, hij⟩ := hi j hj
   by_cases hk : kindI kp j i = 2
   ·by_cases he : (S (j + 1))[l]? = (S j)[l]?
    ·exact he
    ·have := (hch j l).2 ⟨by rw [hkd j i hij]; exact hk, he⟩
     rw [this] at hcl; cases hcl
   ·rw [(stepcases j i hij).2.1 hk]
  ·intro j hj l hcl
   obtain ⟨i, hij⟩ := hi j hj
   obtain ⟨_, hne⟩ := (hch j l).1 hcl
   rcases Nat.lt_or_ge l (S (j + 1)).length with h | h
   ·exact h
   ·have := (stepcases j i hij).1
    rw [List.getElem?_eq_none h, List.getElem?_eq_none (by omega)] at hne
    exact absurd rfl hne
  ·intro j k hj hk hne h1 h2 l hcl
   obtain ⟨i, hij⟩ := hi j hj
   obtain ⟨i', hik⟩ := hi k hk
   obtain ⟨hk2, _⟩ := (hch k l).1 hcl
   rw [hkd k i' hik] at hk2
   have h0 := (hpair j k i i' hij hik (Ne.symm hne) h1 h2).2 hk2
   exact (hhd j l).2 ⟨h0.imp (fun h => by rw [hkd j i hij]; exact h) (fun h => ⟨k, h⟩), k, hk, hne, h1, h2, hcl⟩
  ·intro j hj l hcl
   obtain ⟨hk2, hcj⟩ := (hch j l).1 hcl
   cases hb : hd j l with
   | false => rfl
   | true =>
    obtain ⟨h, k, hk, hne, h1, h2, hclk⟩ := (hhd j l).1 hb
    rcases h with h | ⟨k', h⟩
    ·omega
    ·obtain ⟨_, i, e1, hpc⟩ := hxl j k' h
     rcases hpc with ⟨io, e2⟩ | ⟨e2, _⟩
     rotate_left
     ·obtain ⟨i', hik⟩ := hi k hk
      obtain ⟨hkk2, hch2⟩ := (hch k l).1 hclk
      rw [hkd k i' hik] at hkk2
      rw [hkd j i e1] at hk2
      rcases (hpair j k i i' e1 hik (Ne.symm hne) h1 h2).2 hkk2 with h3 | h3
      ·omega
      obtain ⟨_, i0, f1, hpc⟩ := hxl j k h3
      rw [e1] at f1; cases f1
      rcases hpc with ⟨io, e3⟩ | ⟨_, hjk, i2, io, e3, e4, e5⟩
      ·rw [e2] at e3; cases e3
      rw [hik] at e3; cases e3
      have hge := hpush j k i' io hjk hik e4 e5 l hch2
      have hge2 := (stepcases j i e1).1
      rw [List.getElem?_eq_none hge, List.getElem?_eq_none (by omega)] at hcj
      exact absurd rfl hcj
     obtain ⟨i', hik⟩ := hi k hk
     obtain ⟨hkk2, hch2⟩ := (hch k l).1 hclk
     rw [hkd k i' hik] at hkk2
     rw [hkd j i e1] at hk2
     have hso := (htr j i e1).2
     unfold StepOk at hso
     split at hso
     ·exact hso.elim
     ·exact absurd (by rw [hso.2]) hcj
     ·rename_i hg
      simp only [e2] at hso
      have hmem := stepF_ch hso hcj
      rcases (hpair j k i i' e1 hik (Ne.symm hne) h1 h2).2 hkk2 with h3 | h3
      ·omega
      ·exact absurd (hx j k i h3 e1 hg l (by simp only [plOf, e2]; exact hmem)) hch2
  ·intro j hj l o hl ho; obtain ⟨i, hij⟩ := hi j hj; exact (stepcases j i hij).2.2.1 l o hl ho
  ·intro j hj; obtain ⟨i, hij⟩ := hi j hj; obtain ⟨h1, h2, h3⟩ := inv j (by omega); exact ((stepcases j i hij).2.2.2 h1 h2 h3).2
  ·intro j hj l o _ ho; exact (inv (j + 1) (by omega)).1 l o ho
  ·intro j i hj k hk
   have := (st j i hj).1.1.2 _ hk
   simpa using this
  ·intro j i k b hj hg
   have := (st j i hj).1.2
   rw [hg] at this
   simpa using this
  ·intro j k i i' x hj hk hne hx hor
   by_cases h1 : k ∈ pdAt pds j
   ·exact .inl h1
   by_cases h2 : j ∈ pdAt pds k
   ·exact .inr h2
   have := (hpair j k i i' hj hk hne h1 h2).1 x hx
   simp only [readsVar, Bool.or_eq_false_iff, List.any_eq_false] at this
   rcases hor with hor | hor
   ·have h3 := this.1 _ hor; simp at h3
   ·have h3 := this.2; rw [hor] at h3; simp at h3
  ·intro j i hj
   have hso := (htr j i hj).2
   unfold StepOk at hso
   split at hso
   ·rename_i hg; exact hso.elim
   ·rename_i hg; rw [hg]; exact hso
   ·rename_i hg; rw [hg]
    simp only
    have heapy : kd j ≠ 0 → (∀ k', (j, k') ∉ xs) → ∀ l, hd j l = false := fun hne hnx l => by
     cases hb : hd j l with
     | false => rfl
     | true =>
      rcases ((hhd j l).1 hb).1 with h | ⟨k', h⟩
      ·exact absurd h hne
      ·exact absurd h (hnx k')
    cases hop : i.op with
    | prim io =>
     simp only [hop] at hso
     have hk : kd j = kindOf io := by rw [hkd j i hj]; simp [kindI, hop]
     by_cases h0 : kindOf io = 0
     ·obtain ⟨e1, e2⟩ := stepF_pure h0 hso
      rw [e1]; exact e2 _
     by_cases hxj : ∃ k', (j, k') ∈ xs
     ·refine stepF_hide hso fun l hl => ?_
      cases hb : hd j l with
      | false => rfl
      | true =>
       obtain ⟨_, k, hk', hne, h1, h2, hcl⟩ := (hhd j l).1 hb
       obtain ⟨i', hik⟩ := hi k hk'
       obtain ⟨hk2, hch2⟩ := (hch k l).1 hcl
       rw [hkd k i' hik] at hk2
       rcases (hpair j k i i' hj hik (Ne.symm hne) h1 h2).2 hk2 with h | h
       ·rw [← hkd j i hj] at h; omega
       ·exact absurd (hx j k i h hj hg l (by simp only [plOf, hop]; exact hl)) hch2
     ·have hnx : ∀ k', (j, k') ∉ xs := fun k' h => hxj ⟨k', h⟩
      rw [hideL_none _ _ (heapy (by omega) hnx), hideL_none _ _ (heapy (by omega) hnx)]
      exact hso
    | call =>
     have hk : kd j ≠ 0 := by rw [hkd j i hj]; simp only [kindI, hop]; split <;> omega
     have hhigh : ∀ l, l < (S (j + 1)).length → hd j l = false := fun l hl => by
      cases hb : hd j l with
      | false => rfl
      | true =>
       obtain ⟨hor, k, hk', hne, h1, h2, hcl⟩ := (hhd j l).1 hb
       obtain ⟨i', hik⟩ := hi k hk'
       obtain ⟨hk2, hch2⟩ := (hch k l).1 hcl
       rw [hkd k i' hik] at hk2
       rcases (hpair j k i i' hj hik (Ne.symm hne) h1 h2).2 hk2 with h | h
       ·rw [← hkd j i hj] at h; exact absurd h hk
       ·obtain ⟨_, i0, e1, hpc⟩ := hxl j k h
        rw [hj] at e1; cases e1
        rcases hpc with ⟨io, e2⟩ | ⟨_, hjk, i2, io, e3, e4, e5⟩
        ·rw [hop] at e2; cases e2
        ·rw [hik] at e3; cases e3
         have := hpush j k i' io hjk hik e4 e5 l hch2
         omega
     by_cases hxj : ∃ k', (j, k') ∈ xs
     ·cases has : i.args.map (evalO (V j) ((List.range j).map r)) with
      | nil => simp only [hop, has] at hso
      | cons fv as_ =>
       simp only [hop, has] at hso ⊢
       have g := hso.1
       have hge2 := (stepcases j i hj).1
       rw [hideL_high hhigh, hideL_high fun l hl => hhigh l (by omega)]
       exact g
     have hnx : ∀ k', (j, k') ∉ xs := fun k' h => hxj ⟨k', h⟩
     rw [hideL_none _ _ (heapy hk hnx), hideL_none _ _ (heapy hk hnx)]
     cases has : i.args.map (evalO (V j) ((List.range j).map r)) with
     | nil => simp only [hop, has] at hso
     | cons fv as_ => simp only [hop, has] at hso ⊢; exact hso.1
 exact W_region_draw hmix hc hF hV0 hS0 (by rw [hlen] at hK; exact hK) m X en ac w hs hr
theorem DW_ordx {dirs : List (List Nat)} {is : List Ins} (kp : List Nat) (xs : List (Nat × Nat)) (hmix : P.follows .mixedOrders = true) (hord : ordOkx' dirs is (pdsOf dirs []) kp xs = true) (hvl : s.vals.length = fx.vars.length)
  (h : RPx P kp xs 0 is [] [] s.vals [] s.heap fun vals _ σ => Q .normal ⟨vals, σ⟩) : DW P fx dirs is s Q := by
 rintro id ops rfl hc
 exact W_region_ordx _ kp xs hmix hc (ordOkx_of hord) hvl h
end Go.Proofs.YtpnghcaccfnngaaGreatDoor.AM
namespace Go.Proofs.YtpnghcaccfnngaaGreatDoor.AM
variable [Dr]
open Go
mutual
inductive FrzC (p : CV → Prop) (σ : List AObj) : AV → CV → Prop
 | c (c : CV) : p c → FrzC p σ (.cv c) c
 | nl : FrzC p σ (.cv .nils) (.rsl [] 0)
 | sl (l off len esz : Nat) (cs : List AV) (ds : List CV) : rowOf σ l = some cs → off + len * esz ≤ cs.length → FrzCs p σ ((cs.drop off).take (len * esz)) ds → FrzC p σ (.sl l off len esz) (.rsl ds len)
 | ptr (l off : Nat) (cs : List AV) (ds : List CV) : rowOf σ l = some cs → FrzCs p σ cs ds → FrzC p σ (.ptr l off) (.rp ds off)
 | slc (l off len cap esz : Nat) (cs : List AV) (ds : List CV) : rowOf σ l = some cs → off + len * esz ≤ cs.length → FrzCs p σ ((cs.drop off).take (len * esz)) ds → FrzC p σ (.slc l off len cap esz) (.rsl ds len)
inductive FrzCs (p : CV → Prop) (σ : List AObj) : List AV → List CV → Prop
 | nil : FrzCs p σ [] []
 | cons {a : AV} {c : CV} {as_ : List AV} {cs : List CV} : FrzC p σ a c → FrzCs p σ as_ cs → FrzCs p σ (a :: as_) (c :: cs)
end
mutual
inductive FrzV (p : CV → Prop) (σ : List AObj) : AV → AV → Prop
 | c {a : AV} {c : CV} : FrzC p σ a c → FrzV p σ a (.cv c)
 | agg {as_ bs : List AV} : FrzVs p σ as_ bs → FrzV p σ (.agg as_) (.agg bs)
 | tup {as_ bs : List AV} : FrzVs p σ as_ bs → FrzV p σ (.tup as_) (.tup bs)
 | fn {f : Fn} {as_ bs : List AV} : FrzVs p σ as_ bs → FrzV p σ (.fn f as_) (.fn f bs)
 | bm {f : FuncId} {as_ bs : List AV} : FrzVs p σ as_ bs → FrzV p σ (.bm f as_) (.bm f bs)
 | un (a : AV) : FrzV p σ a .undef
inductive FrzVs (p : CV → Prop) (σ : List AObj) : List AV → List AV → Prop
 | nil : FrzVs p σ [] []
 | cons {a b : AV} {as_ bs : List AV} : FrzV p σ a b → FrzVs p σ as_ bs → FrzVs p σ (a :: as_) (b :: bs)
end
abbrev anyC : CV → Prop := fun _ => True
def scl : CV → Prop
 | .rsl _ _ | .rp _ _ => False
 | _ => True
section
variable {m m' : LM} {X X' : Nat → Prop} {w : World} {σ : List AObj} {p : CV → Prop}
theorem rowOf_some {l : Nat} {cs : List AV} (h : rowOf σ l = some cs) : σ[l]? = some (.cells cs) := by
 unfold rowOf at h; split at h
 ·cases h; assumption
 ·cases h
theorem reps_of_cells {O : Nat → Prop} {a : Addr} (hO : ¬ O a.block) : ∀ (ds : List CV) (i : Nat) (vs : List Value), ds.length = vs.length → (∀ (j : Nat) (d : CV) (v : Value), ds[j]? = some d → vs[j]? = some v → w.cell? (a.add (i + j)) = some v ∧ d.rep w O v) → CV.reps w O ds a i
 | [], _, _, _, _ => by simp [CV.reps]
 | d :: ds, i, [], hl, _ => by simp at hl
 | d :: ds, i, v :: vs, hl, h => by
  simp only [CV.reps]
  have h0 := h 0 d v rfl rfl
  refine ⟨hO, ⟨v, by simpa using h0.1, h0.2⟩, reps_of_cells hO ds (i + 1) vs (by simpa using hl) fun j d' v' h1 h2 => ?_⟩
  have := h (j + 1) d' v' (by simpa using h1) (by simpa using h2)
  rwa [show i + (j + 1) = i + 1 + j by omega] at this
theorem frz_rep (hh : HRel m X σ w) (hb : ∀ (c : CV) v, p c → c.rep w (Own m X) v → c.rep w (Own m' X') v) (hn : ∀ (l b : Nat) (o : AObj), m l = some b → σ[l]? = some o → o.live → ¬ Own m' X' b) {a : AV} {c : CV} (h : FrzC p σ a c) : ∀ v, VRel m X w a v → c.rep w (Own m' X') v := by
 refine FrzC.rec (motive_1 := fun a c _ => ∀ v, VRel m X w a v → c.rep w (Own m' X') v) (motive_2 := fun as_ cs _ => ∀ vs, VRels m X w as_ vs → cs.length = vs.length ∧ ∀ (j : Nat) (d : CV) (v : Value), cs[j]? = some d → vs[j]? = some v → d.rep w (Own m' X') v) ?_ ?_ ?_ ?_ ?_ ?_ ?_ h
 ·intro c hp v hv
  simp only [VRel] at hv
  exact hb c v hp hv
 ·intro v hv
  simp only [VRel, CV.rep] at hv ⊢
  refine .inl ⟨hv, ?_⟩
  simp
 ·intro l off len esz cs ds hrow hle _ ih v hv
  simp only [VRel] at hv
  obtain ⟨b, cap, hb, rfl, hlc, _⟩ := hv
  have hrow := rowOf_some hrow
  have hor := hh.obj l _ hrow
  rw [hb] at hor
  simp only [ORel] at hor
  obtain ⟨c, e, hc, hsz, hvs⟩ := hor
  have h2 := ih _ (VRels.take (len * esz) (VRels.drop off hvs))
  simp only [CV.rep]
  refine .inr ⟨_, cap, rfl, hlc, reps_of_cells (hn l b _ hb hrow trivial) ds 0 _ h2.1 fun j d v hd hv => ⟨?_, h2.2 j d v hd hv⟩⟩
  have hj : j < len * esz := by have := (List.getElem?_eq_some_iff.1 hv).1; simp at this; omega
  rw [List.getElem?_take, if_pos hj, List.getElem?_drop, List.getElem?_take] at hv
  rw [if_pos (by omega)] at hv
  have hadd : (Addr.mk b off none).add (0 + j) = ⟨b, off + j, none⟩ := by unfold Addr.add; by_cases h0 : j = 0 <;> simp [h0]
  rw [hadd, cell_row hc]
  simpa using hv
 ·intro l off cs ds hrow _ ih v hv
  simp only [VRel] at hv
  obtain ⟨b, hb, rfl⟩ := hv
  have hrow := rowOf_some hrow
  have hor := hh.obj l _ hrow
  rw [hb] at hor
  simp only [ORel] at hor
  obtain ⟨c, e, hc, hsz, hvs⟩ := hor
  have h2 := ih _ hvs
  simp only [CV.rep]
  refine ⟨⟨b, 0, none⟩, by unfold Addr.add; by_cases h0 : off = 0 <;> simp [h0], reps_of_cells (hn l b _ hb hrow trivial) ds 0 _ h2.1 fun j d v hd hv => ⟨?_, h2.2 j d v hd hv⟩⟩
  have hj : j < cs.length := by have := (List.getElem?_eq_some_iff.1 hv).1; simp at this; omega
  rw [List.getElem?_take, if_pos hj] at hv
  have hadd : (Addr.mk b 0 none).add (0 + j) = ⟨b, j, none⟩ := by unfold Addr.add; by_cases h0 : j = 0 <;> simp [h0]
  rw [hadd, cell_row hc]
  simpa using hv
 ·intro l off len cap esz cs ds hrow hle _ ih v hv
  simp only [VRel] at hv
  obtain ⟨b, hb, rfl, hlc, _⟩ := hv
  have hrow := rowOf_some hrow
  have hor := hh.obj l _ hrow
  rw [hb] at hor
  simp only [ORel] at hor
  obtain ⟨c, e, hc, hsz, hvs⟩ := hor
  have h2 := ih _ (VRels.take (len * esz) (VRels.drop off hvs))
  simp only [CV.rep]
  refine .inr ⟨_, cap, rfl, hlc, reps_of_cells (hn l b _ hb hrow trivial) ds 0 _ h2.1 fun j d v hd hv => ⟨?_, h2.2 j d v hd hv⟩⟩
  have hj : j < len * esz := by have := (List.getElem?_eq_some_iff.1 hv).1; simp at this; omega
  rw [List.getElem?_take, if_pos hj, List.getElem?_drop, List.getElem?_take] at hv
  rw [if_pos (by omega)] at hv
  have hadd : (Addr.mk b off none).add (0 + j) = ⟨b, off + j, none⟩ := by unfold Addr.add; by_cases h0 : j = 0 <;> simp [h0]
  rw [hadd, cell_row hc]
  simpa using hv
 ·intro vs hv
  rw [VRels.nil' hv]
  exact ⟨rfl, fun j d v h => by simp at h⟩
 ·intro a c as_ cs _ _ ih1 ih2 vs hv
  obtain ⟨v, us, rfl, h1, h2⟩ := hv.cons
  have h2 := ih2 us h2
  refine ⟨by simp [h2.1], fun j d v' hd hv' => ?_⟩
  cases j with
  | zero => simp at hd hv'; subst hd hv'; exact ih1 _ h1
  | succ j => exact h2.2 j d v' (by simpa using hd) (by simpa using hv')
theorem frz_rel (hh : HRel m X σ w) (hb : ∀ (c : CV) v, p c → c.rep w (Own m X) v → c.rep w (Own m' X') v) (hn : ∀ (l b : Nat) (o : AObj), m l = some b → σ[l]? = some o → o.live → ¬ Own m' X' b) {a a' : AV} (h : FrzV p σ a a') : ∀ v, VRel m X w a v → VRel m' X' w a' v := by
 refine FrzV.rec (motive_1 := fun a a' _ => ∀ v, VRel m X w a v → VRel m' X' w a' v) (motive_2 := fun as_ bs _ => ∀ vs, VRels m X w as_ vs → VRels m' X' w bs vs) ?_ ?_ ?_ ?_ ?_ ?_ ?_ ?_ h
 ·intro a c hc v hv
  simp only [VRel]
  exact frz_rep hh hb hn hc v hv
 ·intro as_ bs _ ih v hv; simp only [VRel] at hv ⊢; obtain ⟨vs, h1, h2⟩ := hv; exact ⟨vs, h1, ih vs h2⟩
 ·intro as_ bs _ ih v hv; simp only [VRel] at hv ⊢; obtain ⟨vs, h1, h2⟩ := hv; exact ⟨vs, h1, ih vs h2⟩
 ·intro f as_ bs _ ih v hv; simp only [VRel] at hv ⊢; obtain ⟨vs, h1, h2⟩ := hv; exact ⟨vs, h1, ih vs h2⟩
 ·intro f as_ bs _ ih v hv; simp only [VRel] at hv ⊢; obtain ⟨vs, h1, h2⟩ := hv; exact ⟨vs, h1, ih vs h2⟩
 ·intro a v _; simp [VRel]
 ·intro vs hv; rw [VRels.nil' hv]; simp [VRels]
 ·intro a b as_ bs _ _ ih1 ih2 vs hv
  obtain ⟨v, us, rfl, h1, h2⟩ := hv.cons
  exact ⟨ih1 v h1, ih2 us h2⟩
theorem frz_rels (hh : HRel m X σ w) (hb : ∀ (c : CV) v, p c → c.rep w (Own m X) v → c.rep w (Own m' X') v) (hn : ∀ (l b : Nat) (o : AObj), m l = some b → σ[l]? = some o → o.live → ¬ Own m' X' b) : ∀ {as_ bs : List AV}, FrzVs p σ as_ bs → ∀ vs, VRels m X w as_ vs → VRels m' X' w bs vs
 | _, _, .nil, vs, hv => by rw [VRels.nil' hv]; simp [VRels]
 | _, _, .cons h1 h2, vs, hv => by
  obtain ⟨v, us, rfl, g1, g2⟩ := hv.cons
  exact ⟨frz_rel hh hb hn h1 v g1, frz_rels hh hb hn h2 us g2⟩
theorem scl_rep {O O' : Nat → Prop} (c : CV) (v : Value) (hp : scl c) (h : c.rep w O v) : c.rep w O' v := by
 cases c <;> simp only [scl] at hp <;> simpa only [CV.rep] using h
theorem HRel.below {σ : List AObj} {w' : World} (hh : HRel m X σ w) (hsz : w.heap.size ≤ w'.heap.size) (h : ∀ b, b < w.heap.size → w'.heap[b]? = w.heap[b]?) : HRel m X σ w' := by
 have hm : Mono m X w m X w' := by
  refine ⟨fun _ _ h => h, fun b hb hc => ⟨h b hc.lt, hb⟩, fun b c e hb => ⟨c, ?_, rfl⟩⟩
  rw [h b ((Array.getElem?_eq_some_iff.1 hb).1), hb]
 refine ⟨fun b hb => Nat.lt_of_lt_of_le (hh.xb b hb) hsz, fun l b hl => ⟨(hh.dom l b hl).1, Nat.lt_of_lt_of_le (hh.dom l b hl).2 hsz⟩, hh.own, hh.inj, fun l o ho => ?_⟩
 have := hh.obj l o ho
 cases hml : m l with
 | none => rw [hml] at this; cases o <;> simp [ORel] at this ⊢
 | some b => rw [hml] at this; exact ORel.mono hm (h b (hh.dom l b hml).2) this
end
theorem AC.pure {P : Program} {f : FuncId} {args : List AV} {Q : AV → List AObj → Prop} {R : AV → Prop} (hcl : locsInAll 0 args = true) (h : AC P f args [] Q)
  (hq : ∀ r σ', Q r σ' → ∃ v, FrzV anyC σ' r v ∧ R v) (σ : List AObj) : AC P f args σ fun r σ' => R r ∧ σ' = σ := by
 refine ⟨h.1, fun m X w cargs ha hh => ?_⟩
 have hown : ∀ b, Own nom (Own m X) b ↔ Own m X b := fun b => ⟨fun h => h.elim id (fun ⟨l, hl⟩ => by cases hl), .inl⟩
 have ha0 : VRels nom (Own m X) w args cargs := VRels.less (k := 0) (fun l hl => absurd hl (Nat.not_lt_zero _)) (fun b hb => (hown b).1 hb) args cargs hcl ha
 have hh0 : HRel nom (Own m X) [] w := by
  refine ⟨fun b hb => ?_, fun l b hl => (by cases hl), fun l b o hl => (by cases hl), fun l l' b o hl => (by cases hl), fun l o ho => (by simp at ho)⟩
  rcases hb with hb | ⟨l, hl⟩
  ·exact hh.xb b hb
  ·exact (hh.dom l b hl).2
 refine (h.2 nom (Own m X) w cargs ha0 hh0).mono ?_
 rintro e w' ⟨c, r, σ', m', rfl, hQ, hv, hh', hst, _⟩
 obtain ⟨v, hf, hR⟩ := hq r σ' hQ
 have hsame : ∀ b, b < w.heap.size → w'.heap[b]? = w.heap[b]? := fun b hb => hst.fr b hb (.inr fun l hl => by cases hl)
 refine ⟨c, v, σ, m, rfl, ⟨hR, rfl⟩, ?_, hh.below hst.size hsame, ?_, Nat.le_refl _⟩
 ·refine frz_rel hh' (fun c v _ h => CV.rep_less (fun b hb => .inl hb) c v h) ?_ hf c hv
  intro l b o hl ho hlive hb
  exact hh'.own l b o hl ho hlive hb
 ·exact ⟨fun _ _ => rfl, fun l b hl => .inl ⟨l, hl⟩, hst.size, fun b hb _ => hsame b hb, hst.shp, hst.os, hst.tape, hst.output, hst.drawn⟩
theorem AC.pureN {P : Program} {f : FuncId} {args args' : List AV} {Q : AV → List AObj → Prop} {R : AV → Prop} (h : AC P f args [] Q) (hq : ∀ r σ', Q r σ' → ∃ v, FrzV scl σ' r v ∧ R v) {σ : List AObj} (hf : FrzVs anyC σ args' args) : AC P f args' σ fun r σ' => R r ∧ σ' = σ := by
 refine ⟨h.1, fun m X w cargs ha hh => ?_⟩
 have hown : ∀ b, Own nom X b → X b := fun b h => h.elim id (fun ⟨l, hl⟩ => by cases hl)
 have ha0 : VRels nom X w args cargs := by
  refine frz_rels hh (fun c v _ h => CV.rep_less (fun b hb => .inl (hown b hb)) c v h) ?_ hf cargs ha
  intro l b o hl ho hlive hb
  exact hh.own l b o hl ho hlive (hown b hb)
 have hh0 : HRel nom X [] w := ⟨hh.xb, fun l b hl => (by cases hl), fun l b o hl => (by cases hl), fun l l' b o hl => (by cases hl), fun l o ho => (by simp at ho)⟩
 refine (h.2 nom X w cargs ha0 hh0).mono ?_
 rintro e w' ⟨c, r, σ', m', rfl, hQ, hv, hh', hst, _⟩
 obtain ⟨v, hf, hR⟩ := hq r σ' hQ
 have hsame : ∀ b, b < w.heap.size → w'.heap[b]? = w.heap[b]? := fun b hb => hst.fr b hb (.inr fun l hl => by cases hl)
 refine ⟨c, v, σ, m, rfl, ⟨hR, rfl⟩, ?_, hh.below hst.size hsame, ?_, Nat.le_refl _⟩
 ·refine frz_rel hh' (fun c v hp h => scl_rep c v hp h) ?_ hf c hv
  intro l b o hl ho hlive hb
  have hbs : b < w.heap.size := by
   rcases hb with hb | ⟨l', hl'⟩
   ·exact hh.xb b hb
   ·exact (hh.dom l' b hl').2
  rcases hst.new l b hl with ⟨l', hl'⟩ | hge
  ·cases hl'
  ·omega
 ·exact ⟨fun _ _ => rfl, fun l b hl => .inl ⟨l, hl⟩, hst.size, fun b hb _ => hsame b hb, hst.shp, hst.os, hst.tape, hst.output, hst.drawn⟩
structure PC (P : Program) (f : FuncId) (args : List AV) (v : AV) : Prop where
 ac : AC P f args [] fun r τ => FrzV scl τ r v
 cl : locsIn 0 v = true
theorem PC.call {P : Program} {f : FuncId} {args args' : List AV} {v : AV} {σ : List AObj} {K : AV → List AObj → Prop} (h : PC P f args v) (hf : FrzVs anyC σ args' args) (hk : K v σ) : AC P f args' σ K :=
 (AC.pureN (R := fun r => r = v) h.ac (fun r τ hr => ⟨v, hr, rfl⟩) hf).mono fun r τ ⟨h1, h2⟩ => by rw [h1, h2]; exact hk
mutual
theorem frz_refl {σ : List AObj} {k : Nat} : ∀ (a : AV), locsIn 0 a = true → FrzV anyC σ a a
 | .cv c, _ => .c (.c c trivial)
 | .ptr l o, h => by simp [locsIn] at h
 | .sl l o n e, h => by simp [locsIn] at h
 | .map l, h => by simp [locsIn] at h
 | .fn f cs, h => .fn (frz_refls (k := k) cs (by simpa [locsIn] using h))
 | .bm f cs, h => .bm (frz_refls (k := k) cs (by simpa [locsIn] using h))
 | .yld l, h => by simp [locsIn] at h
 | .agg cs, h => .agg (frz_refls (k := k) cs (by simpa [locsIn] using h))
 | .tup cs, h => .tup (frz_refls (k := k) cs (by simpa [locsIn] using h))
 | .undef, _ => .un _
 | .slc l o n c e, h => by simp [locsIn] at h
theorem frz_refls {σ : List AObj} {k : Nat} : ∀ (as_ : List AV), locsInAll 0 as_ = true → FrzVs anyC σ as_ as_
 | [], _ => .nil
 | a :: as_, h => by
  simp only [locsInAll, Bool.and_eq_true] at h
  exact .cons (frz_refl (k := k) a h.1) (frz_refls (k := k) as_ h.2)
end
structure PA (P : Program) (f : FuncId) (args : List AV) (v : AV) : Prop where
 ac : AC P f args [] fun r τ => FrzV anyC τ r v
 cl : locsIn 0 v = true
 al : locsInAll 0 args = true
theorem PA.call {P : Program} {f : FuncId} {args : List AV} {v : AV} {σ : List AObj} {K : AV → List AObj → Prop} (h : PA P f args v) (hk : K v σ) : AC P f args σ K :=
 (AC.pure (R := fun r => r = v) h.al h.ac (fun r τ hr => ⟨v, hr, rfl⟩) σ).mono fun r τ ⟨h1, h2⟩ => by rw [h1, h2]; exact hk
def mapO {α β : Type} (f : α → Option β) : List α → Option (List β)
 | [] => some []
 | a :: as_ => match f a with
  | none => none
  | some b => match mapO f as_ with
   | none => none
   | some bs => some (b :: bs)
def frzF (σ : List AObj) : Nat → AV → Option CV
 | _, .cv c => some c
 | n + 1, .sl l off len esz =>
  match rowOf σ l with
  | some cs => if off + len * esz ≤ cs.length then (mapO (frzF σ n) ((cs.drop off).take (len * esz))).map (.rsl · len) else none
  | none => none
 | n + 1, .ptr l off =>
  match rowOf σ l with
  | some cs => (mapO (frzF σ n) cs).map (.rp · off)
  | none => none
 | n + 1, .slc l off len _ esz =>
  match rowOf σ l with
  | some cs => if off + len * esz ≤ cs.length then (mapO (frzF σ n) ((cs.drop off).take (len * esz))).map (.rsl · len) else none
  | none => none
 | _, _ => none
theorem frzF_sound {σ : List AObj} : ∀ (n : Nat) (a : AV) (c : CV), frzF σ n a = some c → FrzC anyC σ a c := by
 have hm : ∀ (n : Nat), (∀ (a : AV) (c : CV), frzF σ n a = some c → FrzC anyC σ a c) → ∀ (as_ : List AV) (cs : List CV), mapO (frzF σ n) as_ = some cs → FrzCs anyC σ as_ cs := by
  intro n ih as_
  induction as_ with
  | nil => intro cs h; simp only [mapO, Option.some.injEq] at h; subst h; exact .nil
  | cons a as_ ihl =>
   intro cs h
   simp only [mapO] at h
   split at h
   ·cases h
   ·rename_i b hb
    split at h
    ·cases h
    ·rename_i bs hbs
     cases h
     exact .cons (ih a b hb) (ihl bs hbs)
 intro n
 induction n with
 | zero => intro a c h; cases a <;> simp [frzF] at h; subst h; exact .c _ trivial
 | succ n ih =>
  intro a c h
  cases a <;> simp only [frzF, reduceCtorEq] at h
  ·cases h; exact .c _ trivial
  ·split at h
   ·rename_i cs hcs
    simp only [Option.map_eq_some_iff] at h
    obtain ⟨ds, hds, rfl⟩ := h
    exact .ptr _ _ cs ds hcs (hm n ih _ _ hds)
   ·cases h
  ·split at h
   ·rename_i cs hcs
    split at h
    ·rename_i hle
     simp only [Option.map_eq_some_iff] at h
     obtain ⟨ds, hds, rfl⟩ := h
     exact .sl _ _ _ _ cs ds hcs hle (hm n ih _ _ hds)
    ·cases h
   ·cases h
  ·split at h
   ·rename_i cs hcs
    split at h
    ·rename_i hle
     simp only [Option.map_eq_some_iff] at h
     obtain ⟨ds, hds, rfl⟩ := h
     exact .slc _ _ _ _ _ cs ds hcs hle (hm n ih _ _ hds)
    ·cases h
   ·cases h
def SameSite (r r' : ALoop) : Prop := r'.vars = r.vars ∧ r'.ntmps = r.ntmps ∧ r'.params = r.params ∧ r'.assign = r.assign ∧ r'.body = r.body
def LoopKeep (σ σ' : List AObj) : Prop := ∀ (l : Nat) (r : ALoop), σ[l]? = some (AObj.loop r) → ∃ r', σ'[l]? = some (AObj.loop r') ∧ SameSite r r'
theorem SameSite.refl (r : ALoop) : SameSite r r := ⟨rfl, rfl, rfl, rfl, rfl⟩
theorem LoopKeep.refl (σ : List AObj) : LoopKeep σ σ := fun l r h => ⟨r, h, .refl r⟩
theorem stepF_loop {io : IOp} {as_ : List AV} {σ σ' : List AObj} {v : AV} (h : stepF io as_ σ = some (v, σ')) {l : Nat} {r : ALoop} (hl : σ[l]? = some (.loop r)) : σ'[l]? = some (.loop r) := by
 have push : ∀ (τ : List AObj) (x : AObj), σ' = τ ++ [x] → τ[l]? = some (.loop r) → σ'[l]? = some (.loop r) := by
  rintro τ x rfl ht
  rw [List.getElem?_append_left (List.getElem?_eq_some_iff.1 ht).1]; exact ht
 have row : ∀ (x : Nat) (cs : List AV) (y : AObj), rowOf σ x = some cs → (σ.set x y)[l]? = some (.loop r) := by
  intro x cs y hx
  have hx := rowOf_some hx
  rw [List.getElem?_set_ne]; exact hl
  rintro rfl; rw [hl] at hx; cases hx
 have mp : ∀ (x : Nat) (es : List (AV × AV)) (y : AObj), mapOf σ x = some es → (σ.set x y)[l]? = some (.loop r) := by
  intro x es y hx
  rw [List.getElem?_set_ne]; exact hl
  rintro rfl; unfold mapOf at hx; rw [hl] at hx; cases hx
 by_cases h0 : kindOf io = 0
 ·rw [(stepF_pure h0 h).1]; exact hl
 by_cases h1 : kindOf io = 1
 ·rw [stepF_reads h1 h]; exact hl
 cases io <;> (try (exact absurd rfl h0)) <;> (try (exact absurd rfl h1)) <;> simp only [stepF] at h
 case alloc zs => unfold f_alloc at h; split at h <;> cases h; exact push _ _ rfl hl
 case box => unfold f_box at h; split at h <;> (try (cases h; done)); split at h <;> cases h; exact push _ _ rfl hl
 case bslice esz len zs ps => unfold f_bslice at h; simp only [Option.map_eq_some_iff] at h; obtain ⟨v, hv, he⟩ := h; cases he; exact push _ _ rfl hl
 case store n => unfold f_store at h; split at h <;> (try (cases h; done)); simp only [Option.bind_eq_some_iff] at h; obtain ⟨cs, hcs, h⟩ := h; split at h <;> cases h; exact row _ _ _ hcs
 case mkmap => unfold f_mkmap at h; split at h <;> cases h; exact push _ _ rfl hl
 case mkslice esz bytes zs => unfold f_mkslice at h; split at h <;> (try (cases h; done)); split at h <;> cases h; exact push _ _ rfl hl
 case mksliceC esz bytes zs => unfold f_mksliceC at h; split at h <;> (try (cases h; done)); split at h <;> cases h; exact push _ _ rfl hl
 case append esz bytes =>
  unfold f_append at h
  split at h <;> (try (cases h; done))
  ·simp only [Option.bind_eq_some_iff] at h; obtain ⟨new, hnew, n, hn, h⟩ := h
   split at h
   ·cases h; exact hl
   ·split at h <;> cases h; exact push _ _ rfl hl
  ·simp only [Option.bind_eq_some_iff] at h; obtain ⟨cs, hcs, new, hnew, n, hn, h⟩ := h
   split at h <;> cases h
   exact push _ _ rfl (row _ _ _ hcs)
  ·simp only [Option.bind_eq_some_iff] at h; obtain ⟨cs, hcs, new, hnew, n, hn, h⟩ := h
   split at h
   ·split at h <;> cases h; exact row _ _ _ hcs
   ·split at h <;> cases h; exact push _ _ rfl hl
 case clear zs => unfold f_clear at h; split at h <;> (try (cases h; done)) <;> (simp only [Option.bind_eq_some_iff] at h; obtain ⟨cs, hcs, h⟩ := h; split at h <;> cases h; exact row _ _ _ hcs)
 case copy esz => unfold f_copy at h; split at h <;> (try (cases h; done)); simp only [Option.bind_eq_some_iff] at h; obtain ⟨cs, hcs, new, hnew, n, hn, h⟩ := h; split at h <;> cases h; exact row _ _ _ hcs
 case mapset ks => unfold f_mapset at h; split at h <;> (try (cases h; done)); simp only [Option.bind_eq_some_iff] at h; obtain ⟨es, hes, h⟩ := h; split at h <;> (try (cases h; done)); simp only [Option.map_eq_some_iff] at h; obtain ⟨res, hres, he⟩ := h; cases he; exact mp _ _ _ hes
 case mapdel ks => unfold f_mapdel at h; split at h <;> (try (cases h; done)); simp only [Option.bind_eq_some_iff] at h; obtain ⟨es, hes, h⟩ := h; split at h <;> (try (cases h; done)); simp only [Option.map_eq_some_iff] at h; obtain ⟨res, hres, he⟩ := h; cases he; exact mp _ _ _ hes
 case stuck => cases h
 case mapent => cases h
 case entst => cases h
 case appendz esz bytes zs => unfold f_appendz at h; split at h <;> (try (cases h; done)); simp only [Option.bind_eq_some_iff] at h; obtain ⟨cs, hcs, h⟩ := h; split at h <;> cases h; exact push _ _ rfl hl
 case rstr => unfold f_rstr at h; split at h <;> cases h; exact push _ _ rfl hl
 case snext =>
  unfold f_snext at h; split at h <;> (try (cases h; done)); simp only [Option.map_eq_some_iff] at h; obtain ⟨⟨s, p⟩, hsp, h⟩ := h; split at h <;> cases h
  ·have := siterOf_some hsp
   rw [List.getElem?_set_ne]; exact hl
   rintro rfl; rw [hl] at this; cases this
  ·exact hl
inductive RC where
 | v (i : Nat)
 | l1 (i : Nat)
 | lN (i n : Nat)
def compRes (P : Program) (vars : List Nat) : ResultVar → Option RC
 | .tmp t => (vars.idxOf? t).map .v
 | .cell a t => (vars.idxOf? a).bind fun i => (isAggT P t).bind fun g => if g then (P.info? t).map fun ti => .lN i ti.size else some (.l1 i)
def resE (vals : List AV) (σ : List AObj) : RC → Option AV
 | .v i => some (vals.getD i .undef)
 | .l1 i => (f_load1 [vals.getD i .undef] σ).map (·.1)
 | .lN i n => (f_loadN n [vals.getD i .undef] σ).map (·.1)
def resEs (vals : List AV) (σ : List AObj) : List RC → Option AV
 | [r] => resE vals σ r
 | rs => (mapO (resE vals σ) rs).map .tup
theorem mapO_eq {α β : Type} (f : α → Option β) : ∀ l, mapO f l = l.mapM f
 | [] => rfl
 | a :: l => by
  simp only [mapO, mapO_eq f l, List.mapM_cons, Option.bind_eq_bind, Option.pure_def]
  cases f a <;> simp
  cases List.mapM f l <;> rfl
theorem resE_eq {P : Program} {vars : List Nat} {vals : List AV} {σ : List AObj} {rv : ResultVar} {rc : RC} (h : compRes P vars rv = some rc) : resF vars vals σ P rv = resE vals σ rc := by
 cases rv with
 | tmp t => simp only [compRes, Option.map_eq_some_iff] at h; obtain ⟨i, hi, rfl⟩ := h; simp [resF, resE, hi]
 | cell a t =>
  simp only [compRes, Option.bind_eq_some_iff] at h
  obtain ⟨i, hi, g, hg, h⟩ := h
  simp only [resF, hi, hg, Option.bind_some]
  cases g with
  | true => simp only [if_true, Option.map_eq_some_iff] at h ⊢; obtain ⟨ti, ht, rfl⟩ := h; simp [ht, resE]
  | false => simp only [Bool.false_eq_true, if_false, Option.some.injEq] at h ⊢; subst h; rfl
theorem resEs_eq {P : Program} {vars : List Nat} {vals : List AV} {σ : List AObj} {rvs : List ResultVar} {rcs : List RC} (h : mapO (compRes P vars) rvs = some rcs) : resAll P vars vals σ rvs = resEs vals σ rcs := by
 have key : ∀ (rvs : List ResultVar) (rcs : List RC), mapO (compRes P vars) rvs = some rcs → rvs.length = rcs.length ∧ mapO (resF vars vals σ P) rvs = mapO (resE vals σ) rcs := by
  intro rvs
  induction rvs with
  | nil => intro rcs h; simp only [mapO, Option.some.injEq] at h; subst h; exact ⟨rfl, rfl⟩
  | cons a rvs ih =>
   intro rcs h
   simp only [mapO] at h
   split at h
   ·cases h
   ·rename_i b hb
    split at h
    ·cases h
    ·rename_i bs hbs
     cases h
     obtain ⟨h1, h2⟩ := ih bs hbs
     refine ⟨by simp [h1], ?_⟩
     simp only [mapO, resE_eq hb, h2]
 obtain ⟨h1, h2⟩ := key rvs rcs h
 unfold resAll resEs
 match rvs, rcs, h1 with
 | [], [], _ => simp [mapO]
 | [a], [b], _ =>
  simp only [mapO] at h
  split at h
  ·cases h
  ·rename_i c hc
   cases h
   exact resE_eq hc
 | a :: b :: rvs, c :: d :: rcs, _ => simp only [← mapO_eq, h2]
structure FE where
 ic : IC
 vars : List Nat
 N : Nat
 res : List RC
 pure : Bool
structure FnOk (P : Program) (f : FuncId) (fe : FE) : Prop where
 ok : ∃ fn c, P.funcs[f]? = some fn ∧ fn.body = some c ∧ (fn.name == "runtime.NumGoroutine") = false ∧ fn.ntmps = fe.N ∧ compC P fe.vars fn.ntmps c = some fe.ic ∧ mapO (compRes P fe.vars) fn.results.toList = some fe.res
structure LE where
 vars : List Nat
 N : Nat
 ps : List Nat
 ia : IC
 ib : IC
abbrev Env := List (Nat × LE)
def envGet : Env → Nat → Option LE
 | [], _ => none
 | (k, e) :: es, l => if Nat.beq k l then some e else envGet es l
def EnvOk (P : Program) (E : Env) (σ : List AObj) : Prop :=
 ∀ (l : Nat) (le : LE), envGet E l = some le → ∃ r, σ[l]? = some (AObj.loop r) ∧ r.vars = le.vars ∧ r.ntmps = le.N ∧ r.params = le.ps ∧ compC P le.vars le.N r.assign = some le.ia ∧ compC P le.vars le.N r.body = some le.ib ∧
  le.vars.Nodup ∧ (∀ t ∈ le.ps, t ∈ le.vars) ∧ ∀ t ∈ le.ps, t < le.N
theorem EnvOk.keep {P : Program} {E : Env} {σ σ' : List AObj} (h : EnvOk P E σ) (k : LoopKeep σ σ') : EnvOk P E σ' := by
 intro l le hl
 obtain ⟨r, h1, h2, h3, h4, h5, h6, h7⟩ := h l le hl
 obtain ⟨r', k1, k2, k3, k4, k5, k6⟩ := k l r h1
 exact ⟨r', k1, k2.trans h2, k3.trans h3, k4.trans h4, by rw [k5]; exact h5, by rw [k6]; exact h6, h7⟩
abbrev CallE := AV → List AV → List AObj → Option (Bool × AV × List AObj)
abbrev Kn := List (Nat × List AV × AV)
structure Tb where
 T : Nat → Option FE
 K : Kn
section
variable {P : Program} {fx : Fx} {s : St} {Q : Exit → St → Prop}
theorem CallV.mono {fv : AV} {args : List AV} {σ : List AObj} {Q Q' : AV → List AObj → Prop} (h : CallV P fv args σ Q) (hq : ∀ r σ', Q r σ' → Q' r σ') : CallV P fv args σ Q' := by
 unfold CallV at h ⊢
 split at h
 ·exact AC.mono h hq
 ·exact AC.mono h hq
 ·exact YC.mono h hq
 ·exact h.elim
theorem beq_false {a b : Nat} (h : a ≠ b) : Nat.beq a b = false := by
 cases hb : Nat.beq a b with
 | true => exact absurd (Nat.eq_of_beq_eq_true hb) h
 | false => rfl
theorem LoopKeep.setLoop {σ : List AObj} {l : Nat} {r : ALoop} (h : σ[l]? = some (.loop r)) (st : LoopState) (p : Option Code) : LoopKeep σ (setLoop σ l r st p) := by
 intro l' r' hr'
 unfold AM.setLoop
 by_cases hl : l = l'
 ·subst hl
  rw [h] at hr'; cases hr'
  have : l < σ.length := (List.getElem?_eq_some_iff.1 h).1
  exact ⟨{ r with state := st, pending := p }, by rw [List.getElem?_set_self this], rfl, rfl, rfl, rfl, rfl⟩
 ·exact ⟨r', by rw [List.getElem?_set_ne hl]; exact hr', .refl _⟩
variable {call : Env → CallE}
variable {T : Nat → Option FE}
end
section
variable {P : Program} {T : Tb} {call : Env → CallE}
theorem EnvOk.nil (σ : List AObj) : EnvOk P [] σ := fun l le h => by simp [envGet] at h
def KnOk (P : Program) : Kn → Prop
 | [] => True
 | (f, as_, v) :: ks => (locsIn 0 v = true ∧ ∀ σ, AC P f as_ σ fun r τ => r = v ∧ τ = σ) ∧ KnOk P ks
structure TbOk (P : Program) (T : Tb) : Prop where
 t : ∀ f fe, T.T f = some fe → FnOk P f fe
 k : KnOk P T.K
end
theorem FnOk.mk' {P : Program} {f : FuncId} {fn : Func} {c : Code} {vars : List Nat} {N : Nat} {ic : IC} {res : List RC} {pure : Bool} (h1 : P.funcs[f]? = some fn) (h2 : fn.body = some c) (h3 : (fn.name == "runtime.NumGoroutine") = false) (h5 : compC P vars fn.ntmps c = some ic)
  (h6 : mapO (compRes P vars) fn.results.toList = some res) (h4 : fn.ntmps = N) : FnOk P f ⟨ic, vars, N, res, pure⟩ := ⟨fn, c, h1, h2, h3, h4, h5, h6⟩
theorem FnOk.mk2 {P : Program} {f : FuncId} {fn : Func} {vars : List Nat} {N : Nat} {ic : IC} {res : List RC} {pure : Bool} (h1 : P.funcs[f]? = some fn) (h2 : fn.body.isSome = true) (h3 : (fn.name == "runtime.NumGoroutine") = false)
  (h5 : compC P vars fn.ntmps (fn.body.getD .skip) = some ic) (h6 : mapO (compRes P vars) fn.results.toList = some res) (h4 : fn.ntmps = N) : FnOk P f ⟨ic, vars, N, res, pure⟩ := by
 cases hb : fn.body with
 | none => rw [hb] at h2; cases h2
 | some c => rw [hb] at h5; exact FnOk.mk' h1 hb h3 h5 h6 h4
def jS : Opd := .c (.cv .nils)
def jB (b : Bool) : Opd := .c (.cv (.bool b))
def jn (z : Int) : Opd := .c (.cv (.int .i64 z))
def jq (o : IOp) (a : List Opd) : Ins := ⟨none, none, .prim o, a⟩
def jw (d : Nat) (o : IOp) (a : List Opd) : Ins := ⟨some d, none, .prim o, a⟩
def jg (n : Nat) (b : Bool) (o : IOp) (a : List Opd) : Ins := ⟨none, some (n, b), .prim o, a⟩
def jk (f : Nat) (a : List Opd) : Ins := ⟨none, none, .call, .c (.fn (.func f) []) :: a⟩
def jd (d f : Nat) (a : List Opd) : Ins := ⟨some d, none, .call, .c (.fn (.func f) []) :: a⟩
def jf (n : Nat) (b : Bool) (f : Nat) (a : List Opd) : Ins := ⟨none, some (n, b), .call, .c (.fn (.func f) []) :: a⟩
def jv (n : Nat) : Ins := ⟨none, none, .prim .mv, [.v n]⟩
def jt (n : Nat) : Ins := ⟨none, none, .prim .mv, [.t n]⟩
def jl (n : Nat) : Ins := ⟨none, none, .prim .load1, [.t n]⟩
def jL (n : Nat) : Ins := ⟨none, none, .prim .load1, [.v n]⟩
def je (n : Nat) : Ins := ⟨none, none, .prim (.len false), [.t n]⟩
def jc (n : Nat) : Ins := ⟨none, none, .prim .nilck, [.t n]⟩
def ja (e a b : Nat) : Ins := ⟨none, none, .prim (.iaS e), [.t a, .t b]⟩
def jF (k n : Nat) : Ins := ⟨none, none, .prim (.fadd k), [.v n]⟩
def jG (k n : Nat) : Ins := ⟨none, none, .prim (.fadd k), [.t n]⟩
def jx (k n : Nat) : Ins := ⟨none, none, .prim (.extract k), [.t n]⟩
def jN (k n : Nat) : Ins := ⟨none, none, .prim (.loadN k), [.v n]⟩
def jm (d n : Nat) : Ins := ⟨some d, none, .prim .mv, [.t n]⟩
def jz (d : Nat) (z : Int) : Ins := ⟨some d, none, .prim .mv, [.c (.cv (.int .i64 z))]⟩
def jb (d n : Nat) : Ins := ⟨some d, none, .prim .box, [.v n]⟩
def jh (n : Nat) (b : Bool) (m : Nat) : Ins := ⟨none, some (n, b), .prim .mv, [.v m]⟩
def ji (n : Nat) (b : Bool) (m : Nat) : Ins := ⟨none, some (n, b), .prim .load1, [.t m]⟩
inductive D {α : Sort 1} (a : α) : Type where
 | mk
inductive D1 {α : Type} (a : α) : Type where
 | mk
def gK (o : Option Bool) (x y : Prop) (_ : D x) (_ : D y) : Prop := match o with | none => False | some false => x | some true => y
def pK (o : Option (AV × List AObj)) (K : AV → List AObj → Prop) (_ : D1 K) : Prop := match o with | none => False | some (v, σ) => K v σ
def cK (o : AV) (x y : Prop) (_ : D x) (_ : D y) : Prop := match o with | .cv (.bool true) => x | .cv (.bool false) => y | _ => False
def ACk (P : Program) (f : FuncId) (args : List AV) (σ : List AObj) (K : AV → List AObj → Prop) (_ : D1 K) : Prop := AC P f args σ K
def YCk (P : Program) (l : Nat) (args : List AV) (σ : List AObj) (K : AV → List AObj → Prop) (_ : D1 K) : Prop := YC P l args σ K
def CallVk (P : Program) (fv : AV) (args : List AV) (σ : List AObj) (K : AV → List AObj → Prop) (_ : D1 K) : Prop := CallV P fv args σ K
def callK (P : Program) (as_ : List AV) (σ : List AObj) (K : AV → List AObj → Prop) (d : D1 K) : Prop := match as_ with | fv :: as_ => CallVk P fv as_ σ K d | [] => False
def oK (P : Program) (op : IK) (as_ : List AV) (σ : List AObj) (K : AV → List AObj → Prop) (d : D1 K) : Prop := match op with | .prim io => pK (stepF io as_ σ) K d | .call => callK P as_ σ K d
def rK (o : Option AV) (K : AV → Prop) (_ : D1 K) : Prop := match o with | none => False | some v => K v
def ILk (P : Program) (fx : Fx) (a : IC) (s : St) (Q : Exit → St → Prop) (_ : D1 a) (_ : D1 Q) : Prop := IL P fx a s Q
def DWk (P : Program) (fx : Fx) (dirs : List (List Nat)) (is : List Ins) (s : St) (Q : Exit → St → Prop) (_ : D1 is) (_ : D1 Q) : Prop := DW P fx dirs is s Q
def RWk (P : Program) (fx : Fx) (g : Opd) (ps : Array Nat) (assign body : Code) (s : St) (Q : Exit → St → Prop) (_ : D1 assign) (_ : D1 body) (_ : D1 Q) : Prop := RW P fx g ps assign body s Q
theorem gK_t {x y : Prop} {d : D x} {e : D y} : gK (some true) x y d e = y := Eq.trans rfl rfl
theorem gK_f {x y : Prop} {d : D x} {e : D y} : gK (some false) x y d e = x := Eq.trans rfl rfl
theorem pK_s {v : AV} {σ : List AObj} {K : AV → List AObj → Prop} {d : D1 K} : pK (some (v, σ)) K d = K v σ := Eq.trans rfl rfl
theorem cK_t {x y : Prop} {d : D x} {e : D y} : cK (.cv (.bool true)) x y d e = x := Eq.trans rfl rfl
theorem cK_f {x y : Prop} {d : D x} {e : D y} : cK (.cv (.bool false)) x y d e = y := Eq.trans rfl rfl
theorem callK_c {P : Program} {fv : AV} {as_ : List AV} {σ : List AObj} {K : AV → List AObj → Prop} {d : D1 K} : callK P (fv :: as_) σ K d = CallVk P fv as_ σ K d := Eq.trans rfl rfl
theorem oK_p {P : Program} {io : IOp} {as_ : List AV} {σ : List AObj} {K : AV → List AObj → Prop} {d : D1 K} : oK P (.prim io) as_ σ K d = pK (stepF io as_ σ) K d := Eq.trans rfl rfl
theorem oK_c {P : Program} {as_ : List AV} {σ : List AObj} {K : AV → List AObj → Prop} {d : D1 K} : oK P .call as_ σ K d = callK P as_ σ K d := Eq.trans rfl rfl
theorem rK_s {v : AV} {K : AV → Prop} {d : D1 K} : rK (some v) K d = K v := Eq.trans rfl rfl
theorem CallV_fn {P : Program} {f : FuncId} {cap args : List AV} {σ : List AObj} {Q : AV → List AObj → Prop} {d : D1 Q} : CallVk P (.fn (.func f) cap) args σ Q d = ACk P f (args ++ cap) σ Q d := Eq.trans rfl rfl
theorem CallV_bm {P : Program} {f : FuncId} {first args : List AV} {σ : List AObj} {Q : AV → List AObj → Prop} {d : D1 Q} : CallVk P (.bm f first) args σ Q d = ACk P f (first ++ args) σ Q d := Eq.trans rfl rfl
theorem CallV_yld {P : Program} {l : Nat} {args : List AV} {σ : List AObj} {Q : AV → List AObj → Prop} {d : D1 Q} : CallVk P (.yld l) args σ Q d = YCk P l args σ Q d := Eq.trans rfl rfl
def RS (P : Program) : (is : List Ins) → List AV → List AV → List AObj → (K : List AV → List AV → List AObj → Prop) → D1 is → D1 K → Prop
 | [], vals, ρ, σ, K, _, _ => K vals ρ σ
 | i :: is, vals, ρ, σ, K, _, _ => gK (gdOk ρ i.gd) (RS P is (setD i.dst vals (.tup [])) (ρ ++ [.tup []]) σ K .mk .mk) (oK P i.op (i.args.map (evalO vals ρ)) σ (fun v σ' => RS P is (setD i.dst vals v) (ρ ++ [v]) σ' K .mk .mk) .mk) .mk .mk
theorem RS_n {P : Program} {vals ρ : List AV} {σ : List AObj} {K : List AV → List AV → List AObj → Prop} {d : D1 ([] : List Ins)} {e : D1 K} : RS P [] vals ρ σ K d e = K vals ρ σ := Eq.trans rfl rfl
theorem RS_c {P : Program} {i : Ins} {is : List Ins} {vals ρ : List AV} {σ : List AObj} {K : List AV → List AV → List AObj → Prop} {d : D1 (i :: is)} {e : D1 K} : RS P (i :: is) vals ρ σ K d e =
  gK (gdOk ρ i.gd) (RS P is (setD i.dst vals (.tup [])) (ρ ++ [.tup []]) σ K .mk .mk) (oK P i.op (i.args.map (evalO vals ρ)) σ (fun v σ' => RS P is (setD i.dst vals v) (ρ ++ [v]) σ' K .mk .mk) .mk) .mk .mk := Eq.trans rfl rfl
theorem RS_sound {P : Program} : ∀ (is : List Ins) (vals ρ : List AV) (σ : List AObj) (K : List AV → List AV → List AObj → Prop) (d : D1 is) (e : D1 K), RS P is vals ρ σ K d e → RG P is vals ρ σ K
 | [], _, _, _, _, _, _, h => h
 | i :: is, vals, ρ, σ, K, _, _, h => by
  simp only [RS] at h
  simp only [RG]
  unfold gK at h
  split at h
  ·exact h.elim
  ·rename_i hg; simp only [hg]; exact RS_sound is _ _ _ _ _ _ h
  ·rename_i hg
   simp only [hg]
   unfold oK at h
   split at h
   ·rename_i io hop
    unfold pK at h
    split at h
    ·exact h.elim
    ·rename_i v σ' hs; simp only [hop, hs]; exact RS_sound is _ _ _ _ _ _ h
   ·rename_i hop
    unfold callK at h
    split at h
    ·rename_i fv as_ ha
     simp only [hop, ha]
     exact CallV.mono h fun r τ hr => RS_sound is _ _ _ _ _ _ hr
    ·exact h.elim
def kK (P : Program) (kp : Bool) (as_ : List AV) (σ : List AObj) (K : AV → List AObj → Prop) (_ : D1 K) : Prop :=
 match kp, as_ with
 | true, fv :: as_ => ∃ v, CallV P fv as_ σ (fun v' τ' => v' = v ∧ τ' = σ) ∧ locsIn σ.length v = true ∧ K v σ
 | false, fv :: as_ => ∃ v τ, CallV P fv as_ σ (fun v' τ' => v' = v ∧ τ' = τ) ∧ CallOk σ v τ ∧ K v τ
 | _, [] => False
def oX (P : Program) (kp : Bool) (op : IK) (as_ : List AV) (σ : List AObj) (K : AV → List AObj → Prop) (d : D1 K) : Prop := match op with | .prim io => pK (stepF io as_ σ) K d | .call => kK P kp as_ σ K d
theorem oX_p {P : Program} {kp : Bool} {io : IOp} {as_ : List AV} {σ : List AObj} {K : AV → List AObj → Prop} {d : D1 K} : oX P kp (.prim io) as_ σ K d = pK (stepF io as_ σ) K d := Eq.trans rfl rfl
theorem oX_c {P : Program} {kp : Bool} {as_ : List AV} {σ : List AObj} {K : AV → List AObj → Prop} {d : D1 K} : oX P kp .call as_ σ K d = kK P kp as_ σ K d := Eq.trans rfl rfl
theorem kK_keep {P : Program} {fv v : AV} {as_ : List AV} {σ : List AObj} {K : AV → List AObj → Prop} {d : D1 K} (h : CallV P fv as_ σ fun v' τ' => v' = v ∧ τ' = σ) (hl : locsIn 0 v = true) (hk : K v σ) : kK P true (fv :: as_) σ K d := ⟨v, h, locsIn_mono (Nat.zero_le _) v hl, hk⟩
def RSx (P : Program) (kp : List Nat) (xs : List (Nat × Nat)) : Nat → (is : List Ins) → List PlT → List (List AObj) → List AV → List AV → List AObj → (K : List AV → List AV → List AObj → Prop) → D1 is → D1 K → Prop
 | _, [], pl, hs, vals, ρ, σ, K, _, _ => xAll xs pl (hs ++ [σ]) ∧ K vals ρ σ
 | j, i :: is, pl, hs, vals, ρ, σ, K, _, _ =>
  gK (gdOk ρ i.gd) (RSx P kp xs (j + 1) is (pl ++ [.no]) (hs ++ [σ]) (setD i.dst vals (.tup [])) (ρ ++ [.tup []]) σ K .mk .mk)
   (oX P (kp.contains j) i.op (i.args.map (evalO vals ρ)) σ (fun v σ' => RSx P kp xs (j + 1) is (pl ++ [plOf i (i.args.map (evalO vals ρ)) σ]) (hs ++ [σ]) (setD i.dst vals v) (ρ ++ [v]) σ' K .mk .mk) .mk) .mk .mk
theorem RSx_n {P : Program} {kp : List Nat} {xs : List (Nat × Nat)} {j : Nat} {pl : List PlT} {hs : List (List AObj)} {vals ρ : List AV} {σ : List AObj} {K : List AV → List AV → List AObj → Prop} {d : D1 ([] : List Ins)} {e : D1 K} : RSx P kp xs j [] pl hs vals ρ σ K d e = (xAll xs pl (hs ++ [σ]) ∧ K vals ρ σ) := Eq.trans rfl rfl
theorem RSx_c {P : Program} {kp : List Nat} {xs : List (Nat × Nat)} {j : Nat} {pl : List PlT} {hs : List (List AObj)} {i : Ins} {is : List Ins} {vals ρ : List AV} {σ : List AObj} {K : List AV → List AV → List AObj → Prop} {d : D1 (i :: is)} {e : D1 K} : RSx P kp xs j (i :: is) pl hs vals ρ σ K d e =
  gK (gdOk ρ i.gd) (RSx P kp xs (j + 1) is (pl ++ [.no]) (hs ++ [σ]) (setD i.dst vals (.tup [])) (ρ ++ [.tup []]) σ K .mk .mk)
   (oX P (kp.contains j) i.op (i.args.map (evalO vals ρ)) σ (fun v σ' => RSx P kp xs (j + 1) is (pl ++ [plOf i (i.args.map (evalO vals ρ)) σ]) (hs ++ [σ]) (setD i.dst vals v) (ρ ++ [v]) σ' K .mk .mk) .mk) .mk .mk := Eq.trans rfl rfl
theorem RSx_sound {P : Program} {kp : List Nat} {xs : List (Nat × Nat)} : ∀ (is : List Ins) (j : Nat) (pl : List PlT) (hs : List (List AObj)) (vals ρ : List AV) (σ : List AObj) (K : List AV → List AV → List AObj → Prop) (d : D1 is) (e : D1 K), RSx P kp xs j is pl hs vals ρ σ K d e → RPx P kp xs j is pl hs vals ρ σ K
 | [], _, _, _, _, _, _, _, _, _, h => h
 | i :: is, j, pl, hs, vals, ρ, σ, K, _, _, h => by
  simp only [RSx] at h
  simp only [RPx]
  unfold gK at h
  split at h
  ·exact h.elim
  ·rename_i hg; try simp only [hg]
   exact RSx_sound is _ _ _ _ _ _ _ _ _ h
  ·rename_i hg
   try simp only [hg]
   unfold oX at h
   split at h
   ·rename_i io hop
    unfold pK at h
    split at h
    ·exact h.elim
    ·rename_i v σ' hs'; simp only [hop, hs']; exact RSx_sound is _ _ _ _ _ _ _ _ _ h
   ·rename_i hop
    have hpl : ∀ as_, plOf i as_ σ = .no := fun as_ => by simp [plOf, hop]
    unfold kK at h
    split at h
    ·rename_i fv as_ hkp ha
     simp only [hop, ha, hkp, if_true]
     obtain ⟨v, g1, g2, g3⟩ := h
     refine ⟨v, g1, g2, ?_⟩
     have g3 := RSx_sound is _ _ _ _ _ _ _ _ _ g3
     rwa [hpl] at g3
    ·rename_i fv as_ hkp ha
     simp only [hop, ha, hkp, if_false, Bool.false_eq_true]
     obtain ⟨v, τ, g1, g2, g3⟩ := h
     refine ⟨v, τ, g1, g2, ?_⟩
     have g3 := RSx_sound is _ _ _ _ _ _ _ _ _ g3
     rwa [hpl] at g3
    ·exact h.elim
def IS (P : Program) (fx : Fx) : (ic : IC) → St → (Q : Exit → St → Prop) → D1 ic → D1 Q → Prop
 | .skip, s, Q, _, _ => Q .normal s
 | .label _, s, Q, _, _ => Q .normal s
 | .exit i, s, Q, _, _ => Q (.exit i) s
 | .ret, s, Q, _, _ => Q .ret s
 | .seq a b, s, Q, _, _ => IS P fx a s (fun e s' => match e with | .normal => IS P fx b s' Q .mk .mk | e => Q e s') .mk .mk
 | .block i a, s, Q, _, _ => IS P fx a s (fun e s' => match e with | .exit i' => if i' = i then Q .normal s' else Q (.exit i') s' | e => Q e s') .mk .mk
 | .cond i a b, s, Q, _, _ => cK (s.vals.getD i .undef) (IS P fx a s Q .mk .mk) (IS P fx b s Q .mk .mk) .mk .mk
 | .loop a, s, Q, _, _ => ILk P fx a s Q .mk .mk
 | .scope a, s, Q, _, _ => IS P fx a s (fun e s' => match e with | .goto _ => False | e => Q e s') .mk .mk
 | .region is, s, Q, _, _ => RS P is s.vals [] s.heap (fun vals _ σ => Q .normal ⟨vals, σ⟩) .mk .mk
 | .draw dirs is _, s, Q, _, _ => DWk P fx dirs is s Q .mk .mk
 | .rangef g ps assign body _ _, s, Q, _, _ => RWk P fx g ps assign body s Q .mk .mk .mk
section
variable {P : Program} {fx : Fx} {s : St} {Q : Exit → St → Prop} {e : D1 Q}
theorem IS_skip {d : D1 IC.skip} : IS P fx .skip s Q d e = Q .normal s := Eq.trans rfl rfl
theorem IS_label {l : Nat} {d : D1 (IC.label l)} : IS P fx (.label l) s Q d e = Q .normal s := Eq.trans rfl rfl
theorem IS_exit {i : Nat} {d : D1 (IC.exit i)} : IS P fx (.exit i) s Q d e = Q (.exit i) s := Eq.trans rfl rfl
theorem IS_ret {d : D1 IC.ret} : IS P fx .ret s Q d e = Q .ret s := Eq.trans rfl rfl
def kSeq (P : Program) (fx : Fx) (b : IC) (Q : Exit → St → Prop) : Exit → St → Prop := fun e s' => match e with | .normal => IS P fx b s' Q .mk .mk | e => Q e s'
def kBlock (i : Nat) (Q : Exit → St → Prop) : Exit → St → Prop := fun e s' => match e with | .exit i' => if i' = i then Q .normal s' else Q (.exit i') s' | e => Q e s'
def kScope (Q : Exit → St → Prop) : Exit → St → Prop := fun e s' => match e with | .goto _ => False | e => Q e s'
def kReg (Q : Exit → St → Prop) : List AV → List AV → List AObj → Prop := fun vals _ σ => Q .normal ⟨vals, σ⟩
theorem kSeq_n {b : IC} : kSeq P fx b Q .normal s = IS P fx b s Q .mk .mk := Eq.trans rfl rfl
theorem kSeq_x {b : IC} {i : Nat} : kSeq P fx b Q (.exit i) s = Q (.exit i) s := Eq.trans rfl rfl
theorem kSeq_r {b : IC} : kSeq P fx b Q .ret s = Q .ret s := Eq.trans rfl rfl
theorem kBlock_n {i : Nat} : kBlock i Q .normal s = Q .normal s := Eq.trans rfl rfl
theorem kBlock_x {i i' : Nat} : kBlock i Q (.exit i') s = if i' = i then Q .normal s else Q (.exit i') s := Eq.trans rfl rfl
theorem kBlock_r {i : Nat} : kBlock i Q .ret s = Q .ret s := Eq.trans rfl rfl
theorem kScope_n : kScope Q .normal s = Q .normal s := Eq.trans rfl rfl
theorem kScope_x {i' : Nat} : kScope Q (.exit i') s = Q (.exit i') s := Eq.trans rfl rfl
theorem kScope_r : kScope Q .ret s = Q .ret s := Eq.trans rfl rfl
theorem kReg_n {vals ρ : List AV} {σ : List AObj} : kReg Q vals ρ σ = Q .normal ⟨vals, σ⟩ := Eq.trans rfl rfl
theorem IS_seq {a b : IC} {d : D1 (IC.seq a b)} : IS P fx (.seq a b) s Q d e = IS P fx a s (kSeq P fx b Q) .mk .mk := Eq.trans rfl rfl
theorem IS_block {i : Nat} {a : IC} {d : D1 (IC.block i a)} : IS P fx (.block i a) s Q d e = IS P fx a s (kBlock i Q) .mk .mk := Eq.trans rfl rfl
theorem IS_cond {i : Nat} {a b : IC} {d : D1 (IC.cond i a b)} : IS P fx (.cond i a b) s Q d e = cK (s.vals.getD i .undef) (IS P fx a s Q .mk .mk) (IS P fx b s Q .mk .mk) .mk .mk := Eq.trans rfl rfl
theorem IS_loop {a : IC} {d : D1 (IC.loop a)} : IS P fx (.loop a) s Q d e = ILk P fx a s Q .mk .mk := Eq.trans rfl rfl
theorem IS_scope {a : IC} {d : D1 (IC.scope a)} : IS P fx (.scope a) s Q d e = IS P fx a s (kScope Q) .mk .mk := Eq.trans rfl rfl
theorem IS_region {is : List Ins} {d : D1 (IC.region is)} : IS P fx (.region is) s Q d e = RS P is s.vals [] s.heap (kReg Q) .mk .mk := Eq.trans rfl rfl
theorem IS_draw {dirs : List (List Nat)} {is : List Ins} {pds : List (List Nat)} {d : D1 (IC.draw dirs is pds)} : IS P fx (.draw dirs is pds) s Q d e = DWk P fx dirs is s Q .mk .mk := Eq.trans rfl rfl
theorem IS_dr {dirs : List (List Nat)} {is : List Ins} {d : D1 (IC.dr dirs is)} : IS P fx (.dr dirs is) s Q d e = DWk P fx dirs is s Q .mk .mk := Eq.trans rfl rfl
theorem IS_rangef {g : Opd} {ps : Array Nat} {assign body : Code} {ia ib : IC} {d : D1 (IC.rangef g ps assign body ia ib)} : IS P fx (.rangef g ps assign body ia ib) s Q d e = RWk P fx g ps assign body s Q .mk .mk .mk := Eq.trans rfl rfl
end
theorem IW_mono {P : Program} {fx : Fx} : ∀ (ic : IC) (s : St) (Q Q' : Exit → St → Prop), (∀ e s, Q e s → Q' e s) → IW P fx ic s Q → IW P fx ic s Q' := by
 intro ic
 induction ic with
 | skip => intro s Q Q' hq h; exact hq _ _ h
 | label _ => intro s Q Q' hq h; exact hq _ _ h
 | exit _ => intro s Q Q' hq h; exact hq _ _ h
 | ret => intro s Q Q' hq h; exact hq _ _ h
 | seq a b iha ihb =>
  intro s Q Q' hq h
  refine iha s _ _ ?_ h
  intro e s' h'
  cases e with
  | normal => exact ihb s' Q Q' hq h'
  | _ => exact hq _ _ h'
 | block i a iha =>
  intro s Q Q' hq h
  refine iha s _ _ ?_ h
  intro e s' h'
  cases e with
  | exit i' =>
   simp only at h' ⊢
   by_cases hi : i' = i
   ·rw [if_pos hi] at h' ⊢; exact hq _ _ h'
   ·rw [if_neg hi] at h' ⊢; exact hq _ _ h'
  | _ => exact hq _ _ h'
 | cond i a b iha ihb =>
  intro s Q Q' hq h
  obtain ⟨t, h1, h2⟩ := h
  refine ⟨t, h1, ?_⟩
  cases t with
  | true => exact iha s Q Q' hq h2
  | false => exact ihb s Q Q' hq h2
 | loop a _ => intro s Q Q' hq h; exact fun c hc => (h c hc).mono hq
 | scope a iha =>
  intro s Q Q' hq h
  refine iha s _ _ ?_ h
  intro e s' h'
  cases e with
  | goto l => exact h'
  | _ => exact hq _ _ h'
 | region is =>
  intro s Q Q' hq h
  have key : ∀ (is : List Ins) (vals ρ : List AV) (σ : List AObj) (K K' : List AV → List AV → List AObj → Prop), (∀ a b c, K a b c → K' a b c) → RG P is vals ρ σ K → RG P is vals ρ σ K' := by
   intro is
   induction is with
   | nil => intro vals ρ σ K K' hk h; exact hk _ _ _ h
   | cons i is ih =>
    intro vals ρ σ K K' hk h
    simp only [RG] at h ⊢
    split at h
    ·exact h
    ·rename_i hg; exact ih _ _ _ _ _ hk h
    ·rename_i hg
     split at h
     ·rename_i hop
      split at h
      ·rename_i hs; exact ih _ _ _ _ _ hk h
      ·exact h
     ·rename_i hop ha; exact h.mono fun r τ hr => ih _ _ _ _ _ hk hr
     ·exact h
  exact key is _ _ _ _ _ (fun a b c h => hq _ _ h) h
 | draw dirs is pds => intro s Q Q' hq h; exact fun id ops h1 h2 => (h id ops h1 h2).mono hq
 | rangef g ps assign body ia ib _ _ =>
  intro s Q Q' hq h
  obtain ⟨gf, cap, h1, h2, h3, h4⟩ := h
  refine ⟨gf, cap, h1, h2, h3, h4.mono ?_⟩
  rintro r σ' ⟨r2, g1, g2, g3⟩
  refine ⟨r2, g1, g2, ?_⟩
  cases hp : r2.pending with
  | none => rw [hp] at g3; exact hq _ _ g3
  | some c => rw [hp] at g3; exact W.mono g3 hq
theorem IS_sound {P : Program} {fx : Fx} : ∀ (ic : IC) (s : St) (Q : Exit → St → Prop) (d : D1 ic) (e : D1 Q), IS P fx ic s Q d e → IW P fx ic s Q := by
 intro ic
 induction ic with
 | skip => intro s Q _ _ h; exact h
 | label _ => intro s Q _ _ h; exact h
 | exit _ => intro s Q _ _ h; exact h
 | ret => intro s Q _ _ h; exact h
 | seq a b iha ihb =>
  intro s Q _ _ h
  refine IW_mono a s _ _ ?_ (iha s _ _ _ h)
  intro e s' h'
  cases e with
  | normal => exact ihb s' Q _ _ h'
  | _ => exact h'
 | block i a iha => intro s Q _ _ h; exact iha s _ _ _ h
 | cond i a b iha ihb =>
  intro s Q _ _ h
  simp only [IS] at h
  unfold cK at h
  split at h
  ·rename_i hv; exact ⟨true, hv, iha s Q _ _ h⟩
  ·rename_i hv; exact ⟨false, hv, ihb s Q _ _ h⟩
  ·exact h.elim
 | loop a _ => intro s Q _ _ h; exact h
 | scope a iha => intro s Q _ _ h; exact iha s _ _ _ h
 | region is => intro s Q _ _ h; exact RS_sound is _ _ _ _ _ _ h
 | draw dirs is pds => intro s Q _ _ h; exact h
 | rangef g ps assign body ia ib _ _ => intro s Q _ _ h; exact h
def kEnd (res : List RC) (Q : AV → List AObj → Prop) : Exit → St → Prop := fun e s' => match e with
 | .normal | .ret => rK (resEs s'.vals s'.heap res) (fun r => Q r s'.heap) .mk
 | _ => False
theorem kEnd_n {res : List RC} {Q : AV → List AObj → Prop} {s : St} : kEnd res Q .normal s = rK (resEs s.vals s.heap res) (fun r => Q r s.heap) .mk := Eq.trans rfl rfl
theorem kEnd_r {res : List RC} {Q : AV → List AObj → Prop} {s : St} : kEnd res Q .ret s = rK (resEs s.vals s.heap res) (fun r => Q r s.heap) .mk := Eq.trans rfl rfl
theorem AC_FE {P : Program} {f : FuncId} {ic : IC} {vars : List Nat} {N : Nat} {res : List RC} {p : Bool} {args : List AV} {σ : List AObj} {Q : AV → List AObj → Prop} (hf : FnOk P f ⟨ic, vars, N, res, p⟩) (hargs : args.length ≤ N)
  (h : IS P ⟨vars, N, none, σ.length⟩ ic ⟨initVals vars args, σ⟩ (kEnd res Q) .mk .mk) : AC P f args σ Q := by
 obtain ⟨fn, c, h1, h2, h3, h4, h5, h6⟩ := hf.ok
 dsimp only at h4 h5 h6
 subst h4
 have hr : ∀ vals heap, resAll P vars vals heap fn.results.toList = resEs vals heap res := fun vals heap => resEs_eq h6
 refine AC_IW vars h1 h2 h3 hargs h5 (IW_mono ic _ _ _ ?_ (IS_sound ic _ _ _ _ h))
 intro e s' h'
 have key : rK (resEs s'.vals s'.heap res) (fun r => Q r s'.heap) .mk → ∃ r, resAll P vars s'.vals s'.heap fn.results.toList = some r ∧ Q r s'.heap := by
  intro h'
  unfold rK at h'
  split at h'
  ·exact h'.elim
  ·rename_i v hv; exact ⟨v, by rw [hr]; exact hv, h'⟩
 cases e with
 | normal => exact key h'
 | ret => exact key h'
 | _ => exact h'
theorem DW_s {P : Program} {fx : Fx} {s : St} {Q : Exit → St → Prop} {dirs : List (List Nat)} {is : List Ins} (kp : List Nat) (xs : List (Nat × Nat)) (hmix : P.follows .mixedOrders = true) (hord : ordOkx' dirs is (pdsOf dirs []) kp xs = true) (hvl : s.vals.length = fx.vars.length)
  (h : RSx P kp xs 0 is [] [] s.vals [] s.heap (kReg Q) .mk .mk) : DW P fx dirs is s Q := DW_ordx kp xs hmix hord hvl (RSx_sound _ _ _ _ _ _ _ _ _ _ h)
def kUn (P : Program) (fx : Fx) (a : IC) (Q : Exit → St → Prop) : Exit → St → Prop := fun e s' => match e with | .normal => IL P fx a s' Q | e => Q e s'
theorem kUn_n {P : Program} {fx : Fx} {a : IC} {Q : Exit → St → Prop} {s : St} : kUn P fx a Q .normal s = ILk P fx a s Q .mk .mk := Eq.trans rfl rfl
theorem kUn_x {P : Program} {fx : Fx} {a : IC} {Q : Exit → St → Prop} {s : St} {i : Nat} : kUn P fx a Q (.exit i) s = Q (.exit i) s := Eq.trans rfl rfl
theorem kUn_r {P : Program} {fx : Fx} {a : IC} {Q : Exit → St → Prop} {s : St} : kUn P fx a Q .ret s = Q .ret s := Eq.trans rfl rfl
theorem IL_unroll' {P : Program} {fx : Fx} {a : IC} {s : St} {Q : Exit → St → Prop} (h : IS P fx a s (kUn P fx a Q) .mk .mk) : IL P fx a s Q := IL_unroll (IS_sound _ _ _ _ _ h)
def kFor (fx : Fx) (c : Prop) (S : St → Prop) (Q : Exit → St → Prop) : Exit → St → Prop := fun e s' => match e with | .normal => c ∧ ∃ s'', Weak fx s' s'' ∧ S s'' | e => Q e s'
theorem kFor_x {fx : Fx} {c : Prop} {S : St → Prop} {Q : Exit → St → Prop} {i : Nat} {s : St} : kFor fx c S Q (.exit i) s = Q (.exit i) s := Eq.trans rfl rfl
theorem kFor_r {fx : Fx} {c : Prop} {S : St → Prop} {Q : Exit → St → Prop} {s : St} : kFor fx c S Q .ret s = Q .ret s := Eq.trans rfl rfl
theorem kFor_go {fx : Fx} {c : Prop} {S : St → Prop} {Q : Exit → St → Prop} {s : St} (hc : c) (h : S s) : kFor fx c S Q .normal s := ⟨hc, s, Weak.refl _ _, h⟩
theorem kFor_weak {fx : Fx} {c : Prop} {S : St → Prop} {Q : Exit → St → Prop} {s s' : St} (hc : c) (hw : Weak fx s s') (h : S s') : kFor fx c S Q .normal s := ⟨hc, s', hw, h⟩
theorem IL_for {P : Program} {fx : Fx} {a : IC} {Q : Exit → St → Prop} (n : Nat) (S : Nat → St → Prop)
  (h : ∀ i s, i ≤ n → S i s → IS P fx a s (kFor fx (i < n) (S (i + 1)) Q) .mk .mk) (i : Nat) (hi : i ≤ n) {s : St} (hs : S i s) : IL P fx a s Q := by
 intro c hc
 have key : ∀ (k i : Nat) (s : St), n - i = k → i ≤ n → S i s → WL P fx c s Q := by
  intro k
  induction k with
  | zero =>
   intro i s hk hi hs
   refine WL_unroll ((IW_sound c a s _ hc (IS_sound _ _ _ _ _ (h i s hi hs))).mono ?_)
   intro e s' hq
   cases e with
   | normal => exact absurd hq.1 (by omega)
   | _ => exact hq
  | succ k ih =>
   intro i s hk hi hs
   refine WL_unroll ((IW_sound c a s _ hc (IS_sound _ _ _ _ _ (h i s hi hs))).mono ?_)
   intro e s' hq
   cases e with
   | normal =>
    obtain ⟨h1, s'', h2, h3⟩ := hq
    exact (ih (i + 1) s'' (by omega) h1 h3).weak h2
   | _ => exact hq
 exact key (n - i) i s rfl hi hs
section
variable {m m2 : LM} {X X2 : Nat → Prop} {w : World} {g : Nat → Nat}
mutual
theorem VRel.shift (hm : ∀ l b, m l = some b → m2 (g l) = some b) (ho : ∀ b, Own m2 X2 b → Own m X b) : ∀ (a : AV) (v : Value), VRel m X w a v → VRel m2 X2 w (AM.ren g a) v
 | .cv c, v, h => by simp only [AM.ren, VRel] at h ⊢; exact CV.rep_less ho c v h
 | .ptr l off, v, h => by simp only [AM.ren, VRel] at h ⊢; obtain ⟨b, h1, h2⟩ := h; exact ⟨b, hm l b h1, h2⟩
 | .sl l off len esz, v, h => by simp only [AM.ren, VRel] at h ⊢; obtain ⟨b, cap, h1, h2⟩ := h; exact ⟨b, cap, hm l b h1, h2⟩
 | .map l, v, h => by simp only [AM.ren, VRel] at h ⊢; obtain ⟨b, h1, h2⟩ := h; exact ⟨b, hm l b h1, h2⟩
 | .fn f cs, v, h => by simp only [AM.ren, VRel] at h ⊢; obtain ⟨vs, h1, h2⟩ := h; exact ⟨vs, h1, VRels.shift hm ho cs vs h2⟩
 | .bm f cs, v, h => by simp only [AM.ren, VRel] at h ⊢; obtain ⟨vs, h1, h2⟩ := h; exact ⟨vs, h1, VRels.shift hm ho cs vs h2⟩
 | .yld l, v, h => by simp only [AM.ren, VRel] at h ⊢; obtain ⟨b, h1, h2⟩ := h; exact ⟨b, hm l b h1, h2⟩
 | .agg cs, v, h => by simp only [AM.ren, VRel] at h ⊢; obtain ⟨vs, h1, h2⟩ := h; exact ⟨vs, h1, VRels.shift hm ho cs vs h2⟩
 | .tup cs, v, h => by simp only [AM.ren, VRel] at h ⊢; obtain ⟨vs, h1, h2⟩ := h; exact ⟨vs, h1, VRels.shift hm ho cs vs h2⟩
 | .undef, v, _ => by simp [AM.ren, VRel]
 | .slc l off len cap esz, v, h => by simp only [AM.ren, VRel] at h ⊢; obtain ⟨b, h1, h2⟩ := h; exact ⟨b, hm l b h1, h2⟩
theorem VRels.shift (hm : ∀ l b, m l = some b → m2 (g l) = some b) (ho : ∀ b, Own m2 X2 b → Own m X b) : ∀ (as_ : List AV) (vs : List Value), VRels m X w as_ vs → VRels m2 X2 w (AM.rens g as_) vs
 | [], [], _ => by simp [AM.rens, VRels]
 | a :: as_, v :: vs, h => by simp only [AM.rens, VRels] at h ⊢; exact ⟨VRel.shift hm ho a v h.1, VRels.shift hm ho as_ vs h.2⟩
 | [], _ :: _, h => by simp [VRels] at h
 | _ :: _, [], h => by simp [VRels] at h
end
theorem ORel.shift (hm : ∀ l b, m l = some b → m2 (g l) = some b) (ho : ∀ b, Own m2 X2 b → Own m X b) {b : Nat} {o : AObj} (h : ORel m X w (some b) o) : ORel m2 X2 w (some b) (renO g o) := by
 cases o with
 | dead => trivial
 | cells cs =>
  simp only [ORel, renO] at h ⊢
  obtain ⟨c, e, h1, h2, h3⟩ := h
  exact ⟨c, e, h1, by rw [rens_length]; exact h2, by rw [rens_length]; exact VRels.shift hm ho _ _ h3⟩
 | map es =>
  simp only [ORel, renO] at h ⊢
  obtain ⟨ces, clock, h1, h2, h3, h4, h5⟩ := h
  refine ⟨ces, clock, h1, h2, h3, by simpa using h4, fun i k a hi => ?_⟩
  rw [List.getElem?_map, Option.map_eq_some_iff] at hi
  obtain ⟨⟨k0, a0⟩, hi, he⟩ := hi
  simp only [Prod.mk.injEq] at he
  obtain ⟨rfl, rfl⟩ := he
  obtain ⟨e, g1, g2, g3⟩ := h5 i k0 a0 hi
  exact ⟨e, g1, VRel.shift hm ho _ _ g2, VRel.shift hm ho _ _ g3⟩
 | siter s p => simpa only [ORel, renO] using h
 | loop r =>
  simp only [ORel, renO] at h ⊢
  obtain ⟨tmps, d, fi, h1, h2, h3, h4⟩ := h
  refine ⟨tmps, d, fi, h1, fun i t hi => ?_, h3, by rw [rens_length]; exact h4⟩
  have := VRel.shift hm ho _ _ (h2 i t hi)
  rwa [← rens_getD] at this
end
abbrev sh (n : Nat) : Nat → Nat := fun l => l + n
theorem AC.frame {P : Program} {f : FuncId} {args : List AV} {Q : AV → List AObj → Prop} (hcl : locsInAll 0 args = true) (h : AC P f args [] Q) (σ : List AObj) :
  AC P f args σ fun r τ => ∃ r0 τ0, Q r0 τ0 ∧ r = ren (sh σ.length) r0 ∧ τ = σ ++ τ0.map (renO (sh σ.length)) := by
 refine ⟨h.1, fun m X w cargs ha hh => ?_⟩
 have hown : ∀ b, Own nom (Own m X) b ↔ Own m X b := fun b => ⟨fun h => h.elim id (fun ⟨l, hl⟩ => by cases hl), .inl⟩
 have ha0 : VRels nom (Own m X) w args cargs := VRels.less (k := 0) (fun l hl => absurd hl (Nat.not_lt_zero _)) (fun b hb => (hown b).1 hb) args cargs hcl ha
 have hlt : ∀ b, Own m X b → b < w.heap.size := fun b hb => by
  rcases hb with hb | ⟨l, hl⟩
  ·exact hh.xb b hb
  ·exact (hh.dom l b hl).2
 have hh0 : HRel nom (Own m X) [] w := ⟨hlt, fun l b hl => (by cases hl), fun l b o hl => (by cases hl), fun l l' b o hl => (by cases hl), fun l o ho => (by simp at ho)⟩
 refine (h.2 nom (Own m X) w cargs ha0 hh0).mono ?_
 rintro e w' ⟨c, r, τ0, m', rfl, hQ, hv, hh', hst, _⟩
 have hnew : ∀ l b, m' l = some b → w.heap.size ≤ b := fun l b hl => by
  rcases hst.new l b hl with ⟨l', hl'⟩ | hge
  ·cases hl'
  ·exact hge
 have hsame : ∀ b, b < w.heap.size → w'.heap[b]? = w.heap[b]? := fun b hb => hst.fr b hb (.inr fun l hl => by cases hl)
 let n := σ.length
 let m2 : LM := fun l => if l < n then m l else m' (l - n)
 have m2lo : ∀ l, l < n → m2 l = m l := fun l hl => by simp only [m2]; rw [if_pos hl]
 have m2hi : ∀ l, m2 (l + n) = m' l := fun l => by simp only [m2]; rw [if_neg (by omega), Nat.add_sub_cancel]
 have m2s : ∀ l b, m2 l = some b → (l < n ∧ m l = some b) ∨ (n ≤ l ∧ m' (l - n) = some b) := fun l b hl => by
  rcases Nat.lt_or_ge l n with h | h
  ·exact .inl ⟨h, by rw [← m2lo l h]; exact hl⟩
  ·exact .inr ⟨h, by rw [← m2hi, Nat.sub_add_cancel h]; exact hl⟩
 have how : ∀ b, Own m2 X b → Own m' (Own m X) b := by
  rintro b (hx | ⟨l, hl⟩)
  ·exact .inl (.inl hx)
  ·rcases m2s l b hl with ⟨_, h⟩ | ⟨_, h⟩
   ·exact .inl (.inr ⟨l, h⟩)
   ·exact .inr ⟨_, h⟩
 have hmap : ∀ l b, m' l = some b → m2 (sh n l) = some b := fun l b hl => by rw [← hl]; exact m2hi l
 have hlo : ∀ (l : Nat) (o : AObj), l < n → (σ ++ τ0.map (renO (sh n)))[l]? = some o → σ[l]? = some o := fun l o hl ho => by rwa [List.getElem?_append_left hl] at ho
 have hhi : ∀ (l : Nat) (o : AObj), n ≤ l → (σ ++ τ0.map (renO (sh n)))[l]? = some o → ∃ o0, τ0[l - n]? = some o0 ∧ o = renO (sh n) o0 := fun l o hl ho => by
  rw [List.getElem?_append_right hl, List.getElem?_map, Option.map_eq_some_iff] at ho
  obtain ⟨o0, h1, h2⟩ := ho
  exact ⟨o0, h1, h2.symm⟩
 have live0 : ∀ o : AObj, (renO (sh n) o).live → o.live := fun o h => by cases o <;> simp_all [renO, AObj.live]
 refine ⟨c, ren (sh n) r, σ ++ τ0.map (renO (sh n)), m2, rfl, ⟨r, τ0, hQ, rfl, rfl⟩, VRel.shift hmap how r c hv, ⟨?_, ?_, ?_, ?_, ?_⟩, ?_, by simp⟩
 ·exact fun b hb => hh'.xb b (.inl hb)
 ·intro l b hl
  rcases m2s l b hl with ⟨h1, h2⟩ | ⟨h1, h2⟩
  ·have := hh.dom l b h2
   exact ⟨by simp; omega, Nat.lt_of_lt_of_le this.2 hst.size⟩
  ·have := hh'.dom _ b h2
   exact ⟨by simp; omega, this.2⟩
 ·intro l b o hl ho hv hx
  rcases m2s l b hl with ⟨h1, h2⟩ | ⟨h1, h2⟩
  ·exact hh.own l b o h2 (hlo l o h1 ho) hv hx
  ·obtain ⟨o0, g1, rfl⟩ := hhi l o h1 ho
   exact hh'.own _ b o0 h2 g1 (live0 o0 hv) (.inl hx)
 ·intro l l' b o' hl hl' ho' hv
  rcases m2s l b hl with ⟨h1, h2⟩ | ⟨h1, h2⟩ <;> rcases m2s l' b hl' with ⟨h3, h4⟩ | ⟨h3, h4⟩
  ·exact hh.inj l l' b o' h2 h4 (hlo l' o' h3 ho') hv
  ·omega
  ·have := hnew _ b h2
   have := (hh.dom l' b h4).2
   omega
  ·obtain ⟨o0, g1, rfl⟩ := hhi l' o' h3 ho'
   have := hh'.inj _ _ b o0 h2 h4 g1 (live0 o0 hv)
   omega
 ·intro l o ho
  rcases Nat.lt_or_ge l n with h1 | h1
  ·have ho := hlo l o h1 ho
   rw [m2lo l h1]
   have hor := hh.obj l o ho
   cases hml : m l with
   | none => rw [hml] at hor; cases o <;> simp [ORel] at hor ⊢
   | some b =>
    rw [hml] at hor
    have hm : Mono m X w m2 X w' := by
     refine ⟨fun l b hl => ?_, fun b hb hc => ⟨hsame b hc.lt, ?_⟩, fun b c e hb => ⟨c, ?_, rfl⟩⟩
     ·rw [m2lo l (hh.dom l b hl).1]; exact hl
     ·rintro (hx | ⟨l, hl⟩)
      ·exact hb (.inl hx)
      ·rcases m2s l b hl with ⟨_, h⟩ | ⟨_, h⟩
       ·exact hb (.inr ⟨l, h⟩)
       ·have := hnew _ b h; have := hc.lt; omega
     ·rw [hsame b ((Array.getElem?_eq_some_iff.1 hb).1), hb]
    exact ORel.mono hm (hsame b (hh.dom l b hml).2) hor
  ·obtain ⟨o0, g1, rfl⟩ := hhi l o h1 ho
   have hor := hh'.obj _ o0 g1
   have e : m2 l = m' (l - n) := by rw [← m2hi, Nat.sub_add_cancel h1]
   rw [e]
   cases hml : m' (l - n) with
   | none => rw [hml] at hor; cases o0 <;> simp [ORel, renO] at hor ⊢
   | some b => rw [hml] at hor; exact ORel.shift hmap how hor
 ·refine ⟨fun l hl => m2lo l hl, fun l b hl => ?_, hst.size, fun b hb _ => hsame b hb, hst.shp, hst.os, hst.tape, hst.output, hst.drawn⟩
  rcases m2s l b hl with ⟨_, h⟩ | ⟨_, h⟩
  ·exact .inl ⟨l, h⟩
  ·exact .inr (hnew _ b h)
theorem AC.cut {P : Program} {f : FuncId} {args : List AV} {σ σ2 : List AObj} {v : AV} (h : AC P f args σ fun r τ => r = v ∧ ∃ junk, τ = σ2 ++ junk) (hl : σ2.length = σ.length) (hv : locsIn σ.length v = true)
  (ho : ∀ (l : Nat) (o : AObj), σ2[l]? = some o → σ[l]? = some o ∨ objIn σ.length o = true) : AC P f args σ fun r τ => r = v ∧ τ = σ2 := by
 refine h.tidy ?_
 rintro r τ ⟨rfl, junk, rfl⟩
 refine ⟨id, r, σ2, ⟨fun _ _ => rfl, fun _ _ h _ => h, by omega, (ren_id (g := id) (k := σ.length) (fun _ _ => rfl) r hv).symm, by rw [hl]; exact hv, fun l o hlo => ?_⟩, rfl, rfl⟩
 have hlt : l < σ2.length := (List.getElem?_eq_some_iff.1 hlo).1
 have hin : (σ2 ++ junk)[l]? = some o := by rw [List.getElem?_append_left hlt]; exact hlo
 rcases ho l o hlo with h1 | h1
 ·exact .inl ⟨by omega, h1, hin⟩
 ·refine .inr ⟨by rw [hl]; exact h1, ?_⟩
  rw [renO_id (g := id) (k := σ.length) (fun _ _ => rfl) h1]; exact hin
def atF (gl : List Nat) (N : Nat) (l : Nat) : Nat := if l < gl.length then gl.getD l 0 else N + (l - gl.length)
def putL (σ : List AObj) : List Nat → List AObj → List AObj
 | l :: ls, o :: os => putL (σ.set l o) ls os
 | [], os => σ ++ os
 | _ :: _, [] => σ
def AtOk (σ : List AObj) (g : Nat → Nat) (n : Nat) : List Nat → List AObj → Prop
 | l :: ls, o :: os => (o.live ∧ objIn n o = true ∧ σ[l]? = some (renO g o)) ∧ AtOk σ g n ls os
 | [], [] => True
 | _, _ => False
theorem AtOk.get {σ : List AObj} {g : Nat → Nat} {n : Nat} : ∀ {ls : List Nat} {os : List AObj}, AtOk σ g n ls os → ls.length = os.length ∧ ∀ (k : Nat) (o : AObj), os[k]? = some o → o.live ∧ objIn n o = true ∧ σ[ls.getD k 0]? = some (renO g o)
 | [], [], _ => ⟨rfl, fun k o h => by simp at h⟩
 | l :: ls, o :: os, h => by
  obtain ⟨h1, h2⟩ := h
  obtain ⟨h3, h4⟩ := h2.get
  refine ⟨by simp [h3], fun k o' hk => ?_⟩
  cases k with
  | zero => simp at hk; subst hk; simpa using h1
  | succ k => simpa using h4 k o' (by simpa using hk)
 | [], _ :: _, h => h.elim
 | _ :: _, [], h => h.elim
theorem putL_get : ∀ (gl : List Nat) (os σ : List AObj), gl.Nodup → (∀ l ∈ gl, l < σ.length) → gl.length ≤ os.length →
  (putL σ gl os).length = σ.length + (os.length - gl.length) ∧ (∀ (k l : Nat), gl[k]? = some l → (putL σ gl os)[l]? = os[k]?) ∧ (∀ (l : Nat), l < σ.length → l ∉ gl → (putL σ gl os)[l]? = σ[l]?) ∧ ∀ (j : Nat), (putL σ gl os)[σ.length + j]? = os[gl.length + j]?
 | [], os, σ, _, _, _ => by
  refine ⟨by simp [putL], fun k l h => by simp at h, fun l hl _ => ?_, fun j => ?_⟩
  ·simp only [putL]; rw [List.getElem?_append_left hl]
  ·simp only [putL]; rw [List.getElem?_append_right (by omega)]; simp
 | g :: gl, [], σ, _, _, h => by simp at h
 | g :: gl, o :: os, σ, hnd, hlt, hle => by
  have hn := List.nodup_cons.1 hnd
  obtain ⟨h1, h2, h3, h4⟩ := putL_get gl os (σ.set g o) hn.2 (fun l hl => by simpa using hlt l (by simp [hl])) (by simpa using hle)
  simp only [putL]
  simp only [List.length_set] at h1 h3 h4
  have hg := hlt g (by simp)
  refine ⟨by rw [h1]; simp, fun k l hk => ?_, fun l hl hm => ?_, fun j => ?_⟩
  ·cases k with
   | zero =>
    simp at hk; subst hk
    rw [h3 g hg hn.1, List.getElem?_set_self hg]; rfl
   | succ k => rw [h2 k l (by simpa using hk)]; rfl
  ·simp only [List.mem_cons, not_or] at hm
   rw [h3 l hl hm.2, List.getElem?_set_ne (fun h => hm.1 h.symm)]
  ·rw [h4 j, show (g :: gl).length + j = (gl.length + j) + 1 by simp; omega]; rfl
theorem live_of_renO {g : Nat → Nat} {o : AObj} (h : (renO g o).live) : o.live := by cases o <;> simp_all [renO, AObj.live]
theorem AC.at {P : Program} {f : FuncId} {args : List AV} {σ0 σ : List AObj} {Q : AV → List AObj → Prop} (gl : List Nat) (h : AC P f args σ0 Q) (hnd : gl.Nodup) (hcl : locsInAll σ0.length args = true)
  (hobj : AtOk σ (atF gl σ.length) σ0.length gl σ0) :
  AC P f (rens (atF gl σ.length) args) σ fun r τ => ∃ r0 τ0, Q r0 τ0 ∧ σ0.length ≤ τ0.length ∧ r = ren (atF gl σ.length) r0 ∧ τ = putL σ gl (τ0.map (renO (atF gl σ.length))) := by
 refine ⟨h.1, fun m X w cargs ha hh => ?_⟩
 obtain ⟨hlen, hget⟩ := hobj.get
 generalize hn0 : σ0.length = n0 at *
 let N := σ.length
 obtain ⟨g, hg⟩ : ∃ g, g = atF gl N := ⟨_, rfl⟩
 rw [← hg] at ha hget ⊢
 have glo : ∀ l, l < n0 → g l = gl.getD l 0 := fun l hl => by rw [hg]; unfold atF; rw [if_pos (by omega)]
 have ghi : ∀ j, g (n0 + j) = N + j := fun j => by rw [hg]; unfold atF; rw [if_neg (by omega)]; omega
 have gmem : ∀ l, l < n0 → gl[l]? = some (g l) := fun l hl => by rw [glo l hl]; simp [List.getD, show l < gl.length by omega]
 have hsome : ∀ l, l < n0 → ∃ o, σ0[l]? = some o := fun l hl => ⟨σ0[l], by simp⟩
 have glt : ∀ l, l < n0 → g l < N := fun l hl => by
  obtain ⟨o, ho⟩ := hsome l hl
  have := (hget l o ho).2.2
  rw [← glo l hl] at this
  exact (List.getElem?_eq_some_iff.1 this).1
 have gobj : ∀ (l : Nat) o, σ0[l]? = some o → l < n0 ∧ o.live ∧ objIn n0 o = true ∧ σ[g l]? = some (renO g o) := fun l o ho => by
  have hl : l < n0 := by rw [← hn0]; exact (List.getElem?_eq_some_iff.1 ho).1
  have := hget l o ho
  rw [← glo l hl] at this
  exact ⟨hl, this⟩
 have glive : ∀ l, l < n0 → ∃ o, σ[g l]? = some o ∧ o.live := fun l hl => by
  obtain ⟨o, ho⟩ := hsome l hl
  have := gobj l o ho
  exact ⟨_, this.2.2.2, renO_live this.2.1⟩
 have ginj : ∀ a b, a < n0 → b < n0 → g a = g b → a = b := fun a b ha hb he => by
  have h1 := gmem a ha
  have h2 := gmem b hb
  rw [← he] at h2
  exact (List.getElem?_inj (by omega) hnd).1 (h1.trans h2.symm)
 have hone : ∀ l l' b o o', m l = some b → m l' = some b → σ[l]? = some o → σ[l']? = some o' → o.live → o'.live → l = l' := fun l l' b o o' h1 h2 h3 h4 h5 h6 => by
  have := hh.inj l l' b o' h1 h2 h4 h6
  have := hh.inj l' l b o h2 h1 h3 h5
  omega
 let m0 : LM := fun l => if l < n0 then m (g l) else none
 have m0lo : ∀ l, l < n0 → m0 l = m (g l) := fun l hl => by simp only [m0]; rw [if_pos hl]
 have m0s : ∀ l b, m0 l = some b → l < n0 ∧ m (g l) = some b := fun l b hl => by
  simp only [m0] at hl
  split at hl
  ·rename_i h; exact ⟨h, hl⟩
  ·cases hl
 let X' : Nat → Prop := fun b => Own m X b ∧ ∀ l, l < n0 → m (g l) ≠ some b
 have hown : ∀ b, Own m X b → Own m0 X' b := fun b hb => by
  by_cases hx : ∃ l, l < n0 ∧ m (g l) = some b
  ·obtain ⟨l, h1, h2⟩ := hx
   exact .inr ⟨l, by rw [m0lo l h1]; exact h2⟩
  ·exact .inl ⟨hb, fun l h1 h2 => hx ⟨l, h1, h2⟩⟩
 have hown' : ∀ b, Own m0 X' b → Own m0 (Own m X) b := fun b hb => hb.elim (fun h => .inl h.1) .inr
 have hown2 : ∀ b, Own m0 (Own m X) b → Own m (Own m X) b := fun b hb => hb.elim .inl (fun ⟨l, hl⟩ => .inr ⟨_, (m0s l b hl).2⟩)
 have hown3 : ∀ b, Own m (Own m X) b → Own m X b := fun b hb => hb.elim id .inr
 have hlt : ∀ b, Own m X b → b < w.heap.size := fun b hb => by
  rcases hb with hb | ⟨l, hl⟩
  ·exact hh.xb b hb
  ·exact (hh.dom l b hl).2
 have ha0 : VRels m0 X' w args cargs := by
  have hk := VRels.locs (n := N) (fun l b hl => (hh.dom l b hl).1) _ _ ha
  have h1 : VRels m (Own m X) w (rens g args) cargs := VRels.less (k := N) (fun _ _ => rfl) (fun b hb => hown3 b hb) _ _ hk ha
  have h2 : VRels m0 (Own m X) w args cargs := VRels.ren (k := n0) (g := g) (fun l hl => m0lo l hl) (fun b hb => hown2 b hb) _ _ hcl h1
  exact VRels.less (k := n0) (fun _ _ => rfl) hown' _ _ hcl h2
 have hh0 : HRel m0 X' σ0 w := by
  refine ⟨fun b hb => hlt b hb.1, fun l b hl => ?_, fun l b o hl ho hv hx => ?_, fun l l' b o' hl hl' ho' hv => ?_, fun l o ho => ?_⟩
  ·obtain ⟨h1, h2⟩ := m0s l b hl
   exact ⟨by rw [hn0]; exact h1, (hh.dom _ b h2).2⟩
  ·obtain ⟨h1, h2⟩ := m0s l b hl
   exact hx.2 l h1 h2
  ·obtain ⟨h1, h2⟩ := m0s l b hl
   obtain ⟨h1', h2'⟩ := m0s l' b hl'
   obtain ⟨o1, e1, e2⟩ := glive l h1
   obtain ⟨o2, e3, e4⟩ := glive l' h1'
   have := ginj l l' h1 h1' (hone _ _ b o1 o2 h2 h2' e1 e3 e2 e4)
   omega
  ·obtain ⟨h1, h2, h3, h4⟩ := gobj l o ho
   rw [m0lo l h1]
   have hor := hh.obj _ _ h4
   cases hml : m (g l) with
   | none => rw [hml] at hor; cases o <;> simp [ORel, renO] at hor ⊢
   | some b =>
    rw [hml] at hor
    have hk : objIn N (renO g o) = true := hh.closed _ _ h4
    have h1 : ORel m (Own m X) w (some b) (renO g o) := ORel.less (k := N) (fun _ _ => rfl) (fun b hb => hown3 b hb) hk hor
    have h2 : ORel m0 (Own m X) w (some b) o := ORel.ren (k := n0) (g := g) (fun l hl => m0lo l hl) (fun b hb => hown2 b hb) h3 h1
    exact ORel.less (k := n0) (fun _ _ => rfl) hown' h3 h2
 refine (h.2 m0 X' w cargs ha0 hh0).mono ?_
 rintro e w' ⟨c, r0, τ0, m', rfl, hQ, hv, hh', hst, hle⟩
 rw [hn0] at hst hle
 let m2 : LM := fun l => if l < N then m l else m' (n0 + (l - N))
 have m2lo : ∀ l, l < N → m2 l = m l := fun l hl => by simp only [m2]; rw [if_pos hl]
 have m2hi : ∀ j, m2 (N + j) = m' (n0 + j) := fun j => by simp only [m2]; rw [if_neg (by omega), Nat.add_sub_cancel_left]
 have mk : ∀ l, l < n0 → m' l = m (g l) := fun l hl => by rw [hst.keep l hl, m0lo l hl]
 have m2s : ∀ l b, m2 l = some b → (l < N ∧ m l = some b) ∨ (∃ j, l = N + j ∧ m' (n0 + j) = some b) := fun l b hl => by
  rcases Nat.lt_or_ge l N with h | h
  ·exact .inl ⟨h, by rw [← m2lo l h]; exact hl⟩
  ·refine .inr ⟨l - N, by omega, ?_⟩
   rw [← m2hi, show N + (l - N) = l by omega]; exact hl
 have hnew : ∀ l b, m' l = some b → (∃ l0, l0 < n0 ∧ m (g l0) = some b) ∨ w.heap.size ≤ b := fun l b hl => by
  rcases hst.new l b hl with ⟨l', hl'⟩ | hge
  ·exact .inl ⟨l', m0s l' b hl'⟩
  ·exact .inr hge
 have hsame : ∀ b, b < w.heap.size → (∀ l, l < n0 → m (g l) ≠ some b) → w'.heap[b]? = w.heap[b]? := fun b hb hno => hst.fr b hb (.inr fun l hl => by
  obtain ⟨h1, h2⟩ := m0s l b hl
  exact hno l h1 h2)
 have hmap : ∀ l b, m' l = some b → m2 (g l) = some b := fun l b hl => by
  rcases Nat.lt_or_ge l n0 with h | h
  ·rw [m2lo _ (glt l h), ← mk l h]; exact hl
  ·obtain ⟨j, rfl⟩ : ∃ j, l = n0 + j := ⟨l - n0, by omega⟩
   rw [ghi, m2hi]; exact hl
 have hX' : ∀ b, Own m X b → Own m' X' b := fun b hb => by
  rcases hown b hb with h | ⟨l, hl⟩
  ·exact .inl h
  ·obtain ⟨h1, h2⟩ := m0s l b hl
   exact .inr ⟨l, by rw [mk l h1]; exact h2⟩
 have how : ∀ b, Own m2 X b → Own m' X' b := by
  rintro b (hx | ⟨l, hl⟩)
  ·exact hX' b (.inl hx)
  ·rcases m2s l b hl with ⟨_, h⟩ | ⟨j, _, h⟩
   ·exact hX' b (.inr ⟨l, h⟩)
   ·exact .inr ⟨_, h⟩
 have hXg : ∀ b, X b → ∀ l, l < n0 → m (g l) ≠ some b := fun b hx l hl he => by
  obtain ⟨o, h1, h2⟩ := glive l hl
  exact hh.own _ b o he h1 h2 hx
 obtain ⟨pl, p1, p2, p3⟩ := putL_get gl (τ0.map (renO g)) σ hnd (fun l hl => by
  obtain ⟨k, hk, rfl⟩ := List.mem_iff_getElem.1 hl
  have h1 := glt k (by omega)
  rw [glo k (by omega)] at h1
  simpa [List.getD, hk] using h1) (by rw [List.length_map]; omega)
 generalize hτ : putL σ gl (τ0.map (renO g)) = τ at *
 have τlen : τ.length = N + (τ0.length - n0) := by rw [pl, List.length_map, hlen]
 have τim : ∀ l, l < n0 → τ[g l]? = (τ0[l]?).map (renO g) := fun l hl => by rw [p1 l _ (gmem l hl), List.getElem?_map]
 have τhi : ∀ j, τ[N + j]? = (τ0[n0 + j]?).map (renO g) := fun j => by rw [p3 j, List.getElem?_map, hlen]
 have cls : ∀ (l : Nat) o, τ[l]? = some o → (l < N ∧ (∀ k, k < n0 → g k ≠ l) ∧ σ[l]? = some o) ∨ (∃ k o0, k < n0 ∧ l = g k ∧ τ0[k]? = some o0 ∧ o = renO g o0) ∨ (∃ j o0, l = N + j ∧ τ0[n0 + j]? = some o0 ∧ o = renO g o0) := fun l o ho => by
  rcases Nat.lt_or_ge l N with h | h
  ·by_cases hk : ∃ k, k < n0 ∧ l = g k
   ·obtain ⟨k, h1, rfl⟩ := hk
    rw [τim k h1, Option.map_eq_some_iff] at ho
    obtain ⟨o0, h2, h3⟩ := ho
    exact .inr (.inl ⟨k, o0, h1, rfl, h2, h3.symm⟩)
   ·have hno : ∀ k, k < n0 → g k ≠ l := fun k h1 h2 => hk ⟨k, h1, h2.symm⟩
    refine .inl ⟨h, hno, ?_⟩
    rw [← p2 l h (fun hm => ?_)]
    ·exact ho
    ·obtain ⟨k, hk1, hk2⟩ := List.mem_iff_getElem.1 hm
     refine hno k (by omega) ?_
     rw [glo k (by omega)]; simp [List.getD, hk1, hk2]
  ·obtain ⟨j, rfl⟩ : ∃ j, l = N + j := ⟨l - N, by omega⟩
   rw [τhi j, Option.map_eq_some_iff] at ho
   obtain ⟨o0, h2, h3⟩ := ho
   exact .inr (.inr ⟨j, o0, rfl, h2, h3.symm⟩)
 refine ⟨c, ren g r0, τ, m2, rfl, ⟨r0, τ0, hQ, hle, rfl, hτ.symm⟩, VRel.shift hmap how r0 c hv, ⟨?_, ?_, ?_, ?_, ?_⟩, ?_, by rw [τlen]; exact Nat.le_add_right _ _⟩
 ·exact fun b hb => Nat.lt_of_lt_of_le (hh.xb b hb) hst.size
 ·intro l b hl
  rcases m2s l b hl with ⟨h1, h2⟩ | ⟨j, rfl, h2⟩
  ·exact ⟨by rw [τlen]; omega, Nat.lt_of_lt_of_le (hh.dom l b h2).2 hst.size⟩
  ·have := hh'.dom _ b h2
   exact ⟨by rw [τlen]; omega, this.2⟩
 ·intro l b o hl ho hv hx
  rcases cls l o ho with ⟨h1, _, h2⟩ | ⟨k, o0, h1, rfl, h2, h3⟩ | ⟨j, o0, rfl, h2, rfl⟩
  ·rw [m2lo l h1] at hl
   exact hh.own l b o hl h2 hv hx
  ·rw [m2lo _ (glt k h1)] at hl
   exact hXg b hx k h1 hl
  ·rw [m2hi] at hl
   exact hh'.own _ b o0 hl h2 (live_of_renO hv) ⟨.inl hx, hXg b hx⟩
 ·intro l l' b o' hl hl' ho' hv
  rcases cls l' o' ho' with ⟨h1, h1n, h2⟩ | ⟨k, o0, h1, rfl, h2, h3⟩ | ⟨j, o0, rfl, h2, rfl⟩
  ·rw [m2lo l' h1] at hl'
   rcases m2s l b hl with ⟨g1, g2⟩ | ⟨j, rfl, g2⟩
   ·exact hh.inj l l' b o' g2 hl' h2 hv
   ·exfalso
    rcases hnew _ b g2 with ⟨l0, q1, q2⟩ | hge
    ·obtain ⟨o1, e1, e2⟩ := glive l0 q1
     exact h1n l0 q1 (hone _ _ b o1 o' q2 hl' e1 h2 e2 hv)
    ·have := (hh.dom l' b hl').2; omega
  ·rw [m2lo _ (glt k h1)] at hl'
   obtain ⟨o1, e1, e2⟩ := glive k h1
   rcases m2s l b hl with ⟨g1, g2⟩ | ⟨j, rfl, g2⟩
   ·exact hh.inj l (g k) b o1 g2 hl' e1 e2
   ·exfalso
    have hk : m' k = some b := by rw [mk k h1]; exact hl'
    have := hh'.inj (n0 + j) k b o0 g2 hk h2 (live_of_renO (by rw [← h3]; exact hv))
    omega
  ·rw [m2hi] at hl'
   rcases m2s l b hl with ⟨g1, g2⟩ | ⟨j', rfl, g2⟩
   ·omega
   ·have := hh'.inj (n0 + j') (n0 + j) b o0 g2 hl' h2 (live_of_renO hv)
    omega
 ·intro l o ho
  rcases cls l o ho with ⟨h1, h1n, h2⟩ | ⟨k, o0, h1, rfl, h2, rfl⟩ | ⟨j, o0, rfl, h2, rfl⟩
  ·rw [m2lo l h1]
   have hor := hh.obj l o h2
   by_cases hlv : o.live
   ·cases hml : m l with
    | none => rw [hml] at hor; cases o <;> simp [ORel] at hor ⊢
    | some b =>
     rw [hml] at hor
     have hbs := (hh.dom l b hml).2
     have hno : ∀ l0, l0 < n0 → m (g l0) ≠ some b := fun l0 q1 q2 => by
      obtain ⟨o1, e1, e2⟩ := glive l0 q1
      exact h1n l0 q1 (hone _ _ b o1 o q2 hml e1 h2 e2 hlv)
     have hm : Mono m X w m2 X w' := by
      refine ⟨fun l b hl => ?_, fun b hb hc => ⟨hsame b hc.lt (fun l0 _ q2 => hb (.inr ⟨_, q2⟩)), ?_⟩, hst.shp⟩
      ·rw [m2lo l (hh.dom l b hl).1]; exact hl
      ·rintro (hx | ⟨l, hl⟩)
       ·exact hb (.inl hx)
       ·rcases m2s l b hl with ⟨_, h⟩ | ⟨j, _, h⟩
        ·exact hb (.inr ⟨l, h⟩)
        ·rcases hnew _ b h with ⟨l0, q1, q2⟩ | hge
         ·exact hb (.inr ⟨_, q2⟩)
         ·have := hc.lt; omega
     exact ORel.mono hm (hsame b hbs hno) hor
   ·cases o <;> simp [AObj.live, ORel] at hlv ⊢
  ·have hor := hh'.obj k o0 h2
   rw [m2lo _ (glt k h1), ← mk k h1]
   cases hml : m' k with
   | none => rw [hml] at hor; cases o0 <;> simp [ORel, renO] at hor ⊢
   | some b => rw [hml] at hor; exact ORel.shift hmap how hor
  ·have hor := hh'.obj _ o0 h2
   rw [m2hi]
   cases hml : m' (n0 + j) with
   | none => rw [hml] at hor; cases o0 <;> simp [ORel, renO] at hor ⊢
   | some b => rw [hml] at hor; exact ORel.shift hmap how hor
 ·refine ⟨fun l hl => m2lo l hl, fun l b hl => ?_, hst.size, fun b hb hx => hsame b hb fun l0 q1 q2 => ?_, hst.shp, hst.os, hst.tape, hst.output, hst.drawn⟩
  ·rcases m2s l b hl with ⟨_, h⟩ | ⟨j, _, h⟩
   ·exact .inl ⟨l, h⟩
   ·rcases hnew _ b h with ⟨l0, q1, q2⟩ | hge
    ·exact .inl ⟨_, q2⟩
    ·exact .inr hge
  ·rcases hx with hx | hx
   ·exact hXg b hx l0 q1 q2
   ·exact hx _ q2
section
variable {P : Program}
def kRnd (l : Nat) (Q : AV → List AObj → Prop) : Exit → St → Prop := fun e s2 => match e with
 | .panic _ | .outgrown => False
 | e => ∃ r2, s2.heap[l]? = some (.loop r2) ∧ Q (.b (jumpOf e).isNone) (setLoop s2.heap l r2 (if (jumpOf e).isNone then .ready else .done) (jumpOf e))
theorem kRnd_n {l : Nat} {Q : AV → List AObj → Prop} {s : St} : kRnd l Q .normal s = ∃ r2, s.heap[l]? = some (.loop r2) ∧ Q (.b true) (setLoop s.heap l r2 .ready none) := Eq.trans rfl rfl
def kAsg (P : Program) (fx : Fx) (l : Nat) (ib : IC) (Q : AV → List AObj → Prop) : Exit → St → Prop := fun e s1 => match e with
 | .normal => ∃ r1, s1.heap[l]? = some (.loop r1) ∧ r1.state = .ready ∧ IS P fx ib ⟨s1.vals, setLoop s1.heap l r1 .busy r1.pending⟩ (kRnd l Q) .mk .mk
 | _ => False
theorem kAsg_n {fx : Fx} {l : Nat} {ib : IC} {Q : AV → List AObj → Prop} {s : St} : kAsg P fx l ib Q .normal s = ∃ r1, s.heap[l]? = some (.loop r1) ∧ r1.state = .ready ∧ IS P fx ib ⟨s.vals, setLoop s.heap l r1 .busy r1.pending⟩ (kRnd l Q) .mk .mk := Eq.trans rfl rfl
theorem YC_IS {l : Nat} {σ : List AObj} {r : ALoop} {args : List AV} {Q : AV → List AObj → Prop} (ia ib : IC) (hl : σ[l]? = some (.loop r)) (hst : r.state = .ready) (hargs : args.length = r.params.length)
  (hvp : (decide r.vars.Nodup && r.params.all fun t => r.vars.contains t && decide (t < r.ntmps)) = true)
  (hca : compC P r.vars r.ntmps r.assign = some ia) (hcb : compC P r.vars r.ntmps r.body = some ib)
  (h : IS P ⟨r.vars, r.ntmps, some l, σ.length⟩ ia ⟨putPars r.vars r.params args r.vals, σ⟩ (kAsg P ⟨r.vars, r.ntmps, some l, σ.length⟩ l ib Q) .mk .mk) : YC P l args σ Q := by
 simp only [Bool.and_eq_true, decide_eq_true_eq, List.all_eq_true, List.contains_iff_mem] at hvp
 refine YC_of_round hl hst hargs hvp.1 (fun t ht => (hvp.2 t ht).1) (fun t ht => (hvp.2 t ht).2) ?_
 refine IW_sound _ ia _ _ hca (IW_mono ia _ _ _ ?_ (IS_sound _ _ _ _ _ h))
 intro e s1 h1
 cases e with
 | normal =>
  obtain ⟨r1, g1, g2, g3⟩ := h1
  refine ⟨r1, g1, g2, ?_⟩
  refine IW_sound _ ib _ _ hcb (IW_mono ib _ _ _ ?_ (IS_sound _ _ _ _ _ g3))
  intro e s2 h2
  cases e <;> exact h2
 | _ => exact h1
theorem RW_s {fx : Fx} {s : St} {Q : Exit → St → Prop} {g : Opd} {ps : Array Nat} {assign body : Code} {gf : FuncId} {cap : List AV} (hg : evalO s.vals [] g = .fn (.func gf) cap) (hvl : s.vals.length ≤ fx.vars.length) (hr0 : ∀ l0, fx.r = some l0 → ∃ r0, s.heap[l0]? = some (.loop r0))
  (h : AC P gf (.yld s.heap.length :: cap) (s.heap ++ [.loop (newLoop fx s.vals ps assign body)]) fun _ σ' => afterLoop P fx s.vals s.heap.length Q σ') : RW P fx g ps assign body s Q := ⟨gf, cap, hg, hvl, hr0, h⟩
end
def Subs : List AV → List AV → Prop
 | [], [] => True
 | a :: as_, b :: bs => sub1 a b ∧ Subs as_ bs
 | _, _ => False
theorem Subs.get : ∀ {as_ bs : List AV}, Subs as_ bs → ∀ i, sub1 (as_.getD i .undef) (bs.getD i .undef)
 | [], [], _, i => .inl rfl
 | a :: as_, b :: bs, h, 0 => h.1
 | a :: as_, b :: bs, h, i + 1 => by simpa using Subs.get h.2 i
 | [], _ :: _, h, _ => h.elim
 | _ :: _, [], h, _ => h.elim
theorem Weak.cut {fx : Fx} {vals vals' : List AV} {τ J : List AObj} (hv : Subs vals vals') (hk : fx.n0 ≤ τ.length) (hl : locsInAll τ.length vals' = true) (ho : ∀ o ∈ τ, objIn τ.length o = true) : Weak fx ⟨vals, τ ++ J⟩ ⟨vals', τ⟩ := by
 have := Weak.drop (fx := fx) (s := ⟨vals, τ ++ J⟩) (vals' := vals') (k := τ.length) hv.get hk hl (fun o h => ho o (by simpa using h)) (by simp)
 simpa using this
section
variable {P : Program}
theorem AC.cut0 {f : FuncId} {args : List AV} {σ : List AObj} {v : AV} (h : AC P f args σ fun r τ => r = v ∧ ∃ junk, τ = σ ++ junk) (hv : locsIn σ.length v = true) : AC P f args σ fun r τ => r = v ∧ τ = σ :=
 h.cut rfl hv fun l o h => .inl h
theorem AC.cutF {f : FuncId} {args : List AV} {σ : List AObj} {v : AV} (h : AC P f args σ fun r τ => r = v ∧ ∃ junk, τ = σ ++ junk) (hv : locsIn 0 v = true) : AC P f args σ fun r τ => r = v ∧ τ = σ :=
 h.cut0 (locsIn_mono (Nat.zero_le _) v hv)
end
def clip (k : Nat) : List AV → List AV
 | [] => []
 | a :: as_ => (if locsIn k a = true then a else .undef) :: clip k as_
theorem clip_subs (k : Nat) : ∀ vals : List AV, Subs vals (clip k vals)
 | [] => trivial
 | a :: as_ => ⟨by by_cases h : locsIn k a = true <;> simp [sub1, h], clip_subs k as_⟩
theorem clip_in (k : Nat) : ∀ vals : List AV, locsInAll k (clip k vals) = true
 | [] => rfl
 | a :: as_ => by
  simp only [clip, locsInAll, Bool.and_eq_true]
  refine ⟨?_, clip_in k as_⟩
  by_cases h : locsIn k a = true
  ·rw [if_pos h]; exact h
  ·rw [if_neg h]; rfl
theorem kFor_clip {fx : Fx} {c : Prop} {S : St → Prop} {Q : Exit → St → Prop} {vals : List AV} {heap : List AObj} (τ J : List AObj) (hh : heap = τ ++ J) (hc : c) (hn : fx.n0 ≤ τ.length) (ho : ∀ o ∈ τ, objIn τ.length o = true)
  (h : S ⟨clip τ.length vals, τ⟩) : kFor fx c S Q .normal ⟨vals, heap⟩ := by
 subst hh
 exact kFor_weak hc (Weak.cut (clip_subs _ _) hn (clip_in _ _) ho) h
theorem HRel.forget {m : LM} {X : Nat → Prop} {σ J : List AObj} {w : World} (h : HRel m X (σ ++ J) w) : HRel m X (List.replicate σ.length .dead ++ J) w := by
 have hl : (List.replicate σ.length AObj.dead ++ J).length = (σ ++ J).length := by simp
 have hg : ∀ (l : Nat) o, (List.replicate σ.length AObj.dead ++ J)[l]? = some o → o = .dead ∨ (σ ++ J)[l]? = some o := fun l o ho => by
  by_cases hlt : l < σ.length
  ·rw [List.getElem?_append_left (by simpa using hlt)] at ho
   have := List.mem_of_getElem? ho
   rw [List.mem_replicate] at this
   exact .inl this.2
  ·rw [List.getElem?_append_right (by simp; omega)] at ho
   rw [List.getElem?_append_right (by omega)]
   exact .inr (by simpa using ho)
 have hlv : ∀ (l : Nat) o, (List.replicate σ.length AObj.dead ++ J)[l]? = some o → o.live → (σ ++ J)[l]? = some o := fun l o ho hv => by
  rcases hg l o ho with rfl | h
  ·exact hv.elim
  ·exact h
 refine ⟨h.xb, fun l b hb => by rw [hl]; exact h.dom l b hb, fun l b o hb ho hv => h.own l b o hb (hlv l o ho hv) hv, fun l l' b o' hb hb' ho' hv => h.inj l l' b o' hb hb' (hlv l' o' ho' hv) hv, fun l o ho => ?_⟩
 rcases hg l o ho with rfl | h2
 ·cases m l <;> simp [ORel]
 ·exact h.obj l o h2
end Go.Proofs.YtpnghcaccfnngaaGreatDoor.AM
namespace Go.Proofs.YtpnghcaccfnngaaGreatDoor.AM
variable [Dr]
open Go
variable {P : Program} {fx : Fx}
def SW (P : Program) (fx : Fx) (ic : IC) (s : St) (Q : Exit → St → Prop) : Prop := ∀ c, compC P fx.vars fx.N c = some ic → W P fx c s Q
theorem SW_of {ic : IC} {s : St} {Q : Exit → St → Prop} (h : IS P fx ic s Q .mk .mk) : SW P fx ic s Q := fun c hc => IW_sound c ic s Q hc (IS_sound ic s Q _ _ h)
def kSW (P : Program) (fx : Fx) (b : IC) (Q : Exit → St → Prop) : Exit → St → Prop := fun e s' => match e with | .normal => SW P fx b s' Q | e => Q e s'
theorem kSW_n {b : IC} {Q : Exit → St → Prop} {s : St} : kSW P fx b Q .normal s = SW P fx b s Q := Eq.trans rfl rfl
theorem kSW_x {b : IC} {Q : Exit → St → Prop} {s : St} {i : Nat} : kSW P fx b Q (.exit i) s = Q (.exit i) s := Eq.trans rfl rfl
theorem SW_seq {a b : IC} {s : St} {Q : Exit → St → Prop} (h : IS P fx a s (kSW P fx b Q) .mk .mk) : SW P fx (.seq a b) s Q := by
 have h := IS_sound a s _ _ _ h
 intro c
 induction c with
 | seq x y _ _ =>
  intro hc
  simp only [compC, Option.bind_eq_some_iff, Option.map_eq_some_iff] at hc
  obtain ⟨x', hx, y', hy, he⟩ := hc
  cases he
  refine W_seq ((IW_sound x a s _ hx h).mono ?_)
  intro e s' hq
  cases e with
  | normal => exact hq y hy
  | _ => exact hq
 | cond o x y ihx ihy =>
  intro hc
  cases o with
  | const v =>
   cases v <;> simp only [compC, reduceCtorEq] at hc
   rename_i t
   cases t with
   | true => simp only [if_true] at hc; exact W_cond_const (ihx hc)
   | false => simp only [Bool.false_eq_true, if_false] at hc; exact W_cond_const (ihy hc)
  | tmp t =>
   simp only [compC, Option.bind_eq_some_iff, Option.map_eq_some_iff] at hc
   obtain ⟨_, _, _, _, _, _, he⟩ := hc
   cases he
  | global g => simp [compC] at hc
  | func f => simp [compC] at hc
 | region id ops dr =>
  intro hc
  cases dr <;> simp [compC] at hc
 | rangeFunc g ps assign body _ _ =>
  intro hc
  simp only [compC, Option.bind_eq_some_iff, Option.map_eq_some_iff] at hc
  obtain ⟨_, _, _, _, he⟩ := hc
  cases he
 | skip => intro hc; simp [compC] at hc
 | label l => intro hc; simp [compC] at hc
 | exit i => intro hc; simp [compC] at hc
 | ret => intro hc; simp [compC] at hc
 | block i a _ => intro hc; simp [compC] at hc
 | loop a _ => intro hc; simp [compC] at hc
 | scope a _ => intro hc; simp [compC] at hc
 | goto l => intro hc; simp [compC] at hc
 | refuse r => intro hc; simp [compC] at hc
theorem AC_SW {f : FuncId} {ic : IC} {vars : List Nat} {N : Nat} {res : List RC} {p : Bool} {args : List AV} {σ : List AObj} {Q : AV → List AObj → Prop} (hf : FnOk P f ⟨ic, vars, N, res, p⟩) (hargs : args.length ≤ N)
  (h : SW P ⟨vars, N, none, σ.length⟩ ic ⟨initVals vars args, σ⟩ (kEnd res Q)) : AC P f args σ Q := by
 obtain ⟨fn, c, h1, h2, h3, h4, h5, h6⟩ := hf.ok
 dsimp only at h4 h5 h6
 subst h4
 have hr : ∀ vals heap, resAll P vars vals heap fn.results.toList = resEs vals heap res := fun vals heap => resEs_eq h6
 refine AC_of_body h1 h2 (Enter_of h1 h3 h2) hargs ((h c h5).mono ?_)
 intro e s' h'
 have key : rK (resEs s'.vals s'.heap res) (fun r => Q r s'.heap) .mk → ∃ r, resAll P vars s'.vals s'.heap fn.results.toList = some r ∧ Q r s'.heap := by
  intro h'
  unfold rK at h'
  split at h'
  ·exact h'.elim
  ·rename_i v hv; exact ⟨v, by rw [hr]; exact hv, h'⟩
 cases e with
 | normal => exact key h'
 | ret => exact key h'
 | _ => exact h'.elim
end Go.Proofs.YtpnghcaccfnngaaGreatDoor.AM
namespace Go.Proofs.YtpnghcaccfnngaaGreatDoor.AM
variable [Dr]
open Go
def Turn1 (k : Nat) (σ : List AObj) (a b : AV) : Prop := (a = b ∧ locsIn k b = true) ∨ FrzV anyC σ a b
inductive Turns (k : Nat) (σ : List AObj) : List AV → List AV → Prop
 | nil : Turns k σ [] []
 | cons {a b : AV} {as_ bs : List AV} : Turn1 k σ a b → Turns k σ as_ bs → Turns k σ (a :: as_) (b :: bs)
theorem Turns.len {k : Nat} {σ : List AObj} {as_ bs : List AV} (h : Turns k σ as_ bs) : as_.length = bs.length := by
 induction h with
 | nil => rfl
 | cons _ _ ih => simp [ih]
theorem Turns.get {k : Nat} {σ : List AObj} {as_ bs : List AV} (h : Turns k σ as_ bs) : ∀ i, Turn1 k σ (as_.getD i .undef) (bs.getD i .undef) := by
 induction h with
 | nil => intro i; exact .inl ⟨by simp [List.getD], by simp [List.getD, locsIn]⟩
 | cons h _ ih =>
  intro i
  cases i with
  | zero => simpa [List.getD] using h
  | succ i => simpa [List.getD] using ih i
theorem Weak.turn {fx : Fx} {vals vals2 : List AV} {τ τ2 J : List AObj} (h0 : fx.n0 = 0) (hlen : τ2.length = τ.length)
  (hv : Turns τ.length (List.replicate τ.length .dead ++ J) vals vals2)
  (ho : ∀ (l : Nat) (o2 : AObj), τ2[l]? = some o2 → ∃ o, τ[l]? = some o ∧ o.live ∧ ((o2 = o ∧ objIn τ.length o = true) ∨ ∃ as_ bs, o = .cells as_ ∧ o2 = .cells bs ∧ Turns τ.length (List.replicate τ.length .dead ++ J) as_ bs)) :
  Weak fx ⟨vals, τ ++ J⟩ ⟨vals2, τ2⟩ := by
 intro m X en ac w hs
 have hh := hs.heap
 let m2 : LM := fun l => if l < τ.length then m l else none
 have hm2 : ∀ l, l < τ.length → m2 l = m l := fun l hl => by simp only [m2]; rw [if_pos hl]
 have hm2s : ∀ l b, m2 l = some b → l < τ.length ∧ m l = some b := fun l b hl => by
  simp only [m2] at hl
  split at hl
  ·rename_i h; exact ⟨h, hl⟩
  ·cases hl
 have how : ∀ b, Own m2 X b → Own m X b := by
  rintro b (hx | ⟨l, hl⟩)
  ·exact .inl hx
  ·exact .inr ⟨l, (hm2s l b hl).2⟩
 have hin : ∀ (l : Nat) o, τ[l]? = some o → (τ ++ J)[l]? = some o := fun l o hlo => by rw [List.getElem?_append_left (List.getElem?_eq_some_iff.1 hlo).1]; exact hlo
 have hlv : ∀ l, l < τ.length → ∃ o, (τ ++ J)[l]? = some o ∧ o.live := fun l hl => by
  obtain ⟨o, h1, h2, _⟩ := ho l _ (List.getElem?_eq_getElem (by omega))
  exact ⟨o, hin l o h1, h2⟩
 have hnot : ∀ (l b : Nat) (o : AObj), m l = some b → (List.replicate τ.length AObj.dead ++ J)[l]? = some o → o.live → ¬ Own m2 X b := by
  intro l b o hb hlo hlive hown
  have hge : τ.length ≤ l := by
   rcases Nat.lt_or_ge l τ.length with hlt | hge
   ·rw [List.getElem?_append_left (by simpa using hlt)] at hlo
    have := List.mem_of_getElem? hlo
    rw [List.mem_replicate] at this
    rw [this.2] at hlive; exact hlive.elim
   ·exact hge
  have hlo' : (τ ++ J)[l]? = some o := by
   rw [List.getElem?_append_right (by simpa using hge)] at hlo
   rw [List.getElem?_append_right hge]
   simpa using hlo
  rcases hown with hx | ⟨l2, h2⟩
  ·exact hh.own l b o hb hlo' hlive hx
  ·obtain ⟨h3, h4⟩ := hm2s l2 b h2
   obtain ⟨o2, h6, h7⟩ := hlv l2 h3
   have := hh.inj l l2 b _ hb h4 h6 h7
   omega
 have one : ∀ {a b : AV}, Turn1 τ.length (List.replicate τ.length .dead ++ J) a b → ∀ v, VRel m X w a v → VRel m2 X w b v := by
  rintro a b (⟨rfl, h⟩ | h) v hv
  ·exact VRel.less hm2 how a v h hv
  ·exact frz_rel (HRel.forget hh) (fun c v _ h => CV.rep_less how c v h) hnot h v hv
 have many : ∀ {as_ bs : List AV}, Turns τ.length (List.replicate τ.length .dead ++ J) as_ bs → ∀ vs, VRels m X w as_ vs → VRels m2 X w bs vs := by
  intro as_ bs h
  induction h with
  | nil => intro vs hv; rw [VRels.nil' hv]; simp [VRels]
  | cons h1 _ ih =>
   intro vs hv
   obtain ⟨v, us, rfl, g1, g2⟩ := hv.cons
   exact ⟨one h1 v g1, ih us g2⟩
 refine ⟨m2, ⟨hs.size, ?_, ?_, ⟨hh.xb, ?_, ?_, ?_, ?_⟩, by rw [h0]; exact Nat.zero_le _, hs.entry⟩, ?_⟩
 ·intro i t hi
  exact one (hv.get i) _ (hs.vars i t hi)
 ·obtain ⟨bs, h1, h2, h3⟩ := hs.defs
  exact ⟨bs, h1, h2, fun b hb => let ⟨g1, g2, g3, g4⟩ := h3 b hb; ⟨g1, g2, g3, fun hx => g4 (how b hx)⟩⟩
 ·intro l b hl
  obtain ⟨h1, h2⟩ := hm2s l b hl
  exact ⟨by show l < τ2.length; omega, (hh.dom l b h2).2⟩
 ·intro l b o hl hlo hv
  obtain ⟨h1, h2⟩ := hm2s l b hl
  obtain ⟨o', h3, h4⟩ := hlv l h1
  exact hh.own l b o' h2 h3 h4
 ·intro l l' b o' hl hl' hlo hv
  obtain ⟨h1, h2⟩ := hm2s l b hl
  obtain ⟨h1', h2'⟩ := hm2s l' b hl'
  obtain ⟨o2, h3, h4⟩ := hlv l' h1'
  exact hh.inj l l' b o2 h2 h2' h3 h4
 ·intro l o2 hlo
  obtain ⟨o, h1, h2, h3⟩ := ho l o2 hlo
  have hlt : l < τ.length := (List.getElem?_eq_some_iff.1 h1).1
  have hob := hh.obj l o (hin l o h1)
  rw [hm2 l hlt]
  rcases h3 with ⟨rfl, hc⟩ | ⟨as_, bs, rfl, rfl, ht⟩
  ·refine ORel.ren (g := id) hm2 how hc ?_
   rw [renO_id (g := id) (k := τ.length) (fun _ _ => rfl) hc]
   exact hob
  ·cases hm : m l with
   | none => rw [hm] at hob; exact hob.elim
   | some b =>
    rw [hm] at hob
    obtain ⟨c, e, g1, g2, g3⟩ := hob
    refine ⟨c, e, g1, by rw [← ht.len]; exact g2, ?_⟩
    rw [← ht.len]
    exact many ht _ g3
 ·rw [h0]
  exact ⟨fun l hl => absurd hl (Nat.not_lt_zero _), fun l b hl => .inl ⟨l, (hm2s l b hl).2⟩, Nat.le_refl _, fun _ _ _ => rfl, fun b c e hb => ⟨c, hb, rfl⟩, rfl, rfl, rfl, fun _ => Nat.le_refl _⟩
def Move1 (g : Nat → Nat) (k : Nat) (σ : List AObj) (a b : AV) : Prop := (a = ren g b ∧ locsIn k b = true) ∨ FrzV anyC σ a b
inductive Moves (g : Nat → Nat) (k : Nat) (σ : List AObj) : List AV → List AV → Prop
 | nil : Moves g k σ [] []
 | cons {a b : AV} {as_ bs : List AV} : Move1 g k σ a b → Moves g k σ as_ bs → Moves g k σ (a :: as_) (b :: bs)
theorem Moves.len {g : Nat → Nat} {k : Nat} {σ : List AObj} {as_ bs : List AV} (h : Moves g k σ as_ bs) : as_.length = bs.length := by
 induction h with
 | nil => rfl
 | cons _ _ ih => simp [ih]
end Go.Proofs.YtpnghcaccfnngaaGreatDoor.AM

/- Parts of the proof, joined: AmV to AmV. -/
import Derived.Test.YtphdemhopihpnaaZ22

namespace Go.Proofs.Ytphdemhopihpnaa.AM
open Go
set_option linter.unusedVariables false
set_option linter.unusedSimpArgs false

/-- 0: does not look at the heap; 1: reads it; 2: may change it -/
def kindOf : IOp → Nat
  | .mv | .pick | .not | .bin _ _ | .conv _ | .build _ _ | .nilck | .mkfn _ | .mkbm _ | .eqS _ _ | .slS _ _ _ | .slStr _ _ | .fadd _ | .fld _ _ _ | .iaA _ _ | .iaS _ | .ixA _ _ _ _ | .ixStr | .extract _ | .len _ | .min2 | .max2 | .slS3 | .cap => 0
  | .load1 | .loadN _ | .slA _ _ _ _ | .lookup _ _ _ | .maplen => 1
  | _ => 2

theorem stepF_pure {io : IOp} {as_ : List AV} {σ σ' : List AObj} {r : AV} (hk : kindOf io = 0) (h : stepF io as_ σ = some (r, σ')) : σ' = σ ∧ ∀ τ, stepF io as_ τ = some (r, τ) := by
  cases io <;> (try (cases hk; done)) <;> simp only [stepF] at h ⊢
  case mv => unfold f_mv at h ⊢; split at h <;> cases h; exact ⟨rfl, fun _ => rfl⟩
  case pick => unfold f_pick at h ⊢; split at h <;> cases h; exact ⟨rfl, fun _ => rfl⟩
  case not => unfold f_not at h ⊢; split at h <;> cases h; exact ⟨rfl, fun _ => rfl⟩
  case bin => unfold f_bin at h ⊢; split at h <;> simp only [Option.map_eq_some_iff, reduceCtorEq] at h; obtain ⟨v, hv, he⟩ := h; cases he; exact ⟨rfl, fun _ => by simp [hv]⟩
  case conv => unfold f_conv at h ⊢; split at h <;> cases h; exact ⟨rfl, fun _ => rfl⟩
  case build => unfold f_build at h ⊢; simp only [Option.map_eq_some_iff] at h ⊢; obtain ⟨v, hv, he⟩ := h; cases he; exact ⟨rfl, fun _ => ⟨v, hv, rfl⟩⟩
  case nilck => unfold f_nilck at h ⊢; split at h <;> cases h <;> exact ⟨rfl, fun _ => rfl⟩
  case mkfn => unfold f_mkfn at h ⊢; cases h; exact ⟨rfl, fun _ => rfl⟩
  case mkbm => unfold f_mkbm at h ⊢; cases h; exact ⟨rfl, fun _ => rfl⟩
  case slS =>
    unfold f_slS at h ⊢
    split at h <;> simp only [Option.bind_eq_some_iff, reduceCtorEq] at h
    all_goals
      obtain ⟨⟨a, b⟩, hb, h⟩ := h
      simp only at h
      split at h <;> try (cases h; done)
    · rename_i hc
      split at h
      · rename_i h2; cases h; exact ⟨rfl, fun _ => by simp only [hb, Option.bind_some]; rw [if_pos hc, if_pos h2]⟩
      · rename_i h2; cases h; exact ⟨rfl, fun _ => by simp only [hb, Option.bind_some]; rw [if_pos hc, if_neg h2]⟩
    · rename_i hc; cases h; exact ⟨rfl, fun _ => by simp only [hb, Option.bind_some]; rw [if_pos hc]⟩
    · rename_i hc; cases h; exact ⟨rfl, fun _ => by simp only [hb, Option.bind_some]; rw [if_pos hc]⟩
    · rename_i hc
      split at h
      · rename_i h2; cases h; exact ⟨rfl, fun _ => by simp only [hb, Option.bind_some]; rw [if_pos hc, if_pos h2]⟩
      · rename_i h2; cases h; exact ⟨rfl, fun _ => by simp only [hb, Option.bind_some]; rw [if_pos hc, if_neg h2]⟩
  case slStr =>
    unfold f_slStr at h ⊢
    split at h <;> simp only [Option.bind_eq_some_iff, reduceCtorEq] at h
    obtain ⟨⟨a, b⟩, hb, h⟩ := h
    simp only at h
    split at h <;> try (cases h; done)
    rename_i hc; cases h; exact ⟨rfl, fun _ => by simp only [hb, Option.bind_some]; rw [if_pos hc]⟩
  case fadd => unfold f_fadd at h ⊢; split at h <;> cases h <;> exact ⟨rfl, fun _ => rfl⟩
  case fld =>
    unfold f_fld at h ⊢; split at h <;> try (cases h; done)
    · split at h <;> cases h; rename_i hc; exact ⟨rfl, fun _ => by rw [if_pos hc]⟩
    · simp only [Option.map_eq_some_iff] at h; obtain ⟨v, hv, he⟩ := h; cases he; exact ⟨rfl, fun _ => by simp [hv]⟩
  case iaA => unfold f_iaA at h ⊢; split at h <;> (try (cases h; done)) <;> (split at h <;> cases h; rename_i hc; exact ⟨rfl, fun _ => by rw [if_pos hc]⟩)
  case iaS => unfold f_iaS at h ⊢; split at h <;> (try (cases h; done)) <;> (split at h <;> cases h; rename_i hc; exact ⟨rfl, fun _ => by rw [if_pos hc]⟩)
  case ixA =>
    unfold f_ixA at h ⊢; split at h <;> try (cases h; done)
    · split at h <;> cases h; rename_i hc; exact ⟨rfl, fun _ => by rw [if_pos hc]⟩
    · split at h <;> (try (cases h; done)); rename_i hc; simp only [Option.map_eq_some_iff] at h; obtain ⟨v, hv, he⟩ := h; cases he; exact ⟨rfl, fun _ => by rw [if_pos hc]; simp [hv]⟩
  case ixStr => unfold f_ixStr at h ⊢; split at h <;> (try (cases h; done)); split at h <;> (try (cases h; done)); rename_i hc; simp only [Option.map_eq_some_iff] at h; obtain ⟨v, hv, he⟩ := h; cases he; exact ⟨rfl, fun _ => by rw [if_pos hc]; simp [hv]⟩
  case extract => unfold f_extract at h ⊢; split at h <;> (try (cases h; done)); simp only [Option.map_eq_some_iff] at h; obtain ⟨v, hv, he⟩ := h; cases he; exact ⟨rfl, fun _ => by simp [hv]⟩
  case len => unfold f_len at h ⊢; split at h <;> cases h <;> exact ⟨rfl, fun _ => rfl⟩
  case min2 => unfold f_min2 at h ⊢; split at h <;> (try (cases h; done)); split at h <;> cases h; rename_i hc; exact ⟨rfl, fun _ => by rw [if_pos hc]⟩
  case max2 => unfold f_max2 at h ⊢; split at h <;> (try (cases h; done)); split at h <;> cases h; rename_i hc; exact ⟨rfl, fun _ => by rw [if_pos hc]⟩
  case eqS => unfold f_eqS at h ⊢; split at h <;> (try (cases h; done)); simp only [Option.map_eq_some_iff] at h ⊢; obtain ⟨v, hv, he⟩ := h; cases he; exact ⟨rfl, fun _ => ⟨v, hv, rfl⟩⟩
  case slS3 =>
    unfold f_slS3 at h ⊢; split at h <;> (try (cases h; done)) <;> (
      simp only [Option.bind_eq_some_iff] at h; obtain ⟨a, ha, b, hb, c, hc, h⟩ := h
      split at h <;> (try (cases h; done))
      rename_i hcc; cases h; exact ⟨rfl, fun _ => by simp only [ha, hb, hc, Option.bind_some]; rw [if_pos hcc]⟩)
  case cap => unfold f_cap at h ⊢; split at h <;> cases h; exact ⟨rfl, fun _ => rfl⟩

theorem stepF_reads {io : IOp} {as_ : List AV} {σ σ' : List AObj} {r : AV} (hk : kindOf io = 1) (h : stepF io as_ σ = some (r, σ')) : σ' = σ := by
  cases io <;> (try (cases hk; done)) <;> simp only [stepF] at h
  case load1 =>
    unfold f_load1 at h; split at h <;> (try (cases h; done))
    · simp only [Option.bind_eq_some_iff, Option.map_eq_some_iff] at h; obtain ⟨_, _, _, _, he⟩ := h; cases he; rfl
    · simp only [Option.map_eq_some_iff] at h; obtain ⟨_, _, he⟩ := h; cases he; rfl
  case loadN =>
    unfold f_loadN at h; split at h <;> (try (cases h; done))
    · simp only [Option.bind_eq_some_iff] at h; obtain ⟨_, _, h⟩ := h; split at h <;> cases h; rfl
    · split at h <;> cases h; rfl
  case slA => unfold f_slA at h; split at h <;> (try (cases h; done)); simp only [Option.bind_eq_some_iff] at h; obtain ⟨_, _, _, _, h⟩ := h; split at h <;> cases h; rfl
  case lookup => unfold f_lookup at h; split at h <;> (try (cases h; done)); simp only [Option.bind_eq_some_iff] at h; obtain ⟨_, _, h⟩ := h; split at h <;> (try (cases h; done)); simp only [Option.map_eq_some_iff] at h; obtain ⟨_, _, he⟩ := h; cases he; rfl
  case maplen => unfold f_maplen at h; split at h <;> (try (cases h; done)); simp only [Option.map_eq_some_iff] at h; obtain ⟨_, _, he⟩ := h; cases he; rfl

/-! ### Results lead to places that are there -/

theorem locsInAll_iff {k : Nat} : ∀ {vs : List AV}, locsInAll k vs = true ↔ ∀ v ∈ vs, locsIn k v = true
  | [] => by simp [locsInAll]
  | v :: vs => by simp [locsInAll, locsInAll_iff (vs := vs)]

theorem locsInAll_take {k n : Nat} {vs : List AV} (h : locsInAll k vs = true) : locsInAll k (vs.take n) = true :=
  locsInAll_iff.2 fun v hv => locsInAll_iff.1 h v (List.mem_of_mem_take hv)
theorem locsInAll_drop {k n : Nat} {vs : List AV} (h : locsInAll k vs = true) : locsInAll k (vs.drop n) = true :=
  locsInAll_iff.2 fun v hv => locsInAll_iff.1 h v (List.mem_of_mem_drop hv)
theorem locsInAll_append {k : Nat} {vs us : List AV} (h : locsInAll k vs = true) (h' : locsInAll k us = true) : locsInAll k (vs ++ us) = true :=
  locsInAll_iff.2 fun v hv => (List.mem_append.1 hv).elim (locsInAll_iff.1 h v) (locsInAll_iff.1 h' v)
theorem locsInAll_cv {k : Nat} (cs : List CV) : locsInAll k (cs.map .cv) = true :=
  locsInAll_iff.2 fun v hv => by obtain ⟨c, _, rfl⟩ := List.mem_map.1 hv; rfl
theorem locsInAll_set {k i : Nat} {vs : List AV} {v : AV} (h : locsInAll k vs = true) (hv : locsIn k v = true) : locsInAll k (vs.set i v) = true :=
  locsInAll_iff.2 fun u hu => by
    rcases List.mem_or_eq_of_mem_set hu with h1 | rfl
    · exact locsInAll_iff.1 h u h1
    · exact hv
theorem locsInAll_setRange {k : Nat} : ∀ {us vs : List AV} {off : Nat}, locsInAll k vs = true → locsInAll k us = true → locsInAll k (setRange vs off us) = true
  | [], vs, off, h, _ => by simpa [setRange] using h
  | u :: us, vs, off, h, h' => by
    simp only [locsInAll, Bool.and_eq_true] at h'
    simp only [setRange]
    exact locsInAll_setRange (locsInAll_set h h'.1) h'.2
theorem locsInAll_cellsOf {k : Nat} {v : AV} (h : locsIn k v = true) : locsInAll k (cellsOf v) = true := by
  cases v <;> simp_all [cellsOf, locsIn, locsInAll]
theorem locsInAll_get {k i : Nat} {vs : List AV} {v : AV} (h : locsInAll k vs = true) (hv : vs[i]? = some v) : locsIn k v = true := locsInAll_iff.1 h v (List.mem_of_getElem? hv)
theorem locsInAll_zcells {k n : Nat} {zs : List AV} (h : locsInAll k zs = true) : locsInAll k (zcells n zs) = true := by
  unfold zcells
  split
  · rename_i z
    exact locsInAll_iff.2 fun v hv => by rw [(List.mem_replicate.1 hv).2]; simpa [locsInAll] using h
  · exact locsInAll_iff.2 fun v hv => by obtain ⟨i, _, rfl⟩ := List.mem_map.1 hv; exact locsInAll_getD h _
theorem locsInAll_fill {k : Nat} : ∀ {ps : List (Nat × Nat)} {vs zs cs : List AV}, fillF zs ps vs = some cs → locsInAll k zs = true → locsInAll k vs = true → locsInAll k cs = true
  | [], [], zs, cs, h, hz, _ => by simp [fillF] at h; subst h; exact hz
  | (off, n) :: ps, v :: vs, zs, cs, h, hz, hv => by
    simp only [locsInAll, Bool.and_eq_true] at hv
    simp only [fillF] at h
    split at h
    · exact locsInAll_fill h (locsInAll_setRange hz (locsInAll_cellsOf hv.1)) hv.2
    · cases h
  | [], _ :: _, _, _, h, _, _ => by simp [fillF] at h
  | _ :: _, [], _, _, h, _, _ => by simp [fillF] at h

theorem locs_le {a b : Nat} (hab : a ≤ b) {v : AV} (h : locsIn a v = true) : locsIn b v = true := locsIn_mono hab v h
theorem locsAll_le {a b : Nat} (hab : a ≤ b) {v : List AV} (h : locsInAll a v = true) : locsInAll b v = true := locsInAll_mono hab v h

/-- constants in an operation lead nowhere -/
def ioCl : IOp → Bool
  | .alloc zs | .clear zs | .build zs _ | .bslice _ _ zs _ | .mkslice _ _ zs | .mksliceC _ _ zs | .appendz _ _ zs => locsInAll 0 zs
  | .lookup _ z _ => locsIn 0 z
  | _ => true

def Cl (σ : List AObj) : Prop := ∀ (l : Nat) o, σ[l]? = some o → objIn σ.length o = true

theorem Cl.row {σ : List AObj} (h : Cl σ) {l : Nat} {cs : List AV} (hr : rowOf σ l = some cs) : locsInAll σ.length cs = true ∧ l < σ.length := by
  unfold rowOf at hr
  split at hr
  · rename_i cs' ho; cases hr
    exact ⟨h l _ ho, (List.getElem?_eq_some_iff.1 ho).1⟩
  · cases hr
theorem Cl.mapOf {σ : List AObj} (h : Cl σ) {l : Nat} {es : List (AV × AV)} (hr : mapOf σ l = some es) : (∀ e ∈ es, locsIn σ.length e.1 = true ∧ locsIn σ.length e.2 = true) ∧ l < σ.length := by
  unfold AM.mapOf at hr
  split at hr
  · rename_i cs' ho; cases hr
    have := h l _ ho
    simp only [objIn, List.all_eq_true, Bool.and_eq_true] at this
    exact ⟨this, (List.getElem?_eq_some_iff.1 ho).1⟩
  · cases hr
theorem Cl.set {σ : List AObj} (h : Cl σ) (l : Nat) {o : AObj} (ho : objIn σ.length o = true) : Cl (σ.set l o) := by
  intro x o' hx
  rw [List.getElem?_set] at hx
  rw [List.length_set]
  split at hx
  · split at hx
    · cases hx; exact ho
    · cases hx
  · exact h x o' hx
theorem Cl.push {σ : List AObj} (h : Cl σ) {o : AObj} (ho : objIn (σ.length + 1) o = true) : Cl (σ ++ [o]) := by
  intro x o' hx
  rw [List.length_append, List.length_singleton]
  rcases Nat.lt_or_ge x σ.length with hlt | hge
  · rw [List.getElem?_append_left hlt] at hx
    exact objIn_mono _ _ o' (Nat.le_succ _) (h x o' hx)
  · rw [List.getElem?_append_right hge] at hx
    have : x - σ.length = 0 := by
      have := (List.getElem?_eq_some_iff.1 hx).1
      simp at this; omega
    rw [this] at hx; simp at hx; subst hx; exact ho

theorem src_locs {σ : List AObj} (h : Cl σ) {esz : Nat} {x : AV} {new : List AV} (hs : srcCells σ esz x = some new) : locsInAll σ.length new = true := by
  unfold srcCells at hs
  split at hs
  · cases hs; rfl
  · split at hs <;> cases hs; exact locsInAll_cv _
  · split at hs
    · simp only [Option.bind_eq_some_iff] at hs
      obtain ⟨cs, hcs, hs⟩ := hs
      split at hs <;> cases hs
      exact locsInAll_take (locsInAll_drop (h.row hcs).1)
    · cases hs
  · split at hs <;> cases hs
    exact locsInAll_iff.2 fun v hv => by obtain ⟨c, _, rfl⟩ := List.mem_map.1 hv; rfl
  · split at hs
    · simp only [Option.bind_eq_some_iff] at hs
      obtain ⟨cs, hcs, hs⟩ := hs
      split at hs <;> cases hs
      exact locsInAll_take (locsInAll_drop (h.row hcs).1)
    · cases hs
  · cases hs

theorem find_locs {k : Nat} {ks : Bool × List KK} {key : AV} : ∀ {es : List (AV × AV)} {i : Nat} {r : Option (Nat × AV)}, (∀ e ∈ es, locsIn k e.1 = true ∧ locsIn k e.2 = true) → findKey ks key es i = some r → ∀ p, r = some p → locsIn k p.2 = true
  | [], i, r, _, h, p, hp => by simp [findKey] at h; subst h; cases hp
  | (k', v) :: es, i, r, he, h, p, hp => by
    simp only [findKey] at h
    split at h
    · cases h; cases hp; exact (he (k', v) (by simp)).2
    · exact find_locs (fun e hh => he e (by simp [hh])) h p hp
    · cases h

theorem stepF_locs {io : IOp} {as_ : List AV} {σ σ' : List AObj} {r : AV} (hcl : ioCl io = true) (ha : locsInAll σ.length as_ = true) (hσ : Cl σ) (h : stepF io as_ σ = some (r, σ')) : locsIn σ'.length r = true ∧ Cl σ' := by
  cases io <;> simp only [stepF] at h
  case mv => unfold f_mv at h; split at h <;> cases h; simp only [locsInAll, Bool.and_true] at ha; exact ⟨ha, hσ⟩
  case pick => unfold f_pick at h; split at h <;> cases h; simp only [locsInAll, Bool.and_true, Bool.and_eq_true] at ha; exact ⟨by split; exact ha.2.1; exact ha.2.2, hσ⟩
  case not => unfold f_not at h; split at h <;> cases h; exact ⟨rfl, hσ⟩
  case bin op tk =>
    unfold f_bin at h; split at h <;> simp only [Option.map_eq_some_iff, reduceCtorEq] at h; obtain ⟨v, hv, he⟩ := h; cases he
    refine ⟨?_, hσ⟩
    unfold binF at hv
    split at hv
    · split at hv
      · unfold shiftI at hv; split at hv <;> (try (cases hv; done)); split at hv <;> cases hv <;> rfl
      · split at hv <;> (try (cases hv; done)); unfold binI at hv; split at hv <;> first | (cases hv; rfl; done) | (split at hv <;> cases hv; rfl) | cases hv
    all_goals first | (unfold eqNil at hv; split at hv <;> cases hv <;> rfl; done) | (unfold binS at hv; split at hv <;> first | (cases hv; rfl; done) | (split at hv <;> cases hv; rfl) | cases hv) | cases hv
  case conv => unfold f_conv at h; split at h <;> cases h; exact ⟨rfl, hσ⟩
  case alloc zs => unfold f_alloc at h; split at h <;> cases h; exact ⟨by simp [locsIn], hσ.push (locsAll_le (Nat.zero_le _) hcl)⟩
  case box =>
    unfold f_box at h; split at h <;> (try (cases h; done)); split at h <;> cases h
    simp only [locsInAll, Bool.and_true] at ha
    exact ⟨by simp [locsIn], hσ.push (locsAll_le (Nat.le_succ _) (locsInAll_cellsOf ha))⟩
  case build zs ps =>
    unfold f_build at h; simp only [Option.map_eq_some_iff] at h; obtain ⟨v, hv, he⟩ := h; cases he
    exact ⟨locsInAll_fill hv (locsAll_le (Nat.zero_le _) hcl) ha, hσ⟩
  case bslice esz len zs ps =>
    unfold f_bslice at h; simp only [Option.map_eq_some_iff] at h; obtain ⟨v, hv, he⟩ := h; cases he
    exact ⟨by simp [locsIn], hσ.push (locsAll_le (Nat.le_succ _) (locsInAll_fill hv (locsAll_le (Nat.zero_le _) hcl) ha))⟩
  case load1 =>
    unfold f_load1 at h; split at h <;> (try (cases h; done))
    · simp only [Option.bind_eq_some_iff, Option.map_eq_some_iff] at h; obtain ⟨cs, hcs, v, hv, he⟩ := h; cases he; exact ⟨locsInAll_get (hσ.row hcs).1 hv, hσ⟩
    · simp only [Option.map_eq_some_iff] at h; obtain ⟨_, _, he⟩ := h; cases he; exact ⟨rfl, hσ⟩
  case loadN n =>
    unfold f_loadN at h; split at h <;> (try (cases h; done))
    · simp only [Option.bind_eq_some_iff] at h; obtain ⟨cs, hcs, h⟩ := h; split at h <;> cases h; exact ⟨locsInAll_take (locsInAll_drop (hσ.row hcs).1), hσ⟩
    · split at h <;> cases h
      refine ⟨?_, hσ⟩
      simp only [locsIn]; exact locsInAll_cv _
  case store n =>
    unfold f_store at h; split at h <;> (try (cases h; done)); simp only [Option.bind_eq_some_iff] at h; obtain ⟨cs, hcs, h⟩ := h; split at h <;> cases h
    simp only [locsInAll, Bool.and_true, Bool.and_eq_true] at ha
    exact ⟨rfl, hσ.set _ (locsInAll_setRange (hσ.row hcs).1 (locsInAll_cellsOf ha.2))⟩
  case nilck => unfold f_nilck at h; split at h <;> cases h <;> (simp only [locsInAll, Bool.and_true] at ha; exact ⟨ha, hσ⟩)
  case mkfn => unfold f_mkfn at h; cases h; exact ⟨ha, hσ⟩
  case mkbm => unfold f_mkbm at h; cases h; exact ⟨ha, hσ⟩
  case mkmap => unfold f_mkmap at h; split at h <;> cases h; exact ⟨by simp [locsIn], hσ.push rfl⟩
  case mkslice esz bytes zs => unfold f_mkslice at h; split at h <;> (try (cases h; done)); split at h <;> cases h; exact ⟨by simp [locsIn], hσ.push (locsInAll_zcells (locsAll_le (Nat.zero_le _) hcl))⟩
  case slA n esz lo hi =>
    unfold f_slA at h; split at h <;> (try (cases h; done)); simp only [Option.bind_eq_some_iff] at h; obtain ⟨cs, hcs, p, hp, h⟩ := h; split at h <;> cases h
    exact ⟨by simp [locsIn, (hσ.row hcs).2], hσ⟩
  case slS esz lo hi =>
    unfold f_slS at h; split at h <;> (try (cases h; done)) <;> simp only [Option.bind_eq_some_iff] at h <;> obtain ⟨p, hp, h⟩ := h <;> (try simp only at h) <;> split at h <;> (try (cases h; done))
    · simp only [locsInAll, Bool.and_eq_true, locsIn] at ha
      split at h <;> cases h
      · exact ⟨rfl, hσ⟩
      · exact ⟨by simpa [locsIn] using ha.1, hσ⟩
    · cases h; exact ⟨rfl, hσ⟩
    · cases h; exact ⟨rfl, hσ⟩
    · simp only [locsInAll, Bool.and_eq_true, locsIn] at ha
      split at h <;> cases h
      · exact ⟨rfl, hσ⟩
      · exact ⟨by simpa [locsIn] using ha.1, hσ⟩
  case slStr lo hi =>
    unfold f_slStr at h; split at h <;> (try (cases h; done)); simp only [Option.bind_eq_some_iff] at h; obtain ⟨p, hp, h⟩ := h; (try simp only at h); split at h <;> cases h; exact ⟨rfl, hσ⟩
  case fadd off => unfold f_fadd at h; split at h <;> cases h <;> (simp only [locsInAll, Bool.and_true, locsIn] at ha; first | exact ⟨rfl, hσ⟩ | exact ⟨by simpa [locsIn] using ha, hσ⟩)
  case fld off n agg =>
    unfold f_fld at h; split at h <;> (try (cases h; done)) <;> simp only [locsInAll, Bool.and_true, locsIn] at ha
    · split at h <;> cases h; exact ⟨locsInAll_take (locsInAll_drop ha), hσ⟩
    · simp only [Option.map_eq_some_iff] at h; obtain ⟨v, hv, he⟩ := h; cases he; exact ⟨locsInAll_get ha hv, hσ⟩
  case iaA len esz => unfold f_iaA at h; split at h <;> (try (cases h; done)) <;> simp only [locsInAll, Bool.and_true, locsIn] at ha <;> split at h <;> cases h <;> first | exact ⟨rfl, hσ⟩ | exact ⟨by simpa [locsIn] using ha, hσ⟩
  case iaS esz => unfold f_iaS at h; split at h <;> (try (cases h; done)) <;> simp only [locsInAll, Bool.and_true, locsIn] at ha <;> split at h <;> cases h <;> first | exact ⟨rfl, hσ⟩ | exact ⟨by simpa [locsIn] using ha, hσ⟩
  case ixA len esz n agg =>
    unfold f_ixA at h; split at h <;> (try (cases h; done)) <;> simp only [locsInAll, Bool.and_true, locsIn] at ha
    · split at h <;> cases h; exact ⟨locsInAll_take (locsInAll_drop ha), hσ⟩
    · split at h <;> (try (cases h; done)); simp only [Option.map_eq_some_iff] at h; obtain ⟨v, hv, he⟩ := h; cases he; exact ⟨locsInAll_get ha hv, hσ⟩
  case ixStr => unfold f_ixStr at h; split at h <;> (try (cases h; done)); split at h <;> (try (cases h; done)); simp only [Option.map_eq_some_iff] at h; obtain ⟨v, hv, he⟩ := h; cases he; exact ⟨rfl, hσ⟩
  case extract i => unfold f_extract at h; split at h <;> (try (cases h; done)); simp only [Option.map_eq_some_iff] at h; obtain ⟨v, hv, he⟩ := h; cases he; simp only [locsInAll, Bool.and_true, locsIn] at ha; exact ⟨locsInAll_get ha hv, hσ⟩
  case len => unfold f_len at h; split at h <;> cases h <;> exact ⟨rfl, hσ⟩
  case min2 => unfold f_min2 at h; split at h <;> (try (cases h; done)); split at h <;> cases h; exact ⟨rfl, hσ⟩
  case max2 => unfold f_max2 at h; split at h <;> (try (cases h; done)); split at h <;> cases h; exact ⟨rfl, hσ⟩
  case append esz bytes =>
    unfold f_append at h
    split at h <;> (try (cases h; done))
    · simp only [Option.bind_eq_some_iff] at h; obtain ⟨new, hnew, n, hn, h⟩ := h
      split at h
      · cases h; exact ⟨rfl, hσ⟩
      · split at h <;> cases h; exact ⟨by simp [locsIn], hσ.push (locsAll_le (Nat.le_succ _) (src_locs hσ hnew))⟩
    · simp only [Option.bind_eq_some_iff] at h; obtain ⟨cs, hcs, new, hnew, n, hn, h⟩ := h
      split at h <;> cases h
      refine ⟨by simp [locsIn], (hσ.set _ rfl).push ?_⟩
      rw [List.length_set]
      exact locsAll_le (Nat.le_succ _) (locsInAll_append (locsInAll_take (hσ.row hcs).1) (src_locs hσ hnew))
    · simp only [Option.bind_eq_some_iff] at h; obtain ⟨cs, hcs, new, hnew, n, hn, h⟩ := h
      simp only [locsInAll, Bool.and_eq_true, locsIn] at ha
      split at h
      · split at h <;> cases h
        exact ⟨by simpa [locsIn] using ha.1, hσ.set _ (locsInAll_setRange (hσ.row hcs).1 (src_locs hσ hnew))⟩
      · split at h <;> cases h
        exact ⟨by simp [locsIn], hσ.push (locsAll_le (Nat.le_succ _) (locsInAll_append (locsInAll_take (locsInAll_drop (hσ.row hcs).1)) (src_locs hσ hnew)))⟩
  case clear zs =>
    unfold f_clear at h; split at h <;> (try (cases h; done)) <;> (
      simp only [Option.bind_eq_some_iff] at h; obtain ⟨cs, hcs, h⟩ := h; split at h <;> cases h
      exact ⟨rfl, hσ.set _ (locsInAll_setRange (hσ.row hcs).1 (locsInAll_zcells (locsAll_le (Nat.zero_le _) hcl)))⟩)
  case copy esz =>
    unfold f_copy at h; split at h <;> (try (cases h; done)); simp only [Option.bind_eq_some_iff] at h; obtain ⟨cs, hcs, new, hnew, n, hn, h⟩ := h; split at h <;> cases h
    exact ⟨rfl, hσ.set _ (locsInAll_setRange (hσ.row hcs).1 (locsInAll_take (src_locs hσ hnew)))⟩
  case lookup ks z ok =>
    unfold f_lookup at h; split at h <;> (try (cases h; done)); simp only [Option.bind_eq_some_iff] at h; obtain ⟨es, hes, h⟩ := h; split at h <;> (try (cases h; done)); simp only [Option.map_eq_some_iff] at h; obtain ⟨res, hres, he⟩ := h; cases he
    have hg : locsIn σ.length ((res.map (·.2)).getD z) = true := by
      cases res with
      | none => exact locs_le (Nat.zero_le _) hcl
      | some p => exact find_locs (hσ.mapOf hes).1 hres p rfl
    refine ⟨?_, hσ⟩
    split
    · simp only [locsIn, locsInAll, hg, Bool.and_true, Bool.true_and]
    · exact hg
  case mapset ks =>
    unfold f_mapset at h; split at h <;> (try (cases h; done)); simp only [Option.bind_eq_some_iff] at h; obtain ⟨es, hes, h⟩ := h; split at h <;> (try (cases h; done)); simp only [Option.map_eq_some_iff] at h; obtain ⟨res, hres, he⟩ := h; cases he
    simp only [locsInAll, Bool.and_true, Bool.and_eq_true] at ha
    refine ⟨rfl, hσ.set _ ?_⟩
    simp only [objIn, List.all_eq_true, Bool.and_eq_true]
    intro e he
    cases res with
    | none =>
      simp only [mapPut, List.mem_append, List.mem_singleton] at he
      rcases he with he | rfl
      · exact (hσ.mapOf hes).1 e he
      · exact ⟨ha.2.1, ha.2.2⟩
    | some p =>
      simp only [mapPut] at he
      rcases List.mem_or_eq_of_mem_set he with h1 | rfl
      · exact (hσ.mapOf hes).1 e h1
      · exact ⟨ha.2.1, ha.2.2⟩
  case mapdel ks =>
    unfold f_mapdel at h; split at h <;> (try (cases h; done)); simp only [Option.bind_eq_some_iff] at h; obtain ⟨es, hes, h⟩ := h; split at h <;> (try (cases h; done)); simp only [Option.map_eq_some_iff] at h; obtain ⟨res, hres, he⟩ := h; cases he
    refine ⟨rfl, hσ.set _ ?_⟩
    simp only [objIn, List.all_eq_true, Bool.and_eq_true]
    intro e he
    cases res with
    | none => exact (hσ.mapOf hes).1 e he
    | some p => exact (hσ.mapOf hes).1 e (List.mem_of_mem_eraseIdx he)
  case maplen => unfold f_maplen at h; split at h <;> (try (cases h; done)); simp only [Option.map_eq_some_iff] at h; obtain ⟨_, _, he⟩ := h; cases he; exact ⟨rfl, hσ⟩
  case eqS neg ks => unfold f_eqS at h; split at h <;> (try (cases h; done)); simp only [Option.map_eq_some_iff] at h; obtain ⟨v, hv, he⟩ := h; cases he; exact ⟨rfl, hσ⟩
  case mksliceC esz bytes zs => unfold f_mksliceC at h; split at h <;> (try (cases h; done)); split at h <;> cases h; exact ⟨by simp [locsIn], hσ.push (locsInAll_zcells (locsAll_le (Nat.zero_le _) hcl))⟩
  case slS3 => unfold f_slS3 at h; split at h <;> (try (cases h; done)) <;> (simp only [Option.bind_eq_some_iff] at h; obtain ⟨_, _, _, _, _, _, h⟩ := h; split at h <;> cases h; exact ⟨rfl, hσ⟩)
  case cap => unfold f_cap at h; split at h <;> cases h; exact ⟨rfl, hσ⟩
  case appendz esz bytes zs =>
    unfold f_appendz at h; split at h <;> (try (cases h; done)); simp only [Option.bind_eq_some_iff] at h; obtain ⟨cs, hcs, h⟩ := h; split at h <;> cases h
    exact ⟨by simp [locsIn], hσ.push (locsAll_le (Nat.le_succ _) (locsInAll_append (locsInAll_take (locsInAll_drop (hσ.row hcs).1)) (locsInAll_zcells (locsAll_le (Nat.zero_le _) hcl))))⟩
  case stuck => cases h
  case rstr => unfold f_rstr at h; split at h <;> cases h; exact ⟨by simp [locsIn], hσ.push rfl⟩
  case snext =>
    unfold f_snext at h; split at h <;> (try (cases h; done)); simp only [Option.map_eq_some_iff] at h; obtain ⟨_, _, h⟩ := h; split at h <;> cases h
    · exact ⟨rfl, hσ.set _ rfl⟩
    · exact ⟨rfl, hσ⟩

end Go.Proofs.Ytphdemhopihpnaa.AM


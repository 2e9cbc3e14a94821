/- Parts of the proof, joined: AmG to AmG. -/
import Derived.Test.YtphdemhopihpnaaZ6

namespace Go.Proofs.Ytphdemhopihpnaa.AM
open Go
set_option linter.unusedVariables false
set_option linter.unusedSimpArgs false

variable {P : Program} {m : LM} {X : Nat → Prop} {σ σ' : List AObj} {w : World} {r : AV}

theorem sound_val {s : Sem Value} {v : Value} {w' : World} {m' : LM} (hs : s.run P w = .ok v w') (hr : VRel m' X w' r v) (h' : HRel m' X σ' w') (st : Step σ.length m X w m' w') :
    Sound P (do pure (.value (← s))) m X σ w r σ' :=
  ⟨.value v, w', m', by simp [hs], .inl ⟨v, rfl, hr⟩, h', st⟩

theorem sound_val0 {s : Sem Value} {v : Value} (h : HRel m X σ w) (hs : s.run P w = .ok v w) (hr : VRel m X w r v) : Sound P (do pure (.value (← s))) m X σ w r σ :=
  sound_val hs hr h (Step.refl _ _ _ _)

theorem sound_unit {s : Sem Unit} {w' : World} {m' : LM} (hs : s.run P w = .ok () w') (h' : HRel m' X σ' w') (st : Step σ.length m X w m' w') :
    Sound P (do s; pure .skip) m X σ w .undef σ' :=
  ⟨.skip, w', m', by simp [hs], .inr ⟨rfl, rfl⟩, h', st⟩

theorem run_sureAddr (a : Addr) : (Instr.sureAddr (.pointer (some a))).run P w = .ok a w := rfl

/-! ### New variables -/

theorem run_newVar (t : TypeId) (v : Value) : (newVar t v).run P w = .ok ⟨w.heap.size, 0, none⟩ (w.alloc (.cells v.cells t)) := by
  simp [newVar, newRow]

theorem ORel.new {m' : LM} {w' : World} {b : Nat} {c : Array Value} {t : TypeId} {cs : List AV} (hb : w'.heap[b]? = some (.cells c t)) (hr : VRels m' X w' cs c.toList) : ORel m' X w' (some b) (.cells cs) := by
  simp only [ORel]
  have hl := hr.length
  exact ⟨c, t, hb, by simp at hl; omega, by rw [hl, List.take_of_length_le (by simp)]; exact hr⟩

theorem snd_alloc {t : TypeId} {z : AV} {avs : List AV} (h : HRel m X σ w) (hz : zeroOf P t = some z) (hs : f_alloc (cellsOf z) avs σ = some (r, σ')) :
    Sound P (do pure (.value (← Instr.alloc t true (.tuple #[])))) m X σ w r σ' := by
  unfold f_alloc at hs
  split at hs <;> cases hs
  unfold zeroOf at hz
  cases hi : P.info? t with
  | none => rw [hi] at hz; cases hz
  | some i =>
    rw [hi] at hz
    cases hz0 : i.zero with
    | none => simp [hz0] at hz
    | some z0 =>
      simp [hz0] at hz; subst hz
      obtain ⟨h1, h2, h3⟩ := h.alloc (.cells z0.cells t) (.cells (cellsOf (ofConst z0))) (fun hm => ORel.new (heap_alloc_new _ _) (zero_rels z0))
      refine sound_val (v := .pointer (some ⟨w.heap.size, 0, none⟩)) ?_ ?_ h1 h2
      · simp only [Instr.alloc, Sem.run_bind, rZero hi hz0, Result.andThen_ok, run_newVar, Sem.run_pure]
      · simp only [VRel]; exact ⟨_, LM.put_same _ _ _, rfl⟩

theorem snd_box {t : TypeId} {x : Value} {avs : List AV} (h : HRel m X σ w) (ha : VRels m X w avs [x]) (hs : f_box avs σ = some (r, σ')) :
    Sound P (do pure (.value (← Instr.box t x))) m X σ w r σ' := by
  unfold f_box at hs
  split at hs
  · rename_i a
    obtain ⟨v, hv, hr⟩ := ha.one; cases hv
    split at hs
    · cases hs
    · rename_i hu
      cases hs
      have hu' : a.isUndef = false := by simpa using hu
      obtain ⟨h1, h2, h3⟩ := h.alloc (.cells x.cells t) (.cells (cellsOf a)) (fun hm => ORel.new (heap_alloc_new _ _) ((hr.cells hu').mono hm _ _))
      refine sound_val (v := .pointer (some ⟨w.heap.size, 0, none⟩)) ?_ ?_ h1 h2
      · simp only [Instr.box, Sem.run_bind, Result.andThen_ok, run_newVar, Sem.run_pure]
      · simp only [VRel]; exact ⟨_, LM.put_same _ _ _, rfl⟩
  · cases hs

/-! ### Loads -/

theorem run_loadVar1 {t : TypeId} {a : Addr} {v : Value} (hg : isAggT P t = some false) (hc : w.cell? a = some v) : (loadVar t a).run P w = .ok v w := by
  simp [loadVar, rIsAgg hg, hc]

theorem run_loadVarN {t : TypeId} {i : TypeInfo} {a : Addr} {vs : List Value} (hg : isAggT P t = some true) (hi : P.info? t = some i) (hl : vs.length = i.size) (hc : ∀ (j : Nat) v, vs[j]? = some v → w.cell? (a.add j) = some v) :
    (loadVar t a).run P w = .ok (.agg vs.toArray) w := by
  simp [loadVar, rIsAgg hg, rSizeOf hi, ← hl, run_loadCells_list w a vs hc]

theorem load1_run {t : TypeId} {x : Value} {avs : List AV} (h : HRel m X σ w) (hg : isAggT P t = some false) (ha : VRels m X w avs [x]) (hs : f_load1 avs σ = some (r, σ')) :
    ∃ a v, x = .pointer (some a) ∧ (loadVar t a).run P w = .ok v w ∧ VRel m X w r v ∧ σ' = σ := by
  unfold f_load1 at hs
  split at hs
  · rename_i l off
    obtain ⟨v, hv, hr⟩ := ha.one; cases hv
    simp only [VRel] at hr; obtain ⟨b, hb, rfl⟩ := hr
    cases hc : rowOf σ l with
    | none => simp [hc] at hs
    | some cs =>
      simp only [hc, Option.bind_some, Option.map_eq_some_iff] at hs
      obtain ⟨a, ha, he⟩ := hs; cases he
      obtain ⟨b', c, e, h1, _, h2, h3, h4⟩ := h.row hc
      rw [hb] at h1; cases h1
      obtain ⟨v, hv, hr⟩ := take_get h4 ha
      exact ⟨_, v, rfl, run_loadVar1 hg (by rw [cell_row h2]; exact hv), hr, rfl⟩
  · rename_i cs off
    obtain ⟨v, hv, hr⟩ := ha.one; cases hv
    simp only [VRel, CV.rep] at hr; obtain ⟨b, rfl, hreps⟩ := hr
    simp only [Option.map_eq_some_iff] at hs
    obtain ⟨c, hc, he⟩ := hs; cases he
    obtain ⟨v, hv, hr⟩ := reps_get hreps off c hc
    exact ⟨_, v, rfl, run_loadVar1 hg (by simpa using hv), by simp only [VRel]; exact hr, rfl⟩
  · cases hs

theorem snd_load1 {t : TypeId} {x : Value} {avs : List AV} (h : HRel m X σ w) (hg : isAggT P t = some false) (ha : VRels m X w avs [x]) (hs : f_load1 avs σ = some (r, σ')) :
    Sound P (do pure (.value (← Instr.loadAt t x))) m X σ w r σ' := by
  obtain ⟨a, v, rfl, h1, h2, rfl⟩ := load1_run h hg ha hs
  refine sound_val0 h (v := v) ?_ h2
  simp only [Instr.loadAt, Sem.run_bind, run_sureAddr, Result.andThen_ok]
  exact h1

theorem vals_of_row {b : Nat} {c : Array Value} {e : TypeId} {cs : List AV} (h1 : w.heap[b]? = some (.cells c e (0, 0))) (h4 : VRels m X w cs (c.toList.take cs.length)) (hle : cs.length ≤ c.size) {off n : Nat} (hn : off + n ≤ cs.length) :
    ∃ vs : List Value, vs.length = n ∧ VRels m X w ((cs.drop off).take n) vs ∧ (∀ (j : Nat) v, vs[j]? = some v → w.cell? ((⟨b, off, none⟩ : Addr).add j) = some v) := by
  refine ⟨((c.toList.take cs.length).drop off).take n, ?_, (h4.drop off).take n, ?_⟩
  · simp; omega
  · intro j v hj
    rw [addr_add0, cell_row h1]
    rw [List.getElem?_take] at hj
    split at hj
    · rw [List.getElem?_drop, List.getElem?_take] at hj
      split at hj
      · simpa using hj
      · cases hj
    · cases hj

theorem loadN_run {t : TypeId} {i : TypeInfo} {x : Value} {avs : List AV} (h : HRel m X σ w) (hg : isAggT P t = some true) (hi : P.info? t = some i) (ha : VRels m X w avs [x]) (hs : f_loadN i.size avs σ = some (r, σ')) :
    ∃ a v, x = .pointer (some a) ∧ (loadVar t a).run P w = .ok v w ∧ VRel m X w r v ∧ σ' = σ := by
  unfold f_loadN at hs
  split at hs
  · rename_i l off
    obtain ⟨v, hv, hr⟩ := ha.one; cases hv
    simp only [VRel] at hr; obtain ⟨b, hb, rfl⟩ := hr
    cases hc : rowOf σ l with
    | none => simp [hc] at hs
    | some cs =>
      simp only [hc, Option.bind_some] at hs
      split at hs
      · rename_i hle; cases hs
        obtain ⟨b', c, e, h1, _, h2, h3, h4⟩ := h.row hc
        rw [hb] at h1; cases h1
        obtain ⟨vs, hl, hr, hcell⟩ := vals_of_row h2 h4 h3 hle
        exact ⟨_, .agg vs.toArray, rfl, run_loadVarN hg hi hl hcell, by simp only [VRel]; exact ⟨vs, rfl, hr⟩, rfl⟩
      · cases hs
  · rename_i cs off
    obtain ⟨v, hv, hr⟩ := ha.one; cases hv
    simp only [VRel, CV.rep] at hr; obtain ⟨b, rfl, hreps⟩ := hr
    split at hs
    · rename_i hle; cases hs
      obtain ⟨vs, hl, hr, hcell⟩ := reps_vals (reps_take i.size (reps_drop off hreps))
      refine ⟨_, .agg vs.toArray, rfl, run_loadVarN hg hi (by rw [hl]; simp; omega) fun j v hj => ?_, by simp only [VRel]; exact ⟨vs, rfl, hr⟩, rfl⟩
      rw [Addr.add_add]; simpa using hcell j v hj
    · cases hs
  · cases hs

theorem snd_loadN {t : TypeId} {i : TypeInfo} {x : Value} {avs : List AV} (h : HRel m X σ w) (hg : isAggT P t = some true) (hi : P.info? t = some i) (ha : VRels m X w avs [x]) (hs : f_loadN i.size avs σ = some (r, σ')) :
    Sound P (do pure (.value (← Instr.loadAt t x))) m X σ w r σ' := by
  obtain ⟨a, v, rfl, h1, h2, rfl⟩ := loadN_run h hg hi ha hs
  refine sound_val0 h (v := v) ?_ h2
  simp only [Instr.loadAt, Sem.run_bind, run_sureAddr, Result.andThen_ok]
  exact h1

/-! ### Stores -/

theorem snd_store {t : TypeId} {i : TypeInfo} {x y : Value} {avs : List AV} (h : HRel m X σ w) (hi : P.info? t = some i) (ha : VRels m X w avs [x, y]) (hs : f_store i.size avs σ = some (r, σ')) :
    Sound P (do Instr.storeAt t x y; pure .skip) m X σ w r σ' := by
  unfold f_store at hs
  split at hs
  · rename_i l off a
    obtain ⟨x', us, hx, hr, hus⟩ := ha.cons
    obtain ⟨y', hy, hra⟩ := hus.one
    subst hy; cases hx
    simp only [VRel] at hr; obtain ⟨b, hb, rfl⟩ := hr
    cases hc : rowOf σ l with
    | none => simp [hc] at hs
    | some cs =>
      simp only [hc, Option.bind_some] at hs
      split at hs
      · rename_i hcond; cases hs
        obtain ⟨hn, hle, hsc⟩ := hcond
        obtain ⟨b', c, e, h1, hl, h2, h3, h4⟩ := h.row hc
        rw [hb] at h1; cases h1
        have hu : a.isUndef = false := by cases a <;> simp [AV.isUndef, cellsOf, AV.isSc] at hsc ⊢
        have hcells := hra.cells hu
        have hlen : y.cells.toList.length = i.size := by rw [← hcells.length]; exact hn
        have hone := hcells.one_cells hsc
        have hrun : (storeCells ⟨b, off, none⟩ y.cells.toList).run P w = .ok () (w.setRow b (Go.Proofs.Ytphdemhopihpnaa.AM.setRange c.toList off y.cells.toList).toArray) := by
          rw [run_storeCells_at P b off e y.cells.toList 0 c w h2 (by simp at hlen ⊢; omega) hone]
          rw [setRange_eq _ _ _ (by simp at hlen ⊢; omega)]; simp
        have ht : Turned w (w.setRow b (Go.Proofs.Ytphdemhopihpnaa.AM.setRange c.toList off y.cells.toList).toArray) b := Turned.row w _ h2 (by simp [setRange_length])
        obtain ⟨g1, g2, g3⟩ := h.turn hb hl trivial ht (o' := .cells (Go.Proofs.Ytphdemhopihpnaa.AM.setRange cs off (cellsOf a))) (fun hm => by
          simp only [ORel]
          refine ⟨_, e, setRow_heap w b c _ e (0, 0) h2, by simp [setRange_length]; exact h3, ?_⟩
          rw [setRange_length]
          simp only [List.toList_toArray, setRange_take]
          exact ((h4.setRange off hcells).mono hm _ _))
        refine sound_unit ?_ g1 g2
        simp only [Instr.storeAt, Sem.run_bind, run_sureAddr, Result.andThen_ok, storeVar, rSizeOf hi]
        have : ¬ (y.cells.size ≠ i.size) := by simp at hlen; simpa using hlen
        simp only [this, if_false, hrun]
      · cases hs
  · cases hs

end Go.Proofs.Ytphdemhopihpnaa.AM


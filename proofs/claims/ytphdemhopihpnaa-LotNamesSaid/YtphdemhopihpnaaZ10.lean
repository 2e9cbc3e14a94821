/- Parts of the proof, joined: AmJ to AmJ. -/
import Derived.Test.YtphdemhopihpnaaZ9

namespace Go.Proofs.Ytphdemhopihpnaa.AM
open Go
set_option linter.unusedVariables false
set_option linter.unusedSimpArgs false

variable {P : Program} {m : LM} {X : Nat → Prop} {σ σ' : List AObj} {w : World} {r : AV}

theorem snd_build {t : TypeId} {i : TypeInfo} {z : Value} {place : Nat → Option (Nat × Nat)} {ps : List (Nat × Value)} {pl : List (Nat × Nat)} {avs : List AV} (h : HRel m X σ w) (hi : P.info? t = some i) (hz : i.zero = some z)
    (hrun : ∀ cells : Array Value, Instr.fill place z.cells ps = some cells → (Instr.build t ps.toArray).run P w = .ok (.agg cells) w)
    (hpl : ps.mapM (fun p => place p.1) = some pl) (ha : VRels m X w avs (ps.map (·.2)))
    (hs : f_build (cellsOf (ofConst z)) pl avs σ = some (r, σ')) : Sound P (do pure (.value (← Instr.build t ps.toArray))) m X σ w r σ' := by
  unfold f_build at hs
  simp only [Option.map_eq_some_iff] at hs
  obtain ⟨cs, hf, he⟩ := hs; cases he
  obtain ⟨out, ho, hr⟩ := fill_sound place ps pl avs _ cs z.cells hpl ha (zero_rels z) hf
  exact sound_val0 h (hrun out ho) (by simp only [VRel]; exact ⟨out.toList, by simp, hr⟩)

theorem mapM_run_ok {α β : Type} (g : α → Sem β) (f : α → β) (w : World) : ∀ (l : List α), (∀ a ∈ l, (g a).run P w = .ok (f a) w) → (l.mapM g).run P w = .ok (l.map f) w
  | [], _ => by simp
  | a :: l, h => by
    simp [h a (by simp), mapM_run_ok g f w l fun b hb => h b (by simp [hb])]

theorem run_build_struct {t : TypeId} {fs : Array Field} {i : TypeInfo} {z : Value} (hu : P.underlying t = some (.struct fs)) (hi : P.info? t = some i) (hz : i.zero = some z) (hall : ∀ f ∈ fs.toList, (P.info? f.type).isSome = true) {ps : List (Nat × Value)} {cells : Array Value}
    (hf : Instr.fill (fun k => (fs[k]?).map fun (f : Field) => (f.offset, P.cellsOf f.type)) z.cells ps = some cells) : (Instr.build t ps.toArray).run P w = .ok (.agg cells) w := by
  have hm : (fs.mapM fun (f : Field) => do pure (f.offset, ← sizeOf f.type)).run P w = .ok (fs.map fun (f : Field) => (f.offset, P.cellsOf f.type)) w := by
    rw [Array.mapM_eq_mapM_toList]
    simp only [Sem.run_map]
    rw [mapM_run_ok _ (fun f : Field => (f.offset, P.cellsOf f.type)) w fs.toList (fun f hfm => by
      obtain ⟨j, hj⟩ := Option.isSome_iff_exists.1 (hall f hfm)
      simp [rSizeOf hj, Program.cellsOf, hj])]
    simp only [Result.andThen_ok]
    congr 1
    apply Array.ext'
    simp
  simp only [Instr.build, Sem.run_bind, rZero hi hz, Result.andThen_ok, rUnderlying hu, hm]
  have e : (fun (x : Nat) => (fs.map fun (f : Field) => (f.offset, P.cellsOf f.type))[x]?) = (fun (k : Nat) => (fs[k]?).map fun (f : Field) => (f.offset, P.cellsOf f.type)) := by funext k; simp
  rw [e, hf]; rfl

theorem run_build_array {t e : TypeId} {n : Nat} {i j : TypeInfo} {z : Value} (hu : P.underlying t = some (.array n e)) (hi : P.info? t = some i) (hz : i.zero = some z) (hj : P.info? e = some j) {ps : List (Nat × Value)} {cells : Array Value}
    (hf : Instr.fill (fun k => some (k * j.size, j.size)) z.cells ps = some cells) : (Instr.build t ps.toArray).run P w = .ok (.agg cells) w := by
  simp only [Instr.build, Sem.run_bind, rZero hi hz, Result.andThen_ok, rUnderlying hu, rSizeOf hj, hf, Sem.run_pure]

theorem snd_copy {dt st ty e : TypeId} {i : TypeInfo} {x y : Value} {avs : List AV} (h : HRel m X σ w) (hu : P.underlying dt = some (.slice e)) (hi : P.info? e = some i) (ha : VRels m X w avs [x, y])
    (hs : f_copy i.size avs σ = some (r, σ')) : Sound P (do pure (.value (← Builtin.copy_ #[dt, st] ty #[x, y]))) m X σ w r σ' := by
  unfold f_copy at hs
  split at hs
  · rename_i l off len e1 a
    obtain ⟨x', us, hx, hr, hus⟩ := ha.cons
    obtain ⟨y', hy, hra⟩ := hus.one
    subst hy; cases hx
    simp only [VRel] at hr; obtain ⟨b, cap, hb, rfl, hlc, c, ty', hb0, hcz⟩ := hr
    simp only [Option.bind_eq_some_iff] at hs
    obtain ⟨cs, hcs, new, hnew, n, hn, hs⟩ := hs
    split at hs
    · rename_i hc; cases hs
      obtain ⟨rfl, hle, hl, hsc⟩ := hc
      obtain ⟨vs0, hv1, hv2, hv3⟩ := src_sound (P := P) h hra hnew hn
      obtain ⟨b', c1, ty1, h1, hlobj, h2, h3, h4⟩ := h.row hcs
      rw [hb] at h1; cases h1
      obtain ⟨rfl, rfl⟩ : c = c1 ∧ ty' = ty1 := by rw [h2] at hb0; cases hb0; exact ⟨rfl, rfl⟩
      -- THE FIRST CELLS: those of the whole, cut
      have hk : Nat.min n len * i.size ≤ new.length := by rw [← hl]; exact Nat.mul_le_mul_right _ (Nat.min_le_left _ _)
      have hfirst : ∃ vs : List Value, (Builtin.firstCells i.size (Nat.min n len) y).run P w = .ok vs.toArray w ∧ VRels m X w (new.take (Nat.min n len * i.size)) vs := by
        unfold srcCells at hnew
        split at hnew
        · cases hnew; simp [lenF] at hn; subst hn
          obtain rfl := hra.nils
          exact ⟨[], by simp [Builtin.firstCells], by simp [VRels]⟩
        · rename_i cs' len'
          split at hnew
          · rename_i hcl; cases hnew; simp [lenF] at hn; subst hn
            simp only [VRel, CV.rep] at hra
            rcases hra with ⟨rfl, rfl, rfl⟩ | ⟨ad, cap', rfl, _, hreps⟩
            · exact ⟨[], by simp [Builtin.firstCells], by simp [VRels]⟩
            · obtain ⟨vs, g1, g2, g3⟩ := reps_vals (reps_take (Nat.min len' len * i.size) hreps)
              refine ⟨vs, ?_, by rw [← List.map_take]; exact g2⟩
              simp only [Builtin.firstCells]
              have : vs.length = Nat.min len' len * i.size := by rw [g1, List.length_take]; simp at hk; omega
              rw [← this]
              exact run_loadCells_list w ad vs fun j v hj => by simpa using g3 j v hj
          · cases hnew
        · rename_i l' off' len' e'
          split at hnew
          · rename_i he; subst he
            simp only [Option.bind_eq_some_iff] at hnew
            obtain ⟨cs', hcs', hnew⟩ := hnew
            split at hnew
            · rename_i hle'; cases hnew; simp [lenF] at hn; subst hn
              simp only [VRel] at hra; obtain ⟨b2, cap2, hb2, rfl, _⟩ := hra
              obtain ⟨b3, c3, ty3, k1, _, k2, k3, k4⟩ := h.row hcs'
              rw [hb2] at k1; cases k1
              have hmm : Nat.min len' len * i.size ≤ len' * i.size := Nat.mul_le_mul_right _ (Nat.min_le_left _ _)
              obtain ⟨vs, hlv, hrv, hcc⟩ := vals_of_row k2 k4 k3 (off := off') (n := Nat.min len' len * i.size) (by omega)
              refine ⟨vs, ?_, by rw [List.take_take, Nat.min_eq_left hmm]; exact hrv⟩
              simp only [Builtin.firstCells]
              rw [← hlv]
              exact run_loadCells_list w _ vs hcc
            · cases hnew
          · cases hnew
        · rename_i s
          split at hnew
          · rename_i h1e; cases hnew; simp [lenF] at hn; subst hn
            obtain rfl := hra.str
            rw [h1e] at *
            refine ⟨(s.data.toList.take (Nat.min s.size len)).map fun b => Value.int .u8 b.toNat, ?_, ?_⟩
            · simp only [Builtin.firstCells, Sem.run_pure]
              congr 1
              apply Array.ext'
              simp [ByteArray.data_extract]
            · rw [Nat.mul_one, ← List.map_take]; exact VRels.map_bytes _
          · cases hnew
        · rename_i l' off' len' cap' e'
          split at hnew
          · rename_i he; subst he
            simp only [Option.bind_eq_some_iff] at hnew
            obtain ⟨cs', hcs', hnew⟩ := hnew
            split at hnew
            · rename_i hle'; cases hnew; simp [lenF] at hn; subst hn
              simp only [VRel] at hra; obtain ⟨b2, hb2, rfl, _⟩ := hra
              obtain ⟨b3, c3, ty3, k1, _, k2, k3, k4⟩ := h.row hcs'
              rw [hb2] at k1; cases k1
              have hmm : Nat.min len' len * i.size ≤ len' * i.size := Nat.mul_le_mul_right _ (Nat.min_le_left _ _)
              obtain ⟨vs, hlv, hrv, hcc⟩ := vals_of_row k2 k4 k3 (off := off') (n := Nat.min len' len * i.size) (by omega)
              refine ⟨vs, ?_, by rw [List.take_take, Nat.min_eq_left hmm]; exact hrv⟩
              simp only [Builtin.firstCells]
              rw [← hlv]
              exact run_loadCells_list w _ vs hcc
            · cases hnew
          · cases hnew
        · cases hnew
      obtain ⟨vs, hf1, hf2⟩ := hfirst
      have hlen : vs.length = Nat.min n len * i.size := by rw [← hf2.length, List.length_take]; omega
      have hone := hf2.one_cells (by
        rw [List.all_eq_true] at hsc ⊢
        exact fun v hv => hsc v (List.mem_of_mem_take hv))
      have hfit : off + vs.length ≤ c.size := by
        have : Nat.min n len * i.size ≤ len * i.size := Nat.mul_le_mul_right _ (Nat.min_le_right _ _)
        omega
      have hrun := run_storeCells_at P b off ty' vs 0 c w h2 (by simpa using hfit) hone
      simp only [Nat.add_zero] at hrun
      rw [← setRange_eq _ _ _ (by simpa using hfit)] at hrun
      have ht : Turned w (w.setRow b (setRange c.toList off vs).toArray) b := Turned.row w _ h2 (by simp [setRange_length])
      obtain ⟨g1, g2, g3⟩ := h.turn hb hlobj trivial ht (o' := .cells (setRange cs off (new.take (Nat.min n len * i.size)))) (fun hm => by
        simp only [ORel]
        refine ⟨_, ty', setRow_heap w b c _ ty' (0, 0) h2, by simp [setRange_length]; exact h3, ?_⟩
        rw [setRange_length]
        simp only [List.toList_toArray, setRange_take]
        exact ((h4.setRange off hf2).mono hm _ _))
      refine sound_val (v := goInt (Nat.min n len : Nat)) ?_ (VRel.mk_int _ _) g1 g2
      simp only [Builtin.copy_, List.getElem?_toArray, List.getElem?_cons_zero, List.getElem?_cons_succ, Sem.run_bind, rUnderlying hu, Result.andThen_ok, hv3, rSizeOf hi, hf1, hrun, Sem.run_pure]
    · cases hs
  · cases hs

theorem set_rowOf {l : Nat} {cs : List AV} (h : σ[l]? = some (.cells cs)) : σ.set l (.cells cs) = σ := by
  apply List.ext_getElem?
  intro k
  by_cases hk : l = k
  · subst hk
    rw [List.getElem?_set_self (List.getElem?_eq_some_iff.1 h).1, h]
  · rw [List.getElem?_set_ne hk]

theorem zcells_len (n : Nat) (zs : List AV) : (zcells n zs).length = n * zs.length := by rw [zcells_eq]; simp

theorem zcells_sc {n : Nat} {zs : List AV} (h : zs.all AV.isSc = true) : (zcells n zs).all AV.isSc = true := by
  rw [zcells_eq, List.all_eq_true]
  intro v hv
  simp only [List.mem_map, List.mem_range] at hv
  obtain ⟨i, hi, rfl⟩ := hv
  have h0 : 0 < zs.length := by
    rcases Nat.eq_zero_or_pos zs.length with h0 | h0
    · rw [h0] at hi; omega
    · exact h0
  have hlt : i % zs.length < zs.length := Nat.mod_lt _ h0
  rw [List.all_eq_true] at h
  rw [List.getD_eq_getElem?_getD, List.getElem?_eq_getElem hlt]
  exact h _ (List.getElem_mem hlt)

theorem snd_clear {st ty e : TypeId} {i : TypeInfo} {z : Value} {x : Value} {avs : List AV} (h : HRel m X σ w) (hu : P.underlying st = some (.slice e)) (hi : P.info? e = some i) (hz : i.zero = some z) (hsz : z.cells.size = i.size) (hpos : 0 < i.size)
    (ha : VRels m X w avs [x]) (hs : f_clear (z.cells.toList.map ofScalar) avs σ = some (r, σ')) : Sound P (do pure (.value (← Builtin.clear_ #[st] ty #[x]))) m X σ w r σ' := by
  have key : ∀ (l off len e1 : Nat), VRel m X w (.sl l off len e1) x → (((rowOf σ l).bind fun cs => if e1 = (z.cells.toList.map ofScalar).length ∧ off + len * e1 ≤ cs.length ∧ (z.cells.toList.map ofScalar).all AV.isSc = true then some (AV.tup [], σ.set l (.cells (setRange cs off (zcells len (z.cells.toList.map ofScalar))))) else none) = some (r, σ')) →
      Sound P (do pure (.value (← Builtin.clear_ #[st] ty #[x]))) m X σ w r σ' := by
    intro l off len e1 hr hs
    simp only [VRel] at hr; obtain ⟨b, cap, hb, rfl, hlc, c, ty', hb0, hcz⟩ := hr
    simp only [Option.bind_eq_some_iff] at hs
    obtain ⟨cs, hcs, hs⟩ := hs
    split at hs
    · rename_i hc; cases hs
      obtain ⟨he, hle, hsc⟩ := hc
      obtain ⟨b', c1, ty1, h1, hlobj, h2, h3, h4⟩ := h.row hcs
      rw [hb] at h1; cases h1
      have hz1 : (z.cells.toList.map ofScalar).length = i.size := by simp [hsz]
      rw [hz1] at he
      subst he
      rcases Nat.eq_zero_or_pos len with h0 | h0
      · subst h0
        have e0 : setRange cs off (zcells 0 (z.cells.toList.map ofScalar)) = cs := by
          have : zcells 0 (z.cells.toList.map ofScalar) = [] := List.eq_nil_of_length_eq_zero (by rw [zcells_len]; simp)
          rw [this]; rfl
        rw [e0, set_rowOf hlobj]
        refine sound_val0 h (v := .tuple #[]) ?_ (by simp only [VRel]; exact ⟨[], rfl, by simp [VRels]⟩)
        simp [Builtin.clear_, rUnderlying hu]
      · have hrel := zcells_rel (m := m) (X := X) (w := w) len z.cells
        generalize hvs : (List.range (len * z.cells.size)).map (fun i => z.cells[i % z.cells.size]!) = vs at hrel
        have hlen : vs.length = len * i.size := by rw [← hvs]; simp [hsz]
        have hone := hrel.one_cells (zcells_sc hsc)
        have hfit : off + vs.length ≤ c1.size := by omega
        have hrun := run_storeCells_at P b off ty1 vs 0 c1 w h2 (by simpa using hfit) hone
        simp only [Nat.add_zero] at hrun
        rw [← setRange_eq _ _ _ (by simpa using hfit)] at hrun
        have ht : Turned w (w.setRow b (setRange c1.toList off vs).toArray) b := Turned.row w _ h2 (by simp [setRange_length])
        obtain ⟨g1, g2, g3⟩ := h.turn hb hlobj trivial ht (o' := .cells (setRange cs off (zcells len (z.cells.toList.map ofScalar)))) (fun hm => by
          simp only [ORel]
          refine ⟨_, ty1, setRow_heap w b c1 _ ty1 (0, 0) h2, by simp [setRange_length]; exact h3, ?_⟩
          rw [setRange_length]
          simp only [List.toList_toArray, setRange_take]
          exact ((h4.setRange off hrel).mono hm _ _))
        refine sound_val (v := .tuple #[]) ?_ (by simp only [VRel]; exact ⟨[], rfl, by simp [VRels]⟩) g1 g2
        obtain ⟨k, rfl⟩ : ∃ k, len = k + 1 := ⟨len - 1, by omega⟩
        have hzc : (Builtin.zeroCells z.cells (k + 1)).toList = vs := by rw [← hvs]; simp [Builtin.zeroCells]
        simp only [Builtin.clear_, List.getElem?_toArray, List.getElem?_cons_zero, Sem.run_bind, rUnderlying hu, Result.andThen_ok, rZero hi hz, hzc, hrun, Sem.run_pure]
    · cases hs
  unfold f_clear at hs
  split at hs
  · obtain ⟨v, hv, hr⟩ := ha.one; cases hv
    exact key _ _ _ _ hr hs
  · obtain ⟨v, hv, hr⟩ := ha.one; cases hv
    exact key _ _ _ _ hr.slc_sl hs
  · cases hs

theorem snd_len {t st : TypeId} {str : Bool} {x : Value} {avs : List AV} (h : HRel m X σ w) (hu : (str = false ∧ ∃ e, P.underlying st = some (.slice e)) ∨ (str = true ∧ P.underlying st = some .string)) (ha : VRels m X w avs [x]) (hs : f_len str avs σ = some (r, σ')) :
    Sound P (do pure (.value (← Builtin.len_ #[st] t #[x]))) m X σ w r σ' := by
  unfold f_len at hs
  split at hs
  · rename_i s
    obtain ⟨v, hv, hr⟩ := ha.one; cases hv; cases hs
    obtain rfl := hr.str
    rcases hu with ⟨h0, _⟩ | ⟨_, hu⟩
    · cases h0
    · exact sound_val0 h (v := goInt s.size) (by simp [Builtin.len_, rUnderlying hu]) (VRel.mk_int _ _)
  · obtain ⟨v, hv, hr⟩ := ha.one; cases hv; cases hs
    obtain rfl := hr.nils
    rcases hu with ⟨_, e, hu⟩ | ⟨h0, _⟩
    · exact sound_val0 h (v := goInt 0) (by simp [Builtin.len_, rUnderlying hu]) (VRel.mk_int _ _)
    · cases h0
  · rename_i len
    obtain ⟨v, hv, hr⟩ := ha.one; cases hv; cases hs
    simp only [VRel, CV.rep] at hr
    rcases hu with ⟨_, e, hu⟩ | ⟨h0, _⟩
    · rcases hr with ⟨rfl, rfl, _⟩ | ⟨a, cap, rfl, _⟩
      · exact sound_val0 h (v := goInt 0) (by simp [Builtin.len_, rUnderlying hu]) (VRel.mk_int _ _)
      · exact sound_val0 h (v := goInt len) (by simp [Builtin.len_, rUnderlying hu]) (VRel.mk_int _ _)
    · cases h0
  · rename_i len e1
    obtain ⟨v, hv, hr⟩ := ha.one; cases hv; cases hs
    simp only [VRel] at hr
    obtain ⟨b, cap, _, rfl, _⟩ := hr
    rcases hu with ⟨_, e, hu⟩ | ⟨h0, _⟩
    · exact sound_val0 h (v := goInt len) (by simp [Builtin.len_, rUnderlying hu]) (VRel.mk_int _ _)
    · cases h0
  · rename_i len c1 e1
    obtain ⟨v, hv, hr⟩ := ha.one; cases hv; cases hs
    simp only [VRel] at hr
    obtain ⟨b, _, rfl, _⟩ := hr
    rcases hu with ⟨_, e, hu⟩ | ⟨h0, _⟩
    · exact sound_val0 h (v := goInt len) (by simp [Builtin.len_, rUnderlying hu]) (VRel.mk_int _ _)
    · cases h0
  · cases hs

theorem snd_cap {t st e : TypeId} {x : Value} {avs : List AV} (h : HRel m X σ w) (hu : P.underlying st = some (.slice e)) (ha : VRels m X w avs [x]) (hs : f_cap avs σ = some (r, σ')) :
    Sound P (do pure (.value (← Builtin.cap_ #[st] t #[x]))) m X σ w r σ' := by
  unfold f_cap at hs
  split at hs
  · rename_i cap e1
    obtain ⟨v, hv, hr⟩ := ha.one; cases hv; cases hs
    simp only [VRel] at hr
    obtain ⟨b, _, rfl, _⟩ := hr
    exact sound_val0 h (v := goInt cap) (by simp [Builtin.cap_, rUnderlying hu]) (VRel.mk_int _ _)
  · cases hs

theorem snd_min2 {at_ : Array TypeId} {t : TypeId} {x y : Value} {avs : List AV} (h : HRel m X σ w) (ha : VRels m X w avs [x, y]) (hs : f_min2 avs σ = some (r, σ')) :
    Sound P (do pure (.value (← Builtin.min_ at_ t #[x, y]))) m X σ w r σ' := by
  unfold f_min2 at hs
  split at hs
  · obtain ⟨x', us, hx, hr, hus⟩ := ha.cons
    obtain ⟨y', hy, hra⟩ := hus.one
    subst hy; cases hx
    obtain rfl := hra.int; obtain rfl := hr.int
    split at hs
    · rename_i hk; subst hk; cases hs
      exact sound_val0 h (v := _) (by simp [Builtin.min_, Builtin.min2]) (VRel.mk_int _ _)
    · cases hs
  · cases hs

theorem snd_max2 {at_ : Array TypeId} {t : TypeId} {x y : Value} {avs : List AV} (h : HRel m X σ w) (ha : VRels m X w avs [x, y]) (hs : f_max2 avs σ = some (r, σ')) :
    Sound P (do pure (.value (← Builtin.max_ at_ t #[x, y]))) m X σ w r σ' := by
  unfold f_max2 at hs
  split at hs
  · obtain ⟨x', us, hx, hr, hus⟩ := ha.cons
    obtain ⟨y', hy, hra⟩ := hus.one
    subst hy; cases hx
    obtain rfl := hra.int; obtain rfl := hr.int
    split at hs
    · rename_i hk; subst hk; cases hs
      exact sound_val0 h (v := _) (by simp [Builtin.max_, Builtin.max2]) (VRel.mk_int _ _)
    · cases hs
  · cases hs

end Go.Proofs.Ytphdemhopihpnaa.AM


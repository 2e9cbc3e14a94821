/- Parts of the proof, joined: AmH to AmH. -/
import Derived.Test.YtphdemhopihpnaaZ7

namespace Go.Proofs.Ytphdemhopihpnaa.AM
open Go
set_option linter.unusedVariables false
set_option linter.unusedSimpArgs false

variable {P : Program} {m : LM} {X : Nat → Prop} {σ σ' : List AObj} {w : World} {r : AV}

theorem zip_setRange : ∀ (vs : List Value) (k off : Nat) (cells : Array Value), ((vs.zipIdx k).foldl (fun (cs : Array Value) (x : Value × Nat) => cs.setIfInBounds (off + x.2) x.1) cells).toList = setRange cells.toList (off + k) vs
  | [], k, off, cells => rfl
  | v :: vs, k, off, cells => by
    simp only [List.zipIdx_cons, List.foldl_cons, setRange]
    rw [zip_setRange vs (k + 1) off]
    simp [Nat.add_assoc]

/-- What 'fill' does, by the abstract one. 'place' gives each part's place. -/
theorem fill_sound (place : Nat → Option (Nat × Nat)) : ∀ (ps : List (Nat × Value)) (pl : List (Nat × Nat)) (as zs cs : List AV) (cells : Array Value),
    ps.mapM (fun p => place p.1) = some pl → VRels m X w as (ps.map (·.2)) → VRels m X w zs cells.toList → fillF zs pl as = some cs →
    ∃ out : Array Value, Instr.fill place cells ps = some out ∧ VRels m X w cs out.toList
  | [], pl, as, zs, cs, cells, hp, ha, hz, hf => by
    simp at hp; subst hp
    obtain rfl := ha.length |> fun h => (List.eq_nil_of_length_eq_zero (by simpa using h) : as = [])
    simp [fillF] at hf; subst hf
    exact ⟨cells, rfl, hz⟩
  | (i, v) :: ps, pl, as, zs, cs, cells, hp, ha, hz, hf => by
    simp only [List.mapM_cons, Option.bind_eq_bind, Option.bind_eq_some_iff, Option.pure_def, Option.some.injEq] at hp
    obtain ⟨⟨off, n⟩, hpl, pl', hps, rfl⟩ := hp
    cases as with
    | nil => simp [VRels] at ha
    | cons a as =>
      simp only [List.map_cons, VRels] at ha
      obtain ⟨ha, has⟩ := ha
      simp only [fillF] at hf
      split at hf
      · rename_i hcond
        obtain ⟨hn, hle, hu⟩ := hcond
        have hcs := ha.cells hu
        have hl1 : v.cells.size = n := by have := hcs.length; simp at this; omega
        have hl2 : zs.length = cells.size := by simpa using hz.length
        have hz' := hz.setRange off hcs
        rw [show Go.Proofs.Ytphdemhopihpnaa.AM.setRange cells.toList off v.cells.toList = (v.cells.zipIdx.foldl (fun (cs : Array Value) (x : Value × Nat) => cs.setIfInBounds (off + x.2) x.1) cells).toList by
          rw [← Array.foldl_toList, Array.toList_zipIdx, zip_setRange]; simp] at hz'
        obtain ⟨out, ho, hr⟩ := fill_sound place ps pl' as _ cs _ hps has hz' hf
        refine ⟨out, ?_, hr⟩
        simp only [Instr.fill, hpl]
        rw [if_neg (by simp; omega)]
        exact ho
      · cases hf

theorem mapM_option_run {α β : Type} (f : α → Option β) (g : α → Sem β) (w : World) (hg : ∀ a b, f a = some b → (g a).run P w = .ok b w) : ∀ (l : List α) (bs : List β), l.mapM f = some bs → (l.mapM g).run P w = .ok bs w
  | [], bs, h => by simp at h; subst h; simp
  | a :: l, bs, h => by
    simp only [List.mapM_cons, Option.bind_eq_bind, Option.bind_eq_some_iff, Option.pure_def, Option.some.injEq] at h
    obtain ⟨b, hb, bs', hbs, rfl⟩ := h
    simp [hg a b hb, mapM_option_run f g w hg l bs' hbs]

/-! ### Addresses -/

theorem snd_fadd {s : TypeId} {fs : Array Field} {fi : Nat} {fd : Field} {i : TypeInfo} {x : Value} {avs : List AV} (h : HRel m X σ w) (hu : P.underlying s = some (.struct fs)) (hf : fs[fi]? = some fd) (hi : P.info? fd.type = some i) (h0 : i.size ≠ 0)
    (ha : VRels m X w avs [x]) (hs : f_fadd fd.offset avs σ = some (r, σ')) : Sound P (do pure (.value (← Instr.fieldAt s x fi))) m X σ w r σ' := by
  have run : ∀ a : Addr, (Instr.fieldAt s (.pointer (some a)) fi).run P w = .ok (.pointer (some (a.add fd.offset))) w := by
    intro a
    simp only [Instr.fieldAt, Sem.run_bind, rUnderlying hu, Result.andThen_ok, hf, run_sureAddr, fieldPlace, rSizeOf hi, h0, if_false, Sem.run_pure]
  unfold f_fadd at hs
  split at hs
  · rename_i l o
    obtain ⟨v, hv, hr⟩ := ha.one; cases hv; cases hs
    simp only [VRel] at hr; obtain ⟨b, hb, rfl⟩ := hr
    exact sound_val0 h (run _) (by simp only [VRel]; exact ⟨b, hb, by rw [addr_add0]⟩)
  · rename_i cs o
    obtain ⟨v, hv, hr⟩ := ha.one; cases hv; cases hs
    simp only [VRel, CV.rep] at hr; obtain ⟨b, rfl, hreps⟩ := hr
    exact sound_val0 h (run _) (by simp only [VRel, CV.rep]; exact ⟨b, by rw [Addr.add_add], hreps⟩)
  · cases hs

theorem run_indexAt_slice {t e : TypeId} {i : TypeInfo} {k : IntKind} {n : Int} {len cap : Nat} {a : Addr} (hu : P.underlying t = some (.slice e)) (hi : P.info? e = some i) (h : 0 ≤ n ∧ n < len) :
    (Instr.indexAt t (.slice (some a) len cap) (.int k n)).run P w = .ok (.pointer (some (a.add (n.toNat * i.size)))) w := by
  simp [Instr.indexAt, asIntOf, rUnderlying hu, rSizeOf hi, h]

theorem run_indexAt_array {t e : TypeId} {i : TypeInfo} {k : IntKind} {n : Int} {len : Nat} {a : Addr} (hu : P.underlying t = some (.array len e)) (hi : P.info? e = some i) (h : 0 ≤ n ∧ n < len) :
    (Instr.indexAt t (.pointer (some a)) (.int k n)).run P w = .ok (.pointer (some (a.add (n.toNat * i.size)))) w := by
  simp [Instr.indexAt, asIntOf, rUnderlying hu, rSizeOf hi, h, run_sureAddr]

theorem VRel.slc_sl {l off len cap esz : Nat} {v : Value} (h : VRel m X w (.slc l off len cap esz) v) : VRel m X w (.sl l off len esz) v := by
  simp only [VRel] at h ⊢; obtain ⟨b, h1, h2, h3⟩ := h; exact ⟨b, cap, h1, h2, h3⟩

theorem snd_iaS {t e : TypeId} {i : TypeInfo} {x y : Value} {avs : List AV} (h : HRel m X σ w) (hu : P.underlying t = some (.slice e)) (hi : P.info? e = some i) (ha : VRels m X w avs [x, y]) (hs : f_iaS i.size avs σ = some (r, σ')) :
    Sound P (do pure (.value (← Instr.indexAt t x y))) m X σ w r σ' := by
  unfold f_iaS at hs
  split at hs
  · obtain ⟨x', us, hx, hr, hus⟩ := ha.cons
    obtain ⟨y', hy, hra⟩ := hus.one
    subst hy; cases hx
    obtain rfl := hra.int
    simp only [VRel] at hr; obtain ⟨b, cap, hb, rfl, _⟩ := hr
    split at hs
    · rename_i hc; cases hs
      exact sound_val0 h (run_indexAt_slice hu hi hc) (by simp only [VRel]; exact ⟨b, hb, by rw [addr_add0]⟩)
    · cases hs
  · obtain ⟨x', us, hx, hr, hus⟩ := ha.cons
    obtain ⟨y', hy, hra⟩ := hus.one
    subst hy; cases hx
    obtain rfl := hra.int
    split at hs
    · rename_i hc; cases hs
      simp only [VRel, CV.rep] at hr
      rcases hr with ⟨_, h0, _⟩ | ⟨a, cap, rfl, _, hreps⟩
      · omega
      · exact sound_val0 h (run_indexAt_slice hu hi hc) (by simp only [VRel, CV.rep]; exact ⟨a, rfl, hreps⟩)
    · cases hs
  · obtain ⟨x', us, hx, hr, hus⟩ := ha.cons
    obtain ⟨y', hy, hra⟩ := hus.one
    subst hy; cases hx
    obtain rfl := hra.int
    simp only [VRel] at hr; obtain ⟨b, hb, rfl, _⟩ := hr
    split at hs
    · rename_i hc; cases hs
      exact sound_val0 h (run_indexAt_slice hu hi hc) (by simp only [VRel]; exact ⟨b, hb, by rw [addr_add0]⟩)
    · cases hs
  · cases hs

theorem snd_iaA {t e : TypeId} {len : Nat} {i : TypeInfo} {x y : Value} {avs : List AV} (h : HRel m X σ w) (hu : P.underlying t = some (.array len e)) (hi : P.info? e = some i) (ha : VRels m X w avs [x, y]) (hs : f_iaA len i.size avs σ = some (r, σ')) :
    Sound P (do pure (.value (← Instr.indexAt t x y))) m X σ w r σ' := by
  unfold f_iaA at hs
  split at hs
  · obtain ⟨x', us, hx, hr, hus⟩ := ha.cons
    obtain ⟨y', hy, hra⟩ := hus.one
    subst hy; cases hx
    obtain rfl := hra.int
    simp only [VRel] at hr; obtain ⟨b, hb, rfl⟩ := hr
    split at hs
    · rename_i hc; cases hs
      exact sound_val0 h (run_indexAt_array hu hi hc) (by simp only [VRel]; exact ⟨b, hb, by rw [addr_add0]⟩)
    · cases hs
  · obtain ⟨x', us, hx, hr, hus⟩ := ha.cons
    obtain ⟨y', hy, hra⟩ := hus.one
    subst hy; cases hx
    obtain rfl := hra.int
    split at hs
    · rename_i hc; cases hs
      simp only [VRel, CV.rep] at hr
      obtain ⟨a, rfl, hreps⟩ := hr
      exact sound_val0 h (run_indexAt_array hu hi hc) (by simp only [VRel, CV.rep]; exact ⟨a, by rw [Addr.add_add], hreps⟩)
    · cases hs
  · cases hs

theorem run_part {t : TypeId} {cs : List AV} {vs : List Value} {off n : Nat} {i : TypeInfo} {g : Bool} (hg : isAggT P t = some g) (hi : P.info? t = some i) (h : VRels m X w cs vs) :
    (g = true → off + i.size ≤ cs.length → ∃ v, (part t vs.toArray off).run P w = .ok v w ∧ VRel m X w (.agg ((cs.drop off).take i.size)) v) ∧
    (g = false → ∀ a, cs[off]? = some a → ∃ v, (part t vs.toArray off).run P w = .ok v w ∧ VRel m X w a v) := by
  constructor
  · rintro rfl hle
    refine ⟨.agg ((vs.drop off).take i.size).toArray, ?_, by simp only [VRel]; exact ⟨_, rfl, (h.drop off).take _⟩⟩
    simp only [part, Sem.run_bind, rIsAgg hg, Result.andThen_ok, if_true, rSizeOf hi, Sem.run_pure]
    congr 2
    simp [List.extract_eq_take_drop]
  · rintro rfl a ha
    obtain ⟨v, hv, hr⟩ := h.get _ _ ha
    refine ⟨v, ?_, hr⟩
    simp [part, rIsAgg hg, hv]

theorem snd_fld {s : TypeId} {fs : Array Field} {fi : Nat} {fd : Field} {i : TypeInfo} {g : Bool} {x : Value} {avs : List AV} (h : HRel m X σ w) (hu : P.underlying s = some (.struct fs)) (hf : fs[fi]? = some fd) (hi : P.info? fd.type = some i) (hg : isAggT P fd.type = some g)
    (ha : VRels m X w avs [x]) (hs : f_fld fd.offset i.size g avs σ = some (r, σ')) : Sound P (do pure (.value (← Instr.field s x fi))) m X σ w r σ' := by
  unfold f_fld at hs
  split at hs
  · rename_i cs
    obtain ⟨v, hv, hr⟩ := ha.one; cases hv
    simp only [VRel] at hr; obtain ⟨vs, rfl, hrs⟩ := hr
    split at hs
    · rename_i hle; cases hs
      obtain ⟨v, hv, hr⟩ := (run_part (n := 0) hg hi hrs).1 rfl hle
      refine sound_val0 h (v := v) ?_ hr
      simp only [Instr.field, Sem.run_bind, rUnderlying hu, Result.andThen_ok, hf, asAgg, Sem.run_pure]; exact hv
    · cases hs
  · rename_i cs
    obtain ⟨v, hv, hr⟩ := ha.one; cases hv
    simp only [VRel] at hr; obtain ⟨vs, rfl, hrs⟩ := hr
    simp only [Option.map_eq_some_iff] at hs
    obtain ⟨a, haa, he⟩ := hs; cases he
    obtain ⟨v, hv, hr⟩ := (run_part (n := 0) hg hi hrs).2 rfl _ haa
    refine sound_val0 h (v := v) ?_ hr
    simp only [Instr.field, Sem.run_bind, rUnderlying hu, Result.andThen_ok, hf, asAgg, Sem.run_pure]; exact hv
  · cases hs

theorem snd_ixA {t e : TypeId} {len : Nat} {i : TypeInfo} {g : Bool} {x y : Value} {avs : List AV} (h : HRel m X σ w) (hu : P.underlying t = some (.array len e)) (hi : P.info? e = some i) (hg : isAggT P e = some g)
    (ha : VRels m X w avs [x, y]) (hs : f_ixA len i.size i.size g avs σ = some (r, σ')) : Sound P (do pure (.value (← Instr.index t x y))) m X σ w r σ' := by
  unfold f_ixA at hs
  split at hs
  · obtain ⟨x', us, hx, hr, hus⟩ := ha.cons
    obtain ⟨y', hy, hra⟩ := hus.one
    subst hy; cases hx
    obtain rfl := hra.int
    simp only [VRel] at hr; obtain ⟨vs, rfl, hrs⟩ := hr
    split at hs
    · rename_i hc; cases hs
      obtain ⟨h1, h2, h3⟩ := hc
      obtain ⟨v, hv, hr⟩ := (run_part (n := 0) hg hi hrs).1 rfl h3
      refine sound_val0 h (v := v) ?_ hr
      simp only [Instr.index, Sem.run_bind, asIntOf, Sem.run_pure, rUnderlying hu, Result.andThen_ok, rSizeOf hi]
      rw [if_pos ⟨h1, h2⟩]; simpa [rSizeOf hi] using hv
    · cases hs
  · obtain ⟨x', us, hx, hr, hus⟩ := ha.cons
    obtain ⟨y', hy, hra⟩ := hus.one
    subst hy; cases hx
    obtain rfl := hra.int
    simp only [VRel] at hr; obtain ⟨vs, rfl, hrs⟩ := hr
    split at hs
    · rename_i hc
      simp only [Option.map_eq_some_iff] at hs
      obtain ⟨a, haa, he⟩ := hs; cases he
      obtain ⟨v, hv, hr⟩ := (run_part (n := 0) hg hi hrs).2 rfl _ haa
      refine sound_val0 h (v := v) ?_ hr
      simp only [Instr.index, Sem.run_bind, asIntOf, Sem.run_pure, rUnderlying hu, Result.andThen_ok, rSizeOf hi]
      rw [if_pos hc]; simpa [rSizeOf hi] using hv
    · cases hs
  · cases hs

theorem snd_ixStr {t : TypeId} {x y : Value} {avs : List AV} (h : HRel m X σ w) (hu : P.underlying t = some .string)
    (ha : VRels m X w avs [x, y]) (hs : f_ixStr avs σ = some (r, σ')) : Sound P (do pure (.value (← Instr.index t x y))) m X σ w r σ' := by
  unfold f_ixStr at hs
  split at hs
  · rename_i s k n
    obtain ⟨x', us, hx, hr, hus⟩ := ha.cons
    obtain ⟨y', hy, hra⟩ := hus.one
    subst hy; cases hx
    obtain rfl := hra.int; obtain rfl := hr.str
    split at hs
    · rename_i hc
      simp only [Option.map_eq_some_iff] at hs
      obtain ⟨b, hb, he⟩ := hs; cases he
      refine sound_val0 h (v := .int .u8 b.toNat) ?_ (VRel.mk_int _ _)
      have hb' : s[n.toNat]? = some b := by
        rw [Array.getElem?_eq_some_iff] at hb
        obtain ⟨hlt, he⟩ := hb
        have hlt' : n.toNat < s.size := hlt
        rw [getElem?_pos s n.toNat hlt']
        exact congrArg some he
      simp only [Instr.index, Sem.run_bind, asIntOf, Sem.run_pure, rUnderlying hu, Result.andThen_ok]
      simp [hc, hb']
    · cases hs
  · cases hs

/-! ### Slice expressions -/

theorem bnd_some {x : AV} {v : Value} {n : Nat} (h : VRel m X w x v) (hb : bnd x = some n) : ∃ k, v = .int k n := by
  unfold bnd at hb
  split at hb
  · rename_i k i
    split at hb
    · cases hb; obtain rfl := h.int; exact ⟨k, by congr 1; omega⟩
    · cases hb
  · cases hb

theorem run_sliceBound {k : IntKind} {n y : Nat} {code : BoundsCode} (h : n ≤ y) : (Instr.sliceBound (.int k n) y code).run P w = .ok n w := by
  simp [Instr.sliceBound, asIntOf]; omega

/-- the bounds, as the model reckons them -/
theorem run_bnds {lo hi : Bool} {len cap a b : Nat} {as : List AV} {lv hv : Option Value} {isS : Bool} (hlo : lv.isSome = lo) (hhi : hv.isSome = hi) (hr : VRels m X w as (lv.toList ++ hv.toList)) (hb : bnds lo hi len as = some (a, b))
    (hab : a ≤ b) (hbl : b ≤ len) (hlc : len ≤ cap) : (Instr.sliceBounds isS len cap lv hv none).run P w = .ok (a, b, cap) w := by
  subst hlo; subst hhi
  cases lv with
  | none =>
    cases hv with
    | none =>
      obtain rfl : as = [] := by simpa using hr.length
      simp [bnds] at hb; obtain ⟨rfl, rfl⟩ := hb
      simp [Instr.sliceBounds]
    | some y =>
      cases as with
      | nil => simp [VRels] at hr
      | cons x as => cases as with
        | cons => simp [VRels] at hr
        | nil =>
          simp only [Option.toList, List.nil_append, VRels] at hr
          simp only [bnds, Option.isSome, Option.map_eq_some_iff] at hb
          obtain ⟨n, hn, he⟩ := hb; cases he
          obtain ⟨k, rfl⟩ := bnd_some hr.1 hn
          simp [Instr.sliceBounds, run_sliceBound (show b ≤ cap by omega)]
  | some x =>
    cases hv with
    | none =>
      cases as with
      | nil => simp [VRels] at hr
      | cons x as => cases as with
        | cons => simp [VRels] at hr
        | nil =>
          simp only [Option.toList, List.append_nil, VRels] at hr
          simp only [bnds, Option.isSome, Option.map_eq_some_iff] at hb
          obtain ⟨n, hn, he⟩ := hb; cases he
          obtain ⟨k, rfl⟩ := bnd_some hr.1 hn
          simp [Instr.sliceBounds, run_sliceBound hab]
    | some y =>
      cases as with
      | nil => simp [VRels] at hr
      | cons x as => cases as with
        | nil => simp [VRels] at hr
        | cons z as => cases as with
          | cons => simp [VRels] at hr
          | nil =>
            simp only [Option.toList, List.cons_append, List.nil_append, VRels] at hr
            simp only [bnds, Option.isSome, Option.bind_eq_some_iff, Option.map_eq_some_iff] at hb
            obtain ⟨n, hn, n', hn', he⟩ := hb; cases he
            obtain ⟨k, rfl⟩ := bnd_some hr.1 hn
            obtain ⟨k', rfl⟩ := bnd_some hr.2.1 hn'
            simp [Instr.sliceBounds, run_sliceBound (show b ≤ cap by omega), run_sliceBound hab]

/-- the same, up to the capacity -/
theorem run_bndsC {lo hi : Bool} {len cap a b : Nat} {as : List AV} {lv hv : Option Value} {isS : Bool} (hlo : lv.isSome = lo) (hhi : hv.isSome = hi) (hr : VRels m X w as (lv.toList ++ hv.toList)) (hb : bnds lo hi len as = some (a, b))
    (hab : a ≤ b) (hbl : b ≤ cap) (hlc : len ≤ cap) : (Instr.sliceBounds isS len cap lv hv none).run P w = .ok (a, b, cap) w := by
  subst hlo; subst hhi
  cases lv with
  | none =>
    cases hv with
    | none =>
      obtain rfl : as = [] := by simpa using hr.length
      simp [bnds] at hb; obtain ⟨rfl, rfl⟩ := hb
      simp [Instr.sliceBounds]
    | some y =>
      cases as with
      | nil => simp [VRels] at hr
      | cons x as => cases as with
        | cons => simp [VRels] at hr
        | nil =>
          simp only [Option.toList, List.nil_append, VRels] at hr
          simp only [bnds, Option.isSome, Option.map_eq_some_iff] at hb
          obtain ⟨n, hn, he⟩ := hb; cases he
          obtain ⟨k, rfl⟩ := bnd_some hr.1 hn
          simp [Instr.sliceBounds, run_sliceBound (show b ≤ cap by omega)]
  | some x =>
    cases hv with
    | none =>
      cases as with
      | nil => simp [VRels] at hr
      | cons x as => cases as with
        | cons => simp [VRels] at hr
        | nil =>
          simp only [Option.toList, List.append_nil, VRels] at hr
          simp only [bnds, Option.isSome, Option.map_eq_some_iff] at hb
          obtain ⟨n, hn, he⟩ := hb; cases he
          obtain ⟨k, rfl⟩ := bnd_some hr.1 hn
          simp [Instr.sliceBounds, run_sliceBound hab]
    | some y =>
      cases as with
      | nil => simp [VRels] at hr
      | cons x as => cases as with
        | nil => simp [VRels] at hr
        | cons z as => cases as with
          | cons => simp [VRels] at hr
          | nil =>
            simp only [Option.toList, List.cons_append, List.nil_append, VRels] at hr
            simp only [bnds, Option.isSome, Option.bind_eq_some_iff, Option.map_eq_some_iff] at hb
            obtain ⟨n, hn, n', hn', he⟩ := hb; cases he
            obtain ⟨k, rfl⟩ := bnd_some hr.1 hn
            obtain ⟨k', rfl⟩ := bnd_some hr.2.1 hn'
            simp [Instr.sliceBounds, run_sliceBound (show b ≤ cap by omega), run_sliceBound hab]

theorem snd_slS {t e : TypeId} {i : TypeInfo} {x : Value} {lv hv : Option Value} {avs : List AV} (h : HRel m X σ w) (hu : P.underlying t = some (.slice e)) (hi : P.info? e = some i)
    (ha : VRels m X w avs (x :: (lv.toList ++ hv.toList))) (hs : f_slS i.size lv.isSome hv.isSome avs σ = some (r, σ')) : Sound P (do pure (.value (← Instr.sliceAt t x lv hv none))) m X σ w r σ' := by
  have run : ∀ (oa : Option Addr) (len cap a b : Nat), (Instr.sliceBounds true len cap lv hv none).run P w = .ok (a, b, cap) w →
      (Instr.sliceAt t (.slice oa len cap) lv hv none).run P w = .ok (.slice (if cap = a then oa else oa.map (·.add (a * i.size))) (b - a) (cap - a)) w := by
    intro oa len cap a b hb
    simp only [Instr.sliceAt, Instr.slice, Sem.run_bind, rUnderlying hu, Result.andThen_ok, hb, rSizeOf hi, Sem.run_pure]
  unfold f_slS at hs
  split at hs
  · rename_i l off len e' bs
    obtain ⟨x', us, hx, hr, hus⟩ := ha.cons
    cases hx
    simp only [VRel] at hr; obtain ⟨b, cap, hb, rfl, hle, c, ty, h1, h2⟩ := hr
    simp only [Option.bind_eq_some_iff] at hs
    obtain ⟨⟨lo, hi'⟩, hbd, hs⟩ := hs
    split at hs
    · rename_i hcond
      obtain ⟨hab, hbl, rfl⟩ := hcond
      have hrun := run (some ⟨b, off, none⟩) len cap lo hi' (run_bnds rfl rfl hus hbd hab hbl hle)
      split at hs
      · cases hs
        refine sound_val0 h hrun ?_
        simp only [VRel, CV.rep]
        rename_i hc
        dsimp only at hc hab hbl
        by_cases hcl : cap = lo
        · exact .inr ⟨⟨b, off, none⟩, cap - lo, by rw [if_pos hcl, hc.1]; simp, by omega, by simp [CV.reps]⟩
        · exact .inr ⟨(⟨b, off, none⟩ : Addr).add (lo * i.size), cap - lo, by rw [if_neg hcl, hc.1]; simp, by omega, by simp [CV.reps]⟩
      · rename_i hc
        cases hs
        dsimp only at hc hab hbl
        refine sound_val0 h hrun ?_
        simp only [VRel]
        refine ⟨b, cap - lo, hb, ?_, by omega, c, ty, h1, ?_⟩
        · by_cases hcl : cap = lo
          · have : lo = 0 := by omega
            subst this; simp [hcl]
          · rw [if_neg hcl]; simp [addr_add0]
        · by_cases hcl : lo ≤ cap
          · have : lo * i.size + (cap - lo) * i.size = cap * i.size := by rw [← Nat.add_mul]; congr 1; omega
            omega
          · omega
    · cases hs
  · rename_i cs len bs
    obtain ⟨x', us, hx, hr, hus⟩ := ha.cons
    cases hx
    simp only [Option.bind_eq_some_iff] at hs
    obtain ⟨⟨lo, hi'⟩, hbd, hs⟩ := hs
    split at hs
    · rename_i hcond; cases hs
      obtain ⟨hab, hbl, hcl⟩ := hcond
      simp only [VRel, CV.rep] at hr
      rcases hr with ⟨rfl, rfl, rfl⟩ | ⟨a, cap, rfl, hle, hreps⟩
      · have hrun := run none 0 0 lo hi' (run_bnds rfl rfl hus hbd hab hbl (Nat.le_refl _))
        refine sound_val0 h hrun ?_
        simp only [VRel, CV.rep]
        exact .inl ⟨by simp; omega, by omega, by simp⟩
      · have hrun := run (some a) len cap lo hi' (run_bnds rfl rfl hus hbd hab hbl hle)
        refine sound_val0 h hrun ?_
        simp only [VRel, CV.rep]
        by_cases hc : cap = lo
        · refine .inr ⟨a, cap - lo, by rw [if_pos hc], by omega, ?_⟩
          have : hi' - lo = 0 := by omega
          simp [this, CV.reps]
        · refine .inr ⟨a.add (lo * i.size), cap - lo, by rw [if_neg hc]; rfl, by omega, ?_⟩
          refine reps_take _ (reps_shift _ ?_)
          have := reps_drop (lo * i.size) hreps
          simpa using this
    · cases hs
  · rename_i bs
    obtain ⟨x', us, hx, hr, hus⟩ := ha.cons
    cases hx
    obtain rfl := hr.nils
    simp only [Option.bind_eq_some_iff] at hs
    obtain ⟨⟨lo, hi'⟩, hbd, hs⟩ := hs
    split at hs
    · rename_i hcond; cases hs
      obtain ⟨rfl, rfl⟩ := hcond
      have hrun := run none 0 0 0 0 (run_bnds rfl rfl hus hbd (Nat.le_refl _) (Nat.le_refl _) (Nat.le_refl _))
      exact sound_val0 h hrun (by simp [VRel, CV.rep])
    · cases hs
  · rename_i l off len cap e' bs
    obtain ⟨x', us, hx, hr, hus⟩ := ha.cons
    cases hx
    simp only [VRel] at hr; obtain ⟨b, hb, rfl, hle, c, ty, h1, h2⟩ := hr
    simp only [Option.bind_eq_some_iff] at hs
    obtain ⟨⟨lo, hi'⟩, hbd, hs⟩ := hs
    split at hs
    · rename_i hcond
      obtain ⟨hab, hbl, rfl⟩ := hcond
      have hrun := run (some ⟨b, off, none⟩) len cap lo hi' (run_bndsC rfl rfl hus hbd hab hbl hle)
      split at hs
      · cases hs
        refine sound_val0 h hrun ?_
        simp only [VRel, CV.rep]
        rename_i hc
        dsimp only at hc hab hbl
        exact .inr ⟨⟨b, off, none⟩, cap - lo, by rw [if_pos hc.1.symm, show hi' - lo = 0 by omega], by omega, by simp [CV.reps]⟩
      · rename_i hc
        cases hs
        dsimp only at hc hab hbl
        refine sound_val0 h hrun ?_
        simp only [VRel]
        refine ⟨b, hb, ?_, by omega, c, ty, h1, ?_⟩
        · by_cases hcl : cap = lo
          · have : lo = 0 := by omega
            subst this; simp [hcl]
          · rw [if_neg hcl]; simp [addr_add0]
        · have : lo * i.size + (cap - lo) * i.size = cap * i.size := by rw [← Nat.add_mul]; congr 1; omega
          omega
    · cases hs
  · cases hs

theorem snd_slS3 {t e : TypeId} {i : TypeInfo} {x lv hv mv : Value} {avs : List AV} (h : HRel m X σ w) (hu : P.underlying t = some (.slice e)) (hi : P.info? e = some i)
    (ha : VRels m X w avs [x, lv, hv, mv]) (hs : f_slS3 avs σ = some (r, σ')) : Sound P (do pure (.value (← Instr.sliceAt t x (some lv) (some hv) (some mv)))) m X σ w r σ' := by
  have key : ∀ (oa : Option Addr) (len cap : Nat) (xa ya za : AV), VRel m X w xa lv → VRel m X w ya hv → VRel m X w za mv → x = .slice oa len cap → len ≤ cap →
      (((bnd xa).bind fun a => (bnd ya).bind fun b => (bnd za).bind fun c => if a ≤ b ∧ b ≤ c ∧ c ≤ len then some (AV.undef, σ) else none) = some (r, σ')) → Sound P (do pure (.value (← Instr.sliceAt t x (some lv) (some hv) (some mv)))) m X σ w r σ' := by
    rintro oa len cap xa ya za h1 h2 h3 rfl hle hs
    simp only [Option.bind_eq_some_iff] at hs
    obtain ⟨a, ha, b, hb, c, hc, hs⟩ := hs
    split at hs <;> cases hs
    rename_i hcond
    obtain ⟨ka, rfl⟩ := bnd_some h1 ha
    obtain ⟨kb, rfl⟩ := bnd_some h2 hb
    obtain ⟨kc, rfl⟩ := bnd_some h3 hc
    refine sound_val0 h (v := .slice (if c = a then oa else oa.map (·.add (a * i.size))) (b - a) (c - a)) ?_ (by simp only [VRel])
    simp only [Instr.sliceAt, Instr.slice, Sem.run_bind, rUnderlying hu, Result.andThen_ok, Instr.sliceBounds, run_sliceBound (show c ≤ cap by omega), run_sliceBound (show b ≤ c by omega), run_sliceBound (show a ≤ b by omega), rSizeOf hi, Sem.run_pure]
  unfold f_slS3 at hs
  split at hs
  · obtain ⟨x', us, hx, hr, hus⟩ := ha.cons; cases hx
    obtain ⟨y', us, hx, hr1, hus⟩ := hus.cons; cases hx
    obtain ⟨z', us, hx, hr2, hus⟩ := hus.cons; cases hx
    obtain ⟨u', hy, hr3⟩ := hus.one; cases hy
    simp only [VRel] at hr; obtain ⟨b, cap, hb, rfl, hle, _⟩ := hr
    exact key _ _ _ _ _ _ hr1 hr2 hr3 rfl hle hs
  · obtain ⟨x', us, hx, hr, hus⟩ := ha.cons; cases hx
    obtain ⟨y', us, hx, hr1, hus⟩ := hus.cons; cases hx
    obtain ⟨z', us, hx, hr2, hus⟩ := hus.cons; cases hx
    obtain ⟨u', hy, hr3⟩ := hus.one; cases hy
    simp only [VRel] at hr; obtain ⟨b, hb, rfl, hle, _⟩ := hr
    exact key _ _ _ _ _ _ hr1 hr2 hr3 rfl hle hs
  · cases hs

theorem snd_slA {t e : TypeId} {n : Nat} {i : TypeInfo} {x : Value} {lv hv : Option Value} {avs : List AV} (h : HRel m X σ w) (hu : P.underlying t = some (.array n e)) (hi : P.info? e = some i)
    (ha : VRels m X w avs (x :: (lv.toList ++ hv.toList))) (hs : f_slA n i.size lv.isSome hv.isSome avs σ = some (r, σ')) : Sound P (do pure (.value (← Instr.sliceAt t x lv hv none))) m X σ w r σ' := by
  unfold f_slA at hs
  split at hs
  · rename_i l off bs
    obtain ⟨x', us, hx, hr, hus⟩ := ha.cons
    cases hx
    simp only [VRel] at hr; obtain ⟨b, hb, rfl⟩ := hr
    simp only [Option.bind_eq_some_iff] at hs
    obtain ⟨cs, hcs, ⟨lo, hi'⟩, hbd, hs⟩ := hs
    split at hs
    · rename_i hcond; cases hs
      obtain ⟨hab, hbn, han, hlen⟩ := hcond
      obtain ⟨b', c, ty, h1, _, h2, h3, h4⟩ := h.row hcs
      rw [hb] at h1; cases h1
      refine sound_val0 h (v := .slice (some ⟨b, off + lo * i.size, none⟩) (hi' - lo) (n - lo)) ?_ ?_
      · simp only [Instr.sliceAt, Sem.run_bind, rUnderlying hu, Result.andThen_ok, run_sureAddr, run_bnds rfl rfl hus hbd hab hbn (Nat.le_refl _), rSizeOf hi, Sem.run_pure]
        rw [if_neg (by omega), addr_add0]
      · simp only [VRel]
        refine ⟨b, n - lo, hb, rfl, by omega, c, ty, h2, ?_⟩
        have : lo * i.size + (n - lo) * i.size = n * i.size := by rw [← Nat.add_mul]; congr 1; omega
        omega
    · cases hs
  · cases hs

theorem snd_slStr {t : TypeId} {x : Value} {lv hv : Option Value} {avs : List AV} (h : HRel m X σ w) (hu : P.underlying t = some .string)
    (ha : VRels m X w avs (x :: (lv.toList ++ hv.toList))) (hs : f_slStr lv.isSome hv.isSome avs σ = some (r, σ')) : Sound P (do pure (.value (← Instr.sliceAt t x lv hv none))) m X σ w r σ' := by
  unfold f_slStr at hs
  split at hs
  · rename_i s bs
    obtain ⟨x', us, hx, hr, hus⟩ := ha.cons
    cases hx
    obtain rfl := hr.str
    simp only [Option.bind_eq_some_iff] at hs
    obtain ⟨⟨lo, hi'⟩, hbd, hs⟩ := hs
    split at hs
    · rename_i hcond; cases hs
      refine sound_val0 h (v := .string (s.extract lo hi')) ?_ (VRel.mk_str _)
      simp [Instr.sliceAt, Instr.slice, rUnderlying hu, run_bnds rfl rfl hus hbd hcond.1 hcond.2 (Nat.le_refl _)]
    · cases hs
  · cases hs

/-! ### len, min, max -/

theorem lenF_sound {a : AV} {x : Value} {n : Nat} (hr : VRel m X w a x) (h : lenF a = some n) : (∃ s : ByteArray, x = .string s ∧ a = .cv (.str s) ∧ n = s.size) ∨ ∃ oa cap, x = .slice oa n cap := by
  unfold lenF at h
  split at h <;> cases h
  · obtain rfl := hr.nils; exact .inr ⟨_, _, rfl⟩
  · simp only [VRel, CV.rep] at hr
    rcases hr with ⟨rfl, rfl, _⟩ | ⟨a, cap, rfl, _⟩
    · exact .inr ⟨_, _, rfl⟩
    · exact .inr ⟨_, _, rfl⟩
  · simp only [VRel] at hr; obtain ⟨b, cap, hb, rfl, _⟩ := hr; exact .inr ⟨_, _, rfl⟩
  · rename_i s; obtain rfl := hr.str; exact .inl ⟨s, rfl, rfl, rfl⟩
  · simp only [VRel] at hr; obtain ⟨b, _, rfl, _⟩ := hr; exact .inr ⟨_, _, rfl⟩

end Go.Proofs.Ytphdemhopihpnaa.AM


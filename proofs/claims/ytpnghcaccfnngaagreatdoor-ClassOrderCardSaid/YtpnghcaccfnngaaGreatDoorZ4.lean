/- Parts of the proof, joined: AmI to AmJ. -/
import Derived.IntWalk
import Derived.Lib.AppendZerosOnto
import Derived.Test.YtpnghcaccfnngaaGreatDoorZ3
set_option linter.unusedVariables false
set_option linter.unusedSimpArgs false
set_option linter.unusedSectionVars false
namespace Go.Proofs.YtpnghcaccfnngaaGreatDoor.AM
variable [Dr]
open Go
variable {P : Program} {m : LM} {X : Nat → Prop} {σ σ' : List AObj} {w : World} {r : AV}
theorem VRels.map_range {f : Nat → AV} {g : Nat → Value} : ∀ (n : Nat), (∀ i, i < n → VRel m X w (f i) (g i)) → VRels m X w ((List.range n).map f) ((List.range n).map g)
 | 0, _ => by simp [VRels]
 | n + 1, h => by
  rw [List.range_succ, List.map_append, List.map_append]
  exact VRels.append (VRels.map_range n fun i hi => h i (by omega)) (by simp only [List.map_cons, List.map_nil, VRels]; exact ⟨h n (by omega), trivial⟩)
theorem zcells_eq (n : Nat) (zs : List AV) : zcells n zs = (List.range (n * zs.length)).map fun i => zs.getD (i % zs.length) .undef := by
 unfold zcells
 split
 ·rename_i z
  simp only [List.length_cons, List.length_nil, Nat.zero_add, Nat.mul_one]
  apply List.ext_getElem?
  intro i
  by_cases hi : i < n
  ·simp [hi, Nat.mod_one]
  ·simp [hi, List.getElem?_eq_none (by simpa using hi : (List.replicate n z).length ≤ i)]
 ·rfl
theorem zcells_rel (n : Nat) (zero : Array Value) : VRels m X w (zcells n (zero.toList.map ofScalar)) ((List.range (n * zero.size)).map fun i => zero[i % zero.size]!) := by
 rw [zcells_eq]
 simp only [List.length_map, Array.length_toList]
 refine VRels.map_range _ fun i hi => ?_
 have h0 : 0 < zero.size := by
  rcases Nat.eq_zero_or_pos zero.size with h | h
  ·rw [h] at hi; omega
  ·exact h
 have hlt : i % zero.size < zero.size := Nat.mod_lt _ h0
 have e1 : (zero.toList.map ofScalar).getD (i % zero.size) .undef = ofScalar zero[i % zero.size] := by simp [List.getD, hlt]
 rw [e1, getElem!_pos zero _ hlt]
 exact ofScalar_rel _
theorem range_toList (n : Nat) (g : Nat → Value) : ((Array.range n).map g).toList = (List.range n).map g := by simp
theorem snd_bslice {t e : TypeId} {i : TypeInfo} {z : Value} {len : Nat} {ps : List (Nat × Value)} {pl : List (Nat × Nat)} {avs : List AV} (h : HRel m X σ w) (hu : P.underlying t = some (.slice e)) (hi : P.info? e = some i) (hz : i.zero = some z)
  (hsz : z.cells.size = i.size) (hpos : 0 < i.size) (hbig : len * i.size ≤ 2 ^ 24) (hpl : pl = ps.map fun p => (p.1 * i.size, i.size)) (ha : VRels m X w avs (ps.map (·.2)))
  (hs : f_bslice i.size len (zcells len (z.cells.toList.map ofScalar)) pl avs σ = some (r, σ')) : Sound P (do pure (.value (← Instr.buildSlice t len ps.toArray))) m X σ w r σ' := by
 unfold f_bslice at hs
 simp only [Option.map_eq_some_iff] at hs
 obtain ⟨cs, hf, he⟩ := hs; cases he
 have hz0 : VRels m X w (zcells len (z.cells.toList.map ofScalar)) (((Array.range (len * i.size)).map (z.cells[· % z.cells.size]!)).toList) := by
  rw [range_toList]; have := zcells_rel (m := m) (X := X) (w := w) len z.cells; rwa [hsz] at this ⊢
 obtain ⟨out, ho, hr⟩ := fill_sound (fun i' => some (i' * i.size, i.size)) ps pl avs _ cs _ (by subst hpl; clear hf ha; induction ps with
  | nil => rfl
  | cons p ps ih => simp only [List.mapM_cons, ih, Option.bind_eq_bind, Option.pure_def, Option.bind_some, List.map_cons]) ha hz0 hf
 have hlen : out.size = len * i.size := by
  have h1 := hr.length; have h2 : cs.length = (zcells len (z.cells.toList.map ofScalar)).length := by
   clear ho hr h1 hz0 ha
   revert hf
   generalize zcells len (z.cells.toList.map ofScalar) = zs
   intro hf
   have : ∀ (pl : List (Nat × Nat)) (as zs cs : List AV), fillF zs pl as = some cs → cs.length = zs.length := by
    intro pl
    induction pl with
    | nil => intro as zs cs h; cases as <;> simp [fillF] at h; subst h; rfl
    | cons p pl ih =>
     intro as zs cs h
     cases as with
     | nil => simp [fillF] at h
     | cons a as =>
      simp only [fillF] at h
      split at h
      ·have := ih _ _ _ h; rw [setRange_length] at this; exact this
      ·cases h
   exact this _ _ _ _ hf
  have h3 : (zcells len (z.cells.toList.map ofScalar)).length = len * i.size := by rw [zcells_eq]; simp [hsz]
  simp at h1; omega
 obtain ⟨h1, h2, h3⟩ := h.alloc (.cells out e) (.cells cs) (fun hm => ORel.new (heap_alloc_new _ _) (hr.mono hm _ _))
 refine sound_val (v := .slice (some ⟨w.heap.size, 0, none⟩) len len) ?_ ?_ h1 h2
 ·simp only [Instr.buildSlice, Sem.run_bind, rUnderlying hu, Result.andThen_ok, rSizeOf hi]
  rw [if_neg (by omega)]
  by_cases hl : len = 0
  ·subst hl
   simp only [Nat.zero_mul, if_true, Sem.run_bind, Sem.run_pure, Result.andThen_ok]
   have e0 : (Array.range 0).map (fun x => (#[] : Array Value)[x % (#[] : Array Value).size]!) = (Array.range (0 * i.size)).map (z.cells[· % z.cells.size]!) := by simp
   rw [e0, ho]
   simp [newRow]
  ·have : len * i.size ≠ 0 := Nat.mul_ne_zero hl (by omega)
   simp only [this, if_false, Sem.run_bind, rZero hi hz, Result.andThen_ok, Sem.run_pure, ho]
   simp [newRow]
 ·simp only [VRel]
  exact ⟨w.heap.size, len, LM.put_same _ _ _, rfl, Nat.le_refl _, out, e, heap_alloc_new _ _, by omega⟩
theorem snd_mkslice {t e : TypeId} {i : TypeInfo} {z : Value} {x y : Value} {avs : List AV} (h : HRel m X σ w) (hu : P.underlying t = some (.slice e)) (hi : P.info? e = some i) (hz : i.zero = some z)
  (hsz : z.cells.size = i.size) (hpos : 0 < i.size) (ha : VRels m X w avs [x, y])
  (hs : f_mkslice i.size i.bytes (z.cells.toList.map ofScalar) avs σ = some (r, σ')) : Sound P (do pure (.value (← Instr.makeSlice t x y))) m X σ w r σ' := by
 unfold f_mkslice at hs
 split at hs
 ·rename_i k n k' c
  obtain ⟨x', us, hx, hr, hus⟩ := ha.cons
  obtain ⟨y', hy, hra⟩ := hus.one
  subst hy; cases hx
  obtain rfl := hra.int; obtain rfl := hr.int
  split at hs
  ·rename_i hc; cases hs
   obtain ⟨hn0, rfl, hb, hn, _⟩ := hc
   have hw : IntKind.i64.wrap n = n := IntWalk.i64_in _ (by omega)
   have hlen : ((Array.range (n.toNat * i.size)).map (z.cells[· % z.cells.size]!)).size = n.toNat * i.size := by simp
   obtain ⟨h1, h2, h3⟩ := h.alloc (.cells ((Array.range (n.toNat * i.size)).map (z.cells[· % z.cells.size]!)) e) (.cells (zcells n.toNat (z.cells.toList.map ofScalar)))
    (fun hm => ORel.new (heap_alloc_new _ _) (by rw [range_toList]; have := zcells_rel (m := m.put σ.length w.heap.size) (X := X) (w := w.alloc (.cells ((Array.range (n.toNat * i.size)).map (z.cells[· % z.cells.size]!)) e)) n.toNat z.cells; rwa [hsz] at this ⊢))
   refine sound_val (v := .slice (some ⟨w.heap.size, 0, none⟩) n.toNat n.toNat) ?_ ?_ h1 h2
   ·have hmul : (i.bytes : Int) * n ≤ 2 ^ 48 := by rw [Int.mul_comm]; omega
    simp only [Instr.makeSlice, Sem.run_bind, rUnderlying hu, Result.andThen_ok, asInt, asIntOf, Sem.run_pure, rTypeInfo hi, hw]
    have hc1 : (decide (n < 0) || decide ((i.bytes : Int) * n > 2 ^ 48)) = false := by simp; omega
    simp only [hc1, Bool.false_or, Bool.false_eq_true, if_false]
    have hc2 : (decide (n < 0) || decide (n > n)) = false := by simp; omega
    simp only [hc2, Bool.false_eq_true, if_false, Sem.run_bind, run_askRoom, Result.andThen_ok, rSizeOf hi]
    by_cases hl : n.toNat * i.size = 0
    ·have e0 : (Array.range (n.toNat * i.size)).map (fun x => (#[] : Array Value)[x % (#[] : Array Value).size]!) = (Array.range (n.toNat * i.size)).map (z.cells[· % z.cells.size]!) := by rw [hl]; simp
     simp only [hl, if_true, Sem.run_pure, Result.andThen_ok, Sem.run_bind]
     rw [hl] at e0; rw [e0]
     simp [newRow]
    ·simp only [hl, if_false, Sem.run_bind, rZero hi hz, Result.andThen_ok, Sem.run_pure]
     simp [newRow]
   ·simp only [VRel]
    exact ⟨w.heap.size, n.toNat, LM.put_same _ _ _, rfl, Nat.le_refl _, _, e, heap_alloc_new _ _, by rw [hlen]; omega⟩
  ·cases hs
 ·cases hs
theorem snd_mksliceC {t e : TypeId} {i : TypeInfo} {z : Value} {x y : Value} {avs : List AV} (h : HRel m X σ w) (hu : P.underlying t = some (.slice e)) (hi : P.info? e = some i) (hz : i.zero = some z)
  (hsz : z.cells.size = i.size) (hpos : 0 < i.size) (ha : VRels m X w avs [x, y])
  (hs : f_mksliceC i.size i.bytes (z.cells.toList.map ofScalar) avs σ = some (r, σ')) : Sound P (do pure (.value (← Instr.makeSlice t x y))) m X σ w r σ' := by
 unfold f_mksliceC at hs
 split at hs
 ·rename_i k n k' c
  obtain ⟨x', us, hx, hr, hus⟩ := ha.cons
  obtain ⟨y', hy, hra⟩ := hus.one
  subst hy; cases hx
  obtain rfl := hra.int; obtain rfl := hr.int
  split at hs
  ·rename_i hc; cases hs
   obtain ⟨hn0, rfl, hb, hn, _⟩ := hc
   have hw : IntKind.i64.wrap n = n := IntWalk.i64_in _ (by omega)
   have hlen : ((Array.range (n.toNat * i.size)).map (z.cells[· % z.cells.size]!)).size = n.toNat * i.size := by simp
   obtain ⟨h1, h2, h3⟩ := h.alloc (.cells ((Array.range (n.toNat * i.size)).map (z.cells[· % z.cells.size]!)) e) (.cells (zcells n.toNat (z.cells.toList.map ofScalar)))
    (fun hm => ORel.new (heap_alloc_new _ _) (by rw [range_toList]; have := zcells_rel (m := m.put σ.length w.heap.size) (X := X) (w := w.alloc (.cells ((Array.range (n.toNat * i.size)).map (z.cells[· % z.cells.size]!)) e)) n.toNat z.cells; rwa [hsz] at this ⊢))
   refine sound_val (v := .slice (some ⟨w.heap.size, 0, none⟩) n.toNat n.toNat) ?_ ?_ h1 h2
   ·have hmul : (i.bytes : Int) * n ≤ 2 ^ 48 := by rw [Int.mul_comm]; omega
    simp only [Instr.makeSlice, Sem.run_bind, rUnderlying hu, Result.andThen_ok, asInt, asIntOf, Sem.run_pure, rTypeInfo hi, hw]
    have hc1 : (decide (n < 0) || decide ((i.bytes : Int) * n > 2 ^ 48)) = false := by simp; omega
    simp only [hc1, Bool.false_or, Bool.false_eq_true, if_false]
    have hc2 : (decide (n < 0) || decide (n > n)) = false := by simp; omega
    simp only [hc2, Bool.false_eq_true, if_false, Sem.run_bind, run_askRoom, Result.andThen_ok, rSizeOf hi]
    by_cases hl : n.toNat * i.size = 0
    ·have e0 : (Array.range (n.toNat * i.size)).map (fun x => (#[] : Array Value)[x % (#[] : Array Value).size]!) = (Array.range (n.toNat * i.size)).map (z.cells[· % z.cells.size]!) := by rw [hl]; simp
     simp only [hl, if_true, Sem.run_pure, Result.andThen_ok, Sem.run_bind]
     rw [hl] at e0; rw [e0]
     simp [newRow]
    ·simp only [hl, if_false, Sem.run_bind, rZero hi hz, Result.andThen_ok, Sem.run_pure]
     simp [newRow]
   ·simp only [VRel]
    exact ⟨w.heap.size, LM.put_same _ _ _, rfl, Nat.le_refl _, _, e, heap_alloc_new _ _, by rw [hlen]; omega⟩
  ·cases hs
 ·cases hs
theorem snd_mkmap {t : TypeId} {avs : List AV} (h : HRel m X σ w) (hs : f_mkmap avs σ = some (r, σ')) : Sound P (do pure (.value (← Instr.makeMap t none))) m X σ w r σ' := by
 unfold f_mkmap at hs
 split at hs <;> cases hs
 obtain ⟨h1, h2, h3⟩ := h.alloc (.map #[] 0) (.map []) (fun hm => by simp only [ORel]; exact ⟨#[], 0, heap_alloc_new _ _, by simp, by simp, by simp, by simp⟩)
 refine sound_val (v := .map (some w.heap.size)) ?_ ?_ h1 h2
 ·simp [Instr.makeMap]
 ·simp only [VRel]; exact ⟨_, LM.put_same _ _ _, rfl⟩
theorem VRels.map_bytes : ∀ (bs : List UInt8), VRels m X w (bs.map fun b => .cv (.int .u8 b.toNat)) (bs.map fun b => Value.int .u8 b.toNat)
 | [] => by simp [VRels]
 | b :: bs => by simp only [List.map_cons, VRels]; exact ⟨VRel.mk_int _ _, VRels.map_bytes bs⟩
theorem src_sound {a : AV} {x : Value} {esz n : Nat} {new : List AV} (h : HRel m X σ w) (hr : VRel m X w a x) (hsrc : srcCells σ esz a = some new) (hl : lenF a = some n) :
  ∃ vs : List Value, (∀ w1 : World, w1.heap = w.heap → (Builtin.firstCells esz n x).run P w1 = .ok vs.toArray w1) ∧ VRels m X w new vs ∧ (∀ w1 : World, (Builtin.lenOf x).run P w1 = .ok n w1) := by
 have hcell : ∀ w1 : World, w1.heap = w.heap → ∀ a, w1.cell? a = w.cell? a := fun w1 hw a => by simp [World.cell?, hw]
 unfold srcCells at hsrc
 split at hsrc
 ·cases hsrc; simp [lenF] at hl; subst hl
  obtain rfl := hr.nils
  exact ⟨[], fun _ _ => by simp [Builtin.firstCells], by simp [VRels], fun _ => by simp [Builtin.lenOf]⟩
 ·rename_i cs len
  split at hsrc
  ·rename_i hcl; cases hsrc; simp [lenF] at hl; subst hl
   simp only [VRel, CV.rep] at hr
   rcases hr with ⟨rfl, rfl, rfl⟩ | ⟨ad, cap, rfl, _, hreps⟩
   ·exact ⟨[], fun _ _ => by simp [Builtin.firstCells], by simp [VRels], fun _ => by simp [Builtin.lenOf]⟩
   ·obtain ⟨vs, h1, h2, h3⟩ := reps_vals hreps
    refine ⟨vs, fun w1 hw => ?_, h2, fun _ => by simp [Builtin.lenOf]⟩
    simp only [Builtin.firstCells]
    rw [← hcl, ← h1]
    exact run_loadCells_list w1 ad vs fun j v hj => by rw [hcell w1 hw]; simpa using h3 j v hj
  ·cases hsrc
 ·rename_i l off len e
  split at hsrc
  ·rename_i he; subst he
   simp only [Option.bind_eq_some_iff] at hsrc
   obtain ⟨cs, hcs, hsrc⟩ := hsrc
   split at hsrc
   ·rename_i hle; cases hsrc; simp [lenF] at hl; subst hl
    simp only [VRel] at hr; obtain ⟨b, cap, hb, rfl, _⟩ := hr
    obtain ⟨b', c, ty, h1, _, h2, h3, h4⟩ := h.row hcs
    rw [hb] at h1; cases h1
    obtain ⟨vs, hlv, hrv, hc⟩ := vals_of_row h2 h4 h3 hle
    refine ⟨vs, fun w1 hw => ?_, hrv, fun _ => by simp [Builtin.lenOf]⟩
    simp only [Builtin.firstCells]
    rw [← hlv]
    exact run_loadCells_list w1 _ vs fun j v hj => by rw [hcell w1 hw]; exact hc j v hj
   ·cases hsrc
  ·cases hsrc
 ·rename_i s
  split at hsrc
  ·cases hsrc; simp [lenF] at hl; subst hl
   obtain rfl := hr.str
   refine ⟨s.data.toList.map fun b => Value.int .u8 b.toNat, fun w1 hw => ?_, VRels.map_bytes _, fun _ => by simp [Builtin.lenOf]⟩
   simp only [Builtin.firstCells, Sem.run_pure]
   congr 1
   have : s.extract 0 s.size = s := by
    apply ByteArray.ext; simp [ByteArray.data_extract]
   rw [this]
   apply Array.ext'
   simp
  ·cases hsrc
 ·rename_i l off len cap0 e
  split at hsrc
  ·rename_i he; subst he
   simp only [Option.bind_eq_some_iff] at hsrc
   obtain ⟨cs, hcs, hsrc⟩ := hsrc
   split at hsrc
   ·rename_i hle; cases hsrc; simp [lenF] at hl; subst hl
    simp only [VRel] at hr; obtain ⟨b, hb, rfl, _⟩ := hr
    obtain ⟨b', c, ty, h1, _, h2, h3, h4⟩ := h.row hcs
    rw [hb] at h1; cases h1
    obtain ⟨vs, hlv, hrv, hc⟩ := vals_of_row h2 h4 h3 hle
    refine ⟨vs, fun w1 hw => ?_, hrv, fun _ => by simp [Builtin.lenOf]⟩
    simp only [Builtin.firstCells]
    rw [← hlv]
    exact run_loadCells_list w1 _ vs fun j v hj => by rw [hcell w1 hw]; exact hc j v hj
   ·cases hsrc
  ·cases hsrc
 ·cases hsrc
theorem Mono.of_heap {w1 : World} (hw : w1.heap = w.heap) : Mono m X w m X w1 :=
 ⟨fun _ _ h => h, fun b hb _ => ⟨by rw [hw], hb⟩, fun b c e h => ⟨c, by rw [hw]; exact h, rfl⟩⟩
theorem HRel.of_heap (h : HRel m X σ w) {w1 : World} (hw : w1.heap = w.heap) : HRel m X σ w1 :=
 ⟨fun b hb => by rw [hw]; exact h.xb b hb, fun l b hl => by rw [hw]; exact h.dom l b hl, h.own, h.inj, fun l o ho => by
  have := h.obj l o ho
  cases hml : m l with
  | none => rw [hml] at this; cases o <;> simp [ORel] at this ⊢
  | some b => rw [hml] at this; exact ORel.mono (Mono.of_heap hw) (by rw [hw]) this⟩
theorem Step.of_heap {n0 : Nat} {w1 : World} (hw : w1.heap = w.heap) (ho : w1.os = w.os) (ht : w1.tape = w.tape) (hp : w1.output = w.output) (hd : w.drawn ≤ w1.drawn) : Step n0 m X w m w1 :=
 ⟨fun _ _ => rfl, fun l b h => .inl ⟨l, h⟩, by rw [hw]; exact Nat.le_refl _, fun _ _ _ => by rw [hw], fun b c e h => ⟨c, by rw [hw]; exact h, rfl⟩, ho, ht, hp, fun _ => hd⟩
theorem growBy_le : ∀ (r new c : Nat), c < new → Builtin.growBy new r c ≤ new + (new + 768) / 4
 | 0, new, c, h => by simp [Builtin.growBy]; omega
 | r + 1, new, c, h => by
  simp only [Builtin.growBy]
  split
  ·omega
  ·by_cases hc : c + (c + 768) / 4 < new
   ·exact growBy_le r new _ hc
   ·have : ∀ r', Builtin.growBy new r' (c + (c + 768) / 4) = c + (c + 768) / 4 := by
     intro r'; cases r' with
     | zero => rfl
     | succ r' => simp only [Builtin.growBy]; rw [if_pos (by omega)]
    rw [this]; omega
theorem nextcap_le (need old : Nat) (h : old < need) : Builtin.nextslicecap need old ≤ 2 * need + 192 := by
 unfold Builtin.nextslicecap
 split
 ·omega
 ·split
  ·omega
  ·have := growBy_le 4 need old h; omega
theorem cap_of_tape (need old : Nat) (e : TypeId) (t : Nat) : need ≤ (Question.appendCap need old e).cut t := by
 simp [Question.cut]
theorem ORel.new' {m' : LM} {w' : World} {b : Nat} {c : Array Value} {t : TypeId} {cs : List AV} {vs rest : List Value} (hb : w'.heap[b]? = some (.cells c t)) (hc : c.toList = vs ++ rest) (hr : VRels m' X w' cs vs) : ORel m' X w' (some b) (.cells cs) := by
 simp only [ORel]
 have hl := hr.length
 have hs : c.size = vs.length + rest.length := by rw [← Array.length_toList, hc, List.length_append]
 exact ⟨c, t, hb, by omega, by rw [hl, hc, List.take_left']; exact hr; rfl⟩
theorem i64max (n : Nat) (h : n ≤ 2 ^ 44) : ¬ ((n : Int) > IntKind.i64.max) := by
 simp [IntKind.max, IntKind.signed, IntKind.bits]; omega
theorem cap_mul {need old bytes : Nat} (h : old < need) (hb : need * bytes ≤ 2 ^ 44) (hb0 : bytes ≤ 2 ^ 24) : ¬ (Builtin.nextslicecap need old * bytes > 2 ^ 48) := by
 have h1 := nextcap_le need old h
 have h2 : Builtin.nextslicecap need old * bytes ≤ (2 * need + 192) * bytes := Nat.mul_le_mul_right _ h1
 have h3 : (2 * need + 192) * bytes = 2 * (need * bytes) + 192 * bytes := by rw [Nat.add_mul, Nat.mul_assoc]
 omega
theorem snd_append_sl {st xt ty e e' : TypeId} {i : TypeInfo} {z : Value} {x y : Value} {avs : List AV} (h : HRel m X σ w) (hu : P.underlying st = some (.slice e)) (hxu : P.underlying xt = some (.slice e')) (hi : P.info? e = some i) (hz : i.zero = some z)
  (hsz : z.cells.size = i.size) (hpos : 0 < i.size) (hby : i.bytes ≤ 2 ^ 24) (ha : VRels m X w avs [x, y]) (hs : f_append i.size i.bytes avs σ = some (r, σ')) : Sound P (do pure (.value (← Builtin.append_ #[st, xt] ty #[x, y]))) m X σ w r σ' := by
 have hzs : ∀ k, (Builtin.zeroCells z.cells k).size = k * i.size := by intro k; simp [Builtin.zeroCells, hsz]
 unfold f_append at hs
 split at hs
 ·rename_i a
  obtain ⟨x', us, hx, hr, hus⟩ := ha.cons
  obtain ⟨y', hy, hra⟩ := hus.one
  subst hy; cases hx
  obtain rfl := hr.nils
  simp only [Option.bind_eq_some_iff] at hs
  obtain ⟨new, hnew, n, hn, hs⟩ := hs
  obtain ⟨vs, hv1, hv2, hv3⟩ := src_sound (P := P) h hra hnew hn
  split at hs
  ·rename_i h0; subst h0; cases hs
   refine sound_val0 h (v := .slice none 0 0) ?_ (by simp [VRel, CV.rep])
   simp only [Builtin.append_, List.getElem?_toArray, List.getElem?_cons_zero, List.getElem?_cons_succ, Sem.run_bind, rUnderlying hu, Result.andThen_ok, rSizeOf hi, rUnderlying hxu, Sem.run_pure, Bool.false_eq_true, if_false, hv3, Nat.zero_add, Nat.le_refl, if_true, Bool.not_false, hv1 w rfl, Sem.run_pure]
  ·rename_i h0
   split at hs
   ·rename_i hc; cases hs
    obtain ⟨hl, hb, hn44, hsc⟩ := hc
    have hlen := hv2.length
    have hd : HRel m X σ w.drew := h.of_heap rfl
    have hv2d : VRels m X w.drew new vs := hv2.mono (Mono.of_heap (w := w) (w1 := w.drew) rfl) _ _
    have hf0 : ∀ w1 : World, (Builtin.firstCells i.size 0 (.slice none 0 0)).run P w1 = .ok #[] w1 := fun _ => by simp [Builtin.firstCells]
    obtain ⟨cap, hcap⟩ : ∃ cap, cap = (Question.appendCap n 0 e).cut (w.tape w.drawn (.appendCap n 0 e)) := ⟨_, rfl⟩
    have hle : n ≤ cap := by rw [hcap]; exact cap_of_tape _ _ _ _
    obtain ⟨h1, h2, h3⟩ := hd.alloc (.cells (#[] ++ vs.toArray ++ Builtin.zeroCells z.cells (cap - n)) e) (.cells new)
     (fun hm => ORel.new' (heap_alloc_new _ _) (vs := vs) (rest := (Builtin.zeroCells z.cells (cap - n)).toList) (by simp) (hv2d.mono hm _ _))
    refine sound_val (v := .slice (some ⟨w.heap.size, 0, none⟩) n cap) ?_ ?_ h1 (Step.trans (Step.of_heap (w1 := w.drew) rfl rfl rfl rfl (Nat.le_succ _)) h2)
    ·simp only [Builtin.append_, List.getElem?_toArray, List.getElem?_cons_zero, List.getElem?_cons_succ, Sem.run_bind, rUnderlying hu, Result.andThen_ok, rSizeOf hi, rUnderlying hxu, Sem.run_pure, Bool.false_eq_true, if_false, hv3, Nat.zero_add, Nat.le_zero, h0, rTypeInfo hi, Bool.not_false, if_true]
     rw [if_neg (fun hh => i64max n hn44 hh.1)]
     simp only [Sem.run_bind, rTypeInfo hi, Result.andThen_ok]
     rw [if_neg (cap_mul (by omega) hb hby)]
     simp only [Sem.run_bind, run_choose, Question.forced, Bool.false_eq_true, if_false, Result.andThen_ok, rTypeInfo hi, run_askRoom, hf0, Sem.run_pure, hv1 w.drew rfl, rZero hi hz, ← hcap, World.drew_eq]
     simp [newRow]
    ·simp only [VRel]
     refine ⟨w.heap.size, cap, LM.put_same _ _ _, rfl, hle, _, e, heap_alloc_new w.drew _, ?_⟩
     have : (cap - n) * i.size + n * i.size = cap * i.size := by rw [← Nat.add_mul]; congr 1; omega
     simp [hzs]; omega
   ·cases hs
 ·rename_i l len e1 a
  obtain ⟨x', us, hx, hr, hus⟩ := ha.cons
  obtain ⟨y', hy, hra⟩ := hus.one
  subst hy; cases hx
  simp only [VRel] at hr; obtain ⟨b, cap, hb, rfl, hlc, c, ty', hb0, hcz⟩ := hr
  simp only [Option.bind_eq_some_iff] at hs
  obtain ⟨cs, hcs, new, hnew, n, hn, hs⟩ := hs
  obtain ⟨vs, hv1, hv2, hv3⟩ := src_sound (P := P) h hra hnew hn
  split at hs
  ·rename_i hc; cases hs
   obtain ⟨rfl, hle, hl, hbb, hn44, hsc⟩ := hc
   have hlen := hv2.length
   obtain ⟨b', c1, ty1, h1, hlobj, h2, h3, h4⟩ := h.row hcs
   rw [hb] at h1; cases h1
   obtain ⟨rfl, rfl⟩ : c = c1 ∧ ty' = ty1 := by rw [h2] at hb0; cases hb0; exact ⟨rfl, rfl⟩
   clear hb0
   have hone := hv2.one_cells hsc
   obtain ⟨old, hol, hor, hoc⟩ := vals_of_row h2 h4 h3 (off := 0) (n := len * i.size) (by omega)
   have holc : old = c.toList.take (len * i.size) := by
    apply List.ext_getElem?
    intro j
    by_cases hj : j < len * i.size
    ·have hjo : j < old.length := by omega
     have := hoc j _ (List.getElem?_eq_getElem hjo)
     rw [addr_add0, cell_row h2] at this
     rw [List.getElem?_eq_getElem hjo, List.getElem?_take, if_pos hj]
     simpa using this.symm
    ·rw [List.getElem?_eq_none (by omega), List.getElem?_eq_none (by simp; omega)]
   by_cases hcap : len + n ≤ cap
   · -- IN PLACE
    have hsize : 0 + len * i.size + vs.length ≤ c.size := by
     have : (len + n) * i.size ≤ cap * i.size := Nat.mul_le_mul_right _ hcap
     rw [Nat.add_mul] at this; omega
    have hrun := run_storeCells_at P b (0 + len * i.size) ty' vs 0 c w h2 (by omega) hone
    simp only [Nat.add_zero] at hrun
    obtain ⟨c', hc'⟩ : ∃ c', c' = (c.toList.take (0 + len * i.size) ++ vs ++ c.toList.drop (0 + len * i.size + vs.length)).toArray := ⟨_, rfl⟩
    rw [← hc'] at hrun
    have hcs' : c'.size = c.size := by rw [hc']; simp; omega
    have ht := Turned.row w c' h2 hcs'
    obtain ⟨g1, g2, g3⟩ := h.turn hb hlobj trivial ht (o' := .dead) (fun _ => trivial)
    have hdead : ∀ x o, m x = some b → (σ.set l .dead)[x]? = some o → ¬ o.live := by
     intro x o hx ho hv
     rw [List.getElem?_set] at ho
     split at ho
     ·split at ho
      ·cases ho; exact hv
      ·cases ho
     ·rename_i hne; exact hne (h.inj2 l x b _ o hb hx hlobj ho trivial hv)
    obtain ⟨k1, k2, k3⟩ := g1.adopt (ao := .cells (cs.take (len * i.size) ++ new)) hb (h.own l b _ hb hlobj trivial) hdead (fun hm => by
     refine ORel.new' (setRow_heap w b c c' ty' (0, 0) h2) (vs := old ++ vs) (rest := c.toList.drop (0 + len * i.size + vs.length)) (by rw [hc', holc]; simp) ?_
     refine VRels.append (((?_ : VRels m X w (cs.take (len * i.size)) old).mono g3 _ _).mono hm _ _) ((hv2.mono g3 _ _).mono hm _ _)
     simpa using hor)
    simp only [List.length_set] at k1 k2 k3
    refine sound_val (v := .slice (some ⟨b, 0, none⟩) (len + n) cap) ?_ ?_ k1 (Step.trans g2 k2)
    ·simp only [Builtin.append_, List.getElem?_toArray, List.getElem?_cons_zero, List.getElem?_cons_succ, Sem.run_bind, rUnderlying hu, Result.andThen_ok, rSizeOf hi, rUnderlying hxu, Sem.run_pure, Bool.false_eq_true, if_false, hv3, hcap, if_true, Bool.not_false, hv1 w rfl, Sem.run_pure, addr_add0, hrun]
    ·simp only [VRel]
     exact ⟨b, cap, LM.put_same _ _ _, rfl, hcap, c', ty', setRow_heap w b c c' ty' (0, 0) h2, by rw [hcs']; omega⟩
   · -- A NEW ROW
    have hd : HRel m X (σ.set l .dead) w.drew := (h.kill l).of_heap rfl
    have hv2d : VRels m X w.drew (cs.take (len * i.size) ++ new) (old ++ vs) := (VRels.append (by simpa using hor) hv2 : VRels m X w _ _).mono (Mono.of_heap (w := w) (w1 := w.drew) rfl) _ _
    obtain ⟨nc, hnc⟩ : ∃ nc, nc = (Question.appendCap (len + n) cap e).cut (w.tape w.drawn (.appendCap (len + n) cap e)) := ⟨_, rfl⟩
    have hle' : len + n ≤ nc := by rw [hnc]; exact cap_of_tape _ _ _ _
    obtain ⟨h1, h2', h3'⟩ := hd.alloc (.cells (old.toArray ++ vs.toArray ++ Builtin.zeroCells z.cells (nc - (len + n))) e) (.cells (cs.take (len * i.size) ++ new))
     (fun hm => ORel.new' (heap_alloc_new _ _) (vs := old ++ vs) (rest := (Builtin.zeroCells z.cells (nc - (len + n))).toList) (by simp) (hv2d.mono hm _ _))
    simp only [List.length_set] at h1 h2' h3'
    refine sound_val (v := .slice (some ⟨w.heap.size, 0, none⟩) (len + n) nc) ?_ ?_ h1 (Step.trans (Step.of_heap (w1 := w.drew) rfl rfl rfl rfl (Nat.le_succ _)) h2')
    ·have hfc : ∀ w1 : World, w1.heap = w.heap → (Builtin.firstCells i.size len (.slice (some ⟨b, 0, none⟩) len cap)).run P w1 = .ok old.toArray w1 := by
      intro w1 hw
      simp only [Builtin.firstCells]
      rw [← hol]
      exact run_loadCells_list w1 _ old fun j v hj => by
       have := hoc j v hj
       simpa [World.cell?, hw] using this
     simp only [Builtin.append_, List.getElem?_toArray, List.getElem?_cons_zero, List.getElem?_cons_succ, Sem.run_bind, rUnderlying hu, Result.andThen_ok, rSizeOf hi, rUnderlying hxu, Sem.run_pure, Bool.false_eq_true, if_false, hv3, hcap, rTypeInfo hi, Bool.not_false, if_true]
     rw [if_neg (fun hh => i64max (len + n) hn44 hh.1)]
     simp only [Sem.run_bind, rTypeInfo hi, Result.andThen_ok]
     rw [if_neg (cap_mul (by omega) hbb hby)]
     simp only [Sem.run_bind, run_choose, Question.forced, Bool.false_eq_true, if_false, Result.andThen_ok, rTypeInfo hi, run_askRoom, hfc w.drew rfl, hv1 w.drew rfl, rZero hi hz, ← hnc, World.drew_eq]
     simp [newRow]
    ·simp only [VRel]
     refine ⟨w.heap.size, nc, LM.put_same _ _ _, rfl, hle', _, e, heap_alloc_new w.drew _, ?_⟩
     have e1 : (nc - (len + n)) * i.size + (len + n) * i.size = nc * i.size := by rw [← Nat.add_mul]; congr 1; omega
     rw [Nat.add_mul] at e1
     simp [hzs, hol]; omega
  ·cases hs
 ·rename_i l off len cap e1 a
  obtain ⟨x', us, hx, hr, hus⟩ := ha.cons
  obtain ⟨y', hy, hra⟩ := hus.one
  subst hy; cases hx
  simp only [VRel] at hr; obtain ⟨b, hb, rfl, hlc, c, ty', hb0, hcz⟩ := hr
  simp only [Option.bind_eq_some_iff] at hs
  obtain ⟨cs, hcs, new, hnew, n, hn, hs⟩ := hs
  obtain ⟨vs, hv1, hv2, hv3⟩ := src_sound (P := P) h hra hnew hn
  obtain ⟨b', c1, ty1, h1, hlobj, h2, h3, h4⟩ := h.row hcs
  rw [hb] at h1; cases h1
  obtain ⟨rfl, rfl⟩ : c = c1 ∧ ty' = ty1 := by rw [h2] at hb0; cases hb0; exact ⟨rfl, rfl⟩
  clear hb0
  have hlen := hv2.length
  split at hs
  ·rename_i hcap
   split at hs
   ·rename_i hc; cases hs
    obtain ⟨rfl, hle, hl, hsc⟩ := hc
    have hone := hv2.one_cells hsc
    rw [Nat.add_mul] at hle
    have hfit : off + len * i.size + vs.length ≤ c.size := by omega
    have hrun := run_storeCells_at P b (off + len * i.size) ty' vs 0 c w h2 (by simpa using hfit) hone
    simp only [Nat.add_zero] at hrun
    rw [← setRange_eq _ _ _ (by simpa using hfit)] at hrun
    have ht : Turned w (w.setRow b (setRange c.toList (off + len * i.size) vs).toArray) b := Turned.row w _ h2 (by simp [setRange_length])
    obtain ⟨g1, g2, g3⟩ := h.turn hb hlobj trivial ht (o' := .cells (setRange cs (off + len * i.size) new)) (fun hm => by
     simp only [ORel]
     refine ⟨_, ty', setRow_heap w b c _ ty' (0, 0) h2, by simp [setRange_length]; exact h3, ?_⟩
     rw [setRange_length]
     simp only [List.toList_toArray, setRange_take]
     exact ((h4.setRange _ hv2).mono hm _ _))
    refine sound_val (v := .slice (some ⟨b, off, none⟩) (len + n) cap) ?_ ?_ g1 g2
    ·simp only [Builtin.append_, List.getElem?_toArray, List.getElem?_cons_zero, List.getElem?_cons_succ, Sem.run_bind, rUnderlying hu, Result.andThen_ok, rSizeOf hi, rUnderlying hxu, Sem.run_pure, Bool.false_eq_true, if_false, hv3, hcap, if_true, Bool.not_false, hv1 w rfl, Sem.run_pure, addr_add0, hrun]
    ·simp only [VRel]
     exact ⟨b, hb, rfl, hcap, _, ty', setRow_heap w b c _ ty' (0, 0) h2, by simp [setRange_length]; omega⟩
   ·cases hs
  ·rename_i hcap
   split at hs
   ·rename_i hc; cases hs
    obtain ⟨rfl, hle, hl, hbb, hn44, hsc⟩ := hc
    obtain ⟨old, hol, hor, hoc⟩ := vals_of_row h2 h4 h3 (off := off) (n := len * i.size) (by omega)
    have hd : HRel m X σ w.drew := h.of_heap rfl
    have hv2d : VRels m X w.drew ((cs.drop off).take (len * i.size) ++ new) (old ++ vs) := (VRels.append hor hv2 : VRels m X w _ _).mono (Mono.of_heap (w := w) (w1 := w.drew) rfl) _ _
    obtain ⟨nc, hnc⟩ : ∃ nc, nc = (Question.appendCap (len + n) cap e).cut (w.tape w.drawn (.appendCap (len + n) cap e)) := ⟨_, rfl⟩
    have hle' : len + n ≤ nc := by rw [hnc]; exact cap_of_tape _ _ _ _
    obtain ⟨h1, h2', h3'⟩ := hd.alloc (.cells (old.toArray ++ vs.toArray ++ Builtin.zeroCells z.cells (nc - (len + n))) e) (.cells ((cs.drop off).take (len * i.size) ++ new))
     (fun hm => ORel.new' (heap_alloc_new _ _) (vs := old ++ vs) (rest := (Builtin.zeroCells z.cells (nc - (len + n))).toList) (by simp) (hv2d.mono hm _ _))
    refine sound_val (v := .slice (some ⟨w.heap.size, 0, none⟩) (len + n) nc) ?_ ?_ h1 (Step.trans (Step.of_heap (w1 := w.drew) rfl rfl rfl rfl (Nat.le_succ _)) h2')
    ·have hfc : ∀ w1 : World, w1.heap = w.heap → (Builtin.firstCells i.size len (.slice (some ⟨b, off, none⟩) len cap)).run P w1 = .ok old.toArray w1 := by
      intro w1 hw
      simp only [Builtin.firstCells]
      rw [← hol]
      exact run_loadCells_list w1 _ old fun j v hj => by
       have := hoc j v hj
       simpa [World.cell?, hw] using this
     simp only [Builtin.append_, List.getElem?_toArray, List.getElem?_cons_zero, List.getElem?_cons_succ, Sem.run_bind, rUnderlying hu, Result.andThen_ok, rSizeOf hi, rUnderlying hxu, Sem.run_pure, Bool.false_eq_true, if_false, hv3, hcap, rTypeInfo hi, Bool.not_false, if_true]
     rw [if_neg (fun hh => i64max (len + n) hn44 hh.1)]
     simp only [Sem.run_bind, rTypeInfo hi, Result.andThen_ok]
     rw [if_neg (cap_mul (by omega) hbb hby)]
     simp only [Sem.run_bind, run_choose, Question.forced, Bool.false_eq_true, if_false, Result.andThen_ok, rTypeInfo hi, run_askRoom, hfc w.drew rfl, hv1 w.drew rfl, rZero hi hz, ← hnc, World.drew_eq]
     simp [newRow]
    ·simp only [VRel]
     refine ⟨w.heap.size, nc, LM.put_same _ _ _, rfl, hle', _, e, heap_alloc_new w.drew _, ?_⟩
     have e1 : (nc - (len + n)) * i.size + (len + n) * i.size = nc * i.size := by rw [← Nat.add_mul]; congr 1; omega
     rw [Nat.add_mul] at e1
     simp [hzs, hol]; omega
   ·cases hs
 ·cases hs
theorem snd_append_str {st xt ty e : TypeId} {i : TypeInfo} {z : Value} {x y : Value} {avs : List AV} (h : HRel m X σ w) (hu : P.underlying st = some (.slice e)) (hxu : P.underlying xt = some .string) (hi : P.info? e = some i) (hz : i.zero = some z)
  (hsz : z.cells.size = i.size) (hpos : 0 < i.size) (hby : i.bytes ≤ 2 ^ 24) (ha : VRels m X w avs [x, y]) (hs : f_append i.size i.bytes avs σ = some (r, σ')) : Sound P (do pure (.value (← Builtin.append_ #[st, xt] ty #[x, y]))) m X σ w r σ' := by
 have hzs : ∀ k, (Builtin.zeroCells z.cells k).size = k * i.size := by intro k; simp [Builtin.zeroCells, hsz]
 unfold f_append at hs
 split at hs
 ·rename_i a
  obtain ⟨x', us, hx, hr, hus⟩ := ha.cons
  obtain ⟨y', hy, hra⟩ := hus.one
  subst hy; cases hx
  obtain rfl := hr.nils
  simp only [Option.bind_eq_some_iff] at hs
  obtain ⟨new, hnew, n, hn, hs⟩ := hs
  obtain ⟨vs, hv1, hv2, hv3⟩ := src_sound (P := P) h hra hnew hn
  split at hs
  ·rename_i h0; subst h0; cases hs
   refine sound_val0 h (v := .slice none 0 0) ?_ (by simp [VRel, CV.rep])
   simp only [Builtin.append_, List.getElem?_toArray, List.getElem?_cons_zero, List.getElem?_cons_succ, Sem.run_bind, rUnderlying hu, Result.andThen_ok, rSizeOf hi, rUnderlying hxu, Sem.run_pure, Bool.false_eq_true, if_false, hv3, Nat.zero_add, Nat.le_refl, if_true, Bool.not_false, hv1 w rfl, Sem.run_pure]
  ·rename_i h0
   split at hs
   ·rename_i hc; cases hs
    obtain ⟨hl, hb, hn44, hsc⟩ := hc
    have hlen := hv2.length
    have hd : HRel m X σ w.drew := h.of_heap rfl
    have hv2d : VRels m X w.drew new vs := hv2.mono (Mono.of_heap (w := w) (w1 := w.drew) rfl) _ _
    have hf0 : ∀ w1 : World, (Builtin.firstCells i.size 0 (.slice none 0 0)).run P w1 = .ok #[] w1 := fun _ => by simp [Builtin.firstCells]
    obtain ⟨cap, hcap⟩ : ∃ cap, cap = (Question.appendCap n 0 e).cut (w.tape w.drawn (.appendCap n 0 e)) := ⟨_, rfl⟩
    have hle : n ≤ cap := by rw [hcap]; exact cap_of_tape _ _ _ _
    obtain ⟨h1, h2, h3⟩ := hd.alloc (.cells (#[] ++ vs.toArray ++ Builtin.zeroCells z.cells (cap - n)) e) (.cells new)
     (fun hm => ORel.new' (heap_alloc_new _ _) (vs := vs) (rest := (Builtin.zeroCells z.cells (cap - n)).toList) (by simp) (hv2d.mono hm _ _))
    refine sound_val (v := .slice (some ⟨w.heap.size, 0, none⟩) n cap) ?_ ?_ h1 (Step.trans (Step.of_heap (w1 := w.drew) rfl rfl rfl rfl (Nat.le_succ _)) h2)
    ·simp only [Builtin.append_, List.getElem?_toArray, List.getElem?_cons_zero, List.getElem?_cons_succ, Sem.run_bind, rUnderlying hu, Result.andThen_ok, rSizeOf hi, rUnderlying hxu, Sem.run_pure, Bool.false_eq_true, if_false, hv3, Nat.zero_add, Nat.le_zero, h0, rTypeInfo hi, Bool.not_false, if_true]
     rw [if_neg (fun hh => i64max n hn44 hh.1)]
     simp only [Sem.run_bind, rTypeInfo hi, Result.andThen_ok]
     rw [if_neg (cap_mul (by omega) hb hby)]
     simp only [Sem.run_bind, run_choose, Question.forced, Bool.false_eq_true, if_false, Result.andThen_ok, rTypeInfo hi, run_askRoom, hf0, Sem.run_pure, hv1 w.drew rfl, rZero hi hz, ← hcap, World.drew_eq]
     simp [newRow]
    ·simp only [VRel]
     refine ⟨w.heap.size, cap, LM.put_same _ _ _, rfl, hle, _, e, heap_alloc_new w.drew _, ?_⟩
     have : (cap - n) * i.size + n * i.size = cap * i.size := by rw [← Nat.add_mul]; congr 1; omega
     simp [hzs]; omega
   ·cases hs
 ·rename_i l len e1 a
  obtain ⟨x', us, hx, hr, hus⟩ := ha.cons
  obtain ⟨y', hy, hra⟩ := hus.one
  subst hy; cases hx
  simp only [VRel] at hr; obtain ⟨b, cap, hb, rfl, hlc, c, ty', hb0, hcz⟩ := hr
  simp only [Option.bind_eq_some_iff] at hs
  obtain ⟨cs, hcs, new, hnew, n, hn, hs⟩ := hs
  obtain ⟨vs, hv1, hv2, hv3⟩ := src_sound (P := P) h hra hnew hn
  split at hs
  ·rename_i hc; cases hs
   obtain ⟨rfl, hle, hl, hbb, hn44, hsc⟩ := hc
   have hlen := hv2.length
   obtain ⟨b', c1, ty1, h1, hlobj, h2, h3, h4⟩ := h.row hcs
   rw [hb] at h1; cases h1
   obtain ⟨rfl, rfl⟩ : c = c1 ∧ ty' = ty1 := by rw [h2] at hb0; cases hb0; exact ⟨rfl, rfl⟩
   clear hb0
   have hone := hv2.one_cells hsc
   obtain ⟨old, hol, hor, hoc⟩ := vals_of_row h2 h4 h3 (off := 0) (n := len * i.size) (by omega)
   have holc : old = c.toList.take (len * i.size) := by
    apply List.ext_getElem?
    intro j
    by_cases hj : j < len * i.size
    ·have hjo : j < old.length := by omega
     have := hoc j _ (List.getElem?_eq_getElem hjo)
     rw [addr_add0, cell_row h2] at this
     rw [List.getElem?_eq_getElem hjo, List.getElem?_take, if_pos hj]
     simpa using this.symm
    ·rw [List.getElem?_eq_none (by omega), List.getElem?_eq_none (by simp; omega)]
   by_cases hcap : len + n ≤ cap
   · -- IN PLACE
    have hsize : 0 + len * i.size + vs.length ≤ c.size := by
     have : (len + n) * i.size ≤ cap * i.size := Nat.mul_le_mul_right _ hcap
     rw [Nat.add_mul] at this; omega
    have hrun := run_storeCells_at P b (0 + len * i.size) ty' vs 0 c w h2 (by omega) hone
    simp only [Nat.add_zero] at hrun
    obtain ⟨c', hc'⟩ : ∃ c', c' = (c.toList.take (0 + len * i.size) ++ vs ++ c.toList.drop (0 + len * i.size + vs.length)).toArray := ⟨_, rfl⟩
    rw [← hc'] at hrun
    have hcs' : c'.size = c.size := by rw [hc']; simp; omega
    have ht := Turned.row w c' h2 hcs'
    obtain ⟨g1, g2, g3⟩ := h.turn hb hlobj trivial ht (o' := .dead) (fun _ => trivial)
    have hdead : ∀ x o, m x = some b → (σ.set l .dead)[x]? = some o → ¬ o.live := by
     intro x o hx ho hv
     rw [List.getElem?_set] at ho
     split at ho
     ·split at ho
      ·cases ho; exact hv
      ·cases ho
     ·rename_i hne; exact hne (h.inj2 l x b _ o hb hx hlobj ho trivial hv)
    obtain ⟨k1, k2, k3⟩ := g1.adopt (ao := .cells (cs.take (len * i.size) ++ new)) hb (h.own l b _ hb hlobj trivial) hdead (fun hm => by
     refine ORel.new' (setRow_heap w b c c' ty' (0, 0) h2) (vs := old ++ vs) (rest := c.toList.drop (0 + len * i.size + vs.length)) (by rw [hc', holc]; simp) ?_
     refine VRels.append (((?_ : VRels m X w (cs.take (len * i.size)) old).mono g3 _ _).mono hm _ _) ((hv2.mono g3 _ _).mono hm _ _)
     simpa using hor)
    simp only [List.length_set] at k1 k2 k3
    refine sound_val (v := .slice (some ⟨b, 0, none⟩) (len + n) cap) ?_ ?_ k1 (Step.trans g2 k2)
    ·simp only [Builtin.append_, List.getElem?_toArray, List.getElem?_cons_zero, List.getElem?_cons_succ, Sem.run_bind, rUnderlying hu, Result.andThen_ok, rSizeOf hi, rUnderlying hxu, Sem.run_pure, Bool.false_eq_true, if_false, hv3, hcap, if_true, Bool.not_false, hv1 w rfl, Sem.run_pure, addr_add0, hrun]
    ·simp only [VRel]
     exact ⟨b, cap, LM.put_same _ _ _, rfl, hcap, c', ty', setRow_heap w b c c' ty' (0, 0) h2, by rw [hcs']; omega⟩
   · -- A NEW ROW
    have hd : HRel m X (σ.set l .dead) w.drew := (h.kill l).of_heap rfl
    have hv2d : VRels m X w.drew (cs.take (len * i.size) ++ new) (old ++ vs) := (VRels.append (by simpa using hor) hv2 : VRels m X w _ _).mono (Mono.of_heap (w := w) (w1 := w.drew) rfl) _ _
    obtain ⟨nc, hnc⟩ : ∃ nc, nc = (Question.appendCap (len + n) cap e).cut (w.tape w.drawn (.appendCap (len + n) cap e)) := ⟨_, rfl⟩
    have hle' : len + n ≤ nc := by rw [hnc]; exact cap_of_tape _ _ _ _
    obtain ⟨h1, h2', h3'⟩ := hd.alloc (.cells (old.toArray ++ vs.toArray ++ Builtin.zeroCells z.cells (nc - (len + n))) e) (.cells (cs.take (len * i.size) ++ new))
     (fun hm => ORel.new' (heap_alloc_new _ _) (vs := old ++ vs) (rest := (Builtin.zeroCells z.cells (nc - (len + n))).toList) (by simp) (hv2d.mono hm _ _))
    simp only [List.length_set] at h1 h2' h3'
    refine sound_val (v := .slice (some ⟨w.heap.size, 0, none⟩) (len + n) nc) ?_ ?_ h1 (Step.trans (Step.of_heap (w1 := w.drew) rfl rfl rfl rfl (Nat.le_succ _)) h2')
    ·have hfc : ∀ w1 : World, w1.heap = w.heap → (Builtin.firstCells i.size len (.slice (some ⟨b, 0, none⟩) len cap)).run P w1 = .ok old.toArray w1 := by
      intro w1 hw
      simp only [Builtin.firstCells]
      rw [← hol]
      exact run_loadCells_list w1 _ old fun j v hj => by
       have := hoc j v hj
       simpa [World.cell?, hw] using this
     simp only [Builtin.append_, List.getElem?_toArray, List.getElem?_cons_zero, List.getElem?_cons_succ, Sem.run_bind, rUnderlying hu, Result.andThen_ok, rSizeOf hi, rUnderlying hxu, Sem.run_pure, Bool.false_eq_true, if_false, hv3, hcap, rTypeInfo hi, Bool.not_false, if_true]
     rw [if_neg (fun hh => i64max (len + n) hn44 hh.1)]
     simp only [Sem.run_bind, rTypeInfo hi, Result.andThen_ok]
     rw [if_neg (cap_mul (by omega) hbb hby)]
     simp only [Sem.run_bind, run_choose, Question.forced, Bool.false_eq_true, if_false, Result.andThen_ok, rTypeInfo hi, run_askRoom, hfc w.drew rfl, hv1 w.drew rfl, rZero hi hz, ← hnc, World.drew_eq]
     simp [newRow]
    ·simp only [VRel]
     refine ⟨w.heap.size, nc, LM.put_same _ _ _, rfl, hle', _, e, heap_alloc_new w.drew _, ?_⟩
     have e1 : (nc - (len + n)) * i.size + (len + n) * i.size = nc * i.size := by rw [← Nat.add_mul]; congr 1; omega
     rw [Nat.add_mul] at e1
     simp [hzs, hol]; omega
  ·cases hs
 ·rename_i l off len cap e1 a
  obtain ⟨x', us, hx, hr, hus⟩ := ha.cons
  obtain ⟨y', hy, hra⟩ := hus.one
  subst hy; cases hx
  simp only [VRel] at hr; obtain ⟨b, hb, rfl, hlc, c, ty', hb0, hcz⟩ := hr
  simp only [Option.bind_eq_some_iff] at hs
  obtain ⟨cs, hcs, new, hnew, n, hn, hs⟩ := hs
  obtain ⟨vs, hv1, hv2, hv3⟩ := src_sound (P := P) h hra hnew hn
  obtain ⟨b', c1, ty1, h1, hlobj, h2, h3, h4⟩ := h.row hcs
  rw [hb] at h1; cases h1
  obtain ⟨rfl, rfl⟩ : c = c1 ∧ ty' = ty1 := by rw [h2] at hb0; cases hb0; exact ⟨rfl, rfl⟩
  clear hb0
  have hlen := hv2.length
  split at hs
  ·rename_i hcap
   split at hs
   ·rename_i hc; cases hs
    obtain ⟨rfl, hle, hl, hsc⟩ := hc
    have hone := hv2.one_cells hsc
    rw [Nat.add_mul] at hle
    have hfit : off + len * i.size + vs.length ≤ c.size := by omega
    have hrun := run_storeCells_at P b (off + len * i.size) ty' vs 0 c w h2 (by simpa using hfit) hone
    simp only [Nat.add_zero] at hrun
    rw [← setRange_eq _ _ _ (by simpa using hfit)] at hrun
    have ht : Turned w (w.setRow b (setRange c.toList (off + len * i.size) vs).toArray) b := Turned.row w _ h2 (by simp [setRange_length])
    obtain ⟨g1, g2, g3⟩ := h.turn hb hlobj trivial ht (o' := .cells (setRange cs (off + len * i.size) new)) (fun hm => by
     simp only [ORel]
     refine ⟨_, ty', setRow_heap w b c _ ty' (0, 0) h2, by simp [setRange_length]; exact h3, ?_⟩
     rw [setRange_length]
     simp only [List.toList_toArray, setRange_take]
     exact ((h4.setRange _ hv2).mono hm _ _))
    refine sound_val (v := .slice (some ⟨b, off, none⟩) (len + n) cap) ?_ ?_ g1 g2
    ·simp only [Builtin.append_, List.getElem?_toArray, List.getElem?_cons_zero, List.getElem?_cons_succ, Sem.run_bind, rUnderlying hu, Result.andThen_ok, rSizeOf hi, rUnderlying hxu, Sem.run_pure, Bool.false_eq_true, if_false, hv3, hcap, if_true, Bool.not_false, hv1 w rfl, Sem.run_pure, addr_add0, hrun]
    ·simp only [VRel]
     exact ⟨b, hb, rfl, hcap, _, ty', setRow_heap w b c _ ty' (0, 0) h2, by simp [setRange_length]; omega⟩
   ·cases hs
  ·rename_i hcap
   split at hs
   ·rename_i hc; cases hs
    obtain ⟨rfl, hle, hl, hbb, hn44, hsc⟩ := hc
    obtain ⟨old, hol, hor, hoc⟩ := vals_of_row h2 h4 h3 (off := off) (n := len * i.size) (by omega)
    have hd : HRel m X σ w.drew := h.of_heap rfl
    have hv2d : VRels m X w.drew ((cs.drop off).take (len * i.size) ++ new) (old ++ vs) := (VRels.append hor hv2 : VRels m X w _ _).mono (Mono.of_heap (w := w) (w1 := w.drew) rfl) _ _
    obtain ⟨nc, hnc⟩ : ∃ nc, nc = (Question.appendCap (len + n) cap e).cut (w.tape w.drawn (.appendCap (len + n) cap e)) := ⟨_, rfl⟩
    have hle' : len + n ≤ nc := by rw [hnc]; exact cap_of_tape _ _ _ _
    obtain ⟨h1, h2', h3'⟩ := hd.alloc (.cells (old.toArray ++ vs.toArray ++ Builtin.zeroCells z.cells (nc - (len + n))) e) (.cells ((cs.drop off).take (len * i.size) ++ new))
     (fun hm => ORel.new' (heap_alloc_new _ _) (vs := old ++ vs) (rest := (Builtin.zeroCells z.cells (nc - (len + n))).toList) (by simp) (hv2d.mono hm _ _))
    refine sound_val (v := .slice (some ⟨w.heap.size, 0, none⟩) (len + n) nc) ?_ ?_ h1 (Step.trans (Step.of_heap (w1 := w.drew) rfl rfl rfl rfl (Nat.le_succ _)) h2')
    ·have hfc : ∀ w1 : World, w1.heap = w.heap → (Builtin.firstCells i.size len (.slice (some ⟨b, off, none⟩) len cap)).run P w1 = .ok old.toArray w1 := by
      intro w1 hw
      simp only [Builtin.firstCells]
      rw [← hol]
      exact run_loadCells_list w1 _ old fun j v hj => by
       have := hoc j v hj
       simpa [World.cell?, hw] using this
     simp only [Builtin.append_, List.getElem?_toArray, List.getElem?_cons_zero, List.getElem?_cons_succ, Sem.run_bind, rUnderlying hu, Result.andThen_ok, rSizeOf hi, rUnderlying hxu, Sem.run_pure, Bool.false_eq_true, if_false, hv3, hcap, rTypeInfo hi, Bool.not_false, if_true]
     rw [if_neg (fun hh => i64max (len + n) hn44 hh.1)]
     simp only [Sem.run_bind, rTypeInfo hi, Result.andThen_ok]
     rw [if_neg (cap_mul (by omega) hbb hby)]
     simp only [Sem.run_bind, run_choose, Question.forced, Bool.false_eq_true, if_false, Result.andThen_ok, rTypeInfo hi, run_askRoom, hfc w.drew rfl, hv1 w.drew rfl, rZero hi hz, ← hnc, World.drew_eq]
     simp [newRow]
    ·simp only [VRel]
     refine ⟨w.heap.size, nc, LM.put_same _ _ _, rfl, hle', _, e, heap_alloc_new w.drew _, ?_⟩
     have e1 : (nc - (len + n)) * i.size + (len + n) * i.size = nc * i.size := by rw [← Nat.add_mul]; congr 1; omega
     rw [Nat.add_mul] at e1
     simp [hzs, hol]; omega
   ·cases hs
 ·cases hs
theorem snd_appendz {st xt ty e : TypeId} {kn : IntKind} {i : TypeInfo} {z : Value} {x y : Value} {avs : List AV} (h : HRel m X σ w) (hu : P.underlying st = some (.slice e)) (hxu : P.underlying xt = some (.int kn)) (hi : P.info? e = some i) (hz : i.zero = some z)
  (hsz : z.cells.size = i.size) (hpos : 0 < i.size) (hby : i.bytes ≤ 2 ^ 24) (ha : VRels m X w avs [x, y]) (hs : f_appendz i.size i.bytes (z.cells.toList.map ofScalar) avs σ = some (r, σ')) : Sound P (do pure (.value (← Builtin.append_ #[st, xt] ty #[x, y]))) m X σ w r σ' := by
 have hzs : ∀ k, (Builtin.zeroCells z.cells k).size = k * i.size := by intro k; simp [Builtin.zeroCells, hsz]
 unfold f_appendz at hs
 split at hs
 ·rename_i l off len cap e1 kq nn
  obtain ⟨x', us, hx, hr, hus⟩ := ha.cons
  obtain ⟨y', hy, hra⟩ := hus.one
  subst hy; cases hx
  obtain rfl := hra.int
  simp only [VRel] at hr; obtain ⟨b, hb, rfl, hlc, c, ty', hb0, hcz⟩ := hr
  simp only [Option.bind_eq_some_iff] at hs
  obtain ⟨cs, hcs, hs⟩ := hs
  split at hs
  ·rename_i hc; cases hs
   obtain ⟨hn0, hcap, rfl, hle, hbb, hn44⟩ := hc
   obtain ⟨n, rfl⟩ : ∃ n : Nat, nn = n := ⟨nn.toNat, by omega⟩
   simp only [Int.toNat_natCast] at hcap hbb hn44 ⊢
   obtain ⟨b', c1, ty1, h1, hlobj, h2, h3, h4⟩ := h.row hcs
   rw [hb] at h1; cases h1
   obtain ⟨old, hol, hor, hoc⟩ := vals_of_row h2 h4 h3 (off := off) (n := len * i.size) (by omega)
   have hd : HRel m X σ w.drew := h.of_heap rfl
   have hz0 : VRels m X w (zcells n (z.cells.toList.map ofScalar)) (Builtin.zeroCells z.cells n).toList := by
    have := zcells_rel (m := m) (X := X) (w := w) n z.cells
    simpa [Builtin.zeroCells] using this
   have hv2d : VRels m X w.drew ((cs.drop off).take (len * i.size) ++ zcells n (z.cells.toList.map ofScalar)) (old ++ (Builtin.zeroCells z.cells n).toList) := (VRels.append hor hz0 : VRels m X w _ _).mono (Mono.of_heap (w := w) (w1 := w.drew) rfl) _ _
   have hle' : len + n ≤ Go.grownCap w (len + n) cap e := cap_of_tape _ _ _ _
   generalize hnc : Go.grownCap w (len + n) cap e = nc at hle'
   obtain ⟨h1, h2', h3'⟩ := hd.alloc (.cells (old.toArray ++ Builtin.zeroCells z.cells n ++ Builtin.zeroCells z.cells (nc - (len + n))) e) (.cells ((cs.drop off).take (len * i.size) ++ zcells n (z.cells.toList.map ofScalar)))
    (fun hm => ORel.new' (heap_alloc_new _ _) (vs := old ++ (Builtin.zeroCells z.cells n).toList) (rest := (Builtin.zeroCells z.cells (nc - (len + n))).toList) (by simp) (hv2d.mono hm _ _))
   have hfc : (Builtin.firstCells i.size len (.slice (some ⟨b, off, none⟩) len cap)).run P w.drew = .ok old.toArray w.drew := by
    simp only [Builtin.firstCells]
    rw [← hol]
    exact run_loadCells_list w.drew _ old fun j v hj => by
     have := hoc j v hj
     simpa [World.cell?, show w.drew.heap = w.heap from rfl] using this
   have e44 : (2 : Nat) ^ 44 = 17592186044416 := by decide
   have hnb : n * i.bytes ≤ (len + n) * i.bytes := Nat.mul_le_mul_right _ (by omega)
   have hcm := cap_mul (need := len + n) (old := cap) (bytes := i.bytes) (by omega) hbb hby
   have e48 : (2 : Nat) ^ 48 = 281474976710656 := by decide
   have hrun := Lib.run_append_grow_zeros w st xt ty e i z kq kn hu hxu hi hz (some ⟨b, off, none⟩) len cap old hfc n (by omega) hpos (by omega) (by omega) (by omega) (by omega)
   rw [hnc] at hrun
   refine sound_val (v := .slice (some ⟨w.heap.size, 0, none⟩) (len + n) nc) hrun ?_ h1 (Step.trans (Step.of_heap (w1 := w.drew) rfl rfl rfl rfl (Nat.le_succ _)) h2')
   simp only [VRel]
   refine ⟨w.heap.size, nc, LM.put_same _ _ _, rfl, hle', _, e, heap_alloc_new w.drew _, ?_⟩
   have e1 : (nc - (len + n)) * i.size + (len + n) * i.size = nc * i.size := by rw [← Nat.add_mul]; congr 1; omega
   rw [Nat.add_mul] at e1
   simp [hzs, hol]; omega
  ·cases hs
 ·cases hs
theorem snd_build {t : TypeId} {i : TypeInfo} {z : Value} {place : Nat → Option (Nat × Nat)} {ps : List (Nat × Value)} {pl : List (Nat × Nat)} {avs : List AV} (h : HRel m X σ w) (hi : P.info? t = some i) (hz : i.zero = some z)
  (hrun : ∀ cells : Array Value, Instr.fill place z.cells ps = some cells → (Instr.build t ps.toArray).run P w = .ok (.agg cells) w)
  (hpl : ps.mapM (fun p => place p.1) = some pl) (ha : VRels m X w avs (ps.map (·.2)))
  (hs : f_build (cellsOf (ofConst z)) pl avs σ = some (r, σ')) : Sound P (do pure (.value (← Instr.build t ps.toArray))) m X σ w r σ' := by
 unfold f_build at hs
 simp only [Option.map_eq_some_iff] at hs
 obtain ⟨cs, hf, he⟩ := hs; cases he
 obtain ⟨out, ho, hr⟩ := fill_sound place ps pl avs _ cs z.cells hpl ha (zero_rels z) hf
 exact sound_val0 h (hrun out ho) (by simp only [VRel]; exact ⟨out.toList, by simp, hr⟩)
theorem mapM_run_ok {α β : Type} (g : α → Sem β) (f : α → β) (w : World) : ∀ (l : List α), (∀ a ∈ l, (g a).run P w = .ok (f a) w) → (l.mapM g).run P w = .ok (l.map f) w
 | [], _ => by simp
 | a :: l, h => by
  simp [h a (by simp), mapM_run_ok g f w l fun b hb => h b (by simp [hb])]
theorem run_build_struct {t : TypeId} {fs : Array Field} {i : TypeInfo} {z : Value} (hu : P.underlying t = some (.struct fs)) (hi : P.info? t = some i) (hz : i.zero = some z) (hall : ∀ f ∈ fs.toList, (P.info? f.type).isSome = true) {ps : List (Nat × Value)} {cells : Array Value}
  (hf : Instr.fill (fun k => (fs[k]?).map fun (f : Field) => (f.offset, P.cellsOf f.type)) z.cells ps = some cells) : (Instr.build t ps.toArray).run P w = .ok (.agg cells) w := by
 have hm : (fs.mapM fun (f : Field) => do pure (f.offset, ← sizeOf f.type)).run P w = .ok (fs.map fun (f : Field) => (f.offset, P.cellsOf f.type)) w := by
  rw [Array.mapM_eq_mapM_toList]
  simp only [Sem.run_map]
  rw [mapM_run_ok _ (fun f : Field => (f.offset, P.cellsOf f.type)) w fs.toList (fun f hfm => by
   obtain ⟨j, hj⟩ := Option.isSome_iff_exists.1 (hall f hfm)
   simp [rSizeOf hj, Program.cellsOf, hj])]
  simp only [Result.andThen_ok]
  congr 1
  apply Array.ext'
  simp
 simp only [Instr.build, Sem.run_bind, rZero hi hz, Result.andThen_ok, rUnderlying hu, hm]
 have e : (fun (x : Nat) => (fs.map fun (f : Field) => (f.offset, P.cellsOf f.type))[x]?) = (fun (k : Nat) => (fs[k]?).map fun (f : Field) => (f.offset, P.cellsOf f.type)) := by funext k; simp
 rw [e, hf]; rfl
theorem run_build_array {t e : TypeId} {n : Nat} {i j : TypeInfo} {z : Value} (hu : P.underlying t = some (.array n e)) (hi : P.info? t = some i) (hz : i.zero = some z) (hj : P.info? e = some j) {ps : List (Nat × Value)} {cells : Array Value}
  (hf : Instr.fill (fun k => some (k * j.size, j.size)) z.cells ps = some cells) : (Instr.build t ps.toArray).run P w = .ok (.agg cells) w := by
 simp only [Instr.build, Sem.run_bind, rZero hi hz, Result.andThen_ok, rUnderlying hu, rSizeOf hj, hf, Sem.run_pure]
theorem snd_copy {dt st ty e : TypeId} {i : TypeInfo} {x y : Value} {avs : List AV} (h : HRel m X σ w) (hu : P.underlying dt = some (.slice e)) (hi : P.info? e = some i) (ha : VRels m X w avs [x, y])
  (hs : f_copy i.size avs σ = some (r, σ')) : Sound P (do pure (.value (← Builtin.copy_ #[dt, st] ty #[x, y]))) m X σ w r σ' := by
 unfold f_copy at hs
 split at hs
 ·rename_i l off len e1 a
  obtain ⟨x', us, hx, hr, hus⟩ := ha.cons
  obtain ⟨y', hy, hra⟩ := hus.one
  subst hy; cases hx
  simp only [VRel] at hr; obtain ⟨b, cap, hb, rfl, hlc, c, ty', hb0, hcz⟩ := hr
  simp only [Option.bind_eq_some_iff] at hs
  obtain ⟨cs, hcs, new, hnew, n, hn, hs⟩ := hs
  split at hs
  ·rename_i hc; cases hs
   obtain ⟨rfl, hle, hl, hsc⟩ := hc
   obtain ⟨vs0, hv1, hv2, hv3⟩ := src_sound (P := P) h hra hnew hn
   obtain ⟨b', c1, ty1, h1, hlobj, h2, h3, h4⟩ := h.row hcs
   rw [hb] at h1; cases h1
   obtain ⟨rfl, rfl⟩ : c = c1 ∧ ty' = ty1 := by rw [h2] at hb0; cases hb0; exact ⟨rfl, rfl⟩
   have hk : Nat.min n len * i.size ≤ new.length := by rw [← hl]; exact Nat.mul_le_mul_right _ (Nat.min_le_left _ _)
   have hfirst : ∃ vs : List Value, (Builtin.firstCells i.size (Nat.min n len) y).run P w = .ok vs.toArray w ∧ VRels m X w (new.take (Nat.min n len * i.size)) vs := by
    unfold srcCells at hnew
    split at hnew
    ·cases hnew; simp [lenF] at hn; subst hn
     obtain rfl := hra.nils
     exact ⟨[], by simp [Builtin.firstCells], by simp [VRels]⟩
    ·rename_i cs' len'
     split at hnew
     ·rename_i hcl; cases hnew; simp [lenF] at hn; subst hn
      simp only [VRel, CV.rep] at hra
      rcases hra with ⟨rfl, rfl, rfl⟩ | ⟨ad, cap', rfl, _, hreps⟩
      ·exact ⟨[], by simp [Builtin.firstCells], by simp [VRels]⟩
      ·obtain ⟨vs, g1, g2, g3⟩ := reps_vals (reps_take (Nat.min len' len * i.size) hreps)
       refine ⟨vs, ?_, by rw [← List.map_take]; exact g2⟩
       simp only [Builtin.firstCells]
       have : vs.length = Nat.min len' len * i.size := by rw [g1, List.length_take]; simp at hk; omega
       rw [← this]
       exact run_loadCells_list w ad vs fun j v hj => by simpa using g3 j v hj
     ·cases hnew
    ·rename_i l' off' len' e'
     split at hnew
     ·rename_i he; subst he
      simp only [Option.bind_eq_some_iff] at hnew
      obtain ⟨cs', hcs', hnew⟩ := hnew
      split at hnew
      ·rename_i hle'; cases hnew; simp [lenF] at hn; subst hn
       simp only [VRel] at hra; obtain ⟨b2, cap2, hb2, rfl, _⟩ := hra
       obtain ⟨b3, c3, ty3, k1, _, k2, k3, k4⟩ := h.row hcs'
       rw [hb2] at k1; cases k1
       have hmm : Nat.min len' len * i.size ≤ len' * i.size := Nat.mul_le_mul_right _ (Nat.min_le_left _ _)
       obtain ⟨vs, hlv, hrv, hcc⟩ := vals_of_row k2 k4 k3 (off := off') (n := Nat.min len' len * i.size) (by omega)
       refine ⟨vs, ?_, by rw [List.take_take, Nat.min_eq_left hmm]; exact hrv⟩
       simp only [Builtin.firstCells]
       rw [← hlv]
       exact run_loadCells_list w _ vs hcc
      ·cases hnew
     ·cases hnew
    ·rename_i s
     split at hnew
     ·rename_i h1e; cases hnew; simp [lenF] at hn; subst hn
      obtain rfl := hra.str
      rw [h1e] at *
      refine ⟨(s.data.toList.take (Nat.min s.size len)).map fun b => Value.int .u8 b.toNat, ?_, ?_⟩
      ·simp only [Builtin.firstCells, Sem.run_pure]
       congr 1
       apply Array.ext'
       simp [ByteArray.data_extract]
      ·rw [Nat.mul_one, ← List.map_take]; exact VRels.map_bytes _
     ·cases hnew
    ·rename_i l' off' len' cap' e'
     split at hnew
     ·rename_i he; subst he
      simp only [Option.bind_eq_some_iff] at hnew
      obtain ⟨cs', hcs', hnew⟩ := hnew
      split at hnew
      ·rename_i hle'; cases hnew; simp [lenF] at hn; subst hn
       simp only [VRel] at hra; obtain ⟨b2, hb2, rfl, _⟩ := hra
       obtain ⟨b3, c3, ty3, k1, _, k2, k3, k4⟩ := h.row hcs'
       rw [hb2] at k1; cases k1
       have hmm : Nat.min len' len * i.size ≤ len' * i.size := Nat.mul_le_mul_right _ (Nat.min_le_left _ _)
       obtain ⟨vs, hlv, hrv, hcc⟩ := vals_of_row k2 k4 k3 (off := off') (n := Nat.min len' len * i.size) (by omega)
       refine ⟨vs, ?_, by rw [List.take_take, Nat.min_eq_left hmm]; exact hrv⟩
       simp only [Builtin.firstCells]
       rw [← hlv]
       exact run_loadCells_list w _ vs hcc
      ·cases hnew
     ·cases hnew
    ·cases hnew
   obtain ⟨vs, hf1, hf2⟩ := hfirst
   have hlen : vs.length = Nat.min n len * i.size := by rw [← hf2.length, List.length_take]; omega
   have hone := hf2.one_cells (by
    rw [List.all_eq_true] at hsc ⊢
    exact fun v hv => hsc v (List.mem_of_mem_take hv))
   have hfit : off + vs.length ≤ c.size := by
    have : Nat.min n len * i.size ≤ len * i.size := Nat.mul_le_mul_right _ (Nat.min_le_right _ _)
    omega
   have hrun := run_storeCells_at P b off ty' vs 0 c w h2 (by simpa using hfit) hone
   simp only [Nat.add_zero] at hrun
   rw [← setRange_eq _ _ _ (by simpa using hfit)] at hrun
   have ht : Turned w (w.setRow b (setRange c.toList off vs).toArray) b := Turned.row w _ h2 (by simp [setRange_length])
   obtain ⟨g1, g2, g3⟩ := h.turn hb hlobj trivial ht (o' := .cells (setRange cs off (new.take (Nat.min n len * i.size)))) (fun hm => by
    simp only [ORel]
    refine ⟨_, ty', setRow_heap w b c _ ty' (0, 0) h2, by simp [setRange_length]; exact h3, ?_⟩
    rw [setRange_length]
    simp only [List.toList_toArray, setRange_take]
    exact ((h4.setRange off hf2).mono hm _ _))
   refine sound_val (v := goInt (Nat.min n len : Nat)) ?_ (VRel.mk_int _ _) g1 g2
   simp only [Builtin.copy_, List.getElem?_toArray, List.getElem?_cons_zero, List.getElem?_cons_succ, Sem.run_bind, rUnderlying hu, Result.andThen_ok, hv3, rSizeOf hi, hf1, hrun, Sem.run_pure]
  ·cases hs
 ·cases hs
theorem set_rowOf {l : Nat} {cs : List AV} (h : σ[l]? = some (.cells cs)) : σ.set l (.cells cs) = σ := by
 apply List.ext_getElem?
 intro k
 by_cases hk : l = k
 ·subst hk
  rw [List.getElem?_set_self (List.getElem?_eq_some_iff.1 h).1, h]
 ·rw [List.getElem?_set_ne hk]
theorem zcells_len (n : Nat) (zs : List AV) : (zcells n zs).length = n * zs.length := by rw [zcells_eq]; simp
theorem zcells_sc {n : Nat} {zs : List AV} (h : zs.all AV.isSc = true) : (zcells n zs).all AV.isSc = true := by
 rw [zcells_eq, List.all_eq_true]
 intro v hv
 simp only [List.mem_map, List.mem_range] at hv
 obtain ⟨i, hi, rfl⟩ := hv
 have h0 : 0 < zs.length := by
  rcases Nat.eq_zero_or_pos zs.length with h0 | h0
  ·rw [h0] at hi; omega
  ·exact h0
 have hlt : i % zs.length < zs.length := Nat.mod_lt _ h0
 rw [List.all_eq_true] at h
 rw [List.getD_eq_getElem?_getD, List.getElem?_eq_getElem hlt]
 exact h _ (List.getElem_mem hlt)
theorem snd_clear {st ty e : TypeId} {i : TypeInfo} {z : Value} {x : Value} {avs : List AV} (h : HRel m X σ w) (hu : P.underlying st = some (.slice e)) (hi : P.info? e = some i) (hz : i.zero = some z) (hsz : z.cells.size = i.size) (hpos : 0 < i.size)
  (ha : VRels m X w avs [x]) (hs : f_clear (z.cells.toList.map ofScalar) avs σ = some (r, σ')) : Sound P (do pure (.value (← Builtin.clear_ #[st] ty #[x]))) m X σ w r σ' := by
 have key : ∀ (l off len e1 : Nat), VRel m X w (.sl l off len e1) x → (((rowOf σ l).bind fun cs => if e1 = (z.cells.toList.map ofScalar).length ∧ off + len * e1 ≤ cs.length ∧ (z.cells.toList.map ofScalar).all AV.isSc = true then some (AV.tup [], σ.set l (.cells (setRange cs off (zcells len (z.cells.toList.map ofScalar))))) else none) = some (r, σ')) →
   Sound P (do pure (.value (← Builtin.clear_ #[st] ty #[x]))) m X σ w r σ' := by
  intro l off len e1 hr hs
  simp only [VRel] at hr; obtain ⟨b, cap, hb, rfl, hlc, c, ty', hb0, hcz⟩ := hr
  simp only [Option.bind_eq_some_iff] at hs
  obtain ⟨cs, hcs, hs⟩ := hs
  split at hs
  ·rename_i hc; cases hs
   obtain ⟨he, hle, hsc⟩ := hc
   obtain ⟨b', c1, ty1, h1, hlobj, h2, h3, h4⟩ := h.row hcs
   rw [hb] at h1; cases h1
   have hz1 : (z.cells.toList.map ofScalar).length = i.size := by simp [hsz]
   rw [hz1] at he
   subst he
   rcases Nat.eq_zero_or_pos len with h0 | h0
   ·subst h0
    have e0 : setRange cs off (zcells 0 (z.cells.toList.map ofScalar)) = cs := by
     have : zcells 0 (z.cells.toList.map ofScalar) = [] := List.eq_nil_of_length_eq_zero (by rw [zcells_len]; simp)
     rw [this]; rfl
    rw [e0, set_rowOf hlobj]
    refine sound_val0 h (v := .tuple #[]) ?_ (by simp only [VRel]; exact ⟨[], rfl, by simp [VRels]⟩)
    simp [Builtin.clear_, rUnderlying hu]
   ·have hrel := zcells_rel (m := m) (X := X) (w := w) len z.cells
    generalize hvs : (List.range (len * z.cells.size)).map (fun i => z.cells[i % z.cells.size]!) = vs at hrel
    have hlen : vs.length = len * i.size := by rw [← hvs]; simp [hsz]
    have hone := hrel.one_cells (zcells_sc hsc)
    have hfit : off + vs.length ≤ c1.size := by omega
    have hrun := run_storeCells_at P b off ty1 vs 0 c1 w h2 (by simpa using hfit) hone
    simp only [Nat.add_zero] at hrun
    rw [← setRange_eq _ _ _ (by simpa using hfit)] at hrun
    have ht : Turned w (w.setRow b (setRange c1.toList off vs).toArray) b := Turned.row w _ h2 (by simp [setRange_length])
    obtain ⟨g1, g2, g3⟩ := h.turn hb hlobj trivial ht (o' := .cells (setRange cs off (zcells len (z.cells.toList.map ofScalar)))) (fun hm => by
     simp only [ORel]
     refine ⟨_, ty1, setRow_heap w b c1 _ ty1 (0, 0) h2, by simp [setRange_length]; exact h3, ?_⟩
     rw [setRange_length]
     simp only [List.toList_toArray, setRange_take]
     exact ((h4.setRange off hrel).mono hm _ _))
    refine sound_val (v := .tuple #[]) ?_ (by simp only [VRel]; exact ⟨[], rfl, by simp [VRels]⟩) g1 g2
    obtain ⟨k, rfl⟩ : ∃ k, len = k + 1 := ⟨len - 1, by omega⟩
    have hzc : (Builtin.zeroCells z.cells (k + 1)).toList = vs := by rw [← hvs]; simp [Builtin.zeroCells]
    simp only [Builtin.clear_, List.getElem?_toArray, List.getElem?_cons_zero, Sem.run_bind, rUnderlying hu, Result.andThen_ok, rZero hi hz, hzc, hrun, Sem.run_pure]
  ·cases hs
 unfold f_clear at hs
 split at hs
 ·obtain ⟨v, hv, hr⟩ := ha.one; cases hv
  exact key _ _ _ _ hr hs
 ·obtain ⟨v, hv, hr⟩ := ha.one; cases hv
  exact key _ _ _ _ hr.slc_sl hs
 ·cases hs
theorem snd_len {t st : TypeId} {str : Bool} {x : Value} {avs : List AV} (h : HRel m X σ w) (hu : (str = false ∧ ∃ e, P.underlying st = some (.slice e)) ∨ (str = true ∧ P.underlying st = some .string)) (ha : VRels m X w avs [x]) (hs : f_len str avs σ = some (r, σ')) :
  Sound P (do pure (.value (← Builtin.len_ #[st] t #[x]))) m X σ w r σ' := by
 unfold f_len at hs
 split at hs
 ·rename_i s
  obtain ⟨v, hv, hr⟩ := ha.one; cases hv; cases hs
  obtain rfl := hr.str
  rcases hu with ⟨h0, _⟩ | ⟨_, hu⟩
  ·cases h0
  ·exact sound_val0 h (v := goInt s.size) (by simp [Builtin.len_, rUnderlying hu]) (VRel.mk_int _ _)
 ·obtain ⟨v, hv, hr⟩ := ha.one; cases hv; cases hs
  obtain rfl := hr.nils
  rcases hu with ⟨_, e, hu⟩ | ⟨h0, _⟩
  ·exact sound_val0 h (v := goInt 0) (by simp [Builtin.len_, rUnderlying hu]) (VRel.mk_int _ _)
  ·cases h0
 ·rename_i len
  obtain ⟨v, hv, hr⟩ := ha.one; cases hv; cases hs
  simp only [VRel, CV.rep] at hr
  rcases hu with ⟨_, e, hu⟩ | ⟨h0, _⟩
  ·rcases hr with ⟨rfl, rfl, _⟩ | ⟨a, cap, rfl, _⟩
   ·exact sound_val0 h (v := goInt 0) (by simp [Builtin.len_, rUnderlying hu]) (VRel.mk_int _ _)
   ·exact sound_val0 h (v := goInt len) (by simp [Builtin.len_, rUnderlying hu]) (VRel.mk_int _ _)
  ·cases h0
 ·rename_i len e1
  obtain ⟨v, hv, hr⟩ := ha.one; cases hv; cases hs
  simp only [VRel] at hr
  obtain ⟨b, cap, _, rfl, _⟩ := hr
  rcases hu with ⟨_, e, hu⟩ | ⟨h0, _⟩
  ·exact sound_val0 h (v := goInt len) (by simp [Builtin.len_, rUnderlying hu]) (VRel.mk_int _ _)
  ·cases h0
 ·rename_i len c1 e1
  obtain ⟨v, hv, hr⟩ := ha.one; cases hv; cases hs
  simp only [VRel] at hr
  obtain ⟨b, _, rfl, _⟩ := hr
  rcases hu with ⟨_, e, hu⟩ | ⟨h0, _⟩
  ·exact sound_val0 h (v := goInt len) (by simp [Builtin.len_, rUnderlying hu]) (VRel.mk_int _ _)
  ·cases h0
 ·cases hs
theorem snd_cap {t st e : TypeId} {x : Value} {avs : List AV} (h : HRel m X σ w) (hu : P.underlying st = some (.slice e)) (ha : VRels m X w avs [x]) (hs : f_cap avs σ = some (r, σ')) :
  Sound P (do pure (.value (← Builtin.cap_ #[st] t #[x]))) m X σ w r σ' := by
 unfold f_cap at hs
 split at hs
 ·rename_i cap e1
  obtain ⟨v, hv, hr⟩ := ha.one; cases hv; cases hs
  simp only [VRel] at hr
  obtain ⟨b, _, rfl, _⟩ := hr
  exact sound_val0 h (v := goInt cap) (by simp [Builtin.cap_, rUnderlying hu]) (VRel.mk_int _ _)
 ·cases hs
theorem snd_min2 {at_ : Array TypeId} {t : TypeId} {x y : Value} {avs : List AV} (h : HRel m X σ w) (ha : VRels m X w avs [x, y]) (hs : f_min2 avs σ = some (r, σ')) :
  Sound P (do pure (.value (← Builtin.min_ at_ t #[x, y]))) m X σ w r σ' := by
 unfold f_min2 at hs
 split at hs
 ·obtain ⟨x', us, hx, hr, hus⟩ := ha.cons
  obtain ⟨y', hy, hra⟩ := hus.one
  subst hy; cases hx
  obtain rfl := hra.int; obtain rfl := hr.int
  split at hs
  ·rename_i hk; subst hk; cases hs
   exact sound_val0 h (v := _) (by simp [Builtin.min_, Builtin.min2]) (VRel.mk_int _ _)
  ·cases hs
 ·cases hs
theorem snd_max2 {at_ : Array TypeId} {t : TypeId} {x y : Value} {avs : List AV} (h : HRel m X σ w) (ha : VRels m X w avs [x, y]) (hs : f_max2 avs σ = some (r, σ')) :
  Sound P (do pure (.value (← Builtin.max_ at_ t #[x, y]))) m X σ w r σ' := by
 unfold f_max2 at hs
 split at hs
 ·obtain ⟨x', us, hx, hr, hus⟩ := ha.cons
  obtain ⟨y', hy, hra⟩ := hus.one
  subst hy; cases hx
  obtain rfl := hra.int; obtain rfl := hr.int
  split at hs
  ·rename_i hk; subst hk; cases hs
   exact sound_val0 h (v := _) (by simp [Builtin.max_, Builtin.max2]) (VRel.mk_int _ _)
  ·cases hs
 ·cases hs
end Go.Proofs.YtpnghcaccfnngaaGreatDoor.AM

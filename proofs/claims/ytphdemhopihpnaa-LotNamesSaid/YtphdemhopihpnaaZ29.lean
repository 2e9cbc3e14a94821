/- Parts of the proof, joined: AmZ to AmZ. -/
import Derived.Test.YtphdemhopihpnaaZ28

namespace Go.Proofs.Ytphdemhopihpnaa.AM
open Go
set_option linter.unusedVariables false
set_option linter.unusedSimpArgs false

/- The value a, in the heap σ, read as the closed value c; p: which closed values may be taken over as they are. -/
mutual
inductive FrzC (p : CV → Prop) (σ : List AObj) : AV → CV → Prop
  | c (c : CV) : p c → FrzC p σ (.cv c) c
  | nl : FrzC p σ (.cv .nils) (.rsl [] 0)
  | sl (l off len esz : Nat) (cs : List AV) (ds : List CV) : rowOf σ l = some cs → off + len * esz ≤ cs.length → FrzCs p σ ((cs.drop off).take (len * esz)) ds → FrzC p σ (.sl l off len esz) (.rsl ds len)
  | ptr (l off : Nat) (cs : List AV) (ds : List CV) : rowOf σ l = some cs → FrzCs p σ cs ds → FrzC p σ (.ptr l off) (.rp ds off)
  | slc (l off len cap esz : Nat) (cs : List AV) (ds : List CV) : rowOf σ l = some cs → off + len * esz ≤ cs.length → FrzCs p σ ((cs.drop off).take (len * esz)) ds → FrzC p σ (.slc l off len cap esz) (.rsl ds len)
inductive FrzCs (p : CV → Prop) (σ : List AObj) : List AV → List CV → Prop
  | nil : FrzCs p σ [] []
  | cons {a : AV} {c : CV} {as_ : List AV} {cs : List CV} : FrzC p σ a c → FrzCs p σ as_ cs → FrzCs p σ (a :: as_) (c :: cs)
end

mutual
inductive FrzV (p : CV → Prop) (σ : List AObj) : AV → AV → Prop
  | c {a : AV} {c : CV} : FrzC p σ a c → FrzV p σ a (.cv c)
  | agg {as_ bs : List AV} : FrzVs p σ as_ bs → FrzV p σ (.agg as_) (.agg bs)
  | tup {as_ bs : List AV} : FrzVs p σ as_ bs → FrzV p σ (.tup as_) (.tup bs)
  | fn {f : Fn} {as_ bs : List AV} : FrzVs p σ as_ bs → FrzV p σ (.fn f as_) (.fn f bs)
  | bm {f : FuncId} {as_ bs : List AV} : FrzVs p σ as_ bs → FrzV p σ (.bm f as_) (.bm f bs)
  | un (a : AV) : FrzV p σ a .undef
inductive FrzVs (p : CV → Prop) (σ : List AObj) : List AV → List AV → Prop
  | nil : FrzVs p σ [] []
  | cons {a b : AV} {as_ bs : List AV} : FrzV p σ a b → FrzVs p σ as_ bs → FrzVs p σ (a :: as_) (b :: bs)
end

abbrev anyC : CV → Prop := fun _ => True
/-- closed values that lead to no memory -/
def scl : CV → Prop
  | .rsl _ _ | .rp _ _ => False
  | _ => True

section
variable {m m' : LM} {X X' : Nat → Prop} {w : World} {σ : List AObj} {p : CV → Prop}

theorem rowOf_some {l : Nat} {cs : List AV} (h : rowOf σ l = some cs) : σ[l]? = some (.cells cs) := by
  unfold rowOf at h; split at h
  · cases h; assumption
  · cases h

theorem reps_of_cells {O : Nat → Prop} {a : Addr} (hO : ¬ O a.block) : ∀ (ds : List CV) (i : Nat) (vs : List Value), ds.length = vs.length → (∀ (j : Nat) (d : CV) (v : Value), ds[j]? = some d → vs[j]? = some v → w.cell? (a.add (i + j)) = some v ∧ d.rep w O v) → CV.reps w O ds a i
  | [], _, _, _, _ => by simp [CV.reps]
  | d :: ds, i, [], hl, _ => by simp at hl
  | d :: ds, i, v :: vs, hl, h => by
    simp only [CV.reps]
    have h0 := h 0 d v rfl rfl
    refine ⟨hO, ⟨v, by simpa using h0.1, h0.2⟩, reps_of_cells hO ds (i + 1) vs (by simpa using hl) fun j d' v' h1 h2 => ?_⟩
    have := h (j + 1) d' v' (by simpa using h1) (by simpa using h2)
    rwa [show i + (j + 1) = i + 1 + j by omega] at this

/-- as HRel and the values are related, so is what is read as closed: where less is owned and nothing of the abstract heap -/
theorem frz_rep (hh : HRel m X σ w) (hb : ∀ (c : CV) v, p c → c.rep w (Own m X) v → c.rep w (Own m' X') v) (hn : ∀ (l b : Nat) (o : AObj), m l = some b → σ[l]? = some o → o.live → ¬ Own m' X' b) {a : AV} {c : CV} (h : FrzC p σ a c) : ∀ v, VRel m X w a v → c.rep w (Own m' X') v := by
  refine FrzC.rec (motive_1 := fun a c _ => ∀ v, VRel m X w a v → c.rep w (Own m' X') v) (motive_2 := fun as_ cs _ => ∀ vs, VRels m X w as_ vs → cs.length = vs.length ∧ ∀ (j : Nat) (d : CV) (v : Value), cs[j]? = some d → vs[j]? = some v → d.rep w (Own m' X') v) ?_ ?_ ?_ ?_ ?_ ?_ ?_ h
  · intro c hp v hv
    simp only [VRel] at hv
    exact hb c v hp hv
  · intro v hv
    simp only [VRel, CV.rep] at hv ⊢
    refine .inl ⟨hv, ?_⟩
    simp
  · intro l off len esz cs ds hrow hle _ ih v hv
    simp only [VRel] at hv
    obtain ⟨b, cap, hb, rfl, hlc, _⟩ := hv
    have hrow := rowOf_some hrow
    have hor := hh.obj l _ hrow
    rw [hb] at hor
    simp only [ORel] at hor
    obtain ⟨c, e, hc, hsz, hvs⟩ := hor
    have h2 := ih _ (VRels.take (len * esz) (VRels.drop off hvs))
    simp only [CV.rep]
    refine .inr ⟨_, cap, rfl, hlc, reps_of_cells (hn l b _ hb hrow trivial) ds 0 _ h2.1 fun j d v hd hv => ⟨?_, h2.2 j d v hd hv⟩⟩
    have hj : j < len * esz := by have := (List.getElem?_eq_some_iff.1 hv).1; simp at this; omega
    rw [List.getElem?_take, if_pos hj, List.getElem?_drop, List.getElem?_take] at hv
    rw [if_pos (by omega)] at hv
    have hadd : (Addr.mk b off none).add (0 + j) = ⟨b, off + j, none⟩ := by unfold Addr.add; by_cases h0 : j = 0 <;> simp [h0]
    rw [hadd, cell_row hc]
    simpa using hv
  · intro l off cs ds hrow _ ih v hv
    simp only [VRel] at hv
    obtain ⟨b, hb, rfl⟩ := hv
    have hrow := rowOf_some hrow
    have hor := hh.obj l _ hrow
    rw [hb] at hor
    simp only [ORel] at hor
    obtain ⟨c, e, hc, hsz, hvs⟩ := hor
    have h2 := ih _ hvs
    simp only [CV.rep]
    refine ⟨⟨b, 0, none⟩, by unfold Addr.add; by_cases h0 : off = 0 <;> simp [h0], reps_of_cells (hn l b _ hb hrow trivial) ds 0 _ h2.1 fun j d v hd hv => ⟨?_, h2.2 j d v hd hv⟩⟩
    have hj : j < cs.length := by have := (List.getElem?_eq_some_iff.1 hv).1; simp at this; omega
    rw [List.getElem?_take, if_pos hj] at hv
    have hadd : (Addr.mk b 0 none).add (0 + j) = ⟨b, j, none⟩ := by unfold Addr.add; by_cases h0 : j = 0 <;> simp [h0]
    rw [hadd, cell_row hc]
    simpa using hv
  · intro l off len cap esz cs ds hrow hle _ ih v hv
    simp only [VRel] at hv
    obtain ⟨b, hb, rfl, hlc, _⟩ := hv
    have hrow := rowOf_some hrow
    have hor := hh.obj l _ hrow
    rw [hb] at hor
    simp only [ORel] at hor
    obtain ⟨c, e, hc, hsz, hvs⟩ := hor
    have h2 := ih _ (VRels.take (len * esz) (VRels.drop off hvs))
    simp only [CV.rep]
    refine .inr ⟨_, cap, rfl, hlc, reps_of_cells (hn l b _ hb hrow trivial) ds 0 _ h2.1 fun j d v hd hv => ⟨?_, h2.2 j d v hd hv⟩⟩
    have hj : j < len * esz := by have := (List.getElem?_eq_some_iff.1 hv).1; simp at this; omega
    rw [List.getElem?_take, if_pos hj, List.getElem?_drop, List.getElem?_take] at hv
    rw [if_pos (by omega)] at hv
    have hadd : (Addr.mk b off none).add (0 + j) = ⟨b, off + j, none⟩ := by unfold Addr.add; by_cases h0 : j = 0 <;> simp [h0]
    rw [hadd, cell_row hc]
    simpa using hv
  · intro vs hv
    rw [VRels.nil' hv]
    exact ⟨rfl, fun j d v h => by simp at h⟩
  · intro a c as_ cs _ _ ih1 ih2 vs hv
    obtain ⟨v, us, rfl, h1, h2⟩ := hv.cons
    have h2 := ih2 us h2
    refine ⟨by simp [h2.1], fun j d v' hd hv' => ?_⟩
    cases j with
    | zero => simp at hd hv'; subst hd hv'; exact ih1 _ h1
    | succ j => exact h2.2 j d v' (by simpa using hd) (by simpa using hv')

theorem frz_rel (hh : HRel m X σ w) (hb : ∀ (c : CV) v, p c → c.rep w (Own m X) v → c.rep w (Own m' X') v) (hn : ∀ (l b : Nat) (o : AObj), m l = some b → σ[l]? = some o → o.live → ¬ Own m' X' b) {a a' : AV} (h : FrzV p σ a a') : ∀ v, VRel m X w a v → VRel m' X' w a' v := by
  refine FrzV.rec (motive_1 := fun a a' _ => ∀ v, VRel m X w a v → VRel m' X' w a' v) (motive_2 := fun as_ bs _ => ∀ vs, VRels m X w as_ vs → VRels m' X' w bs vs) ?_ ?_ ?_ ?_ ?_ ?_ ?_ ?_ h
  · intro a c hc v hv
    simp only [VRel]
    exact frz_rep hh hb hn hc v hv
  · intro as_ bs _ ih v hv; simp only [VRel] at hv ⊢; obtain ⟨vs, h1, h2⟩ := hv; exact ⟨vs, h1, ih vs h2⟩
  · intro as_ bs _ ih v hv; simp only [VRel] at hv ⊢; obtain ⟨vs, h1, h2⟩ := hv; exact ⟨vs, h1, ih vs h2⟩
  · intro f as_ bs _ ih v hv; simp only [VRel] at hv ⊢; obtain ⟨vs, h1, h2⟩ := hv; exact ⟨vs, h1, ih vs h2⟩
  · intro f as_ bs _ ih v hv; simp only [VRel] at hv ⊢; obtain ⟨vs, h1, h2⟩ := hv; exact ⟨vs, h1, ih vs h2⟩
  · intro a v _; simp [VRel]
  · intro vs hv; rw [VRels.nil' hv]; simp [VRels]
  · intro a b as_ bs _ _ ih1 ih2 vs hv
    obtain ⟨v, us, rfl, h1, h2⟩ := hv.cons
    exact ⟨ih1 v h1, ih2 us h2⟩

theorem frz_rels (hh : HRel m X σ w) (hb : ∀ (c : CV) v, p c → c.rep w (Own m X) v → c.rep w (Own m' X') v) (hn : ∀ (l b : Nat) (o : AObj), m l = some b → σ[l]? = some o → o.live → ¬ Own m' X' b) : ∀ {as_ bs : List AV}, FrzVs p σ as_ bs → ∀ vs, VRels m X w as_ vs → VRels m' X' w bs vs
  | _, _, .nil, vs, hv => by rw [VRels.nil' hv]; simp [VRels]
  | _, _, .cons h1 h2, vs, hv => by
    obtain ⟨v, us, rfl, g1, g2⟩ := hv.cons
    exact ⟨frz_rel hh hb hn h1 v g1, frz_rels hh hb hn h2 us g2⟩

theorem scl_rep {O O' : Nat → Prop} (c : CV) (v : Value) (hp : scl c) (h : c.rep w O v) : c.rep w O' v := by
  cases c <;> simp only [scl] at hp <;> simpa only [CV.rep] using h

/-- the memory that was there is as it was -/
theorem HRel.below {σ : List AObj} {w' : World} (hh : HRel m X σ w) (hsz : w.heap.size ≤ w'.heap.size) (h : ∀ b, b < w.heap.size → w'.heap[b]? = w.heap[b]?) : HRel m X σ w' := by
  have hm : Mono m X w m X w' := by
    refine ⟨fun _ _ h => h, fun b hb hc => ⟨h b hc.lt, hb⟩, fun b c e hb => ⟨c, ?_, rfl⟩⟩
    rw [h b ((Array.getElem?_eq_some_iff.1 hb).1), hb]
  refine ⟨fun b hb => Nat.lt_of_lt_of_le (hh.xb b hb) hsz, fun l b hl => ⟨(hh.dom l b hl).1, Nat.lt_of_lt_of_le (hh.dom l b hl).2 hsz⟩, hh.own, hh.inj, fun l o ho => ?_⟩
  have := hh.obj l o ho
  cases hml : m l with
  | none => rw [hml] at this; cases o <;> simp [ORel] at this ⊢
  | some b => rw [hml] at this; exact ORel.mono hm (h b (hh.dom l b hml).2) this
end

/-- A function of closed values: proved in the empty heap, it holds in any; what it made is read as closed. -/
theorem AC.pure {P : Program} {f : FuncId} {args : List AV} {Q : AV → List AObj → Prop} {R : AV → Prop} (hcl : locsInAll 0 args = true) (h : AC P f args [] Q)
    (hq : ∀ r σ', Q r σ' → ∃ v, FrzV anyC σ' r v ∧ R v) (σ : List AObj) : AC P f args σ fun r σ' => R r ∧ σ' = σ := by
  refine ⟨h.1, fun m X w cargs ha hh => ?_⟩
  have hown : ∀ b, Own nom (Own m X) b ↔ Own m X b := fun b => ⟨fun h => h.elim id (fun ⟨l, hl⟩ => by cases hl), .inl⟩
  have ha0 : VRels nom (Own m X) w args cargs := VRels.less (k := 0) (fun l hl => absurd hl (Nat.not_lt_zero _)) (fun b hb => (hown b).1 hb) args cargs hcl ha
  have hh0 : HRel nom (Own m X) [] w := by
    refine ⟨fun b hb => ?_, fun l b hl => (by cases hl), fun l b o hl => (by cases hl), fun l l' b o hl => (by cases hl), fun l o ho => (by simp at ho)⟩
    rcases hb with hb | ⟨l, hl⟩
    · exact hh.xb b hb
    · exact (hh.dom l b hl).2
  refine (h.2 nom (Own m X) w cargs ha0 hh0).mono ?_
  rintro e w' ⟨c, r, σ', m', rfl, hQ, hv, hh', hst, _⟩
  obtain ⟨v, hf, hR⟩ := hq r σ' hQ
  have hsame : ∀ b, b < w.heap.size → w'.heap[b]? = w.heap[b]? := fun b hb => hst.fr b hb (.inr fun l hl => by cases hl)
  refine ⟨c, v, σ, m, rfl, ⟨hR, rfl⟩, ?_, hh.below hst.size hsame, ?_, Nat.le_refl _⟩
  · refine frz_rel hh' (fun c v _ h => CV.rep_less (fun b hb => .inl hb) c v h) ?_ hf c hv
    intro l b o hl ho hlive hb
    exact hh'.own l b o hl ho hlive hb
  · exact ⟨fun _ _ => rfl, fun l b hl => .inl ⟨l, hl⟩, hst.size, fun b hb _ => hsame b hb, hst.shp, hst.os, hst.tape, hst.output, hst.drawn⟩

/-- A function of closed values that hands back new memory or none: it may be called with what reads as these values. -/
theorem AC.pureN {P : Program} {f : FuncId} {args args' : List AV} {Q : AV → List AObj → Prop} {R : AV → Prop} (h : AC P f args [] Q) (hq : ∀ r σ', Q r σ' → ∃ v, FrzV scl σ' r v ∧ R v) {σ : List AObj} (hf : FrzVs anyC σ args' args) : AC P f args' σ fun r σ' => R r ∧ σ' = σ := by
  refine ⟨h.1, fun m X w cargs ha hh => ?_⟩
  have hown : ∀ b, Own nom X b → X b := fun b h => h.elim id (fun ⟨l, hl⟩ => by cases hl)
  have ha0 : VRels nom X w args cargs := by
    refine frz_rels hh (fun c v _ h => CV.rep_less (fun b hb => .inl (hown b hb)) c v h) ?_ hf cargs ha
    intro l b o hl ho hlive hb
    exact hh.own l b o hl ho hlive (hown b hb)
  have hh0 : HRel nom X [] w := ⟨hh.xb, fun l b hl => (by cases hl), fun l b o hl => (by cases hl), fun l l' b o hl => (by cases hl), fun l o ho => (by simp at ho)⟩
  refine (h.2 nom X w cargs ha0 hh0).mono ?_
  rintro e w' ⟨c, r, σ', m', rfl, hQ, hv, hh', hst, _⟩
  obtain ⟨v, hf, hR⟩ := hq r σ' hQ
  have hsame : ∀ b, b < w.heap.size → w'.heap[b]? = w.heap[b]? := fun b hb => hst.fr b hb (.inr fun l hl => by cases hl)
  refine ⟨c, v, σ, m, rfl, ⟨hR, rfl⟩, ?_, hh.below hst.size hsame, ?_, Nat.le_refl _⟩
  · refine frz_rel hh' (fun c v hp h => scl_rep c v hp h) ?_ hf c hv
    intro l b o hl ho hlive hb
    have hbs : b < w.heap.size := by
      rcases hb with hb | ⟨l', hl'⟩
      · exact hh.xb b hb
      · exact (hh.dom l' b hl').2
    rcases hst.new l b hl with ⟨l', hl'⟩ | hge
    · cases hl'
    · omega
  · exact ⟨fun _ _ => rfl, fun l b hl => .inl ⟨l, hl⟩, hst.size, fun b hb _ => hsame b hb, hst.shp, hst.os, hst.tape, hst.output, hst.drawn⟩

/-- Function f, called at closed values, answers the closed value v; it hands back new memory or none. -/
structure PC (P : Program) (f : FuncId) (args : List AV) (v : AV) : Prop where
  ac : AC P f args [] fun r τ => FrzV scl τ r v
  cl : locsIn 0 v = true

theorem PC.call {P : Program} {f : FuncId} {args args' : List AV} {v : AV} {σ : List AObj} {K : AV → List AObj → Prop} (h : PC P f args v) (hf : FrzVs anyC σ args' args) (hk : K v σ) : AC P f args' σ K :=
  (AC.pureN (R := fun r => r = v) h.ac (fun r τ hr => ⟨v, hr, rfl⟩) hf).mono fun r τ ⟨h1, h2⟩ => by rw [h1, h2]; exact hk

mutual
theorem frz_refl {σ : List AObj} {k : Nat} : ∀ (a : AV), locsIn 0 a = true → FrzV anyC σ a a
  | .cv c, _ => .c (.c c trivial)
  | .ptr l o, h => by simp [locsIn] at h
  | .sl l o n e, h => by simp [locsIn] at h
  | .map l, h => by simp [locsIn] at h
  | .fn f cs, h => .fn (frz_refls (k := k) cs (by simpa [locsIn] using h))
  | .bm f cs, h => .bm (frz_refls (k := k) cs (by simpa [locsIn] using h))
  | .yld l, h => by simp [locsIn] at h
  | .agg cs, h => .agg (frz_refls (k := k) cs (by simpa [locsIn] using h))
  | .tup cs, h => .tup (frz_refls (k := k) cs (by simpa [locsIn] using h))
  | .undef, _ => .un _
  | .slc l o n c e, h => by simp [locsIn] at h
theorem frz_refls {σ : List AObj} {k : Nat} : ∀ (as_ : List AV), locsInAll 0 as_ = true → FrzVs anyC σ as_ as_
  | [], _ => .nil
  | a :: as_, h => by
    simp only [locsInAll, Bool.and_eq_true] at h
    exact .cons (frz_refl (k := k) a h.1) (frz_refls (k := k) as_ h.2)
end

/-- A function of closed values, called at closed values: what it hands back may lead to what it was given. -/
structure PA (P : Program) (f : FuncId) (args : List AV) (v : AV) : Prop where
  ac : AC P f args [] fun r τ => FrzV anyC τ r v
  cl : locsIn 0 v = true
  al : locsInAll 0 args = true

theorem PA.call {P : Program} {f : FuncId} {args : List AV} {v : AV} {σ : List AObj} {K : AV → List AObj → Prop} (h : PA P f args v) (hk : K v σ) : AC P f args σ K :=
  (AC.pure (R := fun r => r = v) h.al h.ac (fun r τ hr => ⟨v, hr, rfl⟩) σ).mono fun r τ ⟨h1, h2⟩ => by rw [h1, h2]; exact hk

/-- In a function of closed values: all that was made is read as closed, and the heap is empty. -/
theorem Weak.freeze {fx : Fx} {s : St} {vals' : List AV} (h0 : fx.n0 = 0) (hv : ∀ i, FrzV anyC s.heap (s.vals.getD i .undef) (vals'.getD i .undef)) : Weak fx s ⟨vals', []⟩ := by
  intro m X en ac w hs
  have ho : ∀ b, Own nom X b → Own m X b := fun b hb => hb.elim .inl (fun ⟨l, hl⟩ => by cases hl)
  refine ⟨nom, ⟨hs.size, ?_, ?_, ?_, by simp [h0], hs.entry⟩, ?_⟩
  · intro i t hi
    refine frz_rel hs.heap (fun c v _ h => CV.rep_less ho c v h) ?_ (hv i) _ (hs.vars i t hi)
    rintro l b o hl hlo hlive (hb | ⟨l', hl'⟩)
    · exact hs.heap.own l b o hl hlo hlive hb
    · cases hl'
  · obtain ⟨bs, h1, h2, h3⟩ := hs.defs
    exact ⟨bs, h1, h2, fun b hb => let ⟨g1, g2, g3, g4⟩ := h3 b hb; ⟨g1, g2, g3, fun hx => g4 (ho b hx)⟩⟩
  · exact ⟨hs.heap.xb, fun l b hl => (by cases hl), fun l b o hl => (by cases hl), fun l l' b o hl => (by cases hl), fun l o ho => (by simp at ho)⟩
  · rw [h0]
    exact ⟨fun l hl => absurd hl (Nat.not_lt_zero _), fun l b hl => (by cases hl), Nat.le_refl _, fun _ _ _ => rfl, fun b c e hb => ⟨c, hb, rfl⟩, rfl, rfl, rfl, Nat.le_refl _⟩

end Go.Proofs.Ytphdemhopihpnaa.AM


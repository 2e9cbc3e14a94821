/- Abstract machine, part Z: what a function made and nobody writes any more is read as closed values; functions of closed values. For any program; no condition. -/
import Derived.Test.YtphdemhopihpnaaAmYx
namespace Go.Proofs.Ytphdemhopihpnaa.AM
open Go
set_option linter.unusedVariables false
set_option linter.unusedSimpArgs false

/- The value a, in the heap σ, read as the closed value c. -/
mutual
inductive FrzC (σ : List AObj) : AV → CV → Prop
  | c (c : CV) : FrzC σ (.cv c) c
  | sl (l off len esz : Nat) (cs : List AV) (ds : List CV) : rowOf σ l = some cs → off + len * esz ≤ cs.length → FrzCs σ ((cs.drop off).take (len * esz)) ds → FrzC σ (.sl l off len esz) (.rsl ds len)
  | ptr (l off : Nat) (cs : List AV) (ds : List CV) : rowOf σ l = some cs → FrzCs σ cs ds → FrzC σ (.ptr l off) (.rp ds off)
inductive FrzCs (σ : List AObj) : List AV → List CV → Prop
  | nil : FrzCs σ [] []
  | cons {a : AV} {c : CV} {as_ : List AV} {cs : List CV} : FrzC σ a c → FrzCs σ as_ cs → FrzCs σ (a :: as_) (c :: cs)
end

mutual
inductive FrzV (σ : List AObj) : AV → AV → Prop
  | c {a : AV} {c : CV} : FrzC σ a c → FrzV σ a (.cv c)
  | agg {as_ bs : List AV} : FrzVs σ as_ bs → FrzV σ (.agg as_) (.agg bs)
  | tup {as_ bs : List AV} : FrzVs σ as_ bs → FrzV σ (.tup as_) (.tup bs)
  | fn {f : Fn} {as_ bs : List AV} : FrzVs σ as_ bs → FrzV σ (.fn f as_) (.fn f bs)
  | bm {f : FuncId} {as_ bs : List AV} : FrzVs σ as_ bs → FrzV σ (.bm f as_) (.bm f bs)
  | un (a : AV) : FrzV σ a .undef
inductive FrzVs (σ : List AObj) : List AV → List AV → Prop
  | nil : FrzVs σ [] []
  | cons {a b : AV} {as_ bs : List AV} : FrzV σ a b → FrzVs σ as_ bs → FrzVs σ (a :: as_) (b :: bs)
end

section
variable {m m' : LM} {X X' : Nat → Prop} {w : World} {σ : List AObj}

theorem rowOf_some {l : Nat} {cs : List AV} (h : rowOf σ l = some cs) : σ[l]? = some (.cells cs) := by
  unfold rowOf at h; split at h
  · cases h; assumption
  · cases h

theorem reps_of_cells {O : Nat → Prop} {a : Addr} (hO : ¬ O a.block) : ∀ (ds : List CV) (i : Nat) (vs : List Value), ds.length = vs.length → (∀ (j : Nat) (d : CV) (v : Value), ds[j]? = some d → vs[j]? = some v → w.cell? (a.add (i + j)) = some v ∧ d.rep w O v) → CV.reps w O ds a i
  | [], _, _, _, _ => by simp [CV.reps]
  | d :: ds, i, [], hl, _ => by simp at hl
  | d :: ds, i, v :: vs, hl, h => by
    simp only [CV.reps]
    have h0 := h 0 d v rfl rfl
    refine ⟨hO, ⟨v, by simpa using h0.1, h0.2⟩, reps_of_cells hO ds (i + 1) vs (by simpa using hl) fun j d' v' h1 h2 => ?_⟩
    have := h (j + 1) d' v' (by simpa using h1) (by simpa using h2)
    rwa [show i + (j + 1) = i + 1 + j by omega] at this

/-- as HRel and the values are related, so is what is read as closed: where less is owned and nothing of the abstract heap -/
theorem frz_rep (hh : HRel m X σ w) (ho : ∀ b, Own m' X' b → Own m X b) (hn : ∀ (l b : Nat) (o : AObj), m l = some b → σ[l]? = some o → o.live → ¬ Own m' X' b) {a : AV} {c : CV} (h : FrzC σ a c) : ∀ v, VRel m X w a v → c.rep w (Own m' X') v := by
  refine FrzC.rec (motive_1 := fun a c _ => ∀ v, VRel m X w a v → c.rep w (Own m' X') v) (motive_2 := fun as_ cs _ => ∀ vs, VRels m X w as_ vs → cs.length = vs.length ∧ ∀ (j : Nat) (d : CV) (v : Value), cs[j]? = some d → vs[j]? = some v → d.rep w (Own m' X') v) ?_ ?_ ?_ ?_ ?_ h
  · intro c v hv
    simp only [VRel] at hv
    exact CV.rep_less ho c v hv
  · intro l off len esz cs ds hrow hle _ ih v hv
    simp only [VRel] at hv
    obtain ⟨b, cap, hb, rfl, hlc, _⟩ := hv
    have hrow := rowOf_some hrow
    have hor := hh.obj l _ hrow
    rw [hb] at hor
    simp only [ORel] at hor
    obtain ⟨c, e, hc, hsz, hvs⟩ := hor
    have h2 := ih _ (VRels.take (len * esz) (VRels.drop off hvs))
    simp only [CV.rep]
    refine .inr ⟨_, cap, rfl, hlc, reps_of_cells (hn l b _ hb hrow trivial) ds 0 _ h2.1 fun j d v hd hv => ⟨?_, h2.2 j d v hd hv⟩⟩
    have hj : j < len * esz := by have := (List.getElem?_eq_some_iff.1 hv).1; simp at this; omega
    rw [List.getElem?_take, if_pos hj, List.getElem?_drop, List.getElem?_take] at hv
    rw [if_pos (by omega)] at hv
    have hadd : (Addr.mk b off none).add (0 + j) = ⟨b, off + j, none⟩ := by unfold Addr.add; by_cases h0 : j = 0 <;> simp [h0]
    rw [hadd, cell_row hc]
    simpa using hv
  · intro l off cs ds hrow _ ih v hv
    simp only [VRel] at hv
    obtain ⟨b, hb, rfl⟩ := hv
    have hrow := rowOf_some hrow
    have hor := hh.obj l _ hrow
    rw [hb] at hor
    simp only [ORel] at hor
    obtain ⟨c, e, hc, hsz, hvs⟩ := hor
    have h2 := ih _ hvs
    simp only [CV.rep]
    refine ⟨⟨b, 0, none⟩, by unfold Addr.add; by_cases h0 : off = 0 <;> simp [h0], reps_of_cells (hn l b _ hb hrow trivial) ds 0 _ h2.1 fun j d v hd hv => ⟨?_, h2.2 j d v hd hv⟩⟩
    have hj : j < cs.length := by have := (List.getElem?_eq_some_iff.1 hv).1; simp at this; omega
    rw [List.getElem?_take, if_pos hj] at hv
    have hadd : (Addr.mk b 0 none).add (0 + j) = ⟨b, j, none⟩ := by unfold Addr.add; by_cases h0 : j = 0 <;> simp [h0]
    rw [hadd, cell_row hc]
    simpa using hv
  · intro vs hv
    rw [VRels.nil' hv]
    exact ⟨rfl, fun j d v h => by simp at h⟩
  · intro a c as_ cs _ _ ih1 ih2 vs hv
    obtain ⟨v, us, rfl, h1, h2⟩ := hv.cons
    have h2 := ih2 us h2
    refine ⟨by simp [h2.1], fun j d v' hd hv' => ?_⟩
    cases j with
    | zero => simp at hd hv'; subst hd hv'; exact ih1 _ h1
    | succ j => exact h2.2 j d v' (by simpa using hd) (by simpa using hv')

theorem frz_rel (hh : HRel m X σ w) (ho : ∀ b, Own m' X' b → Own m X b) (hn : ∀ (l b : Nat) (o : AObj), m l = some b → σ[l]? = some o → o.live → ¬ Own m' X' b) {a a' : AV} (h : FrzV σ a a') : ∀ v, VRel m X w a v → VRel m' X' w a' v := by
  refine FrzV.rec (motive_1 := fun a a' _ => ∀ v, VRel m X w a v → VRel m' X' w a' v) (motive_2 := fun as_ bs _ => ∀ vs, VRels m X w as_ vs → VRels m' X' w bs vs) ?_ ?_ ?_ ?_ ?_ ?_ ?_ ?_ h
  · intro a c hc v hv
    simp only [VRel]
    exact frz_rep hh ho hn hc v hv
  · intro as_ bs _ ih v hv; simp only [VRel] at hv ⊢; obtain ⟨vs, h1, h2⟩ := hv; exact ⟨vs, h1, ih vs h2⟩
  · intro as_ bs _ ih v hv; simp only [VRel] at hv ⊢; obtain ⟨vs, h1, h2⟩ := hv; exact ⟨vs, h1, ih vs h2⟩
  · intro f as_ bs _ ih v hv; simp only [VRel] at hv ⊢; obtain ⟨vs, h1, h2⟩ := hv; exact ⟨vs, h1, ih vs h2⟩
  · intro f as_ bs _ ih v hv; simp only [VRel] at hv ⊢; obtain ⟨vs, h1, h2⟩ := hv; exact ⟨vs, h1, ih vs h2⟩
  · intro a v _; simp [VRel]
  · intro vs hv; rw [VRels.nil' hv]; simp [VRels]
  · intro a b as_ bs _ _ ih1 ih2 vs hv
    obtain ⟨v, us, rfl, h1, h2⟩ := hv.cons
    exact ⟨ih1 v h1, ih2 us h2⟩

/-- the memory that was there is as it was -/
theorem HRel.below {σ : List AObj} {w' : World} (hh : HRel m X σ w) (hsz : w.heap.size ≤ w'.heap.size) (h : ∀ b, b < w.heap.size → w'.heap[b]? = w.heap[b]?) : HRel m X σ w' := by
  have hm : Mono m X w m X w' := by
    refine ⟨fun _ _ h => h, fun b hb hc => ⟨h b hc.lt, hb⟩, fun b c e hb => ⟨c, ?_, rfl⟩⟩
    rw [h b ((Array.getElem?_eq_some_iff.1 hb).1), hb]
  refine ⟨fun b hb => Nat.lt_of_lt_of_le (hh.xb b hb) hsz, fun l b hl => ⟨(hh.dom l b hl).1, Nat.lt_of_lt_of_le (hh.dom l b hl).2 hsz⟩, hh.own, hh.inj, fun l o ho => ?_⟩
  have := hh.obj l o ho
  cases hml : m l with
  | none => rw [hml] at this; cases o <;> simp [ORel] at this ⊢
  | some b => rw [hml] at this; exact ORel.mono hm (h b (hh.dom l b hml).2) this
end

/-- A function of closed values: proved in the empty heap, it holds in any; what it made is read as closed. -/
theorem AC.pure {P : Program} {f : FuncId} {args : List AV} {Q : AV → List AObj → Prop} {R : AV → Prop} (hcl : locsInAll 0 args = true) (h : AC P f args [] Q)
    (hq : ∀ r σ', Q r σ' → ∃ v, FrzV σ' r v ∧ R v) (σ : List AObj) : AC P f args σ fun r σ' => R r ∧ σ' = σ := by
  refine ⟨h.1, fun m X w cargs ha hh => ?_⟩
  have hown : ∀ b, Own nom (Own m X) b ↔ Own m X b := fun b => ⟨fun h => h.elim id (fun ⟨l, hl⟩ => by cases hl), .inl⟩
  have ha0 : VRels nom (Own m X) w args cargs := VRels.less (k := 0) (fun l hl => absurd hl (Nat.not_lt_zero _)) (fun b hb => (hown b).1 hb) args cargs hcl ha
  have hh0 : HRel nom (Own m X) [] w := by
    refine ⟨fun b hb => ?_, fun l b hl => (by cases hl), fun l b o hl => (by cases hl), fun l l' b o hl => (by cases hl), fun l o ho => (by simp at ho)⟩
    rcases hb with hb | ⟨l, hl⟩
    · exact hh.xb b hb
    · exact (hh.dom l b hl).2
  refine (h.2 nom (Own m X) w cargs ha0 hh0).mono ?_
  rintro e w' ⟨c, r, σ', m', rfl, hQ, hv, hh', hst, _⟩
  obtain ⟨v, hf, hR⟩ := hq r σ' hQ
  have hsame : ∀ b, b < w.heap.size → w'.heap[b]? = w.heap[b]? := fun b hb => hst.fr b hb (.inr fun l hl => by cases hl)
  refine ⟨c, v, σ, m, rfl, ⟨hR, rfl⟩, ?_, hh.below hst.size hsame, ?_, Nat.le_refl _⟩
  · refine frz_rel hh' (fun b hb => .inl hb) ?_ hf c hv
    intro l b o hl ho hlive hb
    exact hh'.own l b o hl ho hlive hb
  · exact ⟨fun _ _ => rfl, fun l b hl => .inl ⟨l, hl⟩, hst.size, fun b hb _ => hsame b hb, hst.shp, hst.os, hst.tape, hst.output⟩

/-- In a function of closed values: all that was made is read as closed, and the heap is empty. -/
theorem Weak.freeze {fx : Fx} {s : St} {vals' : List AV} (h0 : fx.n0 = 0) (hv : ∀ i, FrzV s.heap (s.vals.getD i .undef) (vals'.getD i .undef)) : Weak fx s ⟨vals', []⟩ := by
  intro m X en ac w hs
  have ho : ∀ b, Own nom X b → Own m X b := fun b hb => hb.elim .inl (fun ⟨l, hl⟩ => by cases hl)
  refine ⟨nom, ⟨hs.size, ?_, ?_, ?_, by simp [h0], hs.entry⟩, ?_⟩
  · intro i t hi
    refine frz_rel hs.heap ho ?_ (hv i) _ (hs.vars i t hi)
    rintro l b o hl hlo hlive (hb | ⟨l', hl'⟩)
    · exact hs.heap.own l b o hl hlo hlive hb
    · cases hl'
  · obtain ⟨bs, h1, h2, h3⟩ := hs.defs
    exact ⟨bs, h1, h2, fun b hb => let ⟨g1, g2, g3, g4⟩ := h3 b hb; ⟨g1, g2, g3, fun hx => g4 (ho b hx)⟩⟩
  · exact ⟨hs.heap.xb, fun l b hl => (by cases hl), fun l b o hl => (by cases hl), fun l l' b o hl => (by cases hl), fun l o ho => (by simp at ho)⟩
  · rw [h0]
    exact ⟨fun l hl => absurd hl (Nat.not_lt_zero _), fun l b hl => (by cases hl), Nat.le_refl _, fun _ _ _ => rfl, fun b c e hb => ⟨c, hb, rfl⟩, rfl, rfl, rfl⟩

end Go.Proofs.Ytphdemhopihpnaa.AM

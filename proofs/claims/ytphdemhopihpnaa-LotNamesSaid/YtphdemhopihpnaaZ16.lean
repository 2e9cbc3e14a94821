/- Parts of the proof, joined: AmO to AmO. -/
import Derived.Test.YtphdemhopihpnaaZ15

namespace Go.Proofs.Ytphdemhopihpnaa.AM
open Go
set_option linter.unusedVariables false
set_option linter.unusedSimpArgs false

variable {P : Program} {fx : Fx} {m : LM} {X : Nat → Prop} {en : Nat} {w : World} {s : St} {Q : Exit → St → Prop}

/-- Deferred calls' blocks are shut; nothing else turns. -/
structure Taken (w w' : World) (e : Nat) : Prop where
  size : w'.heap.size = w.heap.size
  old : ∀ b : Nat, b < e → w'.heap[b]? = w.heap[b]?
  same : ∀ (b : Nat) (o : Obj), w.heap[b]? = some o → (∀ d, o ≠ .deferred d) → w'.heap[b]? = some o
  os : w'.os = w.os
  tape : w'.tape = w.tape
  output : w'.output = w.output
  drawn : w.drawn ≤ w'.drawn

theorem Taken.refl (w : World) (e : Nat) : Taken w w e := ⟨rfl, fun _ _ => rfl, fun _ _ h _ => h, rfl, rfl, rfl, Nat.le_refl _⟩
theorem Taken.put {w w1 : World} {e b : Nat} {d : Option (List Deferred)} (h : Taken w w1 e) (hb : e ≤ b) (hw : w1.heap[b]? = some (.deferred d)) (d' : Option (List Deferred)) : Taken w (w1.putObj b (.deferred d')) e where
  size := by simp [h.size]
  old k hk := by rw [World.putObj_heap_other (by omega)]; exact h.old k hk
  same k o hk hd := by
    have := h.same k o hk hd
    have hne : k ≠ b := by
      rintro rfl; rw [hw] at this; cases this; exact hd d rfl
    rw [World.putObj_heap_other hne]; exact this
  os := h.os
  tape := h.tape
  output := h.output
  drawn := h.drawn

theorem Taken.mono {w w' : World} {e : Nat} (h : Taken w w' e) : Mono m X w m X w' where
  sub _ _ hl := hl
  cl b hb hc := by
    obtain ⟨c, ty, fr, hc⟩ := hc
    exact ⟨by rw [h.same b _ hc (by simp), hc], hb⟩
  shp b c e hb := ⟨c, h.same b _ hb (by simp), rfl⟩

theorem HRel.taken {σ : List AObj} {w' : World} {e : Nat} (hh : HRel m X σ w) (h : Taken w w' e) : HRel m X σ w' := by
  refine ⟨fun b hb => by rw [h.size]; exact hh.xb b hb, fun l b hl => by rw [h.size]; exact hh.dom l b hl, hh.own, hh.inj, fun l o ho => ?_⟩
  have := hh.obj l o ho
  cases hml : m l with
  | none => rw [hml] at this; cases o <;> simp [ORel] at this ⊢
  | some b =>
    rw [hml] at this
    cases o with
    | dead => trivial
    | cells cs =>
      have h2 := this; simp only [ORel] at h2; obtain ⟨c, ty, hb, _⟩ := h2
      exact ORel.mono h.mono (by rw [hb]; exact h.same b _ hb (by simp)) this
    | map es =>
      have h2 := this; simp only [ORel] at h2; obtain ⟨c, ty, hb, _⟩ := h2
      exact ORel.mono h.mono (by rw [hb]; exact h.same b _ hb (by simp)) this
    | siter s0 p =>
      have h2 := this; simp only [ORel] at h2
      exact ORel.mono h.mono (by rw [h2]; exact h.same b _ h2 (by simp)) this
    | loop r =>
      have h2 := this; simp only [ORel] at h2; obtain ⟨_, _, _, _, _, hb, _⟩ := h2
      exact ORel.mono h.mono (by rw [hb]; exact h.same b _ hb (by simp)) this

theorem Step.taken {n0 : Nat} {m' : LM} {w' w'' : World} {e : Nat} (hs : Step n0 m X w m' w') (h : Taken w' w'' e) (he : w.heap.size ≤ e) : Step n0 m X w m' w'' where
  keep := hs.keep
  new := hs.new
  size := by rw [h.size]; exact hs.size
  fr b hb hno := by rw [h.old b (by omega)]; exact hs.fr b hb hno
  shp b c ty hb := by
    obtain ⟨c', h1, h2⟩ := hs.shp b c ty hb
    exact ⟨c', h.same b _ h1 (by simp), h2⟩
  os := h.os.trans hs.os
  tape := h.tape.trans hs.tape
  output := h.output.trans hs.output
  drawn := Nat.le_trans hs.drawn h.drawn

theorem leaves_marks {fn : Func} {tmps : Array Value} {R : Ending → World → Prop} {e : Nat} {w : World} : ∀ (bs : List Nat) (w1 : World), Taken w w1 e → bs.Nodup → (∀ b ∈ bs, e ≤ b ∧ w1.heap[b]? = some (.deferred (some []))) →
    (∀ w2, Taken w w2 e → ∃ v, (results fn tmps).run P w2 = .ok v w2 ∧ R (.returned v) w2) → LeavesInM Fence.wide 0 P fn tmps R (bs.map fun b => { target := .collected b, args := #[] }) .returning w1
  | [], w1, ht, _, _, h => by
    obtain ⟨v, h1, h2⟩ := h w1 ht
    simp only [List.map_nil, LeavesInM, LeavesIn]
    exact ⟨v, h1, h2⟩
  | b :: bs, w1, ht, hnd, hall, h => by
    simp only [List.map_cons, LeavesInM]
    obtain ⟨hb1, hb2⟩ := hall b (by simp)
    refine ⟨by simp, .inl ⟨b, w1.putObj b (.deferred none), rfl, run_takeDeferred hb2, ?_⟩⟩
    refine leaves_marks bs _ (ht.put hb1 hb2 none) (List.nodup_cons.1 hnd).2 ?_ h
    intro b' hb'
    have hne : b' ≠ b := by rintro rfl; exact (List.nodup_cons.1 hnd).1 hb'
    refine ⟨(hall b' (by simp [hb'])).1, ?_⟩
    rw [World.putObj_heap_other hne]; exact (hall b' (by simp [hb'])).2

theorem AC_of_body {f : FuncId} {fn : Func} {c : Code} {args : List AV} {σ : List AObj} {vars : List Nat} {Q : AV → List AObj → Prop} (hf : P.funcs[f]? = some fn) (hb : fn.body = some c) (hen : Enter P f) (hargs : args.length ≤ fn.ntmps)
    (h : W P ⟨vars, fn.ntmps, none, σ.length⟩ c ⟨initVals vars args, σ⟩ fun e s' => match e with
      | .normal | .ret => ∃ r, resAll P vars s'.vals s'.heap fn.results.toList = some r ∧ Q r s'.heap
      | _ => False) : AC P f args σ Q := by
  refine ⟨hen, fun m X w cargs ha hh => ?_⟩
  refine callsIn_of_wp_marks hf hb trivial ?_
  have hlen := ha.length
  have hs0 : SRel ⟨vars, fn.ntmps, none, σ.length⟩ m X w.heap.size ⟨initVals vars args, σ⟩ { tmps := cargs.toArray ++ Array.replicate (fn.ntmps - cargs.toArray.size) Go.undef, defers := [] } w := by
    refine ⟨by simp; omega, ?_, ⟨[], rfl, List.nodup_nil, by simp⟩, hh, Nat.le_refl _, Nat.le_refl _⟩
    intro i t hi
    have e1 : (initVals vars args).getD i .undef = args.getD t .undef := by
      simp only [initVals, List.getD, List.getElem?_map]
      rw [show vars[i]? = some t from hi]; rfl
    rw [e1]
    rw [Array.getD_eq_getD_getElem?]
    by_cases ht : t < cargs.length
    · have e2 : (cargs.toArray ++ Array.replicate (fn.ntmps - cargs.toArray.size) Go.undef)[t]? = some cargs[t] := by
        rw [Array.getElem?_append_left (by simpa using ht)]; simp [ht]
      rw [e2]
      have := ha.getD t Go.undef
      simpa [List.getD, ht] using this
    · have : args.getD t .undef = .undef := by simp [List.getD, List.getElem?_eq_none (show args.length ≤ t by omega)]
      rw [this]; simp [VRel]
  have key := h m X w.heap.size _ w hs0 (by intro l hl; cases hl)
  refine wpIn_mono key ?_
  rintro e ac' w' ⟨s', m', hq, hs', hst⟩
  have fin : (∃ r, resAll P vars s'.vals s'.heap fn.results.toList = some r ∧ Q r s'.heap) → LeavesInM Fence.wide 0 P fn ac'.tmps (CPost m X w σ Q) ac'.defers .returning w' := by
    rintro ⟨r, hr, hQ⟩
    obtain ⟨bs, hbs, hnd, hall⟩ := hs'.defs
    rw [hbs]
    refine leaves_marks (e := w.heap.size) (w := w') bs w' (Taken.refl _ _) hnd (fun b hb => ⟨(hall b hb).1, (hall b hb).2.2.1⟩) ?_
    intro w2 ht
    have hh2 := hs'.heap.taken ht
    have hs2 : SRel ⟨vars, fn.ntmps, none, σ.length⟩ m' X 0 s' { ac' with defers := [] } w2 :=
      ⟨hs'.size, hs'.vars.mono ht.mono, ⟨[], rfl, List.nodup_nil, by simp⟩, hh2, hs'.base, Nat.zero_le _⟩
    obtain ⟨v, h1, h2⟩ := res_sound (fx := ⟨vars, fn.ntmps, none, σ.length⟩) (fn := fn) hs2 hr
    exact ⟨v, h1, v, r, s'.heap, m', rfl, hQ, h2, hh2, hst.taken ht (Nat.le_refl _), hs'.base⟩
  cases e with
  | normal => exact fin hq
  | ret => exact fin hq
  | exit i => exact hq.elim
  | goto l => exact hq.elim
  | panic ch => exact hq.elim
  | outgrown => exact hq.elim

/-! ### What may be forgotten -/

mutual
def locsIn (k : Nat) : AV → Bool
  | .cv _ => true
  | .ptr l _ => decide (l < k)
  | .sl l _ _ _ => decide (l < k)
  | .map l => decide (l < k)
  | .fn _ cs => locsInAll k cs
  | .bm _ cs => locsInAll k cs
  | .yld l => decide (l < k)
  | .agg cs => locsInAll k cs
  | .tup cs => locsInAll k cs
  | .undef => true
  | .slc l _ _ _ _ => decide (l < k)
def locsInAll (k : Nat) : List AV → Bool
  | [] => true
  | a :: as => locsIn k a && locsInAll k as
end

def objIn (k : Nat) : AObj → Bool
  | .dead => true
  | .cells cs => locsInAll k cs
  | .map es => es.all fun e => locsIn k e.1 && locsIn k e.2
  | .siter _ _ => true
  | .loop r => locsInAll k r.vals

def LM.upto (m : LM) (k : Nat) : LM := fun l => if l < k then m l else none

theorem own_upto {k b : Nat} (h : Own (m.upto k) X b) : Own m X b := by
  rcases h with h | ⟨l, hl⟩
  · exact .inl h
  · unfold LM.upto at hl; split at hl
    · exact .inr ⟨l, hl⟩
    · cases hl

mutual
theorem VRel.upto {k : Nat} : ∀ (a : AV) (v : Value), locsIn k a = true → VRel m X w a v → VRel (m.upto k) X w a v
  | .cv c, v, _, h => by simp only [VRel] at h ⊢; exact CV.rep_mono (fun b hb _ => ⟨rfl, fun ho => hb (own_upto ho)⟩) c v h
  | .ptr l off, v, hk, h => by simp only [VRel, locsIn, decide_eq_true_eq] at h hk ⊢; obtain ⟨b, h1, h2⟩ := h; exact ⟨b, by simp [LM.upto, hk, h1], h2⟩
  | .sl l off len esz, v, hk, h => by simp only [VRel, locsIn, decide_eq_true_eq] at h hk ⊢; obtain ⟨b, cap, h1, h2⟩ := h; exact ⟨b, cap, by simp [LM.upto, hk, h1], h2⟩
  | .map l, v, hk, h => by simp only [VRel, locsIn, decide_eq_true_eq] at h hk ⊢; obtain ⟨b, h1, h2⟩ := h; exact ⟨b, by simp [LM.upto, hk, h1], h2⟩
  | .fn f cs, v, hk, h => by simp only [VRel, locsIn] at h hk ⊢; obtain ⟨vs, h1, h2⟩ := h; exact ⟨vs, h1, VRels.upto cs vs hk h2⟩
  | .bm f cs, v, hk, h => by simp only [VRel, locsIn] at h hk ⊢; obtain ⟨vs, h1, h2⟩ := h; exact ⟨vs, h1, VRels.upto cs vs hk h2⟩
  | .yld l, v, hk, h => by simp only [VRel, locsIn, decide_eq_true_eq] at h hk ⊢; obtain ⟨b, h1, h2⟩ := h; exact ⟨b, by simp [LM.upto, hk, h1], h2⟩
  | .agg cs, v, hk, h => by simp only [VRel, locsIn] at h hk ⊢; obtain ⟨vs, h1, h2⟩ := h; exact ⟨vs, h1, VRels.upto cs vs hk h2⟩
  | .tup cs, v, hk, h => by simp only [VRel, locsIn] at h hk ⊢; obtain ⟨vs, h1, h2⟩ := h; exact ⟨vs, h1, VRels.upto cs vs hk h2⟩
  | .undef, v, _, _ => by simp [VRel]
  | .slc l off len cap esz, v, hk, h => by simp only [VRel, locsIn, decide_eq_true_eq] at h hk ⊢; obtain ⟨b, h1, h2⟩ := h; exact ⟨b, by simp [LM.upto, hk, h1], h2⟩
theorem VRels.upto {k : Nat} : ∀ (as : List AV) (vs : List Value), locsInAll k as = true → VRels m X w as vs → VRels (m.upto k) X w as vs
  | [], [], _, _ => by simp [VRels]
  | a :: as, v :: vs, hk, h => by simp only [VRels, locsInAll, Bool.and_eq_true] at h hk ⊢; exact ⟨VRel.upto a v hk.1 h.1, VRels.upto as vs hk.2 h.2⟩
  | [], _ :: _, _, h => by simp [VRels] at h
  | _ :: _, [], _, h => by simp [VRels] at h
end

theorem locsInAll_getD {k : Nat} : ∀ {as : List AV}, locsInAll k as = true → ∀ i, locsIn k (as.getD i .undef) = true
  | [], _, i => by simp [List.getD, locsIn]
  | a :: as, h, 0 => by simp only [locsInAll, Bool.and_eq_true] at h; simpa [List.getD] using h.1
  | a :: as, h, i + 1 => by simp only [locsInAll, Bool.and_eq_true] at h; simpa [List.getD] using locsInAll_getD h.2 i

/-- the values may be made 'undef'; objects from k on go, if nothing leads to them -/
def sub1 : AV → AV → Prop := fun a b => b = a ∨ b = .undef

theorem Weak.drop {vals' : List AV} {k : Nat} (hv : ∀ i, sub1 (s.vals.getD i .undef) (vals'.getD i .undef)) (hk : fx.n0 ≤ k) (hl : locsInAll k vals' = true) (ho : ∀ o ∈ s.heap.take k, objIn k o = true) (hkl : k ≤ s.heap.length) : Weak fx s ⟨vals', s.heap.take k⟩ := by
  intro m X en ac w hs
  refine ⟨m.upto k, ⟨hs.size, ?_, ?_, ?_, ?_, hs.entry⟩, ?_⟩
  · intro i t hi
    have hrel := hs.vars i t hi
    rcases hv i with h1 | h1
    · rw [h1]; rw [← h1]
      have := locsInAll_getD hl i
      rw [h1] at this ⊢
      exact VRel.upto _ _ this hrel
    · rw [h1]; simp [VRel]
  · obtain ⟨bs, h1, h2, h3⟩ := hs.defs
    refine ⟨bs, h1, h2, fun b hb => ?_⟩
    obtain ⟨g1, g2, g3, g4⟩ := h3 b hb
    exact ⟨g1, g2, g3, fun ho => g4 (own_upto ho)⟩
  · have hh := hs.heap
    refine ⟨hh.xb, ?_, ?_, ?_, ?_⟩
    · intro l b hb
      unfold LM.upto at hb
      split at hb
      · rename_i hlk
        have := hh.dom l b hb
        exact ⟨by simp; omega, this.2⟩
      · cases hb
    · intro l b o hb ho1 hv
      unfold LM.upto at hb
      split at hb
      · rename_i hlk
        rw [List.getElem?_take, if_pos hlk] at ho1
        exact hh.own l b o hb ho1 hv
      · cases hb
    · intro l l' b o' h1 h2 ho2 hv2
      unfold LM.upto at h1 h2
      split at h1
      · split at h2
        · rw [List.getElem?_take, if_pos (by assumption)] at ho2
          exact hh.inj l l' b o' h1 h2 ho2 hv2
        · cases h2
      · cases h1
    · intro l o hlo
      have hin := ho o (List.mem_of_getElem? hlo)
      rw [List.getElem?_take] at hlo
      split at hlo
      · rename_i hlk
        have hr := hh.obj l o hlo
        have hml : m.upto k l = m l := by simp [LM.upto, hlk]
        rw [hml]
        cases hm : m l with
        | none => rw [hm] at hr; cases o <;> simp [ORel] at hr ⊢
        | some b =>
          rw [hm] at hr
          cases o with
          | dead => trivial
          | cells cs =>
            simp only [ORel, objIn] at hr hin ⊢
            obtain ⟨c, e, h1, h2, h3⟩ := hr
            exact ⟨c, e, h1, h2, VRels.upto _ _ hin h3⟩
          | map es =>
            simp only [ORel, objIn] at hr hin ⊢
            obtain ⟨ces, clock, h1, h2, h3, h4, h5⟩ := hr
            refine ⟨ces, clock, h1, h2, h3, h4, fun i kk a hi => ?_⟩
            obtain ⟨e, he, g1, g2⟩ := h5 i kk a hi
            rw [List.all_eq_true] at hin
            have := hin _ (List.mem_of_getElem? hi)
            simp only [Bool.and_eq_true] at this
            exact ⟨e, he, VRel.upto _ _ this.1 g1, VRel.upto _ _ this.2 g2⟩
          | siter s0 p => exact hr
          | loop r =>
            simp only [ORel, objIn] at hr hin ⊢
            obtain ⟨tmps, d, fi, h1, h2, h3⟩ := hr
            exact ⟨tmps, d, fi, h1, fun i t hi => VRel.upto _ _ (locsInAll_getD hin i) (h2 i t hi), h3⟩
      · cases hlo
  · simp; have := hs.base; omega
  · refine ⟨fun l hl => by simp [LM.upto]; omega, fun l b hb => ?_, Nat.le_refl _, fun _ _ _ => rfl, fun b c e h => ⟨c, h, rfl⟩, rfl, rfl, rfl, Nat.le_refl _⟩
    unfold LM.upto at hb; split at hb
    · exact .inl ⟨l, hb⟩
    · cases hb

end Go.Proofs.Ytphdemhopihpnaa.AM


/- Parts of the proof, joined: AmS to AmS. -/
import Derived.Test.YtphdemhopihpnaaZ19

namespace Go.Proofs.Ytphdemhopihpnaa.AM
open Go
set_option linter.unusedVariables false
set_option linter.unusedSimpArgs false

variable {P : Program} {fx : Fx} {m : LM} {X : Nat → Prop} {en : Nat} {w : World} {s : St} {Q : Exit → St → Prop}

theorem SRel.drew {ac : Act} (h : SRel fx m X en s ac w) : SRel fx m X en s ac w.drew :=
  have hs : Step s.heap.length m X w m w.drew := Step.of_heap rfl rfl rfl rfl (Nat.le_succ _)
  h.of_heap (h.heap.of_heap rfl) hs (Nat.le_refl _)

theorem SRel.vals_locs {ac : Act} (h : SRel fx m X en s ac w) (hl : s.vals.length ≤ fx.vars.length) : locsInAll s.heap.length s.vals = true := by
  have key : ∀ (vs : List AV) (n : Nat), (∀ i, i < vs.length → locsIn n (vs.getD i .undef) = true) → locsInAll n vs = true := by
    intro vs n
    induction vs with
    | nil => intro _; rfl
    | cons v vs ih =>
      intro hall
      simp only [locsInAll, Bool.and_eq_true]
      exact ⟨by simpa [List.getD] using hall 0 (by simp), ih fun i hi => by simpa [List.getD] using hall (i + 1) (by simp; omega)⟩
  refine key _ _ fun i hi => ?_
  have hlt : i < fx.vars.length := by omega
  exact VRel.locs (fun l b hb => (h.heap.dom l b hb).1) _ _ (h.vars i fx.vars[i] (List.getElem?_eq_getElem hlt))

theorem W_region_draw {id : Nat} {ops : Array Oper} {is : List Ins} {V : Nat → List AV} {r : Nat → AV} {S : Nat → List AObj} {pd : Nat → List Nat} {ch hd : Nat → Nat → Bool} (hmix : P.follows .mixedOrders = true)
    (hc : compReg P fx.vars fx.N ops = some is) (hF : Free P fx ops is V r S pd ch hd) (hV : V 0 = s.vals) (hS : S 0 = s.heap) (hQ : Q .normal ⟨V ops.size, S ops.size⟩) : W P fx (.region id ops true) s Q := by
  intro m X en ac w hs hr
  unfold compReg at hc
  split at hc
  · rename_i hok
    refine wpIn_region_draw fun t => ?_
    have hsch : Region.schedule (P.follows .mixedOrders) ops t = Region.linearise .any ops t := by simp [Region.schedule, hmix]
    rw [hsch]
    have hs' : SRel fx m X en s ac w.drew := hs.drew
    have hst : Step fx.n0 m X w m w.drew := Step.of_heap rfl rfl rfl rfl (Nat.le_succ _)
    have hlen := (hF.size hc).1
    have hvl : s.vals.length ≤ fx.vars.length := by rw [← hV, hF.V0]; exact Nat.le_refl _
    refine RD_go (X := X) (en := en) (ro := fx.r.bind m) hF hok hc ?_ ?_ ?_ _ [] m w.drew ac (sched_of_linearise hF.back t) ?_ ?_
    · intro l o ho; rw [hS] at ho ⊢; exact hs.heap.closed l o ho
    · rw [hS, hV]; exact hs.vals_locs hvl
    · rw [hS]; exact hs.base
    · have hnone : ∀ (p : Nat → Bool), (∀ k, p k = false) → lastOf p ops.size = none := fun p hp => by
        rw [lastOf_cut (j := 0) (Nat.zero_le _) fun k _ _ => hp k]; rfl
      refine ⟨by simp, by simp, hs'.size, ?_, by simp, hs'.defs, ?_, ?_, hs'.entry⟩
      · intro i t hi
        have : vAt is r (V 0) ops.size (fun k => decide (k ∈ ([] : List Nat))) i = (V 0).getD i .undef := by
          simp only [vAt]; rw [hnone _ (by simp)]
        rw [this, hV]; exact hs'.vars i t hi
      · -- the heap at the start: what is made later is not there yet
        have hle := hF.le' (Nat.zero_le _) (Nat.le_refl ops.size)
        have hget : ∀ (l : Nat) (o : AObj), (hAt S ch ops.size fun k => decide (k ∈ ([] : List Nat)))[l]? = some o → o.live → (S 0)[l]? = some o := by
          intro l o ho hv
          have hl : l < (S ops.size).length := by have := (List.getElem?_eq_some_iff.1 ho).1; simpa [hAt] using this
          rw [hAt_get hl] at ho
          have : oAt S ch ops.size (fun k => decide (k ∈ ([] : List Nat))) l = (S 0)[l]? := by
            simp only [oAt]; rw [hnone _ (by simp)]
          rw [this] at ho
          cases h0 : (S 0)[l]? with
          | none => rw [h0] at ho; simp at ho; subst ho; exact hv.elim
          | some o' => rw [h0] at ho; simpa using ho
        have hh := hs'.heap
        rw [hS] at hget hle
        refine ⟨hh.xb, fun l b hb => ?_, ?_, ?_, ?_⟩
        · have := hh.dom l b hb; exact ⟨by simp [hAt]; omega, this.2⟩
        · intro l b o hb ho hv; exact hh.own l b o hb (hget l o ho hv) hv
        · intro l l' b o hb hb' ho hv; exact hh.inj l l' b o hb hb' (hget l' o ho hv) hv
        · intro l o ho
          by_cases hv : o.live
          · exact hh.obj l o (hget l o ho hv)
          · cases o <;> simp [AObj.live] at hv
            simp [ORel]
      · intro l hl _
        cases hml : m l with
        | none => rfl
        | some b => have := (hs.heap.dom l b hml).1; rw [hS] at hl; omega
    · intro m' ac' w' h1 h2
      exact ⟨_, m', hQ, h1, hst.trans h2⟩
  · cases hc

/-! ### Rounds -/

/-- the parameters of a loop over a function, laid into its record's variables -/
def putPars (vars : List Nat) : List Nat → List AV → List AV → List AV
  | t :: ts, a :: as, vals => putPars vars ts as (setD (vars.idxOf? t) vals a)
  | _, _, vals => vals

theorem putPars_rel {vars : List Nat} (hvn : vars.Nodup) : ∀ (ts : List Nat) (as : List AV) (cs : List Value) (vals : List AV) (tmps : Array Value), as.length = ts.length → VRels m X w as cs → (∀ t ∈ ts, t < tmps.size) → (∀ t ∈ ts, t ∈ vars) → vals.length ≤ vars.length → ARel m X w vars vals tmps →
    ARel m X w vars (putPars vars ts as vals) ((ts.zip cs).foldl (fun tmps (t, a) => tmps.setIfInBounds t a) tmps) ∧ ((ts.zip cs).foldl (fun tmps (t, a) => tmps.setIfInBounds t a) tmps).size = tmps.size ∧ (putPars vars ts as vals).length = vals.length
  | [], as, cs, vals, tmps, hl, ha, ht, hv, hlen, har => by
    have : as = [] := List.eq_nil_of_length_eq_zero (by simpa using hl)
    subst this; simpa [putPars] using har
  | t :: ts, [], cs, vals, tmps, hl, ha, ht, hv, hlen, har => by simp at hl
  | t :: ts, a :: as, cs, vals, tmps, hl, ha, ht, hv, hlen, har => by
    obtain ⟨c, cs', rfl, h1, h2⟩ := ha.cons
    simp only [putPars, List.zip_cons_cons, List.foldl_cons]
    have htN := ht t (by simp)
    have har' : ARel m X w vars (setD (vars.idxOf? t) vals a) (tmps.setIfInBounds t c) := by
      intro k u hk
      have getD_set : ∀ u, (tmps.setIfInBounds t c).getD u Go.undef = if u = t then c else tmps.getD u Go.undef := by
        intro u
        simp only [Array.getD_eq_getD_getElem?]
        by_cases hu : u = t
        · subst hu; simp [htN]
        · rw [if_neg hu, Array.getElem?_setIfInBounds_ne (fun h => hu h.symm)]
      rw [getD_set]
      cases hi : vars.idxOf? t with
      | none => exact absurd (hv t (by simp)) (idxOf?_none hi)
      | some i =>
        have hit := idxOf?_some hi
        simp only [setD]
        by_cases hki : k = i
        · subst hki; rw [hit] at hk; cases hk
          rw [if_pos rfl]
          rcases Nat.lt_or_ge k vals.length with h | h
          · simp [List.getD, h]; exact h1
          · rw [List.set_eq_of_length_le h]; simp [List.getD, List.getElem?_eq_none h, VRel]
        · have hut : u ≠ t := by
            rintro rfl
            have hkl : k < vars.length := (List.getElem?_eq_some_iff.1 hk).1
            exact hki ((List.getElem?_inj hkl hvn).1 (hk.trans hit.symm))
          rw [if_neg hut]
          have : (vals.set i a).getD k .undef = vals.getD k .undef := by simp only [List.getD]; rw [List.getElem?_set_ne (fun h => hki h.symm)]
          rw [this]; exact har k u hk
    have hlen' : (setD (vars.idxOf? t) vals a).length = vals.length := by unfold setD; split <;> simp
    obtain ⟨g1, g2, g3⟩ := putPars_rel hvn ts as cs' _ _ (by simpa using hl) h2 (fun u hu => by simpa using ht u (by simp [hu])) (fun u hu => hv u (by simp [hu])) (by rw [hlen']; exact hlen) har'
    exact ⟨g1, by rw [g2]; simp, by rw [g3, hlen']⟩

/-- a place's record, turned -/
def setLoop (σ : List AObj) (l : Nat) (r : ALoop) (st : LoopState) (p : Option Code) : List AObj := σ.set l (.loop { r with state := st, pending := p })

/-- the jump by which a body is left -/
def jumpOf : Exit → Option Code
  | .ret => some .ret
  | .exit i => some (.exit i)
  | .goto t => some (.goto t)
  | _ => none

theorem HRel.loop (h : HRel m X s.heap w) {l b : Nat} {r : ALoop} (hm : m l = some b) (hl : s.heap[l]? = some (.loop r)) : ∃ (tmps : Array Value) (d fi : Nat), tmps.size = r.ntmps ∧ ARel m X w r.vars r.vals tmps ∧
    w.heap[b]? = some (.loop { state := r.state, pending := r.pending, fn := fi, tmps, params := r.params.toArray, assign := r.assign, body := r.body, defers := d }) ∧ r.vals.length ≤ r.vars.length := by
  have := h.obj l _ hl
  rw [hm] at this
  simpa only [ORel] using this

/-- the record's state and pending jump are turned -/
theorem HRel.setLoop {σ : List AObj} (h : HRel m X σ w) {l b : Nat} {r : ALoop} (hm : m l = some b) (hl : σ[l]? = some (.loop r)) {L : Loop} (hL : w.heap[b]? = some (.loop L)) (st : LoopState) (p : Option Code) :
    HRel m X (setLoop σ l r st p) (w.putObj b (.loop { L with state := st, pending := p })) ∧ Step σ.length m X w m (w.putObj b (.loop { L with state := st, pending := p })) ∧ Mono m X w m X (w.putObj b (.loop { L with state := st, pending := p })) := by
  have hr := h.obj l _ hl
  rw [hm] at hr
  simp only [ORel] at hr
  obtain ⟨tmps, d, fi, h1, h2, h3, h4⟩ := hr
  rw [h3] at hL; cases hL
  refine h.turn hm hl trivial (Turned.obj w _ h3 (by simp)) fun hmn => ?_
  simp only [ORel]
  exact ⟨tmps, d, fi, h1, h2.mono hmn, World.putObj_heap_same (lt_of_heap h3), h4⟩

/-- What is asked of a round: the parameters laid, the assignments, the body; the record is ready before, and behind it, or done with a jump. -/
theorem YC_of_round {l : Nat} {σ : List AObj} {r : ALoop} {args : List AV} {Q : AV → List AObj → Prop} (hl : σ[l]? = some (.loop r)) (hst : r.state = .ready) (hargs : args.length = r.params.length) (hvn : r.vars.Nodup) (hpv : ∀ t ∈ r.params, t ∈ r.vars) (hpN : ∀ t ∈ r.params, t < r.ntmps)
    (h : W P ⟨r.vars, r.ntmps, some l, σ.length⟩ r.assign ⟨putPars r.vars r.params args r.vals, σ⟩ fun e s1 => match e with
      | .normal => ∃ r1, s1.heap[l]? = some (.loop r1) ∧ r1.state = .ready ∧
          W P ⟨r.vars, r.ntmps, some l, σ.length⟩ r.body ⟨s1.vals, setLoop s1.heap l r1 .busy r1.pending⟩ fun e s2 => match e with
            | .panic _ | .outgrown => False
            | e => ∃ r2, s2.heap[l]? = some (.loop r2) ∧ Q (.b (jumpOf e).isNone) (setLoop s2.heap l r2 (if (jumpOf e).isNone then .ready else .done) (jumpOf e))
      | _ => False) : YC P l args σ Q := by
  intro m X w cargs b hb ha hh
  have hrl := hh.obj l _ hl
  rw [hb] at hrl
  simp only [ORel] at hrl
  obtain ⟨tmps, d, fi, h1, h2, h3, h4⟩ := hrl
  have hlen := ha.length
  refine ⟨_, h3, by simp; omega, ?_⟩
  obtain ⟨g1, g2, g3⟩ := putPars_rel hvn r.params args cargs r.vals tmps hargs ha (fun t ht => by rw [h1]; exact hpN t ht) hpv h4 h2
  have hzip : (r.params.toArray.zip cargs.toArray).foldl (fun tmps (x : Nat × Value) => tmps.setIfInBounds x.1 x.2) tmps = (r.params.zip cargs).foldl (fun tmps (x : Nat × Value) => tmps.setIfInBounds x.1 x.2) tmps := by
    simp
  have hlσ : l < σ.length := (hh.dom l b hb).1
  have hs0 : SRel ⟨r.vars, r.ntmps, some l, σ.length⟩ m X w.heap.size ⟨putPars r.vars r.params args r.vals, σ⟩ { tmps := (r.params.zip cargs).foldl (fun tmps (x : Nat × Value) => tmps.setIfInBounds x.1 x.2) tmps, defers := [] } w :=
    ⟨by rw [g2]; exact h1, g1, ⟨[], rfl, List.nodup_nil, by simp⟩, hh, Nat.le_refl _, Nat.le_refl _⟩
  have hrok : rok ⟨r.vars, r.ntmps, some l, σ.length⟩ m := by intro x hx; cases hx; exact ⟨hlσ, b, hb⟩
  have hfen : fen m (some l) = Fence.wide.inRound b := by simp [fen, Fence.inRound, hb]
  refine roundIn_of_wpIn (F := Fence.wide) (n := 0) trivial ?_
  dsimp only
  rw [hzip]
  have key := h m X w.heap.size _ w hs0 hrok
  rw [show fen m (Fx.r ⟨r.vars, r.ntmps, some l, σ.length⟩) = Fence.wide.inRound b from hfen] at key
  refine wpIn_mono key ?_
  rintro e a1 w1 ⟨s1, m1, hq, hs1, hst1⟩
  cases e with
  | normal =>
    obtain ⟨r1, hl1, hr1, hbody⟩ := hq
    have hb1 : m1 l = some b := by rw [hst1.keep l hlσ]; exact hb
    obtain ⟨tm1, d1, fi1, k1, k2, k3, k4⟩ := hs1.heap.loop hb1 hl1
    rw [hr1] at k3
    refine ⟨_, run_beginRound k3 rfl, ?_⟩
    obtain ⟨u1, u2, u3⟩ := hs1.heap.setLoop hb1 hl1 (by rw [← hr1] at k3; exact k3) .busy r1.pending
    have hs1' := hs1.of_heap u1 u2 (by simp [AM.setLoop])
    have e1 : ({ ({ state := r1.state, pending := r1.pending, fn := fi1, tmps := tm1, params := r1.params.toArray, assign := r1.assign, body := r1.body, defers := d1 } : Loop) with state := .busy, pending := r1.pending } : Loop) = { ({ state := .ready, pending := r1.pending, fn := fi1, tmps := tm1, params := r1.params.toArray, assign := r1.assign, body := r1.body, defers := d1 } : Loop) with state := .busy } := rfl
    rw [e1] at hs1' u1 u2 u3
    have hst1' := hst1.trans (u2.less hs1.base)
    have key2 := W.later hbody hrok hs1' hst1'
    rw [show fen m (Fx.r ⟨r.vars, r.ntmps, some l, σ.length⟩) = Fence.wide.inRound b from hfen] at key2
    refine wpIn_mono key2 ?_
    rintro e a2 w2 ⟨s2, m2, hq2, hs2, hst2⟩
    have fin : ∀ (jmp : Option Code), (∃ r2, s2.heap[l]? = some (.loop r2) ∧ Q (.b jmp.isNone) (AM.setLoop s2.heap l r2 (if jmp.isNone then .ready else .done) jmp)) → ∃ v w', (Instr.endRound b jmp).run P w2 = .ok v w' ∧ CPost m X w σ Q (.returned v) w' := by
      rintro jmp ⟨r2, hl2, hQ⟩
      have hb2 : m2 l = some b := by rw [hst2.keep l hlσ]; exact hb
      obtain ⟨tm2, d2, fi2, v1, v2, v3, v4⟩ := hs2.heap.loop hb2 hl2
      obtain ⟨x1, x2, x3⟩ := hs2.heap.setLoop hb2 hl2 v3 (if jmp.isNone then .ready else .done) jmp
      refine ⟨.bool jmp.isNone, _, run_endRound jmp v3, _, _, _, m2, rfl, hQ, ?_, x1, hst2.trans (x2.less hs2.base), ?_⟩
      · exact VRel.mk_bool _
      · simp only [AM.setLoop, List.length_set]; exact hs2.base
    cases e with
    | normal => exact fin none hq2
    | ret => exact fin (some .ret) hq2
    | exit i => exact fin (some (.exit i)) hq2
    | goto t => exact fin (some (.goto t)) hq2
    | panic c => exact hq2.elim
    | outgrown => exact hq2.elim
  | ret => exact hq.elim
  | exit i => exact hq.elim
  | goto t => exact hq.elim
  | panic c => exact hq.elim
  | outgrown => exact hq.elim

end Go.Proofs.Ytphdemhopihpnaa.AM


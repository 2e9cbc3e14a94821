/- Parts of the proof, joined: AmN to AmN. -/
import Derived.Test.YtphdemhopihpnaaZ14

namespace Go.Proofs.Ytphdemhopihpnaa.AM
open Go
set_option linter.unusedVariables false
set_option linter.unusedSimpArgs false

variable {P : Program} {fx : Fx} {m : LM} {X : Nat → Prop} {en : Nat} {w : World} {s : St} {Q : Exit → St → Prop}

theorem fen_eq (m : LM) (r : Option Nat) : fen m r = wfen (r.bind m) := rfl

theorem W.mono {c : Code} {Q' : Exit → St → Prop} (h : W P fx c s Q) (hq : ∀ e s', Q e s' → Q' e s') : W P fx c s Q' :=
  fun m X en ac w hs hr => wpIn_mono (h m X en ac w hs hr) fun e ac' w' ⟨s', m', h1, h2⟩ => ⟨s', m', hq _ _ h1, h2⟩

theorem W_skip (h : Q .normal s) : W P fx .skip s Q :=
  fun m X en ac w hs hr => wpIn_skip ⟨s, m, h, hs, Step.refl _ _ _ _⟩
theorem W_label {l : Nat} (h : Q .normal s) : W P fx (.label l) s Q :=
  fun m X en ac w hs hr => wpIn_label ⟨s, m, h, hs, Step.refl _ _ _ _⟩
theorem W_exit {i : Nat} (h : Q (.exit i) s) : W P fx (.exit i) s Q :=
  fun m X en ac w hs hr => wpIn_exit ⟨s, m, h, hs, Step.refl _ _ _ _⟩
theorem W_ret (h : Q .ret s) : W P fx .ret s Q :=
  fun m X en ac w hs hr => wpIn_ret ⟨s, m, h, hs, Step.refl _ _ _ _⟩

/-- From a later state on. -/
theorem W.later {c : Code} {s' : St} {m' : LM} {w' : World} {ac' : Act} (h : W P fx c s' Q) (hr : rok fx m) (hs' : SRel fx m' X en s' ac' w') (hst : Step fx.n0 m X w m' w') :
    c.wpIn (fen m fx.r) 0 P (Lift fx m X en w Q) ac' w' := by
  rw [← fen_step hr hst]
  exact wpIn_mono (h m' X en ac' w' hs' (rok_step hr hst)) fun e ac2 w2 ⟨s2, m2, h1, h2, h3⟩ => ⟨s2, m2, h1, h2, hst.trans h3⟩

theorem W_seq {x y : Code} (h : W P fx x s fun e s' => match e with | .normal => W P fx y s' Q | e => Q e s') : W P fx (.seq x y) s Q := by
  intro m X en ac w hs hr
  refine wpIn_seq (wpIn_mono (h m X en ac w hs hr) ?_)
  rintro e ac' w' ⟨s', m', hq, hs', hst⟩
  cases e with
  | normal => exact W.later hq hr hs' hst
  | _ => exact ⟨s', m', hq, hs', hst⟩

theorem W_block {i : Nat} {x : Code} (h : W P fx x s fun e s' => match e with | .exit i' => if i' = i then Q .normal s' else Q (.exit i') s' | e => Q e s') : W P fx (.block i x) s Q := by
  intro m X en ac w hs hr
  refine wpIn_block (wpIn_mono (h m X en ac w hs hr) ?_)
  rintro e ac' w' ⟨s', m', hq, hs', hst⟩
  cases e with
  | exit i' =>
    simp only [Exit.inBlock]
    dsimp only at hq
    split
    · rename_i hi; rw [if_pos hi] at hq; exact ⟨s', m', hq, hs', hst⟩
    · rename_i hi; rw [if_neg hi] at hq; exact ⟨s', m', hq, hs', hst⟩
  | _ => exact ⟨s', m', hq, hs', hst⟩

theorem W_cond {t i : Nat} {b : Bool} {x y : Code} (hv : fx.vars[i]? = some t) (hb : s.vals.getD i .undef = .b b) (h : W P fx (if b then x else y) s Q) : W P fx (.cond (.tmp t) x y) s Q := by
  intro m X en ac w hs hr
  have := hs.vars i t hv
  rw [hb] at this
  exact wpIn_cond (t := b) this.bool (h m X en ac w hs hr)

/-- A later abstract state that says less of the same memory. -/
def Weak (fx : Fx) (s s' : St) : Prop := ∀ m X en ac w, SRel fx m X en s ac w → ∃ m', SRel fx m' X en s' ac w ∧ Step fx.n0 m X w m' w

theorem Weak.refl (fx : Fx) (s : St) : Weak fx s s := fun m X en ac w h => ⟨m, h, Step.refl _ _ _ _⟩
theorem Weak.trans {fx : Fx} {a b c : St} (h : Weak fx a b) (k : Weak fx b c) : Weak fx a c := fun m X en ac w hs =>
  let ⟨m1, h1, s1⟩ := h m X en ac w hs
  let ⟨m2, h2, s2⟩ := k m1 X en ac w h1
  ⟨m2, h2, s1.trans s2⟩

theorem W.weak {c : Code} {s' : St} (hw : Weak fx s s') (h : W P fx c s' Q) : W P fx c s Q := by
  intro m X en ac w hs hr
  obtain ⟨m', hs', hst⟩ := hw m X en ac w hs
  exact W.later h hr hs' hst

/-- The head of a loop. -/
def LoopIn (F : Fence) (P : Program) (c : Code) (Q : Exit → Act → World → Prop) (a : Act) (w : World) : Prop :=
  ∀ (b : Frame) (k : List Item) (cs : List Frame), b.roundOf = F.round → F.fn b.fn → F.room (cs.length + 1 + 0) →
    ∃ e a' w', Q e a' w' ∧ ArrivesIn (Machine.fenced P F) P (lone (b.atR a (.code c :: .inLoop c :: k)) cs w) b k cs e a' w'

theorem wpIn_of_loopIn {F : Fence} {c : Code} {Q : Exit → Act → World → Prop} {a : Act} {w : World} (h : LoopIn F P c Q a w) : (Code.loop c).wpIn F 0 P Q a w := by
  intro b k cs hro hb hr
  obtain ⟨e, a', w', hq, harr⟩ := h b k cs hro hb hr
  exact ⟨e, a', w', hq, .of_steps (.one (fenced_calm hb hr rfl) stepR_loop) harr⟩

theorem loopIn_unroll {F : Fence} {c : Code} {Q : Exit → Act → World → Prop} {a : Act} {w : World} (h : c.wpIn F 0 P (Exit.then (fun a' w' => LoopIn F P c Q a' w') Q) a w) : LoopIn F P c Q a w := by
  intro b k cs hro hb hr
  obtain ⟨e, a₁, w₁, hq, harr⟩ := h b (.inLoop c :: k) cs hro hb hr
  cases e with
  | normal =>
    obtain ⟨e₂, a₂, w₂, hq₂, harr₂⟩ := hq b k cs hro hb hr
    exact ⟨e₂, a₂, w₂, hq₂, .of_steps (StepsIn.trans harr (.one (fenced_calm hb hr rfl) stepR_inLoop)) harr₂⟩
  | exit id => exact ⟨_, a₁, w₁, hq, .pass (x := .inLoop c) rfl (fun _ _ => .inl (by simp)) harr⟩
  | goto l => exact ⟨_, a₁, w₁, hq, .pass (x := .inLoop c) rfl (fun _ _ => .inl (by simp)) harr⟩
  | ret => exact ⟨_, a₁, w₁, hq, .pass (x := .inLoop c) rfl (fun _ _ => .inl (by simp)) harr⟩
  | panic ch => exact ⟨_, a₁, w₁, hq, .pass (x := .inLoop c) rfl (fun _ _ => .inl (by simp)) harr⟩
  | outgrown => exact ⟨_, a₁, w₁, hq, .pass (x := .inLoop c) rfl (fun _ _ => .inl (by simp)) harr⟩

def WL (P : Program) (fx : Fx) (c : Code) (s : St) (Q : Exit → St → Prop) : Prop :=
  ∀ m X en ac w, SRel fx m X en s ac w → rok fx m → LoopIn (fen m fx.r) P c (Lift fx m X en w Q) ac w

theorem W_loop {c : Code} (h : WL P fx c s Q) : W P fx (.loop c) s Q :=
  fun m X en ac w hs hr => wpIn_of_loopIn (h m X en ac w hs hr)

theorem LoopIn.mono {F : Fence} {c : Code} {Q Q' : Exit → Act → World → Prop} {a : Act} {w : World} (h : LoopIn F P c Q a w) (hq : ∀ e a w, Q e a w → Q' e a w) : LoopIn F P c Q' a w :=
  fun b k cs h1 h2 h3 => let ⟨e, a', w', q, r⟩ := h b k cs h1 h2 h3; ⟨e, a', w', hq _ _ _ q, r⟩

theorem WL.later {c : Code} {s' : St} {m' : LM} {w' : World} {ac' : Act} (h : WL P fx c s' Q) (hr : rok fx m) (hs' : SRel fx m' X en s' ac' w') (hst : Step fx.n0 m X w m' w') :
    LoopIn (fen m fx.r) P c (Lift fx m X en w Q) ac' w' := by
  rw [← fen_step hr hst]
  exact LoopIn.mono (h m' X en ac' w' hs' (rok_step hr hst)) fun e ac2 w2 ⟨s2, m2, h1, h2, h3⟩ => ⟨s2, m2, h1, h2, hst.trans h3⟩

/-- A round, and on. -/
theorem WL_unroll {c : Code} (h : W P fx c s fun e s' => match e with | .normal => WL P fx c s' Q | e => Q e s') : WL P fx c s Q := by
  intro m X en ac w hs hr
  refine loopIn_unroll (wpIn_mono (h m X en ac w hs hr) ?_)
  rintro e ac' w' ⟨s', m', hq, hs', hst⟩
  cases e with
  | normal => exact WL.later hq hr hs' hst
  | _ => exact ⟨s', m', hq, hs', hst⟩

theorem WL.weak {c : Code} {s' : St} (hw : Weak fx s s') (h : WL P fx c s' Q) : WL P fx c s Q := by
  intro m X en ac w hs hr
  obtain ⟨m', hs', hst⟩ := hw m X en ac w hs
  exact WL.later h hr hs' hst

theorem WL.mono {c : Code} {Q' : Exit → St → Prop} (h : WL P fx c s Q) (hq : ∀ e s', Q e s' → Q' e s') : WL P fx c s Q' :=
  fun m X en ac w hs hr => LoopIn.mono (h m X en ac w hs hr) fun e ac' w' ⟨s', m', h1, h2⟩ => ⟨s', m', hq _ _ h1, h2⟩

/-- A loop, by an invariant and a measure. -/
theorem WL_inv {c : Code} (I : St → Prop) (μ : St → Nat) (h : ∀ s, I s → W P fx c s fun e s' => match e with | .normal => ∃ s'', Weak fx s' s'' ∧ I s'' ∧ μ s'' < μ s | e => Q e s') : ∀ s, I s → WL P fx c s Q := by
  have key : ∀ n s, μ s = n → I s → WL P fx c s Q := by
    intro n
    induction n using Nat.strongRecOn with
    | _ n ih =>
      intro s hn hI
      refine WL_unroll (W.mono (h s hI) ?_)
      intro e s' hq
      cases e with
      | normal =>
        obtain ⟨s'', h1, h2, h3⟩ := hq
        exact WL.weak h1 (ih (μ s'') (hn ▸ h3) s'' rfl h2)
      | _ => exact hq
  exact fun s hI => key _ s rfl hI

theorem W_region {id : Nat} {ops : Array Oper} {is : List Ins} (hc : compReg P fx.vars fx.N ops = some is) (h : RG P is s.vals [] s.heap fun vals _ σ => Q .normal ⟨vals, σ⟩) : W P fx (.region id ops false) s Q := by
  intro m X en ac w hs hr
  unfold compReg at hc
  split at hc
  · rename_i hok
    have := RG_sound (ro := fx.r.bind m) (Qc := Lift fx m X en w Q) hok is 0 m w s.vals [] s.heap _ ac (by rw [← compAll_eq]; simpa using hc) rfl h hs (fun j t _ _ => by simp [VRel]) ?_
    · refine wpIn_region ?_
      rw [List.range_eq_range']; exact this
    · intro m' ac' w' vals ρ σ hK hs' hst
      exact ⟨_, m', hK, hs', hst⟩
  · cases hc

theorem W_region_k {id : Nat} {ops : Array Oper} {is : List Ins} (hc : compReg P fx.vars fx.N ops = some is) (h : ∀ K : List AV → List AObj → Prop, (∀ vals σ, Q .normal ⟨vals, σ⟩ → K vals σ) → RG P is s.vals [] s.heap fun vals _ σ => K vals σ) : W P fx (.region id ops false) s Q :=
  W_region hc (h _ fun _ _ h => h)

/-! ### Functions -/

/-- what a function hands back, out of its variables -/
def resF (vars : List Nat) (vals : List AV) (σ : List AObj) (P : Program) : ResultVar → Option AV
  | .tmp t => (vars.idxOf? t).map fun i => vals.getD i .undef
  | .cell a t => (vars.idxOf? a).bind fun i => (isAggT P t).bind fun g => if g then (P.info? t).bind fun ti => (f_loadN ti.size [vals.getD i .undef] σ).map (·.1) else (f_load1 [vals.getD i .undef] σ).map (·.1)

def resAll (P : Program) (vars : List Nat) (vals : List AV) (σ : List AObj) (rs : List ResultVar) : Option AV :=
  match rs with
  | [r] => resF vars vals σ P r
  | rs => (rs.mapM (resF vars vals σ P)).map .tup

def initVals (vars : List Nat) (args : List AV) : List AV := vars.map fun t => args.getD t .undef

theorem res_one {s : St} {ac : Act} (hs : SRel fx m X en s ac w) {rv : ResultVar} {a : AV} (h : resF fx.vars s.vals s.heap P rv = some a) :
    ∃ v, (match rv with | .tmp t => pure (ac.tmps.getD t Go.undef) | .cell c t => do loadVar t (← asAddr (ac.tmps.getD c Go.undef)) : Sem Value).run P w = .ok v w ∧ VRel m X w a v := by
  cases rv with
  | tmp t =>
    simp only [resF, Option.map_eq_some_iff] at h
    obtain ⟨i, hi, rfl⟩ := h
    exact ⟨_, rfl, hs.vars i t (idxOf?_some hi)⟩
  | cell c t =>
    simp only [resF, Option.bind_eq_some_iff] at h
    obtain ⟨i, hi, g, hg, h⟩ := h
    have hv := hs.vars i c (idxOf?_some hi)
    cases g with
    | true =>
      simp only [if_true, Option.bind_eq_some_iff, Option.map_eq_some_iff] at h
      obtain ⟨ti, hti, ⟨a', σ'⟩, hl, rfl⟩ := h
      obtain ⟨ad, v, he, h1, h2, _⟩ := loadN_run hs.heap hg hti (by simp only [VRels]; exact ⟨hv, trivial⟩ : VRels m X w [_] [ac.tmps.getD c Go.undef]) hl
      refine ⟨v, ?_, h2⟩
      simp only [he, asAddr, Sem.run_bind, Sem.run_pure, Result.andThen_ok]; exact h1
    | false =>
      simp only [Bool.false_eq_true, if_false, Option.map_eq_some_iff] at h
      obtain ⟨⟨a', σ'⟩, hl, rfl⟩ := h
      obtain ⟨ad, v, he, h1, h2, _⟩ := load1_run hs.heap hg (by simp only [VRels]; exact ⟨hv, trivial⟩ : VRels m X w [_] [ac.tmps.getD c Go.undef]) hl
      refine ⟨v, ?_, h2⟩
      simp only [he, asAddr, Sem.run_bind, Sem.run_pure, Result.andThen_ok]; exact h1

theorem res_list {s : St} {ac : Act} (hs : SRel fx m X en s ac w) : ∀ {rs : List ResultVar} {as : List AV}, rs.mapM (resF fx.vars s.vals s.heap P) = some as →
    ∃ vs : List Value, (rs.mapM fun | .tmp t => pure (ac.tmps.getD t Go.undef) | .cell c t => do loadVar t (← asAddr (ac.tmps.getD c Go.undef)) : Sem (List Value)).run P w = .ok vs w ∧ VRels m X w as vs
  | [], as, h => by simp at h; subst h; exact ⟨[], by simp, by simp [VRels]⟩
  | rv :: rs, as, h => by
    simp only [List.mapM_cons, Option.bind_eq_bind, Option.bind_eq_some_iff, Option.pure_def, Option.some.injEq] at h
    obtain ⟨a, ha, as', has, rfl⟩ := h
    obtain ⟨v, h1, h2⟩ := res_one hs ha
    obtain ⟨vs, h3, h4⟩ := res_list hs has
    refine ⟨v :: vs, ?_, by simp only [VRels]; exact ⟨h2, h4⟩⟩
    simp only [List.mapM_cons, Sem.run_bind]
    rw [h1]; simp only [Result.andThen_ok]; rw [h3]; simp

theorem res_sound {s : St} {ac : Act} {fn : Func} {r : AV} (hs : SRel fx m X en s ac w) (h : resAll P fx.vars s.vals s.heap fn.results.toList = some r) :
    ∃ v, (results fn ac.tmps).run P w = .ok v w ∧ VRel m X w r v := by
  have hm : ∀ {as : List AV}, fn.results.toList.mapM (resF fx.vars s.vals s.heap P) = some as → ∃ vs : List Value, vs.length = fn.results.toList.length ∧ (results fn ac.tmps).run P w = .ok (if h : vs.length = 1 then vs[0] else .tuple vs.toArray) w ∧ VRels m X w as vs := by
    intro as has
    obtain ⟨vs, h1, h2⟩ := res_list hs has
    have hl : vs.length = fn.results.toList.length := by
      rw [← h2.length]
      have : ∀ (l : List ResultVar) (bs : List AV), l.mapM (resF fx.vars s.vals s.heap P) = some bs → bs.length = l.length := by
        intro l
        induction l with
        | nil => intro bs h; simp at h; subst h; rfl
        | cons x l ih =>
          intro bs h
          simp only [List.mapM_cons, Option.bind_eq_bind, Option.bind_eq_some_iff, Option.pure_def, Option.some.injEq] at h
          obtain ⟨_, _, bs', hbs, rfl⟩ := h
          simp [ih _ hbs]
      exact this _ _ has
    refine ⟨vs, hl, ?_, h2⟩
    unfold results
    rw [Array.mapM_eq_mapM_toList]
    simp only [Sem.run_bind, Sem.run_map]
    erw [h1]
    simp
  unfold resAll at h
  split at h
  · rename_i rv hrv
    obtain ⟨vs, hl, h1, h2⟩ := hm (as := [r]) (by rw [hrv]; simp [h])
    rw [hrv] at hl
    match vs, hl, h1, h2 with
    | [v], _, h1, h2 => exact ⟨v, by simpa using h1, by simp only [VRels] at h2; exact h2.1⟩
  · rename_i rs hrs
    simp only [Option.map_eq_some_iff] at h
    obtain ⟨as, has, rfl⟩ := h
    obtain ⟨vs, hl, h1, h2⟩ := hm has
    refine ⟨.tuple vs.toArray, ?_, by simp only [VRel]; exact ⟨vs, rfl, h2⟩⟩
    have : vs.length ≠ 1 := by
      intro h1l
      rw [hl] at h1l
      match hq : fn.results.toList, h1l with
      | [rv], _ => exact hrs rv hq
    rw [h1, dif_neg this]

end Go.Proofs.Ytphdemhopihpnaa.AM


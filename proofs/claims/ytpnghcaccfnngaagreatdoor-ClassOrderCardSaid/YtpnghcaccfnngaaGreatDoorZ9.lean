/- Parts of the proof, joined: AmPt to AmPu. -/
import Derived.RecoverIn
import Derived.Test.YtpnghcaccfnngaaGreatDoorZ8
set_option linter.unusedVariables false
set_option linter.unusedSimpArgs false
set_option linter.unusedSectionVars false
namespace Go.Proofs.YtpnghcaccfnngaaGreatDoor.AM
set_option linter.unusedSectionVars false
variable [Dr]
open Go
set_option linter.unusedVariables false
set_option linter.unusedSimpArgs false
variable {P : Program} {m m' : LM} {X X' : Nat → Prop} {w w' : World}
def ACd (P : Program) (g : FuncId) (args : List AV) (u : FrameMode) (σ : List AObj) (Q : List AObj → Prop) : Prop :=
 Enter P g ∧ ∀ m X w cargs, VRels m X w args cargs → HRel m X σ w → CallsDIn Fence.wide 0 P g cargs.toArray u w fun e u' w' =>
  (∃ c, e = .returned c) ∧ settle u' = .returning ∧ ∃ σ' m', Q σ' ∧ HRel m' X σ' w' ∧ Step σ.length m X w m' w' ∧ σ.length ≤ σ'.length
def FW (f : FuncId) (fn : Func) (P : Program) (vars : List Nat) (n0 : Nat) (Q : AV → List AObj → Prop) (c : Code) (s : St) : Prop :=
 ∀ (m0 : LM) (X : Nat → Prop) (w0 : World) (m : LM) (en : En) (ac : Act) (w : World) (σ0 : List AObj), σ0.length = n0 → en.ds = [] → en.n = w0.heap.size → SRel ⟨vars, fn.ntmps, none, n0⟩ m X en s ac w → Step n0 m0 X w0 m w →
  InF f Fence.wide 0 P c (bodyPostM Fence.wide 0 P fn (CPost m0 X w0 σ0 Q)) ac w
variable {f : FuncId} {fn : Func} {vars : List Nat} {n0 : Nat} {Q : AV → List AObj → Prop} {s : St}
theorem FW_fin {m0 : LM} {w0 : World} {en : En} {ac : Act} {σ0 : List AObj} (hσ : σ0.length = n0) (hds : en.ds = []) (hen : en.n = w0.heap.size) (hs : SRel ⟨vars, fn.ntmps, none, n0⟩ m X en s ac w) (hst : Step n0 m0 X w0 m w)
  (h : ∃ r, resAll P vars s.vals s.heap fn.results.toList = some r ∧ Q r s.heap) : LeavesInM Fence.wide 0 P fn ac.tmps (CPost m0 X w0 σ0 Q) ac.defers .returning w := by
 obtain ⟨r, hr, hQ⟩ := h
 obtain ⟨bs, hbs, hnd, hall⟩ := hs.defs
 rw [hbs, hds, List.append_nil]
 refine leaves_marks (e := w0.heap.size) (w := w) bs w (Taken.refl _ _) hnd (fun b hb => ⟨by rw [← hen]; exact (hall b hb).1, (hall b hb).2.2.1⟩) ?_
 intro w2 ht
 have hh2 := hs.heap.taken ht
 have hs2 : SRel ⟨vars, fn.ntmps, none, n0⟩ m X ⟨0, []⟩ s { ac with defers := [] } w2 :=
  ⟨hs.size, hs.vars.mono ht.mono, ⟨[], rfl, List.nodup_nil, by simp⟩, hh2, hs.base, Nat.zero_le _⟩
 obtain ⟨v, h1, h2⟩ := res_sound (fx := ⟨vars, fn.ntmps, none, n0⟩) (fn := fn) hs2 hr
 exact ⟨v, h1, v, r, s.heap, m, rfl, hQ, h2, hh2, hσ ▸ hst.taken ht (Nat.le_refl _), by rw [hσ]; exact hs.base⟩
theorem FW_of_WB {c : Code} (h : WB f P ⟨vars, fn.ntmps, none, n0⟩ c s fun e s' => match e with
   | .normal | .ret => ∃ r, resAll P vars s'.vals s'.heap fn.results.toList = some r ∧ Q r s'.heap
   | _ => False) : FW f fn P vars n0 Q c s := by
 intro m0 X w0 m en ac w σ0 hσ hds hen hs hst
 have key := h m X en ac w hs (by intro l hl; cases hl)
 refine InF.mono key ?_
 rintro e ac' w' ⟨s', m', hq, hs', hst'⟩
 cases e with
 | normal => exact FW_fin hσ hds hen hs' (hst.trans hst') hq
 | ret => exact FW_fin hσ hds hen hs' (hst.trans hst') hq
 | exit i => exact hq.elim
 | goto l => exact hq.elim
 | panic ch => exact hq.elim
 | outgrown => exact hq.elim
theorem FW_seq {a b : Code} (h : WB f P ⟨vars, fn.ntmps, none, n0⟩ a s fun e s' => match e with
   | .normal => FW f fn P vars n0 Q b s'
   | .ret => ∃ r, resAll P vars s'.vals s'.heap fn.results.toList = some r ∧ Q r s'.heap
   | _ => False) : FW f fn P vars n0 Q (.seq a b) s := by
 intro m0 X w0 m en ac w σ0 hσ hds hen hs hst
 have key := h m X en ac w hs (by intro l hl; cases hl)
 refine InF_seq (InF.mono key ?_)
 rintro e ac' w' ⟨s', m', hq, hs', hst'⟩
 cases e with
 | normal => exact hq m0 X w0 m' en ac' w' σ0 hσ hds hen hs' (hst.trans hst')
 | ret => exact FW_fin hσ hds hen hs' (hst.trans hst') hq
 | exit i => exact hq.elim
 | goto l => exact hq.elim
 | panic ch => exact hq.elim
 | outgrown => exact hq.elim
theorem AC_FW {c : Code} {args : List AV} {σ : List AObj} (hf : P.funcs[f]? = some fn) (hb : fn.body = some c) (hen : Enter P f) (hargs : args.length ≤ fn.ntmps)
  (h : FW f fn P vars σ.length Q c ⟨initVals vars args, σ⟩) : AC P f args σ Q := by
 refine ⟨hen, fun m X w cargs ha hh => ?_⟩
 refine callsIn_of_InF hf hb trivial ?_
 have hs0 := start_rel (f := f) (fn := fn) (vars := vars) ha hh hargs
 exact h m X w m ⟨w.heap.size, []⟩ _ w σ rfl rfl rfl hs0 (Step.refl _ _ _ _)
theorem SRel.growX {fx : Fx} {en : En} {ac : Act} (B : Nat → Prop) (hB : ∀ b, B b → b < w.heap.size ∧ ¬ isC w b ∧ ¬ Own m X b) (hs : SRel fx m X en s ac w) (en' : En) {ac' : Act} (htm : ac'.tmps = ac.tmps) (hd : ac'.defers = en'.ds) (he : en'.n ≤ w.heap.size) (n1 : Nat) (hn : n1 ≤ s.heap.length) :
  SRel { fx with n0 := n1 } m (fun b => X b ∨ B b) en' s ac' w := by
 have hm : Mono m X w m (fun b => X b ∨ B b) w := ⟨fun _ _ h => h, fun b hb hc => ⟨rfl, by
  rintro ((hx | hx) | h)
  ·exact hb (.inl hx)
  ·exact (hB b hx).2.1 hc
  ·exact hb (.inr h)⟩, fun b c e h => ⟨c, h, rfl⟩⟩
 refine ⟨by rw [htm]; exact hs.size, by rw [htm]; exact hs.vars.mono hm, ⟨[], by simpa using hd, List.nodup_nil, by simp⟩, ⟨?_, hs.heap.dom, ?_, hs.heap.inj, ?_⟩, hn, he⟩
 ·rintro b (hb | hb)
  ·exact hs.heap.xb b hb
  ·exact (hB b hb).1
 ·intro l b o hl ho hv
  rintro (hb | hb)
  ·exact hs.heap.own l b o hl ho hv hb
  ·exact (hB b hb).2.2 (.inr ⟨l, hl⟩)
 ·intro l o ho
  have := hs.heap.obj l o ho
  cases hml : m l with
  | none => rw [hml] at this; cases o <;> simp [ORel] at this ⊢
  | some b => rw [hml] at this; exact ORel.mono hm rfl this
theorem FW_defer {id t : Nat} {o0 o1 : Oper} {g : FuncId} {capt : Array Operand} {at_ : Array TypeId} {B : Code}
  (h0 : o0.op = .makeFunc (.func g) #[] capt ∧ o0.dst = some t ∧ o0.guard = none) (h1 : o1.op = .defer { callee := .value (.tmp t), args := #[], argTypes := at_ } ∧ o1.dst = none ∧ o1.guard = none) (ht : t ∉ vars) (htN : t < fn.ntmps)
  (hB : WB f P ⟨vars, fn.ntmps, none, s.heap.length⟩ B s fun e s' => match e with
   | .normal | .ret => ACd P g (capt.toList.map fun x => evalO s.vals [] (compOpd vars [] x)) .returning s'.heap fun σ' => ∃ r, resAll P vars s'.vals σ' fn.results.toList = some r ∧ Q r σ'
   | .panic ch => ACd P g (capt.toList.map fun x => evalO s.vals [] (compOpd vars [] x)) (.panicking ch) s'.heap fun σ' => ∃ r, resAll P vars s'.vals σ' fn.results.toList = some r ∧ Q r σ'
   | _ => False) : FW f fn P vars n0 Q (.seq (.region id #[o0, o1] false) B) s := by
 intro m0 X w0 m en ac w σ0 hσ hds hen hs hst
 have hsz := hs.size
 have hcap : VRels m X w (capt.toList.map fun x => evalO s.vals [] (compOpd vars [] x)) (capt.toList.map ac.eval) := by
  have := evalOs_rel (fx := ⟨vars, fn.ntmps, none, n0⟩) (ρ := []) (ops := []) (a := ac) hs.vars (fun j t hj _ => by simp at hj) capt.toList
  simpa [List.map_map, Function.comp_def] using this
 obtain ⟨bs, hbs, hnd, hall⟩ := hs.defs
 rw [hds, List.append_nil] at hbs
 let X1 : Nat → Prop := fun b => X b ∨ b ∈ bs
 let d : Deferred := { target := .fn (.func g) (capt.map ac.eval), args := #[] }
 let ac1 : Act := { (ac.put (some t) (.func (.func g) #[] (capt.map ac.eval))) with defers := d :: (ac.put (some t) (.func (.func g) #[] (capt.map ac.eval))).defers }
 have hd1 : ac1.defers = d :: bs.map fun b => { target := .collected b, args := #[] } := by show d :: ac.defers = _; rw [hbs]
 have hs1 : SRel ⟨vars, fn.ntmps, none, s.heap.length⟩ m X1 ⟨w.heap.size, d :: bs.map fun b => { target := .collected b, args := #[] }⟩ s ac1 w := by
  have a1 := SRel.put_other (t := t) (v := .func (.func g) #[] (capt.map ac.eval)) ht hs
  exact SRel.growX (fx := ⟨vars, fn.ntmps, none, n0⟩) (ac' := ac1) (fun b => b ∈ bs) (fun b hb => by
   obtain ⟨_, g2, g3, g4⟩ := hall b hb
   refine ⟨g2, ?_, g4⟩
   rintro ⟨c, e, fr, hc⟩
   rw [g3] at hc; cases hc) a1 ⟨w.heap.size, d :: bs.map fun b => { target := .collected b, args := #[] }⟩ rfl hd1 (Nat.le_refl _) s.heap.length (Nat.le_refl _)
 have hn0 : n0 ≤ s.heap.length := hs.base
 have hcapX : VRels m X1 w (capt.toList.map fun x => evalO s.vals [] (compOpd vars [] x)) (capt.toList.map ac.eval) := by
  have hm : Mono m X w m X1 w := ⟨fun _ _ h => h, fun b hb hc => ⟨rfl, by
   rintro ((hx | hx) | h)
   ·exact hb (.inl hx)
   ·obtain ⟨_, g2, g3, g4⟩ := hall b hx
    obtain ⟨c, e, fr, hc⟩ := hc
    rw [g3] at hc; cases hc
   ·exact hb (.inr h)⟩, fun b c e h => ⟨c, h, rfl⟩⟩
  exact hcap.mono hm
 refine InF_seq ?_
 have hInD : InF f Fence.wide 0 P (.region id #[o0, o1] false) (fun e a w1 => e = .normal ∧ a = ac1 ∧ w1 = w) ac w := by
  refine InF.of (wpIn_region ?_)
  show wpOpsIn (wfen none) 0 P #[o0, o1] _ [0, 1] ac w
  refine wp_opv (o := o0) (v := .func (.func g) #[] (capt.map ac.eval)) (w' := w) rfl h0.2.2 (by rw [h0.1]; simp) (by simp [execOp, h0.1, Instr.makeFunc]) ?_
  rw [h0.2.1]
  have hw : Region.wanted o1 (yielded #[o0, o1] (ac.put (some t) (.func (.func g) #[] (capt.map ac.eval))).tmps) = true := by simp [Region.wanted, h1.2.2]
  have hev : (ac.put (some t) (.func (.func g) #[] (capt.map ac.eval))).eval (.tmp t) = .func (.func g) #[] (capt.map ac.eval) := by
   have hsz' : ac.tmps.size = fn.ntmps := hsz
   simp [Act.eval, Act.put, Array.getD_eq_getD_getElem?, hsz', htN]
  have ho1 : (#[o0, o1] : Array Oper)[1]? = some o1 := rfl
  simp only [wpOpsIn, ho1, hw, if_true]
  refine ⟨fun _ _ => trivial, ?_⟩
  have hrun : (o1.semAt (wfen none).round (ac.put (some t) (.func (.func g) #[] (capt.map ac.eval))).eval).run P w = .ok (.defer d) w := by
   show (o1.semAt none _).run P w = _
   rw [Oper.semAt_none]
   simp only [execOp, h1.1, resolve, hev, Deferred.ofValue]
   simp [d]
  rw [hrun]
  have : ({ (ac.put (some t) (.func (.func g) #[] (capt.map ac.eval))) with defers := d :: (ac.put (some t) (.func (.func g) #[] (capt.map ac.eval))).defers } : Act).put o1.dst Go.undef = ac1 := by rw [h1.2.1]; rfl
  rw [Oper.uponIn_defer]
  exact ⟨trivial, this, rfl⟩
 refine InF.mono hInD ?_
 rintro e a w1 ⟨rfl, rfl, rfl⟩
 have key := hB m X1 ⟨w1.heap.size, d :: bs.map fun b => { target := .collected b, args := #[] }⟩ ac1 w1 hs1 (by intro l hl; cases hl)
 simp only [Exit.then]
 refine InF.mono key ?_
 rintro e ac2 w2 ⟨s2, m2, hq, hs2, hst2⟩
 have hst2 : Step s.heap.length m X1 w1 m2 w2 := hst2
 have hbase2 : s.heap.length ≤ s2.heap.length := hs2.base
 obtain ⟨bs2, hbs2, hnd2, hall2⟩ := hs2.defs
 have hmono12 : Mono m X1 w1 m2 X1 w2 := hs1.heap.mono_of_step hst2 (Nat.le_refl _)
 have hbsw : ∀ b ∈ bs, b < w1.heap.size ∧ w2.heap[b]? = some (.deferred (some [])) := fun b hb => by
  obtain ⟨g1, g2, g3, g4⟩ := hall b hb
  exact ⟨g2, by rw [hst2.fr b g2 (.inl (.inr hb))]; exact g3⟩
 have fin : ∀ u : FrameMode, u ≠ .run → ACd P g (capt.toList.map fun x => evalO s.vals [] (compOpd vars [] x)) u s2.heap (fun σ' => ∃ r, resAll P vars s2.vals σ' fn.results.toList = some r ∧ Q r σ') →
   LeavesInM Fence.wide 0 P fn ac2.tmps (CPost m0 X w0 σ0 Q) ac2.defers u w2 := by
  intro u hu hd
  rw [hbs2]
  refine leaves_marksD (e := w1.heap.size) (w := w2) hu bs2 w2 (Taken.refl _ _) hnd2 (fun b hb => ⟨(hall2 b hb).1, (hall2 b hb).2.2.1⟩) ?_
  intro w3 ht3
  have hh3 := hs2.heap.taken ht3
  have hcap3 : VRels m2 X1 w3 (capt.toList.map fun x => evalO s.vals [] (compOpd vars [] x)) (capt.toList.map ac.eval) := (hcapX.mono hmono12).mono ht3.mono
  simp only [LeavesInM]
  refine ⟨hu, .inr ⟨by simp [Fence.wide], .func g, capt.map ac.eval, g, (capt.toList.map ac.eval).toArray, rfl, ?_, fun _ _ => trivial, ?_⟩⟩
  ·show (invoke (.fn (.func g) (capt.map ac.eval)) #[]).run P w3 = _
   simp only [invoke]
   rw [hd.1]
   congr 2
   apply Array.ext'; simp
  ·have hcall := hd.2 m2 X1 w3 _ hcap3 hh3
   refine CallsDIn.mono hcall ?_
   rintro e u' w4 ⟨⟨c, rfl⟩, hset, σ', m4, ⟨r, hr, hQ⟩, hh4, hst4, hle4⟩
   dsimp only
   rw [hset]
   have hbs4 : ∀ b ∈ bs, w4.heap[b]? = some (.deferred (some [])) := fun b hb => by
    obtain ⟨g1, g2⟩ := hbsw b hb
    have h3 : w3.heap[b]? = some (.deferred (some [])) := by rw [ht3.old b g1]; exact g2
    rw [hst4.fr b (Array.getElem?_eq_some_iff.1 h3).1 (.inl (.inr hb))]; exact h3
   refine leaves_marks (e := w0.heap.size) (w := w4) bs w4 (Taken.refl _ _) hnd (fun b hb => ⟨by rw [← hen]; exact (hall b hb).1, hbs4 b hb⟩) ?_
   intro w5 ht5
   have hstA : Step n0 m0 X w0 m2 w2 := hst.trans ((hst2.less hn0).lessX fun b h => Or.inl h)
   have hstB : Step n0 m0 X w0 m2 w3 := hstA.taken ht3 hst.size
   have hstC : Step n0 m0 X w0 m4 w4 := hstB.trans ((hst4.less (Nat.le_trans hn0 hbase2)).lessX fun b h => Or.inl h)
   have hmono34 : Mono m2 X1 w3 m4 X1 w4 := hh3.mono_of_step hst4 (Nat.le_refl _)
   have hs5 : SRel ⟨vars, fn.ntmps, none, n0⟩ m4 X1 ⟨0, []⟩ ⟨s2.vals, σ'⟩ { ac2 with defers := [] } w5 :=
    ⟨hs2.size, ((hs2.vars.mono ht3.mono).mono hmono34).mono ht5.mono, ⟨[], rfl, List.nodup_nil, by simp⟩, hh4.taken ht5, Nat.le_trans hn0 (Nat.le_trans hbase2 hle4), Nat.zero_le _⟩
   have hs6 := SRel.lessX (X := X) (fun b h => Or.inl h) hs5
   obtain ⟨v, k1, k2⟩ := res_sound (fx := ⟨vars, fn.ntmps, none, n0⟩) (fn := fn) hs6 hr
   exact ⟨v, k1, v, r, σ', m4, rfl, hQ, k2, hs6.heap, hσ ▸ hstC.taken ht5 (Nat.le_refl _), by rw [hσ]; exact Nat.le_trans hn0 (Nat.le_trans hbase2 hle4)⟩
 cases e with
 | normal => exact fin .returning (by simp) hq
 | ret => exact fin .returning (by simp) hq
 | panic ch => exact fin (.panicking ch) (by simp) hq
 | exit i => exact hq.elim
 | goto l => exact hq.elim
 | outgrown => exact hq.elim
end Go.Proofs.YtpnghcaccfnngaaGreatDoor.AM
namespace Go.Proofs.YtpnghcaccfnngaaGreatDoor.AM
variable [Dr]
open Go
variable {P : Program} {fx : Fx}
theorem SW.mono {ic : IC} {s : St} {Q Q' : Exit → St → Prop} (h : SW P fx ic s Q) (hq : ∀ e s', Q e s' → Q' e s') : SW P fx ic s Q' := fun c hc => (h c hc).mono hq
theorem SW_block {i : Nat} {a : IC} {s : St} {Q : Exit → St → Prop} (h : SW P fx a s (kBlock i Q)) : SW P fx (.block i a) s Q := by
 intro c
 induction c with
 | block j x _ =>
  intro hc
  simp only [compC, Option.bind_eq_some_iff, Option.map_eq_some_iff] at hc
  obtain ⟨x', hx, he⟩ := hc
  cases he
  exact W_block ((h x hx).mono fun e s' hq => by cases e <;> exact hq)
 | cond o x y ihx ihy =>
  intro hc
  cases o with
  | const v =>
   cases v <;> simp only [compC, reduceCtorEq] at hc
   rename_i t
   cases t with
   | true => simp only [if_true] at hc; exact W_cond_const (ihx hc)
   | false => simp only [Bool.false_eq_true, if_false] at hc; exact W_cond_const (ihy hc)
  | tmp t =>
   simp only [compC, Option.bind_eq_some_iff, Option.map_eq_some_iff] at hc
   obtain ⟨_, _, _, _, _, _, he⟩ := hc
   cases he
  | global g => simp [compC] at hc
  | func f => simp [compC] at hc
 | region id ops dr =>
  intro hc
  cases dr <;> simp [compC] at hc
 | rangeFunc g ps assign body _ _ =>
  intro hc
  simp only [compC, Option.bind_eq_some_iff, Option.map_eq_some_iff] at hc
  obtain ⟨_, _, _, _, he⟩ := hc
  cases he
 | seq x y _ _ =>
  intro hc
  simp only [compC, Option.bind_eq_some_iff, Option.map_eq_some_iff] at hc
  obtain ⟨_, _, _, _, he⟩ := hc
  cases he
 | skip => intro hc; simp [compC] at hc
 | label l => intro hc; simp [compC] at hc
 | exit i => intro hc; simp [compC] at hc
 | ret => intro hc; simp [compC] at hc
 | loop a _ => intro hc; simp [compC] at hc
 | scope a _ => intro hc; simp [compC] at hc
 | goto l => intro hc; simp [compC] at hc
 | refuse r => intro hc; simp [compC] at hc
theorem SW_for {a : IC} {Q : Exit → St → Prop} (n : Nat) (S : Nat → St → Prop)
  (h : ∀ i s, i ≤ n → S i s → SW P fx a s (kFor fx (i < n) (S (i + 1)) Q)) (i : Nat) (hi : i ≤ n) {s : St} (hs : S i s) : SW P fx (.loop a) s Q := by
 intro c
 induction c with
 | loop x _ =>
  intro hc
  simp only [compC, Option.bind_eq_some_iff, Option.map_eq_some_iff] at hc
  obtain ⟨x', hx, he⟩ := hc
  cases he
  refine W_loop ?_
  have key : ∀ (k i : Nat) (s : St), n - i = k → i ≤ n → S i s → WL P fx x s Q := by
   intro k
   induction k with
   | zero =>
    intro i s hk hi hs
    refine WL_unroll ((h i s hi hs x hx).mono ?_)
    intro e s' hq
    cases e with
    | normal => exact absurd hq.1 (by omega)
    | _ => exact hq
   | succ k ih =>
    intro i s hk hi hs
    refine WL_unroll ((h i s hi hs x hx).mono ?_)
    intro e s' hq
    cases e with
    | normal =>
     obtain ⟨h1, s'', h2, h3⟩ := hq
     exact (ih (i + 1) s'' (by omega) h1 h3).weak h2
    | _ => exact hq
  exact key (n - i) i s rfl hi hs
 | cond o x y ihx ihy =>
  intro hc
  cases o with
  | const v =>
   cases v <;> simp only [compC, reduceCtorEq] at hc
   rename_i t
   cases t with
   | true => simp only [if_true] at hc; exact W_cond_const (ihx hc)
   | false => simp only [Bool.false_eq_true, if_false] at hc; exact W_cond_const (ihy hc)
  | tmp t =>
   simp only [compC, Option.bind_eq_some_iff, Option.map_eq_some_iff] at hc
   obtain ⟨_, _, _, _, _, _, he⟩ := hc
   cases he
  | global g => simp [compC] at hc
  | func f => simp [compC] at hc
 | region id ops dr =>
  intro hc
  cases dr <;> simp [compC] at hc
 | rangeFunc g ps assign body _ _ =>
  intro hc
  simp only [compC, Option.bind_eq_some_iff, Option.map_eq_some_iff] at hc
  obtain ⟨_, _, _, _, he⟩ := hc
  cases he
 | seq x y _ _ =>
  intro hc
  simp only [compC, Option.bind_eq_some_iff, Option.map_eq_some_iff] at hc
  obtain ⟨_, _, _, _, he⟩ := hc
  cases he
 | skip => intro hc; simp [compC] at hc
 | label l => intro hc; simp [compC] at hc
 | exit i => intro hc; simp [compC] at hc
 | ret => intro hc; simp [compC] at hc
 | block i a _ => intro hc; simp [compC] at hc
 | scope a _ => intro hc; simp [compC] at hc
 | goto l => intro hc; simp [compC] at hc
 | refuse r => intro hc; simp [compC] at hc
theorem InF_block {f : FuncId} {F : Fence} {n id : Nat} {c : Code} {Q : Exit → Act → World → Prop} {a : Act} {w : World} (h : InF f F n P c (Exit.inBlock id Q) a w) : InF f F n P (.block id c) Q a w := by
 intro b k cs hbf hro hb hr
 have h0 : (lone (b.atR a (.code (.block id c) :: k)) cs w).fenced P F := fenced_calm hb hr rfl
 obtain ⟨e, a₁, w₁, hq, harr⟩ := h b (.inBlock id :: k) cs hbf hro hb hr
 cases e with
 | normal => exact ⟨.normal, a₁, w₁, hq, .head h0 stepR_block (StepsIn.trans harr (.one (fenced_calm hb hr rfl) stepR_inBlock))⟩
 | exit id' =>
  by_cases hid : id' = id
  ·simp only [Exit.inBlock, hid, if_true] at hq
   exact ⟨.normal, a₁, w₁, hq, .head h0 stepR_block (harr.1 k (by simp [exitTo, hid]))⟩
  ·simp only [Exit.inBlock, hid, if_false] at hq
   have this : (id == id') = false := by simp; exact fun h => hid h.symm
   have hx : exitTo id' (.inBlock id :: k) = exitTo id' k := by simp [exitTo, this]
   exact ⟨.exit id', a₁, w₁, hq, fun k' hk => .head h0 stepR_block (harr.1 k' (by rw [hx]; exact hk)),
    fun hr' hk => let ⟨k₁, h1, h2⟩ := harr.2 hr' (by rw [hx]; exact hk); ⟨k₁, h1, .head h0 stepR_block h2⟩⟩
 | goto l =>
  have hx : gotoIn l (.inBlock id :: k) = gotoIn l k := by simp [gotoIn]
  exact ⟨.goto l, a₁, w₁, hq, fun k' hk => .head h0 stepR_block (harr.1 k' (by rw [hx]; exact hk)),
   fun hr' hk => let ⟨k₁, h1, h2⟩ := harr.2 hr' (by rw [hx]; exact hk); ⟨k₁, h1, .head h0 stepR_block h2⟩⟩
 | ret => exact ⟨.ret, a₁, w₁, hq, .of_steps (.one h0 stepR_block) harr⟩
 | panic ch => exact ⟨.panic ch, a₁, w₁, hq, .of_steps (.one h0 stepR_block) harr⟩
 | outgrown => exact ⟨.outgrown, a₁, w₁, hq, .of_steps (.one h0 stepR_block) harr⟩
theorem WB_block {f : FuncId} {i : Nat} {x : Code} {s : St} {Q : Exit → St → Prop} (h : WB f P fx x s fun e s' => match e with | .exit i' => if i' = i then Q .normal s' else Q (.exit i') s' | e => Q e s') : WB f P fx (.block i x) s Q := by
 intro m X en ac w hs hr
 refine InF_block (InF.mono (h m X en ac w hs hr) ?_)
 rintro e ac' w' ⟨s', m', hq, hs', hst⟩
 cases e with
 | exit i' =>
  dsimp only at hq
  simp only [Exit.inBlock]
  split
  ·rename_i hi; rw [if_pos hi] at hq; exact ⟨s', m', hq, hs', hst⟩
  ·rename_i hi; rw [if_neg hi] at hq; exact ⟨s', m', hq, hs', hst⟩
 | _ => exact ⟨s', m', hq, hs', hst⟩
def kAsgS (P : Program) (fx : Fx) (l : Nat) (ib : IC) (Q : Exit → St → Prop) : Exit → St → Prop := fun e s1 => match e with
 | .normal => ∃ r1, s1.heap[l]? = some (.loop r1) ∧ r1.state = .ready ∧ SW P fx ib ⟨s1.vals, setLoop s1.heap l r1 .busy r1.pending⟩ Q
 | _ => False
theorem kAsgS_n {l : Nat} {ib : IC} {Q : Exit → St → Prop} {s : St} : kAsgS P fx l ib Q .normal s = ∃ r1, s.heap[l]? = some (.loop r1) ∧ r1.state = .ready ∧ SW P fx ib ⟨s.vals, setLoop s.heap l r1 .busy r1.pending⟩ Q := Eq.trans rfl rfl
theorem YC_SW {l : Nat} {σ : List AObj} {r : ALoop} {args : List AV} {Q : AV → List AObj → Prop} (ia ib : IC) (hl : σ[l]? = some (.loop r)) (hst : r.state = .ready) (hargs : args.length = r.params.length)
  (hvp : (decide r.vars.Nodup && r.params.all fun t => r.vars.contains t && decide (t < r.ntmps)) = true)
  (hca : compC P r.vars r.ntmps r.assign = some ia) (hcb : compC P r.vars r.ntmps r.body = some ib)
  (h : IS P ⟨r.vars, r.ntmps, some l, σ.length⟩ ia ⟨putPars r.vars r.params args r.vals, σ⟩ (kAsgS P ⟨r.vars, r.ntmps, some l, σ.length⟩ l ib (kRnd l Q)) .mk .mk) : YC P l args σ Q := by
 simp only [Bool.and_eq_true, decide_eq_true_eq, List.all_eq_true, List.contains_iff_mem] at hvp
 refine YC_of_round hl hst hargs hvp.1 (fun t ht => (hvp.2 t ht).1) (fun t ht => (hvp.2 t ht).2) ?_
 refine IW_sound _ ia _ _ hca (IW_mono ia _ _ _ ?_ (IS_sound _ _ _ _ _ h))
 intro e s1 h1
 cases e with
 | normal =>
  obtain ⟨r1, g1, g2, g3⟩ := h1
  refine ⟨r1, g1, g2, (g3 _ hcb).mono ?_⟩
  intro e s2 h2
  cases e <;> exact h2
 | _ => exact h1
theorem YCp_SW {l : Nat} {σ : List AObj} {r : ALoop} {args : List AV} {ch : List PanicEntry} {Q : List AObj → Prop} {f : FuncId} {fn : Func} (ia ib : IC) (hl : σ[l]? = some (.loop r)) (hfi : r.fi = some f) (hfn : P.funcs[f]? = some fn) (hargs : args.length = r.params.length)
  (hvp : (decide r.vars.Nodup && r.params.all fun t => r.vars.contains t && decide (t < r.ntmps)) = true)
  (hca : compC P r.vars r.ntmps r.assign = some ia) (hcb : compC P r.vars r.ntmps r.body = some ib)
  (h : IS P ⟨r.vars, r.ntmps, some l, σ.length⟩ ia ⟨putPars r.vars r.params args r.vals, σ⟩ (kAsgS P ⟨r.vars, r.ntmps, some l, σ.length⟩ l ib (kEndP ch Q)) .mk .mk) : YCp P l args σ ch Q := by
 simp only [Bool.and_eq_true, decide_eq_true_eq, List.all_eq_true, List.contains_iff_mem] at hvp
 refine YCp_of_round hl hfi hfn hargs hvp.1 (fun t ht => (hvp.2 t ht).1) (fun t ht => (hvp.2 t ht).2) ?_
 refine IW_sound _ ia _ _ hca (IW_mono ia _ _ _ ?_ (IS_sound _ _ _ _ _ h))
 intro e s1 h1
 cases e with
 | normal =>
  obtain ⟨r1, g1, g2, g3⟩ := h1
  refine ⟨r1, g1, g2, (g3 _ hcb).mono ?_⟩
  intro e s2 h2
  cases e <;> exact h2
 | _ => exact h1
end Go.Proofs.YtpnghcaccfnngaaGreatDoor.AM

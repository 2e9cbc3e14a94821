/- Parts of the proof, joined: AmT to AmT. -/
import Derived.RangeFuncNested
import Derived.Test.YtpnghcaccfnngaaGreatDoorZ5
set_option linter.unusedVariables false
set_option linter.unusedSimpArgs false
set_option linter.unusedSectionVars false
namespace Go.Proofs.YtpnghcaccfnngaaGreatDoor.AM
variable [Dr]
open Go
variable {P : Program} {fx : Fx} {m : LM} {X : Nat → Prop} {en : En} {w : World} {s : St} {Q : Exit → St → Prop}
theorem HRel.alloc0 {σ : List AObj} (h : HRel m X σ w) (o : Obj) : HRel m X σ (w.alloc o) ∧ Step σ.length m X w m (w.alloc o) ∧ Mono m X w m X (w.alloc o) := by
 have hs : Step σ.length m X w m (w.alloc o) :=
  ⟨fun _ _ => rfl, fun l b hb => .inl ⟨l, hb⟩, by simp, fun b hb _ => heap_alloc_old w o hb, fun b c e hb => ⟨c, by rw [heap_alloc_old w o (lt_of_heap hb)]; exact hb, rfl⟩, rfl, rfl, rfl, fun _ => Nat.le_refl _⟩
 have hm := h.mono_of_step hs (Nat.le_refl _)
 refine ⟨⟨fun b hb => ?_, fun l b hb => ?_, h.own, h.inj, fun l o1 ho => ?_⟩, hs, hm⟩
 ·have := h.xb b hb; simp; omega
 ·have := h.dom l b hb; exact ⟨this.1, by simp; omega⟩
 ·have := h.obj l o1 ho
  cases hml : m l with
  | none => rw [hml] at this; cases o1 <;> simp [ORel] at this ⊢
  | some b => rw [hml] at this; exact ORel.mono hm (heap_alloc_old w o (h.dom l b hml).2) this
def newLoop (fx : Fx) (vals : List AV) (ps : Array Nat) (assign body : Code) : ALoop :=
 {state := .ready, pending := none, vars := fx.vars, ntmps := fx.N, vals, params := ps.toList, assign, body }
def afterLoop (P : Program) (fx : Fx) (vals : List AV) (l : Nat) (Q : Exit → St → Prop) (σ' : List AObj) : Prop :=
 ∃ r2, σ'[l]? = some (.loop r2) ∧ r2.state ≠ .busy ∧ match r2.pending with
  | none => Q .normal ⟨vals, setLoop σ' l r2 .exhausted none⟩
  | some c => W P fx c ⟨vals, setLoop σ' l r2 .exhausted (some c)⟩ Q
theorem W_rangeFunc {g : Operand} {ps : Array Nat} {assign body : Code} {gf : FuncId} {cap : List AV} {opd : Opd} (hgo : compOpd fx.vars [] g = opd) (hg : evalO s.vals [] opd = .fn (.func gf) cap) (hvl : s.vals.length ≤ fx.vars.length)
  (hr0 : ∀ l0, fx.r = some l0 → ∃ r0, s.heap[l0]? = some (.loop r0))
  (h : AC P gf (.yld s.heap.length :: cap) (s.heap ++ [.loop (newLoop fx s.vals ps assign body)]) fun _ σ' => afterLoop P fx s.vals s.heap.length Q σ') :
  W P fx (.rangeFunc g ps assign body) s Q := by
 intro m X en ac w hs hr
 have hgv : VRel m X w (.fn (.func gf) cap) (ac.eval g) := by
  have := evalO_rel (ops := []) (ρ := []) (ds := ac.defers) (tmps := ac.tmps) hs.vars (fun j t hj _ => by simp at hj) g
  simp only [List.map_nil] at this
  rw [hgo, hg] at this; exact this
 simp only [VRel] at hgv
 obtain ⟨vs, hge, hcap⟩ := hgv
 refine wpIn_rangeFunc ?_
 intro fn hfn
 have rest : ∀ (w1 : World) (mark : List Deferred) (d : Nat), HRel m X s.heap w1 → Step s.heap.length m X w m w1 → Mono m X w m X w1 → DRel m X en w1 (mark ++ ac.defers) →
   ∀ w2, w2 = w1.alloc (.loop { state := .ready, pending := none, fn, tmps := ac.tmps, params := ps, assign, body, defers := d }) →
   ∃ (dd : Deferred) (w₁' : World) (f : FuncId) (args : Array Value) (w₂ : World),
   (resolve ac.eval (rangeCall g w1.heap.size) 0).run P w2 = .ok dd w₁' ∧ (∀ f', Target.leads P w₁' dd.target dd.args = some f' → (fen m fx.r).fn f') ∧ (invoke dd.target dd.args).run P w₁' = .ok (.enter f args) w₂ ∧
   ((fen m fx.r).depth.isSome = true → 1 ≤ 0) ∧ CallsIn (fen m fx.r) (0 - 1) P f args w₂ (rangePost (fen m fx.r) 0 P w1.heap.size (Lift fx m X en w Q) { ac with defers := mark ++ ac.defers }) := by
  intro w1 mark d hh1 hst1 hm1 hd1 w2 hw2
  obtain ⟨k1, k2, k3⟩ := hh1.alloc (.loop { state := .ready, pending := none, fn, tmps := ac.tmps, params := ps, assign, body, defers := d }) (.loop (newLoop fx s.vals ps assign body)) (fun hm => by
   simp only [ORel, newLoop]
   exact ⟨ac.tmps, d, fn, hs.size, (hs.vars.mono hm1).mono hm, by rw [heap_alloc_new], hvl, fun f h => by cases h⟩)
  rw [← hw2] at k1 k2 k3
  have hst2 := hst1.trans k2
  refine ⟨{ target := .fn (.func gf) vs.toArray, args := #[.func (.yield w1.heap.size) #[] #[]] }, w2, gf, (Value.func (.yield w1.heap.size) #[] #[] :: vs).toArray, w2, ?_, fun _ _ => trivial, ?_, by simp [fen, Fence.wide], ?_⟩
  ·have : Act.eval ac (.const (.func (.yield w1.heap.size) #[] #[])) = .func (.yield w1.heap.size) #[] #[] := rfl
   simp [resolve, rangeCall, hge, Deferred.ofValue, this]
  ·simp only [invoke]; rw [h.1]; simp
  ·have hcall := h.2 _ X w2 (Value.func (.yield w1.heap.size) #[] #[] :: vs) (by
    simp only [VRels, VRel]
    exact ⟨⟨w1.heap.size, LM.put_same _ _ _, rfl⟩, (hcap.mono hm1).mono k3⟩) k1
   refine CallsIn.mono (F := fen m fx.r) (n := 0) hcall ?_
   rintro e w3 ⟨c, rv, σ', m', rfl, ⟨r2, hl2, hnb, hq⟩, hv, hh3, hst3, hle⟩
   simp only [rangePost]
   have hlt : s.heap.length < (s.heap ++ [AObj.loop (newLoop fx s.vals ps assign body)]).length := by simp
   have hb3 : m' s.heap.length = some w1.heap.size := by rw [hst3.keep _ hlt]; exact LM.put_same _ _ _
   have hmono3 := k1.mono_of_step hst3 (Nat.le_refl _)
   obtain ⟨tm2, d2, fi2, v1, v2, v3, v4⟩ : ∃ (tmps : Array Value) (d fi : Nat), tmps.size = r2.ntmps ∧ ARel m' X w3 r2.vars r2.vals tmps ∧ w3.heap[w1.heap.size]? = some (.loop { state := r2.state, pending := r2.pending, fn := fi, tmps, params := r2.params.toArray, assign := r2.assign, body := r2.body, defers := d }) ∧ r2.vals.length ≤ r2.vars.length ∧ ∀ f, r2.fi = some f → fi = f := by
    have := hh3.obj _ _ hl2; rw [hb3] at this; simpa only [ORel] using this
   refine ⟨r2.pending, _, run_endLoop v3 hnb, ?_⟩
   obtain ⟨x1, x2, x3⟩ := hh3.setLoop hb3 hl2 v3 .exhausted r2.pending
   have hst4 : Step fx.n0 m X w m' (w3.putObj w1.heap.size (.loop { ({ state := r2.state, pending := r2.pending, fn := fi2, tmps := tm2, params := r2.params.toArray, assign := r2.assign, body := r2.body, defers := d2 } : Loop) with state := .exhausted })) := by
    have hb := hs.base
    have a1 := hst2.less hb
    have a2 := hst3.less (show fx.n0 ≤ (s.heap ++ [AObj.loop (newLoop fx s.vals ps assign body)]).length by simp; omega)
    have a3 := x2.less (show fx.n0 ≤ σ'.length by simp at hle; omega)
    exact (a1.trans a2).trans a3
   have hs4 : SRel fx m' X en ⟨s.vals, AM.setLoop σ' s.heap.length r2 .exhausted r2.pending⟩ { ac with defers := mark ++ ac.defers } (w3.putObj w1.heap.size (.loop { ({ state := r2.state, pending := r2.pending, fn := fi2, tmps := tm2, params := r2.params.toArray, assign := r2.assign, body := r2.body, defers := d2 } : Loop) with state := .exhausted })) := by
    refine ⟨hs.size, ((((hs.vars.mono hm1).mono k3).mono hmono3).mono x3), ?_, x1, ?_, ?_⟩
    ·exact ((hd1.step k2).step hst3).step x2
    ·have := hs.base; simp [AM.setLoop] at hle ⊢; omega
    ·have := hs.entry; have h1 := hst1.size; have h2 := k2.size; have h3 := hst3.size; simp; omega
   cases hp : r2.pending with
   | none =>
    rw [hp] at hq hs4 hst4
    dsimp only
    exact ⟨_, m', hq, hs4, hst4⟩
   | some cj =>
    rw [hp] at hq hs4 hst4
    dsimp only at hq ⊢
    exact W.later hq hr hs4 hst4
 cases hfr : fx.r with
 | none =>
  obtain ⟨a1, a2, a3⟩ := hs.heap.alloc0 (.deferred (some []))
  have hd1 : DRel m X en (w.alloc (.deferred (some []))) ([{ target := .collected w.heap.size, args := #[] }] ++ ac.defers) := by
   obtain ⟨bs, g1, g2, g3⟩ := hs.defs.step a2
   refine ⟨w.heap.size :: bs, by simp [g1], ?_, ?_⟩
   ·refine List.nodup_cons.2 ⟨fun hmem => ?_, g2⟩
    obtain ⟨bs0, q1, q2, q3⟩ := hs.defs
    have : bs0 = bs := by
     have e := q1.symm.trans g1
     have inj : ∀ (x y : List Nat), x.map (fun b => ({ target := .collected b, args := #[] } : Deferred)) = y.map (fun b => { target := .collected b, args := #[] }) → x = y := by
      intro x
      induction x with
      | nil => intro y hy; cases y with
       | nil => rfl
       | cons => simp at hy
      | cons a x ih => intro y hy; cases y with
       | nil => simp at hy
       | cons b y => simp at hy; rw [hy.1, ih y (by simpa using hy.2)]
     exact inj _ _ (List.append_cancel_right e)
    subst this
    have := (q3 _ hmem).2.1; omega
   ·intro b hb
    rcases List.mem_cons.1 hb with rfl | hb
    ·refine ⟨hs.entry, by simp, heap_alloc_new _ _, ?_⟩
     rintro (hx | ⟨l, hl⟩)
     ·have := hs.heap.xb _ hx; omega
     ·have := (hs.heap.dom l _ hl).2; omega
    ·exact g3 b hb
  obtain ⟨dd, w₁', f, args, w₂, r1, r2, r3, r4, r5⟩ := rest (w.alloc (.deferred (some []))) [{ target := .collected w.heap.size, args := #[] }] w.heap.size a1 a2 a3 hd1 _ rfl
  have hsz : (w.alloc (.deferred (some []))).heap.size = w.heap.size + 1 := by simp
  rw [hsz] at r1 r5
  rw [hfr] at r2 r4 r5
  have hro : (fen m none).round = none := rfl
  refine ⟨w.heap.size + 1, [{ target := .collected w.heap.size, args := #[] }], _, dd, w₁', f, args, w₂, ?_, r1, r2, r3, r4, r5⟩
  rw [hro]; exact run_enterLoop_outer fn ac.tmps ps assign body
 | some l0 =>
  obtain ⟨r0, hl0⟩ := hr0 l0 hfr
  obtain ⟨hl0n, b0, hb0⟩ := hr l0 hfr
  obtain ⟨tm0, d0, fi0, v1, v2, v3, v4⟩ := hs.heap.loop hb0 hl0
  have hro : (fen m (some l0)).round = some b0 := by simp [fen, hb0]
  obtain ⟨dd, w₁', f, args, w₂, r1, r2, r3, r4, r5⟩ := rest w [] d0 hs.heap (Step.refl _ _ _ _) (Mono.refl _ _ _) (by simpa using hs.defs) _ rfl
  rw [hfr] at r2 r4 r5
  refine ⟨w.heap.size, [], _, dd, w₁', f, args, w₂, ?_, r1, r2, r3, r4, r5⟩
  rw [hro]; exact run_enterLoop_inner v3 fn ac.tmps ps assign body
end Go.Proofs.YtpnghcaccfnngaaGreatDoor.AM

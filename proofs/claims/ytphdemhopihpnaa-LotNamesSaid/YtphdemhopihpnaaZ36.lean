/- Parts of the proof, joined: AmYc to AmYc. -/
import Derived.Test.YtphdemhopihpnaaZ35

namespace Go.Proofs.Ytphdemhopihpnaa.AM
open Go
set_option linter.unusedVariables false
set_option linter.unusedSimpArgs false

section
variable {P : Program}

theorem CPost.tidy {m : LM} {X : Nat → Prop} {w w' : World} {e : Ending} {σ : List AObj} {Q Q' : AV → List AObj → Prop} (hh : HRel m X σ w) (hq : ∀ r σ', Q r σ' → ∃ g r2 σ2, Tidy σ.length σ r σ' g r2 σ2 ∧ Q' r2 σ2) (h : CPost m X w σ Q e w') : CPost m X w σ Q' e w' := by
  obtain ⟨c, r, σ', m', rfl, hQ, hr, hh', hst, hle⟩ := h
  obtain ⟨g, r2, σ2, ht, hQ'⟩ := hq r σ' hQ
  let m2 : LM := fun l => if l < σ2.length then m' (g l) else none
  have hm2 : ∀ l, l < σ2.length → m2 l = m' (g l) := fun l hl => by simp only [m2]; rw [if_pos hl]
  have hm2s : ∀ l b, m2 l = some b → l < σ2.length ∧ m' (g l) = some b := fun l b hl => by
    simp only [m2] at hl
    split at hl
    · rename_i h; exact ⟨h, hl⟩
    · cases hl
  have how : ∀ b, Own m2 X b → Own m' X b := by
    rintro b (hx | ⟨l, hl⟩)
    · exact .inl hx
    · exact .inr ⟨g l, (hm2s l b hl).2⟩
  have hobj : ∀ (l : Nat) o, σ2[l]? = some o → objIn σ2.length o = true ∧ σ'[g l]? = some (renO g o) := by
    intro l o ho
    rcases ht.obj l o ho with ⟨h1, h2, h3⟩ | h1
    · have hin := hh.closed l o h2
      refine ⟨objIn_mono _ _ o ht.le hin, ?_⟩
      rw [ht.low l h1, renO_id ht.low hin]; exact h3
    · exact h1
  refine ⟨c, r2, σ2, m2, rfl, hQ', ?_, ⟨hh'.xb, ?_, ?_, ?_, ?_⟩, ⟨?_, ?_, hst.size, hst.fr, hst.shp, hst.os, hst.tape, hst.output, hst.drawn⟩, ht.le⟩
  · exact VRel.ren hm2 how r2 c ht.rin (by rw [← ht.res]; exact hr)
  · intro l b hl; obtain ⟨h1, h2⟩ := hm2s l b hl; exact ⟨h1, (hh'.dom _ b h2).2⟩
  · intro l b o hl ho hv
    obtain ⟨h1, h2⟩ := hm2s l b hl
    exact hh'.own (g l) b _ h2 (hobj l o ho).2 (renO_live hv)
  · intro l l' b o' hl hl' ho' hv
    obtain ⟨h1, h2⟩ := hm2s l b hl
    obtain ⟨h1', h2'⟩ := hm2s l' b hl'
    have := hh'.inj (g l) (g l') b _ h2 h2' (hobj l' o' ho').2 (renO_live hv)
    rcases Nat.lt_or_ge l' l with hlt | hge
    · have := ht.rise l' l hlt h1; omega
    · exact hge
  · intro l o ho
    obtain ⟨h1, h2⟩ := hobj l o ho
    have hl : l < σ2.length := (List.getElem?_eq_some_iff.1 ho).1
    rw [hm2 l hl]
    exact ORel.ren hm2 how h1 (hh'.obj _ _ h2)
  · intro l hl
    rw [hm2 l (by have := ht.le; omega), ht.low l hl]; exact hst.keep l hl
  · intro l b hl; exact hst.new _ b (hm2s l b hl).2

theorem YC.tidy {l : Nat} {args : List AV} {σ : List AObj} {Q Q' : AV → List AObj → Prop} (h : YC P l args σ Q) (hq : ∀ r σ', Q r σ' → ∃ g r2 σ2, Tidy σ.length σ r σ' g r2 σ2 ∧ Q' r2 σ2) : YC P l args σ Q' :=
  fun m X w cargs b hb ha hh => let ⟨L, h1, h2, h3⟩ := h m X w cargs b hb ha hh
    ⟨L, h1, h2, h3.mono fun e w' h => h.tidy hh hq⟩

theorem tidy_cut {σ σ2 : List AObj} {v r : AV} {τ : List AObj} (hl : σ2.length = σ.length) (hv : locsIn σ.length v = true) (ho : ∀ (l : Nat) (o : AObj), σ2[l]? = some o → σ[l]? = some o ∨ objIn σ.length o = true)
    (h : r = v ∧ ∃ junk, τ = σ2 ++ junk) : ∃ g r2 σ3, Tidy σ.length σ r τ g r2 σ3 ∧ (r2 = v ∧ σ3 = σ2) := by
  obtain ⟨rfl, junk, rfl⟩ := h
  refine ⟨id, r, σ2, ⟨fun _ _ => rfl, fun _ _ h _ => h, by omega, (ren_id (g := id) (k := σ.length) (fun _ _ => rfl) r hv).symm, by rw [hl]; exact hv, fun l o hlo => ?_⟩, rfl, rfl⟩
  have hlt : l < σ2.length := (List.getElem?_eq_some_iff.1 hlo).1
  have hin : (σ2 ++ junk)[l]? = some o := by rw [List.getElem?_append_left hlt]; exact hlo
  rcases ho l o hlo with h1 | h1
  · exact .inl ⟨by omega, h1, hin⟩
  · refine .inr ⟨by rw [hl]; exact h1, ?_⟩
    rw [renO_id (g := id) (k := σ.length) (fun _ _ => rfl) h1]; exact hin

/-- the heap behind a round: what it made above is dropped -/
theorem YC.cut {l : Nat} {args : List AV} {σ σ2 : List AObj} {v : AV} (h : YC P l args σ fun r τ => r = v ∧ ∃ junk, τ = σ2 ++ junk) (hl : σ2.length = σ.length) (hv : locsIn σ.length v = true)
    (ho : ∀ (l : Nat) (o : AObj), σ2[l]? = some o → σ[l]? = some o ∨ objIn σ.length o = true) : YC P l args σ fun r τ => r = v ∧ τ = σ2 :=
  h.tidy fun r τ h => tidy_cut hl hv ho h

/-- what is asked at a round's end -/
def kRnd (l : Nat) (Q : AV → List AObj → Prop) : Exit → St → Prop := fun e s2 => match e with
  | .panic _ | .outgrown => False
  | e => ∃ r2, s2.heap[l]? = some (.loop r2) ∧ Q (.b (jumpOf e).isNone) (setLoop s2.heap l r2 (if (jumpOf e).isNone then .ready else .done) (jumpOf e))
theorem kRnd_n {l : Nat} {Q : AV → List AObj → Prop} {s : St} : kRnd l Q .normal s = ∃ r2, s.heap[l]? = some (.loop r2) ∧ Q (.b true) (setLoop s.heap l r2 .ready none) := Eq.trans rfl rfl
theorem kRnd_x {l i : Nat} {Q : AV → List AObj → Prop} {s : St} : kRnd l Q (.exit i) s = ∃ r2, s.heap[l]? = some (.loop r2) ∧ Q (.b false) (setLoop s.heap l r2 .done (some (.exit i))) := Eq.trans rfl rfl
theorem kRnd_r {l : Nat} {Q : AV → List AObj → Prop} {s : St} : kRnd l Q .ret s = ∃ r2, s.heap[l]? = some (.loop r2) ∧ Q (.b false) (setLoop s.heap l r2 .done (some .ret)) := Eq.trans rfl rfl

/-- behind the assignment of a round's values -/
def kAsg (P : Program) (fx : Fx) (l : Nat) (ib : IC) (Q : AV → List AObj → Prop) : Exit → St → Prop := fun e s1 => match e with
  | .normal => ∃ r1, s1.heap[l]? = some (.loop r1) ∧ r1.state = .ready ∧ IS P fx ib ⟨s1.vals, setLoop s1.heap l r1 .busy r1.pending⟩ (kRnd l Q) .mk .mk
  | _ => False
theorem kAsg_n {fx : Fx} {l : Nat} {ib : IC} {Q : AV → List AObj → Prop} {s : St} : kAsg P fx l ib Q .normal s = ∃ r1, s.heap[l]? = some (.loop r1) ∧ r1.state = .ready ∧ IS P fx ib ⟨s.vals, setLoop s.heap l r1 .busy r1.pending⟩ (kRnd l Q) .mk .mk := Eq.trans rfl rfl

theorem YC_IS {l : Nat} {σ : List AObj} {r : ALoop} {args : List AV} {Q : AV → List AObj → Prop} (ia ib : IC) (hl : σ[l]? = some (.loop r)) (hst : r.state = .ready) (hargs : args.length = r.params.length)
    (hvp : (decide r.vars.Nodup && r.params.all fun t => r.vars.contains t && decide (t < r.ntmps)) = true)
    (hca : compC P r.vars r.ntmps r.assign = some ia) (hcb : compC P r.vars r.ntmps r.body = some ib)
    (h : IS P ⟨r.vars, r.ntmps, some l, σ.length⟩ ia ⟨putPars r.vars r.params args r.vals, σ⟩ (kAsg P ⟨r.vars, r.ntmps, some l, σ.length⟩ l ib Q) .mk .mk) : YC P l args σ Q := by
  simp only [Bool.and_eq_true, decide_eq_true_eq, List.all_eq_true, List.contains_iff_mem] at hvp
  refine YC_of_round hl hst hargs hvp.1 (fun t ht => (hvp.2 t ht).1) (fun t ht => (hvp.2 t ht).2) ?_
  refine IW_sound _ ia _ _ hca (IW_mono ia _ _ _ ?_ (IS_sound _ _ _ _ _ h))
  intro e s1 h1
  cases e with
  | normal =>
    obtain ⟨r1, g1, g2, g3⟩ := h1
    refine ⟨r1, g1, g2, ?_⟩
    refine IW_sound _ ib _ _ hcb (IW_mono ib _ _ _ ?_ (IS_sound _ _ _ _ _ g3))
    intro e s2 h2
    cases e <;> exact h2
  | _ => exact h1

theorem RW_s {fx : Fx} {s : St} {Q : Exit → St → Prop} {g : Opd} {ps : Array Nat} {assign body : Code} {gf : FuncId} {cap : List AV} (hg : evalO s.vals [] g = .fn (.func gf) cap) (hvl : s.vals.length ≤ fx.vars.length) (hr0 : ∀ l0, fx.r = some l0 → ∃ r0, s.heap[l0]? = some (.loop r0))
    (h : AC P gf (.yld s.heap.length :: cap) (s.heap ++ [.loop (newLoop fx s.vals ps assign body)]) fun _ σ' => afterLoop P fx s.vals s.heap.length Q σ') : RW P fx g ps assign body s Q := ⟨gf, cap, hg, hvl, hr0, h⟩
end

def Subs : List AV → List AV → Prop
  | [], [] => True
  | a :: as_, b :: bs => sub1 a b ∧ Subs as_ bs
  | _, _ => False
theorem Subs.get : ∀ {as_ bs : List AV}, Subs as_ bs → ∀ i, sub1 (as_.getD i .undef) (bs.getD i .undef)
  | [], [], _, i => .inl rfl
  | a :: as_, b :: bs, h, 0 => h.1
  | a :: as_, b :: bs, h, i + 1 => by simpa using Subs.get h.2 i
  | [], _ :: _, h, _ => h.elim
  | _ :: _, [], h, _ => h.elim

/-- what lies behind a heap is forgotten, and values that lead to it -/
theorem Weak.cut {fx : Fx} {vals vals' : List AV} {τ J : List AObj} (hv : Subs vals vals') (hk : fx.n0 ≤ τ.length) (hl : locsInAll τ.length vals' = true) (ho : ∀ o ∈ τ, objIn τ.length o = true) : Weak fx ⟨vals, τ ++ J⟩ ⟨vals', τ⟩ := by
  have := Weak.drop (fx := fx) (s := ⟨vals, τ ++ J⟩) (vals' := vals') (k := τ.length) hv.get hk hl (fun o h => ho o (by simpa using h)) (by simp)
  simpa using this

/-- a heap of the same length, whose objects lead nowhere else -/
theorem callOk_same {σ τ : List AObj} {v : AV} (hl : τ.length = σ.length) (hv : locsIn τ.length v = true) (ho : ∀ (l : Nat) o, τ[l]? = some o → σ[l]? ≠ some o → objIn τ.length o = true) : CallOk σ v τ :=
  ⟨hv, by omega, fun l o h1 h2 => ⟨ho l o h1 h2, fun h => by have := (List.getElem?_eq_some_iff.1 h1).1; omega⟩⟩

theorem callOk_set {σ : List AObj} {v : AV} {l : Nat} {o : AObj} (hv : locsIn σ.length v = true) (ho : objIn σ.length o = true) : CallOk σ v (σ.set l o) :=
  callOk_same (by simp) (by simpa using hv) fun k o' h1 h2 => by
    rw [List.length_set]
    by_cases hk : l = k
    · subst hk
      have hlt := (List.getElem?_eq_some_iff.1 h1).1
      rw [List.length_set] at hlt
      rw [List.getElem?_set_self hlt] at h1
      cases h1; exact ho
    · rw [List.getElem?_set_ne hk] at h1; exact absurd h1 h2

end Go.Proofs.Ytphdemhopihpnaa.AM


/- Parts of the proof, joined: AmM to AmM. -/
import Derived.Test.YtphdemhopihpnaaZ13

namespace Go.Proofs.Ytphdemhopihpnaa.AM
open Go
set_option linter.unusedVariables false
set_option linter.unusedSimpArgs false

variable {P : Program} {fx : Fx} {m : LM} {X : Nat → Prop} {en : Nat} {w : World}

theorem SRel.of_heap {s : St} {σ' : List AObj} {m' : LM} {ac : Act} {w' : World} (h : SRel fx m X en s ac w) (h' : HRel m' X σ' w') (hs : Step s.heap.length m X w m' w') (hl : s.heap.length ≤ σ'.length) : SRel fx m' X en { s with heap := σ' } ac w' where
  size := h.size
  vars := h.vars.mono (h.heap.mono_of_step hs (Nat.le_refl _))
  defs := h.defs.step hs
  heap := h'
  base := Nat.le_trans h.base hl
  entry := Nat.le_trans h.entry hs.size

theorem TRel.mono {vars : List Nat} {ops : List Oper} {ρ : List AV} {tmps : Array Value} {m' : LM} {w' : World} (h : TRel m X w vars ops ρ tmps) (hm : Mono m X w m' X w') : TRel m' X w' vars ops ρ tmps :=
  fun j t hj hv => VRel.mono hm _ _ (h j t hj hv)

/-! ### The abstract heap does not shrink -/

theorem stepF_le {io : IOp} {as : List AV} {σ σ' : List AObj} {r : AV} (h : stepF io as σ = some (r, σ')) : σ.length ≤ σ'.length := by
  cases io <;> simp only [stepF] at h
  case mv => unfold f_mv at h; split at h <;> cases h; exact Nat.le_refl _
  case pick => unfold f_pick at h; split at h <;> cases h; exact Nat.le_refl _
  case not => unfold f_not at h; split at h <;> cases h; exact Nat.le_refl _
  case bin => unfold f_bin at h; split at h <;> first | (simp only [Option.map_eq_some_iff] at h; obtain ⟨_, _, h⟩ := h; cases h; exact Nat.le_refl _) | cases h
  case conv => unfold f_conv at h; split at h <;> cases h; exact Nat.le_refl _
  case alloc => unfold f_alloc at h; split at h <;> cases h; simp
  case box => unfold f_box at h; split at h <;> first | (split at h <;> cases h; simp) | cases h
  case build => unfold f_build at h; simp only [Option.map_eq_some_iff] at h; obtain ⟨_, _, h⟩ := h; cases h; exact Nat.le_refl _
  case bslice => unfold f_bslice at h; simp only [Option.map_eq_some_iff] at h; obtain ⟨_, _, h⟩ := h; cases h; simp
  case load1 => unfold f_load1 at h; split at h <;> first | (simp only [Option.bind_eq_some_iff, Option.map_eq_some_iff] at h; obtain ⟨_, _, _, _, h⟩ := h; cases h; exact Nat.le_refl _) | (simp only [Option.map_eq_some_iff] at h; obtain ⟨_, _, h⟩ := h; cases h; exact Nat.le_refl _) | cases h
  case loadN => unfold f_loadN at h; split at h <;> first | (simp only [Option.bind_eq_some_iff] at h; obtain ⟨_, _, h⟩ := h; split at h <;> cases h; exact Nat.le_refl _) | (split at h <;> cases h; exact Nat.le_refl _) | cases h
  case store => unfold f_store at h; split at h <;> first | (simp only [Option.bind_eq_some_iff] at h; obtain ⟨_, _, h⟩ := h; split at h <;> cases h; simp) | cases h
  case nilck => unfold f_nilck at h; split at h <;> cases h <;> exact Nat.le_refl _
  case mkfn => unfold f_mkfn at h; cases h; exact Nat.le_refl _
  case mkbm => unfold f_mkbm at h; cases h; exact Nat.le_refl _
  case mkmap => unfold f_mkmap at h; split at h <;> cases h; simp
  case mkslice => unfold f_mkslice at h; split at h <;> first | (split at h <;> cases h; simp) | cases h
  case slA => unfold f_slA at h; split at h <;> first | (simp only [Option.bind_eq_some_iff] at h; obtain ⟨_, _, _, _, h⟩ := h; split at h <;> cases h; exact Nat.le_refl _) | cases h
  case slS => unfold f_slS at h; split at h <;> first | (simp only [Option.bind_eq_some_iff] at h; obtain ⟨_, _, h⟩ := h; split at h <;> first | (split at h <;> cases h <;> exact Nat.le_refl _) | (cases h; exact Nat.le_refl _) | cases h) | cases h
  case slStr => unfold f_slStr at h; split at h <;> first | (simp only [Option.bind_eq_some_iff] at h; obtain ⟨_, _, h⟩ := h; split at h <;> cases h; exact Nat.le_refl _) | cases h
  case fadd => unfold f_fadd at h; split at h <;> cases h <;> exact Nat.le_refl _
  case fld => unfold f_fld at h; split at h <;> first | (split at h <;> cases h; exact Nat.le_refl _) | (simp only [Option.map_eq_some_iff] at h; obtain ⟨_, _, h⟩ := h; cases h; exact Nat.le_refl _) | cases h
  case iaA => unfold f_iaA at h; split at h <;> first | (split at h <;> cases h; exact Nat.le_refl _) | cases h
  case iaS => unfold f_iaS at h; split at h <;> first | (split at h <;> cases h; exact Nat.le_refl _) | cases h
  case ixA => unfold f_ixA at h; split at h <;> first | (split at h <;> first | (cases h; exact Nat.le_refl _) | (simp only [Option.map_eq_some_iff] at h; obtain ⟨_, _, h⟩ := h; cases h; exact Nat.le_refl _) | cases h) | cases h
  case ixStr => unfold f_ixStr at h; split at h <;> first | (split at h <;> first | (simp only [Option.map_eq_some_iff] at h; obtain ⟨_, _, h⟩ := h; cases h; exact Nat.le_refl _) | cases h) | cases h
  case extract => unfold f_extract at h; split at h <;> first | (simp only [Option.map_eq_some_iff] at h; obtain ⟨_, _, h⟩ := h; cases h; exact Nat.le_refl _) | cases h
  case len => unfold f_len at h; split at h <;> cases h <;> exact Nat.le_refl _
  case min2 => unfold f_min2 at h; split at h <;> first | (split at h <;> cases h; exact Nat.le_refl _) | cases h
  case max2 => unfold f_max2 at h; split at h <;> first | (split at h <;> cases h; exact Nat.le_refl _) | cases h
  case append =>
    unfold f_append at h
    split at h
    · simp only [Option.bind_eq_some_iff] at h; obtain ⟨_, _, _, _, h⟩ := h
      split at h
      · cases h; exact Nat.le_refl _
      · split at h <;> cases h; simp
    · simp only [Option.bind_eq_some_iff] at h; obtain ⟨_, _, _, _, _, _, h⟩ := h
      split at h <;> cases h; simp
    · simp only [Option.bind_eq_some_iff] at h; obtain ⟨_, _, _, _, _, _, h⟩ := h
      split at h <;> (split at h <;> cases h; simp)
    · cases h
  case clear => unfold f_clear at h; split at h <;> first | (simp only [Option.bind_eq_some_iff] at h; obtain ⟨_, _, h⟩ := h; split at h <;> cases h; simp) | cases h
  case copy => unfold f_copy at h; split at h <;> first | (simp only [Option.bind_eq_some_iff] at h; obtain ⟨_, _, _, _, _, _, h⟩ := h; split at h <;> cases h; simp) | cases h
  case lookup => unfold f_lookup at h; split at h <;> first | (simp only [Option.bind_eq_some_iff] at h; obtain ⟨_, _, h⟩ := h; split at h <;> first | (cases h; done) | (simp only [Option.map_eq_some_iff] at h; obtain ⟨_, _, h⟩ := h; cases h; exact Nat.le_refl _)) | cases h
  case mapset => unfold f_mapset at h; split at h <;> first | (simp only [Option.bind_eq_some_iff] at h; obtain ⟨_, _, h⟩ := h; split at h <;> first | (cases h; done) | (simp only [Option.map_eq_some_iff] at h; obtain ⟨_, _, h⟩ := h; cases h; simp)) | cases h
  case mapdel => unfold f_mapdel at h; split at h <;> first | (simp only [Option.bind_eq_some_iff] at h; obtain ⟨_, _, h⟩ := h; split at h <;> first | (cases h; done) | (simp only [Option.map_eq_some_iff] at h; obtain ⟨_, _, h⟩ := h; cases h; simp)) | cases h
  case maplen => unfold f_maplen at h; split at h <;> first | (simp only [Option.map_eq_some_iff] at h; obtain ⟨_, _, h⟩ := h; cases h; exact Nat.le_refl _) | cases h
  case stuck => cases h
  case eqS => unfold f_eqS at h; split at h <;> (try (cases h; done)); simp only [Option.map_eq_some_iff] at h; obtain ⟨v, hv, he⟩ := h; cases he; exact Nat.le_refl _
  case mksliceC => unfold f_mksliceC at h; split at h <;> first | (split at h <;> cases h; simp) | cases h
  case slS3 => unfold f_slS3 at h; split at h <;> (try (cases h; done)) <;> (simp only [Option.bind_eq_some_iff] at h; obtain ⟨_, _, _, _, _, _, h⟩ := h; split at h <;> cases h; exact Nat.le_refl _)
  case cap => unfold f_cap at h; split at h <;> cases h; exact Nat.le_refl _
  case appendz => unfold f_appendz at h; split at h <;> (try (cases h; done)); simp only [Option.bind_eq_some_iff] at h; obtain ⟨_, _, h⟩ := h; split at h <;> cases h; simp
  case rstr => unfold f_rstr at h; split at h <;> cases h; simp
  case snext => unfold f_snext at h; split at h <;> (try (cases h; done)); simp only [Option.map_eq_some_iff] at h; obtain ⟨_, _, h⟩ := h; split at h <;> cases h <;> simp

/-! ### A region, in the order of its text -/

def wfen (ro : Option Nat) : Fence := { Fence.wide with round := ro }

theorem compIns_prim {vars : List Nat} {dsts : List (Option Nat)} {o : Oper} {i : Ins} {io : IOp} (h : compIns P vars dsts o = some i) (hop : i.op = .prim io) :
    ∃ os, compOp P (capMark vars) o = some (io, os) ∧ i.args = os.map (compOpd vars dsts) ∧ i.dst = compDst vars o.dst ∧ i.gd = o.guard := by
  unfold compIns at h
  split at h
  · cases h; cases hop
  · simp only [Option.map_eq_some_iff] at h
    obtain ⟨⟨io', os⟩, hc, he⟩ := h; subst he; cases hop
    exact ⟨os, hc, rfl, rfl, rfl⟩

theorem compIns_call {vars : List Nat} {dsts : List (Option Nat)} {o : Oper} {i : Ins} (h : compIns P vars dsts o = some i) (hop : i.op = .call) :
    ∃ f args at_, o.op = .call { callee := .value f, args, argTypes := at_ } ∧ i.args = (f :: args.toList).map (compOpd vars dsts) ∧ i.dst = compDst vars o.dst ∧ i.gd = o.guard := by
  unfold compIns at h
  split at h
  · rename_i f args at_ ho; cases h; exact ⟨f, args, at_, ho, rfl, rfl, rfl⟩
  · simp only [Option.map_eq_some_iff] at h
    obtain ⟨⟨io', os⟩, hc, he⟩ := h; subst he; cases hop

theorem compIns_dst {vars : List Nat} {dsts : List (Option Nat)} {o : Oper} {i : Ins} (h : compIns P vars dsts o = some i) : i.dst = compDst vars o.dst ∧ i.gd = o.guard := by
  unfold compIns at h
  split at h
  · cases h; exact ⟨rfl, rfl⟩
  · simp only [Option.map_eq_some_iff] at h
    obtain ⟨⟨io', os⟩, hc, he⟩ := h; subst he; exact ⟨rfl, rfl⟩

theorem compOp_not_defer {cm : Bool} {o : Oper} {x : IOp × List Operand} (h : compOp P cm o = some x) : ∀ c, o.op ≠ .defer c := by
  intro c hc
  unfold compOp at h
  rw [hc] at h
  cases h

/-- what a guard says of the slots is what it says of the abstract results -/
theorem gd_rel {ops : Array Oper} {ρ : List AV} {tmps : Array Value} {o : Oper} {b : Bool} (hok : regOk fx.vars fx.N ops.toList = true) (ho : o ∈ ops.toList) (ht : TRel m X w fx.vars ops.toList ρ tmps) (hsz : tmps.size = fx.N)
    (hg : gdOk ρ o.guard = some b) : Region.wanted o (yielded ops tmps) = b := by
  unfold Region.wanted
  cases hgd : o.guard with
  | none => rw [hgd] at hg; simp [gdOk] at hg; simp [hg]
  | some jw =>
    obtain ⟨j, want⟩ := jw
    rw [hgd] at hg
    simp only [gdOk] at hg
    split at hg
    · rename_i bb hb
      cases hg
      unfold regOk at hok
      simp only [Bool.and_eq_true, decide_eq_true_eq, List.all_eq_true] at hok
      obtain ⟨⟨⟨⟨_, _⟩, hlt⟩, _⟩, hgs⟩ := hok
      have h1 := hgs o ho
      rw [hgd] at h1
      simp only at h1
      split at h1
      · rename_i t htj
        have htv : t ∉ fx.vars := by simpa using h1
        have hr := ht j t htj htv
        rw [hb] at hr
        have hv := hr.bool
        cases hoj : ops.toList[j]? with
        | none => rw [hoj] at htj; simp at htj
        | some oj =>
          rw [hoj] at htj; simp at htj
          have htN : t < tmps.size := by
            rw [hsz]; have := hlt t (List.mem_filterMap.2 ⟨oj, List.mem_of_getElem? hoj, htj⟩); simpa using this
          have e1 : tmps[t]? = some (.bool bb) := by
            rw [Array.getElem?_eq_getElem htN]
            rw [Array.getD_eq_getD_getElem?, Array.getElem?_eq_getElem htN] at hv
            simpa using hv
          have e2 : ops[j]? = some oj := by simpa using hoj
          simp only [yielded, e2, Option.bind_some, htj, e1]
          cases bb <;> cases want <;> rfl
      · cases h1
    · rename_i us hb
      cases hg
      unfold regOk at hok
      simp only [Bool.and_eq_true, decide_eq_true_eq, List.all_eq_true] at hok
      obtain ⟨⟨⟨⟨_, _⟩, hlt⟩, _⟩, hgs⟩ := hok
      have h1 := hgs o ho
      rw [hgd] at h1
      simp only at h1
      split at h1
      · rename_i t htj
        have htv : t ∉ fx.vars := by simpa using h1
        have hr := ht j t htj htv
        rw [hb] at hr
        simp only [VRel] at hr
        obtain ⟨vs, hv, _⟩ := hr
        cases hoj : ops.toList[j]? with
        | none => rw [hoj] at htj; simp at htj
        | some oj =>
          rw [hoj] at htj; simp at htj
          have htN : t < tmps.size := by
            rw [hsz]; have := hlt t (List.mem_filterMap.2 ⟨oj, List.mem_of_getElem? hoj, htj⟩); simpa using this
          have e1 : tmps[t]? = some (.tuple vs.toArray) := by
            rw [Array.getElem?_eq_getElem htN]
            rw [Array.getD_eq_getD_getElem?, Array.getElem?_eq_getElem htN] at hv
            simpa using hv
          have e2 : ops[j]? = some oj := by simpa using hoj
          simp only [yielded, e2, Option.bind_some, htj, e1]
          cases want <;> rfl
      · cases h1
    · cases hg

theorem RG_sound {ro : Option Nat} {ops : Array Oper} (hok : regOk fx.vars fx.N ops.toList = true) {Qc : Exit → Act → World → Prop} :
    ∀ (is : List Ins) (j : Nat) (m : LM) (w : World) (vals ρ : List AV) (σ : List AObj) (K : List AV → List AV → List AObj → Prop) (ac : Act),
    (ops.toList.drop j).mapM (compIns P fx.vars (ops.toList.map (·.dst))) = some is → ρ.length = j →
    RG P is vals ρ σ K → SRel fx m X en ⟨vals, σ⟩ ac w → TRel m X w fx.vars ops.toList ρ ac.tmps →
    (∀ m' ac' w' vals ρ σ, K vals ρ σ → SRel fx m' X en ⟨vals, σ⟩ ac' w' → Step fx.n0 m X w m' w' → Qc .normal ac' w') →
    wpOpsIn (wfen ro) 0 P ops Qc (List.range' j (ops.size - j)) ac w
  | [], j, m, w, vals, ρ, σ, K, ac, hc, hj, hrg, hs, ht, hk => by
    have : ops.size - j = 0 := by
      cases hd : ops.toList.drop j with
      | nil => have := congrArg List.length hd; simp at this; omega
      | cons o os =>
        rw [hd] at hc
        simp only [List.mapM_cons, Option.bind_eq_bind, Option.bind_eq_some_iff, Option.pure_def] at hc
        obtain ⟨_, _, _, _, h⟩ := hc; cases h
    rw [this]
    simp only [List.range'_zero, wpOpsIn]
    exact hk m ac w vals ρ σ hrg hs (Step.refl _ _ _ _)
  | i :: is, j, m, w, vals, ρ, σ, K, ac, hc, hj, hrg, hs, ht, hk => by
    cases hd : ops.toList.drop j with
    | nil => rw [hd] at hc; simp at hc
    | cons o os =>
      rw [hd] at hc
      simp only [List.mapM_cons, Option.bind_eq_bind, Option.bind_eq_some_iff, Option.pure_def, Option.some.injEq, List.cons.injEq] at hc
      obtain ⟨i0, hi, is0, his, he1, he2⟩ := hc
      rw [he1] at hi; rw [he2] at his; clear he1 he2
      have hoj : ops.toList[j]? = some o := by
        have := congrArg List.head? hd; simpa using this
      have hlt : j < ops.size := by
        have := (List.getElem?_eq_some_iff.1 hoj).1; simpa using this
      have hoj' : ops[j]? = some o := by simpa using hoj
      have hos : ops.toList.drop (j + 1) = os := by rw [← List.tail_drop, hd]; rfl
      rw [← hos] at his
      have hn : ops.size - j = (ops.size - (j + 1)) + 1 := by omega
      rw [hn, List.range'_succ]
      simp only [wpOpsIn, hoj']
      obtain ⟨hdst, hgd⟩ := compIns_dst hi
      -- ONE SLOT WRITTEN, AND ON
      have next : ∀ (m' : LM) (w' : World) (σ' : List AObj) (v : AV) (c : Value), HRel m' X σ' w' → Step σ.length m X w m' w' → σ.length ≤ σ'.length → VRel m' X w' v c →
          RG P is (setD i.dst vals v) (ρ ++ [v]) σ' K → wpOpsIn (wfen ro) 0 P ops Qc (List.range' (j + 1) (ops.size - (j + 1))) (ac.put o.dst c) w' := by
        intro m' w' σ' v c hh hst hle hv hrg'
        have hs1 : SRel fx m' X en ⟨vals, σ'⟩ ac w' := hs.of_heap hh hst hle
        have ht1 := ht.mono (hs.heap.mono_of_step hst (Nat.le_refl _))
        obtain ⟨hs2, ht2⟩ := put_rel hok hoj hj hs1 ht1 hv
        rw [← hdst] at hs2
        refine RG_sound hok is (j + 1) m' w' _ _ σ' K _ his (by simp [hj]) hrg' hs2 ht2 ?_
        intro m2 ac2 w2 vals2 ρ2 σ2 hK hs3 hst2
        exact hk m2 ac2 w2 vals2 ρ2 σ2 hK hs3 (Step.trans (hst.less hs.base) hst2)
      simp only [RG] at hrg
      split at hrg
      · exact hrg.elim
      · rename_i hg
        rw [hgd] at hg
        have := gd_rel hok (List.mem_of_getElem? hoj) ht hs.size hg
        rw [this]
        simp only [Bool.false_eq_true, if_false]
        exact ⟨fun _ _ => trivial, next m w σ (.tup []) Go.undef hs.heap (Step.refl _ _ _ _) (Nat.le_refl _) (by simp [VRel, VRels, Go.undef]) hrg⟩
      · rename_i hg
        rw [hgd] at hg
        have := gd_rel hok (List.mem_of_getElem? hoj) ht hs.size hg
        rw [this]
        simp only [if_true]
        refine ⟨fun _ _ => trivial, ?_⟩
        generalize has : i.args.map (evalO vals ρ) = as at hrg
        cases hop : i.op with
        | prim io =>
          rw [hop] at hrg
          dsimp only at hrg
          obtain ⟨os', hco, hargs, _, _⟩ := compIns_prim hi hop
          rw [hargs] at has
          have hrel := evalOs_rel hs.vars ht os'
          rw [has] at hrel
          split at hrg
          · rename_i v σ' hsf
            obtain ⟨nx, w', m', hrun, hres, hh, hst⟩ := prim_sound hco hs.heap hrel hsf
            rw [Oper.semAt_eq _ _ _ (compOp_not_defer hco), hrun]
            rcases hres with ⟨c, rfl, hv⟩ | ⟨rfl, rfl⟩
            · exact next m' w' σ' v c hh hst (stepF_le hsf) hv hrg
            · exact next m' w' σ' .undef Go.undef hh hst (stepF_le hsf) (by simp [VRel]) hrg
          · exact hrg.elim
        | call =>
          rw [hop] at hrg
          cases as with
          | nil => exact hrg.elim
          | cons fv as =>
          dsimp only at hrg
          obtain ⟨f, args, at_, hop', hargs, _, _⟩ := compIns_call hi hop
          rw [hargs] at has
          have hrel := evalOs_rel hs.vars ht (f :: args.toList)
          rw [has] at hrel
          obtain ⟨fc, us, he, hfv, hrest⟩ := hrel.cons
          simp only [List.map_cons, List.cons.injEq] at he
          obtain ⟨rfl, rfl⟩ := he
          have hnd : ∀ c, o.op ≠ .defer c := by rw [hop']; simp
          rw [Oper.semAt_eq _ _ _ hnd]
          have hex : execOp ac.eval o = (do let d ← resolve ac.eval { callee := .value f, args, argTypes := at_ } o.type; invoke d.target d.args) := by
            simp only [execOp, hop']
          rw [hex]
          unfold CallV at hrg
          split at hrg
          · rename_i g cap
            simp only [VRel] at hfv
            obtain ⟨vs, hfe, hcap⟩ := hfv
            have hrun : (do let d ← resolve ac.eval { callee := .value f, args, argTypes := at_ } o.type; invoke d.target d.args : Sem Next).run P w = .ok (.enter g ((args.toList.map ac.eval) ++ vs).toArray) w := by
              simp only [resolve, hfe, Deferred.ofValue, Sem.run_bind, Sem.run_pure, Result.andThen_ok, invoke]
              rw [hrg.1]
              congr 2
              apply Array.ext'; simp
            rw [hrun]
            refine ⟨by simp [wfen, Fence.wide], ?_⟩
            have hcall := hrg.2 m X w _ (VRels.append hrest hcap) hs.heap
            refine CallsIn.mono (F := wfen ro) (n := 0) hcall ?_
            rintro e w' ⟨c, r, σ', m', rfl, hq, hv, hh, hst, hle⟩
            exact next m' w' σ' r c hh hst hle hv hq
          · rename_i g first
            simp only [VRel] at hfv
            obtain ⟨vs, hfe, hcap⟩ := hfv
            have hrun : (do let d ← resolve ac.eval { callee := .value f, args, argTypes := at_ } o.type; invoke d.target d.args : Sem Next).run P w = .ok (.enter g (vs ++ (args.toList.map ac.eval)).toArray) w := by
              simp only [resolve, hfe, Deferred.ofValue, Sem.run_bind, Sem.run_pure, Result.andThen_ok, invoke]
              rw [hrg.1]
              congr 2
              apply Array.ext'; simp
            rw [hrun]
            refine ⟨by simp [wfen, Fence.wide], ?_⟩
            have hcall := hrg.2 m X w _ (VRels.append hcap hrest) hs.heap
            refine CallsIn.mono (F := wfen ro) (n := 0) hcall ?_
            rintro e w' ⟨c, r, σ', m', rfl, hq, hv, hh, hst, hle⟩
            exact next m' w' σ' r c hh hst hle hv hq
          · rename_i l
            simp only [VRel] at hfv
            obtain ⟨b, hb, hfe⟩ := hfv
            obtain ⟨L, hL, hsz, hround⟩ := hrg m X w _ b hb hrest hs.heap
            have hrun : (do let d ← resolve ac.eval { callee := .value f, args, argTypes := at_ } o.type; invoke d.target d.args : Sem Next).run P w = .ok (.round b L.fn ((L.params.zip (args.toList.map ac.eval).toArray).foldl (fun tmps (t, a) => tmps.setIfInBounds t a) L.tmps) L.assign L.body) w := by
              simp only [resolve, hfe, Deferred.ofValue, Sem.run_bind, Sem.run_pure, Result.andThen_ok, invoke]
              have e : #[] ++ args.map ac.eval = (args.toList.map ac.eval).toArray := by apply Array.ext'; simp
              rw [e]
              exact run_yield hL (by simpa using hsz)
            rw [hrun]
            refine ⟨by simp [wfen, Fence.wide], ?_⟩
            refine RoundIn.mono (F := wfen ro) (n := 0) hround ?_
            rintro e w' ⟨c, r, σ', m', rfl, hq, hv, hh, hst, hle⟩
            exact next m' w' σ' r c hh hst hle hv hq
          · exact hrg.elim

end Go.Proofs.Ytphdemhopihpnaa.AM


/- Parts of the proof, joined: AmL to AmL. -/
import Derived.Test.YtphdemhopihpnaaZ12

namespace Go.Proofs.Ytphdemhopihpnaa.AM
open Go
set_option linter.unusedVariables false
set_option linter.unusedSimpArgs false

/-- A frame as the abstract machine looks at it: the slots that are variables; how many slots; the loop's place whose round it is; the places that are its caller's. -/
structure Fx where
  vars : List Nat
  N : Nat
  r : Option Nat
  n0 : Nat

structure St where
  vals : List AV
  heap : List AObj

/-- the blocks in which a frame's loops over functions keep deferred calls: none is kept -/
def DRel (m : LM) (X : Nat → Prop) (e : Nat) (w : World) (ds : List Deferred) : Prop :=
  ∃ bs : List Nat, ds = bs.map (fun b => { target := .collected b, args := #[] }) ∧ bs.Nodup ∧ ∀ b ∈ bs, e ≤ b ∧ b < w.heap.size ∧ w.heap[b]? = some (.deferred (some [])) ∧ ¬ Own m X b

/-- e: how many blocks there were when the frame was entered. -/
structure SRel (fx : Fx) (m : LM) (X : Nat → Prop) (e : Nat) (s : St) (ac : Act) (w : World) : Prop where
  size : ac.tmps.size = fx.N
  vars : ARel m X w fx.vars s.vals ac.tmps
  defs : DRel m X e w ac.defers
  heap : HRel m X s.heap w
  base : fx.n0 ≤ s.heap.length
  entry : e ≤ w.heap.size

theorem DRel.step {m m' : LM} {X : Nat → Prop} {e n0 : Nat} {w w' : World} {ds : List Deferred} (h : DRel m X e w ds) (hs : Step n0 m X w m' w') : DRel m' X e w' ds := by
  obtain ⟨bs, h1, h2, h3⟩ := h
  refine ⟨bs, h1, h2, fun b hb => ?_⟩
  obtain ⟨g1, g2, g3, g4⟩ := h3 b hb
  refine ⟨g1, Nat.lt_of_lt_of_le g2 hs.size, by rw [hs.fr b g2 (.inr fun l hl => g4 (.inr ⟨l, hl⟩))]; exact g3, ?_⟩
  rintro (hx | ⟨l, hl⟩)
  · exact g4 (.inl hx)
  · rcases hs.new l b hl with ⟨l', hl'⟩ | hge
    · exact g4 (.inr ⟨l', hl'⟩)
    · omega

/-- The fence under which all is walked: nothing is fenced off. -/
def fen (m : LM) (r : Option Nat) : Fence := { Fence.wide with round := r.bind m }
def rok (fx : Fx) (m : LM) : Prop := ∀ l, fx.r = some l → l < fx.n0 ∧ ∃ b, m l = some b

theorem fen_step {fx : Fx} {m m' : LM} {X : Nat → Prop} {w w' : World} (h : rok fx m) (hs : Step fx.n0 m X w m' w') : fen m' fx.r = fen m fx.r := by
  unfold fen
  cases hr : fx.r with
  | none => rfl
  | some l => simp [hs.keep l (h l hr).1]

theorem rok_step {fx : Fx} {m m' : LM} {X : Nat → Prop} {w w' : World} (h : rok fx m) (hs : Step fx.n0 m X w m' w') : rok fx m' := fun l hl => by
  obtain ⟨h1, b, h2⟩ := h l hl
  exact ⟨h1, b, by rw [hs.keep l h1]; exact h2⟩

/-- What is asked at the end of a piece of code. -/
def Lift (fx : Fx) (m : LM) (X : Nat → Prop) (en : Nat) (w : World) (Q : Exit → St → Prop) : Exit → Act → World → Prop :=
  fun e ac' w' => ∃ s' m', Q e s' ∧ SRel fx m' X en s' ac' w' ∧ Step fx.n0 m X w m' w'

/-- The code c, begun in whatever memory reads as the abstract state s, ends as Q says. -/
def W (P : Program) (fx : Fx) (c : Code) (s : St) (Q : Exit → St → Prop) : Prop :=
  ∀ m X en ac w, SRel fx m X en s ac w → rok fx m → c.wpIn (fen m fx.r) 0 P (Lift fx m X en w Q) ac w

def Enter (P : Program) (f : FuncId) : Prop := ∀ (args : Array Value) (w : World), (callFunc f args).run P w = .ok (.enter f args) w

def CPost (m : LM) (X : Nat → Prop) (w : World) (σ : List AObj) (Q : AV → List AObj → Prop) : Ending → World → Prop :=
  fun e w' => ∃ c r σ' m', e = .returned c ∧ Q r σ' ∧ VRel m' X w' r c ∧ HRel m' X σ' w' ∧ Step σ.length m X w m' w' ∧ σ.length ≤ σ'.length

/-- Function f, called at abstract values in an abstract heap, ends as Q says. -/
def AC (P : Program) (f : FuncId) (args : List AV) (σ : List AObj) (Q : AV → List AObj → Prop) : Prop :=
  Enter P f ∧ ∀ m X w cargs, VRels m X w args cargs → HRel m X σ w → CallsIn Fence.wide 0 P f cargs.toArray w (CPost m X w σ Q)

/-- The loop body behind the place l, called by its yield. -/
def YC (P : Program) (l : Nat) (args : List AV) (σ : List AObj) (Q : AV → List AObj → Prop) : Prop :=
  ∀ m X w cargs b, m l = some b → VRels m X w args cargs → HRel m X σ w → ∃ L : Loop, w.heap[b]? = some (.loop L) ∧ cargs.length = L.params.size ∧
    RoundIn Fence.wide 0 P b L.fn ((L.params.zip cargs.toArray).foldl (fun tmps (t, a) => tmps.setIfInBounds t a) L.tmps) L.assign L.body w (CPost m X w σ Q)

def CallV (P : Program) (fv : AV) (args : List AV) (σ : List AObj) (Q : AV → List AObj → Prop) : Prop :=
  match fv with
  | .fn (.func f) cap => AC P f (args ++ cap) σ Q
  | .bm f first => AC P f (first ++ args) σ Q
  | .yld l => YC P l args σ Q
  | _ => False

theorem AC.mono {P : Program} {f : FuncId} {args : List AV} {σ : List AObj} {Q Q' : AV → List AObj → Prop} (h : AC P f args σ Q) (hq : ∀ r σ', Q r σ' → Q' r σ') : AC P f args σ Q' :=
  ⟨h.1, fun m X w cargs ha hh => (h.2 m X w cargs ha hh).mono fun e w' ⟨c, r, σ', m', h1, h2, h3⟩ => ⟨c, r, σ', m', h1, hq _ _ h2, h3⟩⟩
theorem YC.mono {P : Program} {l : Nat} {args : List AV} {σ : List AObj} {Q Q' : AV → List AObj → Prop} (h : YC P l args σ Q) (hq : ∀ r σ', Q r σ' → Q' r σ') : YC P l args σ Q' :=
  fun m X w cargs b hb ha hh => let ⟨L, h1, h2, h3⟩ := h m X w cargs b hb ha hh
    ⟨L, h1, h2, h3.mono fun e w' ⟨c, r, σ', m', h1, h2, h3⟩ => ⟨c, r, σ', m', h1, hq _ _ h2, h3⟩⟩

theorem wpIn_mono' {F : Fence} {n : Nat} {P : Program} {c : Code} {Q Q' : Exit → Act → World → Prop} {a : Act} {w : World} (h : c.wpIn F n P Q a w) (hq : ∀ e a w, Q e a w → Q' e a w) : c.wpIn F n P Q' a w := wpIn_mono h hq

/-! ### Regions -/

inductive Opd where
  | v (i : Nat)
  | t (j : Nat)
  | c (a : AV)

inductive IK where
  | prim (io : IOp)
  | call

structure Ins where
  dst : Option Nat
  gd : Option (Nat × Bool)
  op : IK
  args : List Opd

def evalO (vals ρ : List AV) : Opd → AV
  | .v i => vals.getD i .undef
  | .t j => ρ.getD j .undef
  | .c a => a

def setD (dst : Option Nat) (vals : List AV) (v : AV) : List AV :=
  match dst with
  | some i => vals.set i v
  | none => vals

def gdOk (ρ : List AV) : Option (Nat × Bool) → Option Bool
  | none => some true
  | some (j, want) =>
    match ρ.getD j .undef with
    | .cv (.bool b) => some (b == want)
    | .tup _ => some false
    | _ => none

def RG (P : Program) : List Ins → List AV → List AV → List AObj → (List AV → List AV → List AObj → Prop) → Prop
  | [], vals, ρ, σ, K => K vals ρ σ
  | i :: is, vals, ρ, σ, K =>
    match gdOk ρ i.gd with
    | none => False
    | some false => RG P is (setD i.dst vals (.tup [])) (ρ ++ [.tup []]) σ K
    | some true =>
      match i.op, i.args.map (evalO vals ρ) with
      | .prim io, as =>
        match stepF io as σ with
        | some (v, σ') => RG P is (setD i.dst vals v) (ρ ++ [v]) σ' K
        | none => False
      | .call, fv :: as => CallV P fv as σ fun v σ' => RG P is (setD i.dst vals v) (ρ ++ [v]) σ' K
      | .call, [] => False

def compOpd (vars : List Nat) (dsts : List (Option Nat)) : Operand → Opd
  | .tmp t =>
    match vars.idxOf? t with
    | some i => .v i
    | none =>
      match dsts.idxOf? (some t) with
      | some j => .t j
      | none => .c .undef
  | .const v => .c (ofConst v)
  | .func f => .c (.fn (.func f) [])
  | .global _ => .c .undef

def compDst (vars : List Nat) : Option Nat → Option Nat
  | some t => vars.idxOf? t
  | none => none

/-- a list of variables whose last two are turned round: slices that are made have a known capacity -/
def capMark (vars : List Nat) : Bool :=
  match vars.reverse with
  | a :: b :: _ => Nat.blt a b
  | _ => false

def compIns (P : Program) (vars : List Nat) (dsts : List (Option Nat)) (o : Oper) : Option Ins :=
  match o.op with
  | .call { callee := .value f, args, .. } => some ⟨compDst vars o.dst, o.guard, .call, (f :: args.toList).map (compOpd vars dsts)⟩
  | _ => (compOp P (capMark vars) o).map fun x => ⟨compDst vars o.dst, o.guard, .prim x.1, x.2.map (compOpd vars dsts)⟩

/-- the slots that a region writes and that are no variables, each once; all slots are there; guards are such slots -/
def regOk (vars : List Nat) (N : Nat) (ops : List Oper) : Bool :=
  let ts := (ops.filterMap (·.dst)).filter fun t => !vars.contains t
  decide ts.Nodup && decide vars.Nodup && (ops.filterMap (·.dst)).all (· < N) && vars.all (· < N) &&
  ops.all fun o => match o.guard with
    | none => true
    | some (j, _) => match (ops[j]?).bind (·.dst) with
      | some t => !vars.contains t
      | none => false

def compAll (P : Program) (vars : List Nat) (dsts : List (Option Nat)) : List Oper → Option (List Ins)
  | [] => some []
  | o :: os =>
    match compIns P vars dsts o with
    | none => none
    | some i =>
      match compAll P vars dsts os with
      | none => none
      | some is => some (i :: is)

theorem compAll_eq (P : Program) (vars : List Nat) (dsts : List (Option Nat)) : ∀ os, compAll P vars dsts os = os.mapM (compIns P vars dsts)
  | [] => by simp [compAll]
  | o :: os => by
    simp only [compAll, List.mapM_cons, compAll_eq P vars dsts os, Option.bind_eq_bind, Option.pure_def]
    cases compIns P vars dsts o <;> simp
    cases os.mapM (compIns P vars dsts) <;> rfl

def compReg (P : Program) (vars : List Nat) (N : Nat) (ops : Array Oper) : Option (List Ins) :=
  if regOk vars N ops.toList then compAll P vars (ops.toList.map (·.dst)) ops.toList else none

/-- the slots that the region's operations have written -/
def TRel (m : LM) (X : Nat → Prop) (w : World) (vars : List Nat) (ops : List Oper) (ρ : List AV) (tmps : Array Value) : Prop :=
  ∀ (j t : Nat), (ops[j]?).bind (·.dst) = some t → t ∉ vars → VRel m X w (ρ.getD j .undef) (tmps.getD t Go.undef)

theorem idxOf?_some {α : Type} [BEq α] [LawfulBEq α] {l : List α} {a : α} {i : Nat} (h : l.idxOf? a = some i) : l[i]? = some a := by
  rw [List.idxOf?, List.findIdx?_eq_some_iff_getElem] at h
  obtain ⟨h1, h2, _⟩ := h
  rw [List.getElem?_eq_getElem h1]; simpa using h2

theorem idxOf?_none {α : Type} [BEq α] [LawfulBEq α] {l : List α} {a : α} (h : l.idxOf? a = none) : a ∉ l := by
  rw [List.idxOf?_eq_none_iff] at h; exact h

variable {P : Program} {fx : Fx} {m : LM} {X : Nat → Prop} {w : World}

theorem evalO_rel {vals ρ : List AV} {ops : List Oper} {tmps : Array Value} {ds : List Deferred} (hv : ARel m X w fx.vars vals tmps) (ht : TRel m X w fx.vars ops ρ tmps) (x : Operand) :
    VRel m X w (evalO vals ρ (compOpd fx.vars (ops.map (·.dst)) x)) (Act.eval { tmps, defers := ds } x) := by
  cases x with
  | tmp t =>
    simp only [compOpd, Act.eval]
    split
    · rename_i i hi
      exact hv i t (idxOf?_some hi)
    · rename_i hi
      split
      · rename_i j hj
        have := idxOf?_some hj
        simp only [List.getElem?_map, Option.map_eq_some_iff] at this
        obtain ⟨o, ho, hd⟩ := this
        exact ht j t (by rw [ho]; simpa using hd) (idxOf?_none hi)
      · simp [evalO, VRel]
  | const v => simp only [compOpd, evalO, Act.eval]; exact ofConst_rel v
  | global g => simp [compOpd, evalO, VRel]
  | func f => simp only [compOpd, evalO, Act.eval, VRel]; exact ⟨[], rfl, by simp [VRels]⟩

theorem evalOs_rel {vals ρ : List AV} {ops : List Oper} {a : Act} (hv : ARel m X w fx.vars vals a.tmps) (ht : TRel m X w fx.vars ops ρ a.tmps) : ∀ (xs : List Operand),
    VRels m X w ((xs.map (compOpd fx.vars (ops.map (·.dst)))).map (evalO vals ρ)) (xs.map a.eval)
  | [] => by simp [VRels]
  | x :: xs => by simp only [List.map_cons, VRels]; exact ⟨evalO_rel (ds := a.defers) hv ht x, evalOs_rel hv ht xs⟩

/-- one slot is written -/
theorem put_rel {en : Nat} {s : St} {ρ : List AV} {ops : List Oper} {a : Act} {v : AV} {c : Value} {o : Oper} {j : Nat} (hok : regOk fx.vars fx.N ops = true) (ho : ops[j]? = some o) (hj : ρ.length = j)
    (hs : SRel fx m X en s a w) (ht : TRel m X w fx.vars ops ρ a.tmps) (hv : VRel m X w v c) :
    SRel fx m X en { s with vals := setD (compDst fx.vars o.dst) s.vals v } (a.put o.dst c) w ∧ TRel m X w fx.vars ops (ρ ++ [v]) (a.put o.dst c).tmps := by
  unfold regOk at hok
  simp only [Bool.and_eq_true, decide_eq_true_eq, List.all_eq_true] at hok
  obtain ⟨⟨⟨⟨hnd, hvn⟩, hlt⟩, hvlt⟩, hg⟩ := hok
  have ρget : ∀ k, k ≠ j → (ρ ++ [v]).getD k .undef = ρ.getD k .undef := by
    intro k hk
    rcases Nat.lt_or_ge k ρ.length with h | h
    · simp [List.getD, List.getElem?_append_left h]
    · have h1 : ρ.length < k := by omega
      simp only [List.getD]
      rw [List.getElem?_append_right (by omega), List.getElem?_eq_none (l := ρ) (by omega), List.getElem?_eq_none (by simp; omega)]
  have ρj : (ρ ++ [v]).getD j .undef = v := by
    simp only [List.getD]
    rw [List.getElem?_append_right (by omega)]; simp [hj]
  cases hd : o.dst with
  | none =>
    refine ⟨by simpa [compDst, setD, Act.put] using hs, ?_⟩
    intro k t hk htv
    have : k ≠ j := by rintro rfl; rw [ho] at hk; simp [hd] at hk
    rw [ρget k this]; exact ht k t hk htv
  | some t =>
    have htN : t < a.tmps.size := by
      rw [hs.size]
      have := hlt t (List.mem_filterMap.2 ⟨o, List.mem_of_getElem? ho, hd⟩)
      simpa using this
    have getD_set : ∀ u, (a.tmps.setIfInBounds t c).getD u Go.undef = if u = t then c else a.tmps.getD u Go.undef := by
      intro u
      simp only [Array.getD_eq_getD_getElem?]
      by_cases hu : u = t
      · subst hu; simp [htN]
      · rw [if_neg hu, Array.getElem?_setIfInBounds_ne (fun h => hu h.symm)]
    simp only [compDst]
    cases hi : fx.vars.idxOf? t with
    | some i =>
      have hit := idxOf?_some hi
      refine ⟨⟨by simpa [Act.put] using hs.size, ?_, hs.defs, hs.heap, hs.base, hs.entry⟩, ?_⟩
      · intro k u hk
        simp only [Act.put, setD, getD_set]
        by_cases hki : k = i
        · subst hki
          rw [hit] at hk; cases hk
          rw [if_pos rfl]
          rcases Nat.lt_or_ge k s.vals.length with h | h
          · simp [List.getD, h]; exact hv
          · rw [List.set_eq_of_length_le h]
            simp [List.getD, List.getElem?_eq_none h, VRel]
        · have hut : u ≠ t := by
            rintro rfl
            have h1 : k < fx.vars.length := (List.getElem?_eq_some_iff.1 hk).1
            exact hki ((List.getElem?_inj h1 hvn).1 (hk.trans hit.symm))
          rw [if_neg hut]
          have : (s.vals.set i v).getD k .undef = s.vals.getD k .undef := by
            simp only [List.getD]; rw [List.getElem?_set_ne (fun h => hki h.symm)]
          rw [this]; exact hs.vars k u hk
      · intro k u hk huv
        simp only [Act.put, getD_set]
        have hut : u ≠ t := by rintro rfl; exact huv (List.mem_of_getElem? hit)
        rw [if_neg hut]
        have : k ≠ j := by
          rintro rfl; rw [ho] at hk; simp [hd] at hk; exact hut hk.symm
        rw [ρget k this]; exact ht k u hk huv
    | none =>
      have htv := idxOf?_none hi
      refine ⟨⟨by simpa [Act.put] using hs.size, ?_, hs.defs, hs.heap, hs.base, hs.entry⟩, ?_⟩
      · intro k u hk
        simp only [Act.put, setD, getD_set]
        have hut : u ≠ t := by rintro rfl; exact htv (List.mem_of_getElem? hk)
        rw [if_neg hut]; exact hs.vars k u hk
      · intro k u hk huv
        simp only [Act.put, getD_set]
        by_cases hkj : k = j
        · subst hkj
          rw [ho] at hk; simp [hd] at hk; subst hk
          rw [if_pos rfl, ρj]; exact hv
        · rw [ρget k hkj]
          have hut : u ≠ t := by
            rintro rfl
            -- two places of the region that write one slot
            have hnd' : ∀ (l : List Oper), ((l.filterMap (·.dst)).filter fun t => !fx.vars.contains t).Nodup → ∀ (a b : Nat), (l[a]?).bind (·.dst) = some u → (l[b]?).bind (·.dst) = some u → a = b := by
              intro l
              induction l with
              | nil => intro _ a b h; simp at h
              | cons x l ih =>
                intro hn a b h1 h2
                have hmem : ∀ (q : Nat), (l[q]?).bind (fun o : Oper => o.dst) = some u → u ∈ (l.filterMap (·.dst)).filter fun t => !fx.vars.contains t := by
                  intro q hq
                  cases hlq : l[q]? with
                  | none => rw [hlq] at hq; simp at hq
                  | some y =>
                    rw [hlq] at hq
                    refine List.mem_filter.2 ⟨List.mem_filterMap.2 ⟨y, List.mem_of_getElem? hlq, by simpa using hq⟩, by simpa using huv⟩
                cases hx : x.dst with
                | none =>
                  simp only [List.filterMap_cons, hx] at hn
                  cases a with
                  | zero => simp [hx] at h1
                  | succ a => cases b with
                    | zero => simp [hx] at h2
                    | succ b => simp at h1 h2; rw [ih hn a b h1 h2]
                | some tx =>
                  simp only [List.filterMap_cons, hx] at hn
                  have hn' : ((l.filterMap (·.dst)).filter fun t => !fx.vars.contains t).Nodup := by
                    rw [List.filter_cons] at hn; split at hn
                    · exact (List.nodup_cons.1 hn).2
                    · exact hn
                  have hno : tx = u → ∀ q : Nat, (l[q]?).bind (fun o : Oper => o.dst) = some u → False := by
                    rintro rfl q hq
                    rw [List.filter_cons, if_pos (by simpa using huv)] at hn
                    exact (List.nodup_cons.1 hn).1 (hmem q hq)
                  cases a with
                  | zero =>
                    cases b with
                    | zero => rfl
                    | succ b => simp [hx] at h1; simp at h2; exact (hno h1 b h2).elim
                  | succ a =>
                    cases b with
                    | zero => simp [hx] at h2; simp at h1; exact (hno h2 a h1).elim
                    | succ b => simp at h1 h2; rw [ih hn' a b h1 h2]
            exact hkj (hnd' ops hnd k j hk (by rw [ho]; simpa using hd))
          rw [if_neg hut]; exact ht k u hk huv

end Go.Proofs.Ytphdemhopihpnaa.AM


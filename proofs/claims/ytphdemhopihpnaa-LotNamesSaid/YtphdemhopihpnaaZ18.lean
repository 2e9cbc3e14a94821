/- Parts of the proof, joined: AmQ to AmQ. -/
import Derived.Test.YtphdemhopihpnaaZ17

namespace Go.Proofs.Ytphdemhopihpnaa.AM
open Go
set_option linter.unusedVariables false
set_option linter.unusedSimpArgs false

def lastOf (p : Nat → Bool) : Nat → Option Nat
  | 0 => none
  | k + 1 => if p k then some k else lastOf p k

theorem lastOf_congr {p q : Nat → Bool} : ∀ {n : Nat}, (∀ k, k < n → p k = q k) → lastOf p n = lastOf q n
  | 0, _ => rfl
  | n + 1, h => by simp only [lastOf, h n (by omega), lastOf_congr (n := n) fun k hk => h k (by omega)]

theorem lastOf_cut {p : Nat → Bool} {j : Nat} : ∀ {n : Nat}, j ≤ n → (∀ k, j ≤ k → k < n → p k = false) → lastOf p n = lastOf p j
  | 0, h, _ => by have : j = 0 := by omega
                  subst this; rfl
  | n + 1, h, hf => by
    by_cases hj : j = n + 1
    · subst hj; rfl
    · simp only [lastOf, hf n (by omega) (by omega), Bool.false_eq_true, if_false]
      exact lastOf_cut (by omega) fun k h1 h2 => hf k h1 (by omega)

theorem lastOf_top {p : Nat → Bool} {j n : Nat} (hj : j < n) (hp : p j = true) (hf : ∀ k, j < k → k < n → p k = false) : lastOf p n = some j := by
  rw [lastOf_cut (j := j + 1) (by omega) fun k h1 h2 => hf k (by omega) h2]
  simp [lastOf, hp]

theorem lastOf_lt {p : Nat → Bool} : ∀ {n k : Nat}, lastOf p n = some k → k < n ∧ p k = true
  | 0, k, h => by simp [lastOf] at h
  | n + 1, k, h => by
    simp only [lastOf] at h
    split at h
    · rename_i hp; cases h; exact ⟨by omega, hp⟩
    · have := lastOf_lt h; exact ⟨by omega, this.2⟩

def hideL (f : Nat → Bool) (σ : List AObj) : List AObj := σ.mapIdx fun l o => if f l then .dead else o

theorem hideL_get (f : Nat → Bool) (σ : List AObj) (l : Nat) : (hideL f σ)[l]? = (σ[l]?).map fun o => if f l then .dead else o := by
  simp [hideL, List.getElem?_mapIdx]
theorem hideL_length (f : Nat → Bool) (σ : List AObj) : (hideL f σ).length = σ.length := by simp [hideL]

/-- What the run of a region in the order of its text gives, and why no other order gives anything else: 'pd j': what comes before j in every order; 'ch k': the places that k makes or writes; 'hd j': the places that j must not look at, since an operation that may come before or behind it makes or writes them. -/
structure Free (P : Program) (fx : Fx) (ops : Array Oper) (is : List Ins) (V : Nat → List AV) (r : Nat → AV) (S : Nat → List AObj) (pd : Nat → List Nat) (ch hd : Nat → Nat → Bool) : Prop where
  back : ∀ i, i < ops.size → ∀ e ∈ dirOf ops i, e < i
  pdlt : ∀ j, j < ops.size → ∀ k ∈ pd j, k < j
  pddir : ∀ j, j < ops.size → ∀ k ∈ pd j, k ∈ dirOf ops j ∨ ∃ e ∈ dirOf ops j, k ∈ pd e
  V0 : (V 0).length = fx.vars.length
  Vs : ∀ j i, is[j]? = some i → V (j + 1) = setD i.dst (V j) (r j)
  le : ∀ j, j < ops.size → (S j).length ≤ (S (j + 1)).length
  nch : ∀ j, j < ops.size → ∀ l, ch j l = false → (S (j + 1))[l]? = (S j)[l]?
  chl : ∀ j, j < ops.size → ∀ l, ch j l = true → l < (S (j + 1)).length
  un : ∀ j k, j < ops.size → k < ops.size → k ≠ j → k ∉ pd j → j ∉ pd k → ∀ l, ch k l = true → hd j l = true
  mine : ∀ j, j < ops.size → ∀ l, ch j l = true → hd j l = false
  made : ∀ j, j < ops.size → ∀ l o, (S j).length ≤ l → (S (j + 1))[l]? = some o → o.live
  rl : ∀ j, j < ops.size → locsIn (S (j + 1)).length (r j) = true
  cl : ∀ j, j < ops.size → ∀ l o, ch j l = true → (S (j + 1))[l]? = some o → objIn (S (j + 1)).length o = true
  rds : ∀ j i, is[j]? = some i → ∀ k, .t k ∈ i.args → k ∈ pd j
  gds : ∀ j i k b, is[j]? = some i → i.gd = some (k, b) → k ∈ pd j
  vrs : ∀ j k i i' x, is[j]? = some i → is[k]? = some i' → j ≠ k → i'.dst = some x → (.v x ∈ i.args ∨ i.dst = some x) → k ∈ pd j ∨ j ∈ pd k
  op : ∀ j i, is[j]? = some i → match gdOk ((List.range j).map r) i.gd with
    | none => False
    | some false => r j = .tup [] ∧ S (j + 1) = S j
    | some true => match i.op, i.args.map (evalO (V j) ((List.range j).map r)) with
      | .prim io, as => stepF io as (hideL (hd j) (S j)) = some (r j, hideL (hd j) (S (j + 1)))
      | .call, fv :: as => CallV P fv as (hideL (hd j) (S j)) fun v σ' => v = r j ∧ σ' = hideL (hd j) (S (j + 1))
      | .call, [] => False

variable {P : Program} {fx : Fx} {ops : Array Oper} {is : List Ins} {V : Nat → List AV} {r : Nat → AV} {S : Nat → List AObj} {pd : Nat → List Nat} {ch hd : Nat → Nat → Bool}

def dstI (is : List Ins) (k i : Nat) : Bool := ((is[k]?).bind (·.dst)) == some i

def vAt (is : List Ins) (r : Nat → AV) (v0 : List AV) (n : Nat) (p : Nat → Bool) (i : Nat) : AV :=
  match lastOf (fun k => p k && dstI is k i) n with
  | some k => r k
  | none => v0.getD i .undef

def oAt (S : Nat → List AObj) (ch : Nat → Nat → Bool) (n : Nat) (p : Nat → Bool) (l : Nat) : Option AObj :=
  match lastOf (fun k => p k && ch k l) n with
  | some k => (S (k + 1))[l]?
  | none => (S 0)[l]?

def hAt (S : Nat → List AObj) (ch : Nat → Nat → Bool) (n : Nat) (p : Nat → Bool) : List AObj :=
  (List.range (S n).length).map fun l => (oAt S ch n p l).getD .dead

theorem hAt_get {n : Nat} {p : Nat → Bool} {l : Nat} (hl : l < (S n).length) : (hAt S ch n p)[l]? = some ((oAt S ch n p l).getD .dead) := by
  simp [hAt, hl]

theorem Free.size (h : Free P fx ops is V r S pd ch hd) (hc : compAll P fx.vars (ops.toList.map (·.dst)) ops.toList = some is) : is.length = ops.size ∧ ∀ (j : Nat) o, ops[j]? = some o → ∃ i, is[j]? = some i ∧ compIns P fx.vars (ops.toList.map (·.dst)) o = some i := by
  rw [compAll_eq] at hc
  have key : ∀ (l : List Oper) (is : List Ins), l.mapM (compIns P fx.vars (ops.toList.map (·.dst))) = some is → is.length = l.length ∧ ∀ (j : Nat) o, l[j]? = some o → ∃ i, is[j]? = some i ∧ compIns P fx.vars (ops.toList.map (·.dst)) o = some i := by
    intro l
    induction l with
    | nil => intro is h; simp at h; subst h; simp
    | cons x l ih =>
      intro is h
      simp only [List.mapM_cons, Option.bind_eq_bind, Option.bind_eq_some_iff, Option.pure_def, Option.some.injEq] at h
      obtain ⟨i, hi, is', his, rfl⟩ := h
      obtain ⟨h1, h2⟩ := ih _ his
      refine ⟨by simp [h1], fun j o hj => ?_⟩
      cases j with
      | zero => simp at hj; subst hj; exact ⟨i, by simp, hi⟩
      | succ j => simp at hj; simpa using h2 j o hj
  obtain ⟨h1, h2⟩ := key _ _ hc
  exact ⟨by simpa using h1, fun j o hj => h2 j o (by simpa using hj)⟩

theorem Free.V_at (h : Free P fx ops is V r S pd ch hd) (hlen : is.length = ops.size) : ∀ j, j ≤ ops.size → (V j).length = fx.vars.length ∧ ∀ i, i < fx.vars.length → (V j).getD i .undef = vAt is r (V 0) ops.size (fun k => decide (k < j)) i
  | 0, _ => by
    refine ⟨h.V0, fun i hi => ?_⟩
    have : lastOf (fun k => decide (k < 0) && dstI is k i) ops.size = none := by
      rw [lastOf_cut (j := 0) (Nat.zero_le _) (by intro k _ _; simp)]; rfl
    simp only [vAt, this]
  | j + 1, hj => by
    obtain ⟨h1, h2⟩ := Free.V_at h hlen j (by omega)
    have hij : is[j]? = some is[j] := List.getElem?_eq_getElem (by omega)
    rw [h.Vs j _ hij]
    constructor
    · unfold setD; split <;> simp [h1]
    · intro i hi
      by_cases hd : is[j].dst = some i
      · have e1 : lastOf (fun k => decide (k < j + 1) && dstI is k i) ops.size = some j := by
          refine lastOf_top (by omega) (by simp [dstI, hij, hd]) fun k hk _ => by simp; omega
        simp only [vAt, e1, hd, setD]
        simp [List.getD, h1, hi]
      · have e1 : lastOf (fun k => decide (k < j + 1) && dstI is k i) ops.size = lastOf (fun k => decide (k < j) && dstI is k i) ops.size := by
          refine lastOf_congr fun k hk => ?_
          by_cases hkj : k = j
          · subst hkj; simp [dstI, hij, hd]
          · have : decide (k < j + 1) = decide (k < j) := by simp; omega
            simp [this]
        have e2 := h2 i hi
        simp only [vAt] at e2 ⊢
        rw [e1, ← e2]
        unfold setD
        split
        · rename_i x hx
          have : x ≠ i := by rintro rfl; exact hd hx
          simp only [List.getD]; rw [List.getElem?_set_ne this]
        · rfl

theorem Free.S_at (h : Free P fx ops is V r S pd ch hd) : ∀ j, j ≤ ops.size → ∀ l, (S j)[l]? = oAt S ch ops.size (fun k => decide (k < j)) l
  | 0, _, l => by
    have : lastOf (fun k => decide (k < 0) && ch k l) ops.size = none := by
      rw [lastOf_cut (j := 0) (Nat.zero_le _) (by intro k _ _; simp)]; rfl
    simp only [oAt, this]
  | j + 1, hj, l => by
    cases hc : ch j l with
    | true =>
      have e1 : lastOf (fun k => decide (k < j + 1) && ch k l) ops.size = some j :=
        lastOf_top (by omega) (by simp [hc]) fun k hk _ => by simp; omega
      simp [oAt, e1]
    | false =>
      have e1 : lastOf (fun k => decide (k < j + 1) && ch k l) ops.size = lastOf (fun k => decide (k < j) && ch k l) ops.size := by
        refine lastOf_congr fun k hk => ?_
        by_cases hkj : k = j
        · subst hkj; simp [hc]
        · have : decide (k < j + 1) = decide (k < j) := by simp; omega
          simp [this]
      have e2 := Free.S_at h j (by omega) l
      simp only [oAt] at e2 ⊢
      rw [e1, ← e2]; exact h.nch j (by omega) l hc

theorem Free.le' (h : Free P fx ops is V r S pd ch hd) {a b : Nat} (hab : a ≤ b) (hb : b ≤ ops.size) : (S a).length ≤ (S b).length := by
  induction b with
  | zero => have : a = 0 := by omega
            subst this; exact Nat.le_refl _
  | succ b ih =>
    by_cases e : a = b + 1
    · subst e; exact Nat.le_refl _
    · exact Nat.le_trans (ih (by omega) (by omega)) (h.le b (by omega))

/-- What holds when the operations D are done. -/
structure Inv (fx : Fx) (ops : Array Oper) (is : List Ins) (V : Nat → List AV) (r : Nat → AV) (S : Nat → List AObj) (pd : Nat → List Nat) (ch : Nat → Nat → Bool) (X : Nat → Prop) (en : Nat) (D : List Nat) (m : LM) (ac : Act) (w : World) : Prop where
  inn : ∀ k ∈ D, k < ops.size
  clos : ∀ k ∈ D, ∀ e ∈ pd k, e ∈ D
  size : ac.tmps.size = fx.N
  vars : ∀ i t, fx.vars[i]? = some t → VRel m X w (vAt is r (V 0) ops.size (fun k => decide (k ∈ D)) i) (ac.tmps.getD t Go.undef)
  tmps : ∀ k ∈ D, ∀ t, (ops.toList[k]?).bind (·.dst) = some t → t ∉ fx.vars → VRel m X w (r k) (ac.tmps.getD t Go.undef)
  defs : DRel m X en w ac.defers
  heap : HRel m X (hAt S ch ops.size fun k => decide (k ∈ D)) w
  fresh : ∀ l, (S 0).length ≤ l → (∀ k ∈ D, ¬ ((S k).length ≤ l ∧ l < (S (k + 1)).length)) → m l = none
  entry : en ≤ w.heap.size

/-- the same operations are asked for in D and in the text before j, as far as a writer is ordered against j -/
theorem sameAt {p : Nat → Bool} {D : List Nat} {j n : Nat} {pd : Nat → List Nat} (hn : j < n) (hpdlt : ∀ j, j < n → ∀ k ∈ pd j, k < j) (hclos : ∀ k ∈ D, ∀ e ∈ pd k, e ∈ D) (hjD : j ∉ D) (hpj : ∀ e ∈ pd j, e ∈ D)
    (hord : ∀ k, k < n → p k = true → k ≠ j → k ∈ pd j ∨ j ∈ pd k) (hself : p j = true → False ∨ True) :
    ∀ k, k < n → k ≠ j → (decide (k ∈ D) && p k) = (decide (k < j) && p k) := by
  intro k hk hkj
  cases hp : p k with
  | false => simp
  | true =>
    simp only [Bool.and_true]
    rcases hord k hk hp hkj with h1 | h1
    · have := hpdlt j hn k h1; simp [hpj k h1, this]
    · have h2 := hpdlt k hk j h1
      have h3 : k ∉ D := fun hkD => hjD (hclos k hkD j h1)
      simp [h3]; omega

theorem Free.vEq (h : Free P fx ops is V r S pd ch hd) (hlen : is.length = ops.size) {D : List Nat} {j : Nat} {i0 : Ins} {x : Nat} (hj : is[j]? = some i0) (hclos : ∀ k ∈ D, ∀ e ∈ pd k, e ∈ D) (hjD : j ∉ D) (hpj : ∀ e ∈ pd j, e ∈ D)
    (hx : .v x ∈ i0.args ∨ i0.dst = some x) : vAt is r (V 0) ops.size (fun k => decide (k ∈ D)) x = vAt is r (V 0) ops.size (fun k => decide (k < j)) x := by
  have hjn : j < ops.size := by rw [← hlen]; exact (List.getElem?_eq_some_iff.1 hj).1
  have : lastOf (fun k => decide (k ∈ D) && dstI is k x) ops.size = lastOf (fun k => decide (k < j) && dstI is k x) ops.size := by
    refine lastOf_congr fun k hk => ?_
    by_cases hkj : k = j
    · subst hkj; simp [hjD]
    · refine sameAt (p := fun k => dstI is k x) hjn h.pdlt hclos hjD hpj ?_ (fun _ => .inr trivial) k hk hkj
      intro k hk hp hkj
      have hik : is[k]? = some is[k] := List.getElem?_eq_getElem (by omega)
      have hd : is[k].dst = some x := by simpa [dstI, hik] using hp
      exact h.vrs j k i0 _ x hj hik (Ne.symm hkj) hd hx
  simp only [vAt, this]

theorem Free.oEq (h : Free P fx ops is V r S pd ch hd) {D : List Nat} {j l : Nat} (hjn : j < ops.size) (hin : ∀ k ∈ D, k < ops.size) (hclos : ∀ k ∈ D, ∀ e ∈ pd k, e ∈ D) (hjD : j ∉ D) (hpj : ∀ e ∈ pd j, e ∈ D)
    (hl : hd j l = false) : oAt S ch ops.size (fun k => decide (k ∈ D)) l = oAt S ch ops.size (fun k => decide (k < j)) l := by
  have : lastOf (fun k => decide (k ∈ D) && ch k l) ops.size = lastOf (fun k => decide (k < j) && ch k l) ops.size := by
    refine lastOf_congr fun k hk => ?_
    by_cases hkj : k = j
    · subst hkj; simp [hjD]
    · refine sameAt (p := fun k => ch k l) hjn h.pdlt hclos hjD hpj ?_ (fun _ => .inr trivial) k hk hkj
      intro k hk hp hkj
      by_cases h1 : k ∈ pd j
      · exact .inl h1
      · by_cases h2 : j ∈ pd k
        · exact .inr h2
        · have := h.un j k hjn hk hkj h1 h2 l hp; rw [hl] at this; cases this
  simp only [oAt, this]

/-- objects that are there at j lead to places that are there -/
theorem Free.closedAt (h : Free P fx ops is V r S pd ch hd) (h0 : ∀ (l : Nat) o, (S 0)[l]? = some o → objIn (S 0).length o = true) (mono : ∀ (a b : Nat) o, a ≤ b → objIn a o = true → objIn b o = true) : ∀ j, j ≤ ops.size → ∀ (l : Nat) o, (S j)[l]? = some o → objIn (S j).length o = true
  | 0, _, l, o, ho => h0 l o ho
  | j + 1, hj, l, o, ho => by
    cases hc : ch j l with
    | true => exact h.cl j (by omega) l o hc ho
    | false =>
      rw [h.nch j (by omega) l hc] at ho
      exact mono _ _ o (h.le j (by omega)) (Free.closedAt h h0 mono j (by omega) l o ho)

mutual
theorem locsIn_mono {a b : Nat} (hab : a ≤ b) : ∀ v : AV, locsIn a v = true → locsIn b v = true
  | .cv _, _ => rfl
  | .ptr l _, h => by simp only [locsIn, decide_eq_true_eq] at h ⊢; omega
  | .sl l _ _ _, h => by simp only [locsIn, decide_eq_true_eq] at h ⊢; omega
  | .map l, h => by simp only [locsIn, decide_eq_true_eq] at h ⊢; omega
  | .fn _ cs, h => by simp only [locsIn] at h ⊢; exact locsInAll_mono hab cs h
  | .bm _ cs, h => by simp only [locsIn] at h ⊢; exact locsInAll_mono hab cs h
  | .yld l, h => by simp only [locsIn, decide_eq_true_eq] at h ⊢; omega
  | .agg cs, h => by simp only [locsIn] at h ⊢; exact locsInAll_mono hab cs h
  | .tup cs, h => by simp only [locsIn] at h ⊢; exact locsInAll_mono hab cs h
  | .undef, _ => rfl
  | .slc l _ _ _ _, h => by simp only [locsIn, decide_eq_true_eq] at h ⊢; omega
theorem locsInAll_mono {a b : Nat} (hab : a ≤ b) : ∀ vs : List AV, locsInAll a vs = true → locsInAll b vs = true
  | [], _ => rfl
  | v :: vs, h => by simp only [locsInAll, Bool.and_eq_true] at h ⊢; exact ⟨locsIn_mono hab v h.1, locsInAll_mono hab vs h.2⟩
end

theorem objIn_mono (a b : Nat) (o : AObj) (hab : a ≤ b) (h : objIn a o = true) : objIn b o = true := by
  cases o with
  | dead => rfl
  | cells cs => exact locsInAll_mono hab cs h
  | map es =>
    simp only [objIn, List.all_eq_true, Bool.and_eq_true] at h ⊢
    exact fun e he => ⟨locsIn_mono hab _ (h e he).1, locsIn_mono hab _ (h e he).2⟩
  | siter _ _ => rfl
  | loop r => exact locsInAll_mono hab _ h

mutual
theorem VRel.locs {m : LM} {X : Nat → Prop} {w : World} {n : Nat} (hm : ∀ l b, m l = some b → l < n) : ∀ (a : AV) (v : Value), VRel m X w a v → locsIn n a = true
  | .cv _, _, _ => rfl
  | .ptr l _, v, h => by simp only [VRel] at h; obtain ⟨b, h1, _⟩ := h; simpa [locsIn] using hm _ _ h1
  | .sl l _ _ _, v, h => by simp only [VRel] at h; obtain ⟨b, c, h1, _⟩ := h; simpa [locsIn] using hm _ _ h1
  | .map l, v, h => by simp only [VRel] at h; obtain ⟨b, h1, _⟩ := h; simpa [locsIn] using hm _ _ h1
  | .fn _ cs, v, h => by simp only [VRel] at h; obtain ⟨vs, _, h2⟩ := h; simp only [locsIn]; exact VRels.locs hm cs vs h2
  | .bm _ cs, v, h => by simp only [VRel] at h; obtain ⟨vs, _, h2⟩ := h; simp only [locsIn]; exact VRels.locs hm cs vs h2
  | .yld l, v, h => by simp only [VRel] at h; obtain ⟨b, h1, _⟩ := h; simpa [locsIn] using hm _ _ h1
  | .agg cs, v, h => by simp only [VRel] at h; obtain ⟨vs, _, h2⟩ := h; simp only [locsIn]; exact VRels.locs hm cs vs h2
  | .tup cs, v, h => by simp only [VRel] at h; obtain ⟨vs, _, h2⟩ := h; simp only [locsIn]; exact VRels.locs hm cs vs h2
  | .undef, _, _ => rfl
  | .slc l _ _ _ _, v, h => by simp only [VRel] at h; obtain ⟨b, h1, _⟩ := h; simpa [locsIn] using hm _ _ h1
theorem VRels.locs {m : LM} {X : Nat → Prop} {w : World} {n : Nat} (hm : ∀ l b, m l = some b → l < n) : ∀ (as : List AV) (vs : List Value), VRels m X w as vs → locsInAll n as = true
  | [], [], _ => rfl
  | a :: as, v :: vs, h => by simp only [VRels] at h; simp only [locsInAll, Bool.and_eq_true]; exact ⟨VRel.locs hm a v h.1, VRels.locs hm as vs h.2⟩
  | [], _ :: _, h => by simp [VRels] at h
  | _ :: _, [], h => by simp [VRels] at h
end

/-- Values whose places are below k stay related, where the places below k stay and less is owned. -/
theorem CV.rep_less {w : World} {O O' : Nat → Prop} (h : ∀ b, O' b → O b) (c : CV) (v : Value) (hr : c.rep w O v) : c.rep w O' v :=
  CV.rep_mono (fun b hb _ => ⟨rfl, fun ho => hb (h b ho)⟩) c v hr

mutual
theorem VRel.less {m m' : LM} {X X' : Nat → Prop} {w : World} {k : Nat} (hm : ∀ l, l < k → m' l = m l) (ho : ∀ b, Own m' X' b → Own m X b) : ∀ (a : AV) (v : Value), locsIn k a = true → VRel m X w a v → VRel m' X' w a v
  | .cv c, v, _, h => by simp only [VRel] at h ⊢; exact CV.rep_less ho c v h
  | .ptr l off, v, hk, h => by simp only [VRel, locsIn, decide_eq_true_eq] at h hk ⊢; rw [hm l hk]; exact h
  | .sl l off len esz, v, hk, h => by simp only [VRel, locsIn, decide_eq_true_eq] at h hk ⊢; rw [hm l hk]; exact h
  | .map l, v, hk, h => by simp only [VRel, locsIn, decide_eq_true_eq] at h hk ⊢; rw [hm l hk]; exact h
  | .fn f cs, v, hk, h => by simp only [VRel, locsIn] at h hk ⊢; obtain ⟨vs, h1, h2⟩ := h; exact ⟨vs, h1, VRels.less hm ho cs vs hk h2⟩
  | .bm f cs, v, hk, h => by simp only [VRel, locsIn] at h hk ⊢; obtain ⟨vs, h1, h2⟩ := h; exact ⟨vs, h1, VRels.less hm ho cs vs hk h2⟩
  | .yld l, v, hk, h => by simp only [VRel, locsIn, decide_eq_true_eq] at h hk ⊢; rw [hm l hk]; exact h
  | .agg cs, v, hk, h => by simp only [VRel, locsIn] at h hk ⊢; obtain ⟨vs, h1, h2⟩ := h; exact ⟨vs, h1, VRels.less hm ho cs vs hk h2⟩
  | .tup cs, v, hk, h => by simp only [VRel, locsIn] at h hk ⊢; obtain ⟨vs, h1, h2⟩ := h; exact ⟨vs, h1, VRels.less hm ho cs vs hk h2⟩
  | .undef, v, _, _ => by simp [VRel]
  | .slc l off len cap esz, v, hk, h => by simp only [VRel, locsIn, decide_eq_true_eq] at h hk ⊢; rw [hm l hk]; exact h
theorem VRels.less {m m' : LM} {X X' : Nat → Prop} {w : World} {k : Nat} (hm : ∀ l, l < k → m' l = m l) (ho : ∀ b, Own m' X' b → Own m X b) : ∀ (as : List AV) (vs : List Value), locsInAll k as = true → VRels m X w as vs → VRels m' X' w as vs
  | [], [], _, _ => by simp [VRels]
  | a :: as, v :: vs, hk, h => by simp only [VRels, locsInAll, Bool.and_eq_true] at h hk ⊢; exact ⟨VRel.less hm ho a v hk.1 h.1, VRels.less hm ho as vs hk.2 h.2⟩
  | [], _ :: _, _, h => by simp [VRels] at h
  | _ :: _, [], _, h => by simp [VRels] at h
end

theorem ORel.less {m m' : LM} {X X' : Nat → Prop} {w : World} {k : Nat} (hm : ∀ l, l < k → m' l = m l) (ho : ∀ b, Own m' X' b → Own m X b) {b : Option Nat} {o : AObj} (hk : objIn k o = true) (h : ORel m X w b o) : ORel m' X' w b o := by
  cases b with
  | none => cases o <;> simp [ORel] at h ⊢
  | some b =>
    cases o with
    | dead => trivial
    | cells cs =>
      simp only [ORel, objIn] at h hk ⊢
      obtain ⟨c, e, h1, h2, h3⟩ := h
      exact ⟨c, e, h1, h2, VRels.less hm ho _ _ hk h3⟩
    | map es =>
      simp only [ORel, objIn] at h hk ⊢
      obtain ⟨ces, clock, h1, h2, h3, h4, h5⟩ := h
      refine ⟨ces, clock, h1, h2, h3, h4, fun i kk a hi => ?_⟩
      obtain ⟨e, he, g1, g2⟩ := h5 i kk a hi
      rw [List.all_eq_true] at hk
      have := hk _ (List.mem_of_getElem? hi)
      simp only [Bool.and_eq_true] at this
      exact ⟨e, he, VRel.less hm ho _ _ this.1 g1, VRel.less hm ho _ _ this.2 g2⟩
    | siter s0 p => exact h
    | loop r =>
      simp only [ORel, objIn] at h hk ⊢
      obtain ⟨tmps, d, fi, h1, h2, h3⟩ := h
      exact ⟨tmps, d, fi, h1, fun i t hi => VRel.less hm ho _ _ (locsInAll_getD hk i) (h2 i t hi), h3⟩

theorem locsInAll_of {k : Nat} : ∀ {as : List AV}, (∀ i, i < as.length → locsIn k (as.getD i .undef) = true) → locsInAll k as = true
  | [], _ => rfl
  | a :: as, h => by
    simp only [locsInAll, Bool.and_eq_true]
    exact ⟨by simpa using h 0 (by simp), locsInAll_of fun i hi => by simpa using h (i + 1) (by simpa using hi)⟩

theorem HRel.closed {m : LM} {X : Nat → Prop} {σ : List AObj} {w : World} (h : HRel m X σ w) (l : Nat) (o : AObj) (ho : σ[l]? = some o) : objIn σ.length o = true := by
  have hm : ∀ l b, m l = some b → l < σ.length := fun l b hl => (h.dom l b hl).1
  have hr := h.obj l o ho
  cases hb : m l with
  | none => rw [hb] at hr; cases o <;> simp [ORel] at hr; rfl
  | some b =>
    rw [hb] at hr
    cases o with
    | dead => rfl
    | cells cs => simp only [ORel] at hr; obtain ⟨c, e, _, _, h3⟩ := hr; exact VRels.locs hm _ _ h3
    | map es =>
      simp only [ORel] at hr; obtain ⟨ces, clock, _, _, _, _, h5⟩ := hr
      simp only [objIn, List.all_eq_true, Bool.and_eq_true]
      rintro ⟨kk, a⟩ he
      obtain ⟨i, hi⟩ := List.getElem?_of_mem he
      obtain ⟨e, _, g1, g2⟩ := h5 i kk a hi
      exact ⟨VRel.locs hm _ _ g1, VRel.locs hm _ _ g2⟩
    | siter _ _ => rfl
    | loop r => 
      simp only [ORel] at hr; obtain ⟨tmps, d, fi, h1, h2, h3, h4⟩ := hr
      exact locsInAll_of fun i hi => VRel.locs hm _ _ (h2 i r.vars[i] (List.getElem?_eq_getElem (by omega)))

end Go.Proofs.Ytphdemhopihpnaa.AM


/- Parts of the proof, joined: AmW to AmW. -/
import Derived.Test.YtphdemhopihpnaaZ23

namespace Go.Proofs.Ytphdemhopihpnaa.AM
open Go
set_option linter.unusedVariables false
set_option linter.unusedSimpArgs false

theorem kindOf_le (io : IOp) : kindOf io ≤ 2 := by
  unfold kindOf; split <;> omega

theorem stepF_made {io : IOp} {as_ : List AV} {σ σ' : List AObj} {r : AV} (h : stepF io as_ σ = some (r, σ')) : ∀ (l : Nat) o, σ.length ≤ l → σ'[l]? = some o → o.live := by
  have same : σ' = σ → ∀ (l : Nat) o, σ.length ≤ l → σ'[l]? = some o → o.live := by
    rintro rfl l o hl ho
    rw [List.getElem?_eq_none hl] at ho; cases ho
  have push : ∀ (τ : List AObj) (x : AObj), σ' = τ ++ [x] → τ.length = σ.length → x.live → ∀ (l : Nat) o, σ.length ≤ l → σ'[l]? = some o → o.live := by
    rintro τ x rfl ht hx l o hl ho
    rw [List.getElem?_append_right (by omega)] at ho
    have : l - τ.length = 0 := by
      have := (List.getElem?_eq_some_iff.1 ho).1
      simp at this; omega
    rw [this] at ho; simp at ho; subst ho; exact hx
  have set : ∀ (x : Nat) (y : AObj), σ' = σ.set x y → ∀ (l : Nat) o, σ.length ≤ l → σ'[l]? = some o → o.live := by
    rintro x y rfl l o hl ho
    rw [List.getElem?_eq_none (by simp; omega)] at ho; cases ho
  by_cases h0 : kindOf io = 0
  · exact same (stepF_pure h0 h).1
  by_cases h1 : kindOf io = 1
  · exact same (stepF_reads h1 h)
  cases io <;> (try (exact absurd rfl h0)) <;> (try (exact absurd rfl h1)) <;> simp only [stepF] at h
  case alloc zs => unfold f_alloc at h; split at h <;> cases h; exact push _ _ rfl rfl trivial
  case box => unfold f_box at h; split at h <;> (try (cases h; done)); split at h <;> cases h; exact push _ _ rfl rfl trivial
  case bslice esz len zs ps => unfold f_bslice at h; simp only [Option.map_eq_some_iff] at h; obtain ⟨v, hv, he⟩ := h; cases he; exact push _ _ rfl rfl trivial
  case store n => unfold f_store at h; split at h <;> (try (cases h; done)); simp only [Option.bind_eq_some_iff] at h; obtain ⟨cs, hcs, h⟩ := h; split at h <;> cases h; exact set _ _ rfl
  case mkmap => unfold f_mkmap at h; split at h <;> cases h; exact push _ _ rfl rfl trivial
  case mkslice esz bytes zs => unfold f_mkslice at h; split at h <;> (try (cases h; done)); split at h <;> cases h; exact push _ _ rfl rfl trivial
  case mksliceC esz bytes zs => unfold f_mksliceC at h; split at h <;> (try (cases h; done)); split at h <;> cases h; exact push _ _ rfl rfl trivial
  case append esz bytes =>
    unfold f_append at h
    split at h <;> (try (cases h; done))
    · simp only [Option.bind_eq_some_iff] at h; obtain ⟨new, hnew, n, hn, h⟩ := h
      split at h
      · cases h; exact same rfl
      · split at h <;> cases h; exact push _ _ rfl rfl trivial
    · simp only [Option.bind_eq_some_iff] at h; obtain ⟨cs, hcs, new, hnew, n, hn, h⟩ := h
      split at h <;> cases h
      exact push _ _ rfl (by simp) trivial
    · simp only [Option.bind_eq_some_iff] at h; obtain ⟨cs, hcs, new, hnew, n, hn, h⟩ := h
      split at h
      · split at h <;> cases h; exact set _ _ rfl
      · split at h <;> cases h; exact push _ _ rfl rfl trivial
  case clear zs => unfold f_clear at h; split at h <;> (try (cases h; done)) <;> (simp only [Option.bind_eq_some_iff] at h; obtain ⟨cs, hcs, h⟩ := h; split at h <;> cases h; exact set _ _ rfl)
  case copy esz => unfold f_copy at h; split at h <;> (try (cases h; done)); simp only [Option.bind_eq_some_iff] at h; obtain ⟨cs, hcs, new, hnew, n, hn, h⟩ := h; split at h <;> cases h; exact set _ _ rfl
  case mapset ks => unfold f_mapset at h; split at h <;> (try (cases h; done)); simp only [Option.bind_eq_some_iff] at h; obtain ⟨es, hes, h⟩ := h; split at h <;> (try (cases h; done)); simp only [Option.map_eq_some_iff] at h; obtain ⟨res, hres, he⟩ := h; cases he; exact set _ _ rfl
  case mapdel ks => unfold f_mapdel at h; split at h <;> (try (cases h; done)); simp only [Option.bind_eq_some_iff] at h; obtain ⟨es, hes, h⟩ := h; split at h <;> (try (cases h; done)); simp only [Option.map_eq_some_iff] at h; obtain ⟨res, hres, he⟩ := h; cases he; exact set _ _ rfl
  case stuck => cases h
  case appendz esz bytes zs => unfold f_appendz at h; split at h <;> (try (cases h; done)); simp only [Option.bind_eq_some_iff] at h; obtain ⟨cs, hcs, h⟩ := h; split at h <;> cases h; exact push _ _ rfl rfl trivial
  case rstr => unfold f_rstr at h; split at h <;> cases h; exact push _ _ rfl rfl trivial
  case snext =>
    unfold f_snext at h; split at h <;> (try (cases h; done)); simp only [Option.map_eq_some_iff] at h; obtain ⟨_, _, h⟩ := h; split at h <;> cases h
    · exact set _ _ rfl
    · exact same rfl

/-- 0: does not look at the heap; 1: reads it (calls listed in kp keep it); 2: may change it -/
def kindI (kp : List Nat) (j : Nat) (i : Ins) : Nat :=
  match i.op with
  | .prim io => kindOf io
  | .call => if kp.contains j then 1 else 2

def insCl (i : Ins) : Bool :=
  (match i.op with | .prim io => ioCl io | .call => true) && i.args.all fun | .c a => locsIn 0 a | _ => true

def pdAt (pds : List (List Nat)) (j : Nat) : List Nat := pds.getD j []

def readsVar (x : Nat) (i : Ins) : Bool := (i.args.any fun | .v y => x == y | _ => false) || i.dst == some x

def ordOk (ops : Array Oper) (is : List Ins) (pds : List (List Nat)) (kp : List Nat) : Bool :=
  (List.range ops.size).all fun j =>
    (dirOf ops j).all (fun e => decide (e < j)) &&
    (pdAt pds j).all (fun k => decide (k < j) && ((dirOf ops j).contains k || (dirOf ops j).any fun e => (pdAt pds e).contains k)) &&
    match is[j]? with
    | none => true
    | some i => insCl i && i.args.all (fun | .t k => (pdAt pds j).contains k | _ => true) && (match i.gd with | some (k, _) => (pdAt pds j).contains k | none => true) &&
      (List.range ops.size).all fun k =>
        match is[k]? with
        | none => true
        | some i' => decide (j = k) || (pdAt pds j).contains k || (pdAt pds k).contains j ||
            ((match i'.dst with | some x => !readsVar x i | none => true) && !(decide (kindI kp k i' = 2) && decide (kindI kp j i ≠ 0)))

def CallOk (σ : List AObj) (v : AV) (τ : List AObj) : Prop :=
  locsIn τ.length v = true ∧ σ.length ≤ τ.length ∧ ∀ (l : Nat) o, τ[l]? = some o → σ[l]? ≠ some o → objIn τ.length o = true ∧ (σ.length ≤ l → o.live)

/-- A region's run in the order of its text, with one result for each operation. -/
def RP (P : Program) (kp : List Nat) : Nat → List Ins → List AV → List AV → List AObj → (List AV → List AV → List AObj → Prop) → Prop
  | _, [], vals, ρ, σ, K => K vals ρ σ
  | j, i :: is, vals, ρ, σ, K =>
    match gdOk ρ i.gd with
    | none => False
    | some false => RP P kp (j + 1) is (setD i.dst vals (.tup [])) (ρ ++ [.tup []]) σ K
    | some true =>
      match i.op, i.args.map (evalO vals ρ) with
      | .prim io, as_ =>
        match stepF io as_ σ with
        | some (v, σ') => RP P kp (j + 1) is (setD i.dst vals v) (ρ ++ [v]) σ' K
        | none => False
      | .call, fv :: as_ => if kp.contains j then ∃ v, CallV P fv as_ σ (fun v' τ' => v' = v ∧ τ' = σ) ∧ locsIn σ.length v = true ∧ RP P kp (j + 1) is (setD i.dst vals v) (ρ ++ [v]) σ K
          else ∃ v τ, CallV P fv as_ σ (fun v' τ' => v' = v ∧ τ' = τ) ∧ CallOk σ v τ ∧ RP P kp (j + 1) is (setD i.dst vals v) (ρ ++ [v]) τ K
      | .call, [] => False

def StepOk (P : Program) (kp : List Nat) (j : Nat) (i : Ins) (vals ρ : List AV) (σ : List AObj) (v : AV) (τ : List AObj) : Prop :=
  match gdOk ρ i.gd with
  | none => False
  | some false => v = .tup [] ∧ τ = σ
  | some true =>
    match i.op, i.args.map (evalO vals ρ) with
    | .prim io, as_ => stepF io as_ σ = some (v, τ)
    | .call, fv :: as_ => CallV P fv as_ σ (fun v' τ' => v' = v ∧ τ' = τ) ∧ CallOk σ v τ ∧ (kp.contains j = true → τ = σ)
    | .call, [] => False

variable {P : Program} {fx : Fx} {Q : Exit → St → Prop} {s : St}

theorem CallOk.refl {σ : List AObj} {v : AV} (h : locsIn σ.length v = true) : CallOk σ v σ := ⟨h, Nat.le_refl _, fun l o h1 h2 => absurd h1 h2⟩

theorem RP_trace {kp : List Nat} {K : List AV → List AV → List AObj → Prop} : ∀ (is : List Ins) (j : Nat) (vals ρ : List AV) (σ : List AObj), RP P kp j is vals ρ σ K →
    ∃ (V : Nat → List AV) (r : Nat → AV) (S : Nat → List AObj), V 0 = vals ∧ S 0 = σ ∧
      (∀ (q : Nat) i, is[q]? = some i → V (q + 1) = setD i.dst (V q) (r q) ∧ StepOk P kp (j + q) i (V q) (ρ ++ (List.range q).map r) (S q) (r q) (S (q + 1))) ∧
      K (V is.length) (ρ ++ (List.range is.length).map r) (S is.length)
  | [], j, vals, ρ, σ, h => ⟨fun _ => vals, fun _ => .undef, fun _ => σ, rfl, rfl, by simp, by simpa [RP] using h⟩
  | i :: is, j, vals, ρ, σ, h => by
    have main : ∀ v τ, StepOk P kp j i vals ρ σ v τ → RP P kp (j + 1) is (setD i.dst vals v) (ρ ++ [v]) τ K →
        ∃ (V : Nat → List AV) (r : Nat → AV) (S : Nat → List AObj), V 0 = vals ∧ S 0 = σ ∧
        (∀ (q : Nat) i', (i :: is)[q]? = some i' → V (q + 1) = setD i'.dst (V q) (r q) ∧ StepOk P kp (j + q) i' (V q) (ρ ++ (List.range q).map r) (S q) (r q) (S (q + 1))) ∧
        K (V (i :: is).length) (ρ ++ (List.range (i :: is).length).map r) (S (i :: is).length) := by
      intro v τ hs hr
      obtain ⟨V, r, S, h1, h2, h3, h4⟩ := RP_trace is (j + 1) _ _ _ hr
      have hrg : ∀ q, (List.range (q + 1)).map (fun q => match q with | 0 => v | q + 1 => r q) = v :: (List.range q).map r := by
        intro q; rw [List.range_succ_eq_map]; simp [Function.comp_def]
      refine ⟨fun q => match q with | 0 => vals | q + 1 => V q, fun q => match q with | 0 => v | q + 1 => r q, fun q => match q with | 0 => σ | q + 1 => S q, rfl, rfl, ?_, ?_⟩
      · intro q i' hq
        cases q with
        | zero =>
          simp at hq; subst hq
          refine ⟨by simp [h1], ?_⟩
          simpa [h2] using hs
        | succ q =>
          simp at hq
          obtain ⟨g1, g2⟩ := h3 q i' hq
          refine ⟨g1, ?_⟩
          rw [hrg, show j + (q + 1) = j + 1 + q by omega]
          simpa using g2
      · simp only [List.length_cons]
        rw [hrg]; simpa using h4
    simp only [RP] at h
    cases hg : gdOk ρ i.gd with
    | none => rw [hg] at h; exact h.elim
    | some b =>
      rw [hg] at h
      cases b with
      | false => exact main (.tup []) σ (by simp [StepOk, hg]) h
      | true =>
        simp only at h
        cases hop : i.op with
        | prim io =>
          simp only [hop] at h
          cases hst : stepF io (i.args.map (evalO vals ρ)) σ with
          | none => rw [hst] at h; exact h.elim
          | some p => rw [hst] at h; exact main p.1 p.2 (by simp [StepOk, hg, hop, hst]) h
        | call =>
          simp only [hop] at h
          cases hargs : i.args.map (evalO vals ρ) with
          | nil => rw [hargs] at h; exact h.elim
          | cons fv as_ =>
            rw [hargs] at h
            simp only at h
            split at h
            · rename_i hk
              obtain ⟨v, h1, h2, h3⟩ := h
              exact main v σ (by simp only [StepOk, hg, hop, hargs]; exact ⟨h1, .refl h2, fun _ => trivial⟩) h3
            · rename_i hk
              obtain ⟨v, τ, h1, h2, h3⟩ := h
              exact main v τ (by simp only [StepOk, hg, hop, hargs]; exact ⟨h1, h2, fun h => absurd h hk⟩) h3

theorem hideL_none (σ : List AObj) (f : Nat → Bool) (hf : ∀ l, f l = false) : hideL f σ = σ := by
  apply List.ext_getElem?
  intro l
  rw [hideL_get, hf]
  cases σ[l]? <;> simp

theorem evalO_locs {n : Nat} {vals ρ : List AV} {x : Opd} (hv : locsInAll n vals = true) (hr : locsInAll n ρ = true) (hc : (match x with | .c a => locsIn 0 a | _ => true) = true) : locsIn n (evalO vals ρ x) = true := by
  cases x with
  | v i => exact locsInAll_getD hv i
  | t j => exact locsInAll_getD hr j
  | c a => exact locs_le (Nat.zero_le _) hc

theorem W_region_ord {id : Nat} {ops : Array Oper} {is : List Ins} (pds : List (List Nat)) (kp : List Nat) (hmix : P.follows .mixedOrders = true) (hc : compReg P fx.vars fx.N ops = some is) (hord : ordOk ops is pds kp = true)
    (hvl : s.vals.length = fx.vars.length) (h : RP P kp 0 is s.vals [] s.heap fun vals _ σ => Q .normal ⟨vals, σ⟩) : W P fx (.region id ops true) s Q := by
  intro m X en ac w hs hr
  obtain ⟨V, r, S, hV0, hS0, htr, hK⟩ := RP_trace is 0 _ _ _ h
  simp only [List.nil_append, Nat.zero_add] at htr hK
  have hlen : is.length = ops.size := by
    unfold compReg at hc
    split at hc
    · rw [compAll_eq] at hc
      have key : ∀ (l : List Oper) (js : List Ins), l.mapM (compIns P fx.vars (ops.toList.map (·.dst))) = some js → js.length = l.length := by
        intro l
        induction l with
        | nil => intro js h; simp at h; subst h; rfl
        | cons x l ih =>
          intro js h
          simp only [List.mapM_cons, Option.bind_eq_bind, Option.bind_eq_some_iff, Option.pure_def, Option.some.injEq] at h
          obtain ⟨i, _, js', h2, rfl⟩ := h
          simp [ih _ h2]
      simpa using key _ _ hc
    · cases hc
  -- the static facts
  simp only [ordOk, List.all_eq_true, List.mem_range, Bool.and_eq_true, decide_eq_true_eq] at hord
  have hi : ∀ j, j < ops.size → ∃ i, is[j]? = some i := fun j hj => ⟨is[j], List.getElem?_eq_getElem (by omega)⟩
  have hlt : ∀ (j : Nat) i, is[j]? = some i → j < ops.size := fun j i h => by have := (List.getElem?_eq_some_iff.1 h).1; omega
  have st := fun (j : Nat) (i : Ins) (h : is[j]? = some i) => by
    have := (hord j (hlt j i h)).2
    rw [h] at this
    simpa only [Bool.and_eq_true, List.all_eq_true, List.mem_range] using this
  have hpair : ∀ (j k : Nat) i i', is[j]? = some i → is[k]? = some i' → j ≠ k → k ∉ pdAt pds j → j ∉ pdAt pds k → (∀ x, i'.dst = some x → readsVar x i = false) ∧ (kindI kp k i' = 2 → kindI kp j i = 0) := by
    intro j k i i' hj hk hne h1 h2
    have := (st j i hj).2 k (hlt k i' hk)
    rw [hk] at this
    simp only [Bool.or_eq_true, decide_eq_true_eq, List.contains_iff_mem, hne, h1, h2, false_or, Bool.and_eq_true, Bool.not_eq_true', Bool.and_eq_false_iff, decide_eq_false_iff_not, ne_eq, Decidable.not_not] at this
    refine ⟨fun x hx => ?_, fun h2 => ?_⟩
    · have := this.1; rw [hx] at this; simpa using this
    · rcases this.2 with h | h
      · exact absurd h2 h
      · exact h
  -- each step
  have stepcases : ∀ (j : Nat) i, is[j]? = some i → (S j).length ≤ (S (j + 1)).length ∧ (kindI kp j i ≠ 2 → S (j + 1) = S j) ∧ (∀ (l : Nat) o, (S j).length ≤ l → (S (j + 1))[l]? = some o → o.live) ∧
      (Cl (S j) → locsInAll (S j).length (V j) = true → locsInAll (S j).length ((List.range j).map r) = true → Cl (S (j + 1)) ∧ locsIn (S (j + 1)).length (r j) = true) := by
    intro j i hj
    have hso := (htr j i hj).2
    unfold StepOk at hso
    have same : r j = .tup [] → S (j + 1) = S j → _ := fun (e1 : r j = .tup []) (e2 : S (j + 1) = S j) => show (S j).length ≤ (S (j + 1)).length ∧ (kindI kp j i ≠ 2 → S (j + 1) = S j) ∧ (∀ (l : Nat) o, (S j).length ≤ l → (S (j + 1))[l]? = some o → o.live) ∧
      (Cl (S j) → locsInAll (S j).length (V j) = true → locsInAll (S j).length ((List.range j).map r) = true → Cl (S (j + 1)) ∧ locsIn (S (j + 1)).length (r j) = true) from by
        rw [e2, e1]
        refine ⟨Nat.le_refl _, fun _ => rfl, fun l o hl ho => ?_, fun h _ _ => ⟨h, rfl⟩⟩
        rw [List.getElem?_eq_none hl] at ho; cases ho
    split at hso
    · exact hso.elim
    · exact same hso.1 hso.2
    · cases hop : i.op with
      | prim io =>
        simp only [hop] at hso
        have hk : kindI kp j i = kindOf io := by simp [kindI, hop]
        refine ⟨stepF_le hso, fun hk2 => ?_, stepF_made hso, fun h1 h2 h3 => ?_⟩
        · rw [hk] at hk2
          by_cases h0 : kindOf io = 0
          · exact (stepF_pure h0 hso).1
          · by_cases h1 : kindOf io = 1
            · exact stepF_reads h1 hso
            · have := kindOf_le io
              omega
        · have hcl := (st j i hj).1.1.1
          unfold insCl at hcl
          rw [hop] at hcl
          simp only [Bool.and_eq_true, List.all_eq_true] at hcl
          have := stepF_locs hcl.1 (locsInAll_iff.2 fun v hv => by
            obtain ⟨x, hx, rfl⟩ := List.mem_map.1 hv
            exact evalO_locs h2 h3 (hcl.2 x hx)) h1 hso
          exact ⟨this.2, this.1⟩
      | call =>
        have hso' : ∃ σ0, CallOk σ0 (r j) (S (j + 1)) ∧ σ0 = S j ∧ (kp.contains j = true → S (j + 1) = S j) := by
          cases has : i.args.map (evalO (V j) ((List.range j).map r)) with
          | nil => simp only [hop, has] at hso
          | cons fv as_ => simp only [hop, has] at hso; exact ⟨S j, hso.2.1, rfl, hso.2.2⟩
        obtain ⟨_, ⟨g1, g2, g3⟩, rfl, g4⟩ := hso'
        refine ⟨g2, fun hk2 => ?_, fun l o hl ho => (g3 l o ho (by rw [List.getElem?_eq_none hl]; simp)).2 hl, fun h1 _ _ => ⟨fun l o ho => ?_, g1⟩⟩
        · simp only [kindI, hop] at hk2
          by_cases hkp : kp.contains j = true
          · exact g4 hkp
          · rw [if_neg hkp] at hk2; exact absurd rfl hk2
        · by_cases he : (S j)[l]? = some o
          · exact objIn_mono _ _ o g2 (h1 l o he)
          · exact (g3 l o ho he).1
  have inv : ∀ j, j ≤ ops.size → Cl (S j) ∧ locsInAll (S j).length (V j) = true ∧ locsInAll (S j).length ((List.range j).map r) = true := by
    intro j
    induction j with
    | zero =>
      intro _
      rw [hS0, hV0]
      exact ⟨fun l o ho => hs.heap.closed l o ho, hs.vals_locs (Nat.le_of_eq hvl), rfl⟩
    | succ j ih =>
      intro hj
      obtain ⟨i, hij⟩ := hi j (by omega)
      obtain ⟨h1, h2, h3⟩ := ih (by omega)
      obtain ⟨g1, _, _, g4⟩ := stepcases j i hij
      obtain ⟨g5, g6⟩ := g4 h1 h2 h3
      refine ⟨g5, ?_, ?_⟩
      · rw [(htr j i hij).1]
        unfold setD; split
        · exact locsInAll_set (locsAll_le g1 h2) g6
        · exact locsAll_le g1 h2
      · rw [List.range_succ, List.map_append]
        exact locsInAll_append (locsAll_le g1 h3) (by simp [locsInAll, g6])
  let kd : Nat → Nat := fun j => match is[j]? with | some i => kindI kp j i | none => 0
  have hkd : ∀ (j : Nat) i, is[j]? = some i → kd j = kindI kp j i := fun j i h => by simp only [kd, h]
  let ch : Nat → Nat → Bool := fun k l => Classical.propDecidable (kd k = 2 ∧ (S (k + 1))[l]? ≠ (S k)[l]?) |>.decide
  let hd : Nat → Nat → Bool := fun j l => Classical.propDecidable (kd j = 0 ∧ ∃ k, k < ops.size ∧ k ≠ j ∧ k ∉ pdAt pds j ∧ j ∉ pdAt pds k ∧ ch k l = true) |>.decide
  have hch : ∀ k l, ch k l = true ↔ (kd k = 2 ∧ (S (k + 1))[l]? ≠ (S k)[l]?) := fun k l => by simp only [ch, decide_eq_true_eq]
  have hhd : ∀ j l, hd j l = true ↔ (kd j = 0 ∧ ∃ k, k < ops.size ∧ k ≠ j ∧ k ∉ pdAt pds j ∧ j ∉ pdAt pds k ∧ ch k l = true) := fun j l => by simp only [hd, decide_eq_true_eq]
  have hF : Free P fx ops is V r S (pdAt pds) ch hd := by
    refine ⟨?_, ?_, ?_, by rw [hV0]; exact hvl, fun j i hj => (htr j i hj).1, ?_, ?_, ?_, ?_, ?_, ?_, ?_, ?_, ?_, ?_, ?_, ?_⟩
    · intro j hj e he; exact (hord j hj).1.1 e he
    · intro j hj k hk; exact ((hord j hj).1.2 k hk).1
    · intro j hj k hk
      have := ((hord j hj).1.2 k hk).2
      simp only [Bool.or_eq_true, List.contains_iff_mem, List.any_eq_true] at this
      exact this
    · intro j hj; obtain ⟨i, hij⟩ := hi j hj; exact (stepcases j i hij).1
    · intro j hj l hcl
      obtain ⟨i, hij⟩ := hi j hj
      by_cases hk : kindI kp j i = 2
      · by_cases he : (S (j + 1))[l]? = (S j)[l]?
        · exact he
        · have := (hch j l).2 ⟨by rw [hkd j i hij]; exact hk, he⟩
          rw [this] at hcl; cases hcl
      · rw [(stepcases j i hij).2.1 hk]
    · intro j hj l hcl
      obtain ⟨i, hij⟩ := hi j hj
      obtain ⟨_, hne⟩ := (hch j l).1 hcl
      rcases Nat.lt_or_ge l (S (j + 1)).length with h | h
      · exact h
      · have := (stepcases j i hij).1
        rw [List.getElem?_eq_none h, List.getElem?_eq_none (by omega)] at hne
        exact absurd rfl hne
    · intro j k hj hk hne h1 h2 l hcl
      obtain ⟨i, hij⟩ := hi j hj
      obtain ⟨i', hik⟩ := hi k hk
      obtain ⟨hk2, _⟩ := (hch k l).1 hcl
      rw [hkd k i' hik] at hk2
      have h0 := (hpair j k i i' hij hik (Ne.symm hne) h1 h2).2 hk2
      exact (hhd j l).2 ⟨by rw [hkd j i hij]; exact h0, k, hk, hne, h1, h2, hcl⟩
    · intro j hj l hcl
      obtain ⟨hk2, _⟩ := (hch j l).1 hcl
      cases hb : hd j l with
      | false => rfl
      | true => have := ((hhd j l).1 hb).1; omega
    · intro j hj l o hl ho; obtain ⟨i, hij⟩ := hi j hj; exact (stepcases j i hij).2.2.1 l o hl ho
    · intro j hj; obtain ⟨i, hij⟩ := hi j hj; obtain ⟨h1, h2, h3⟩ := inv j (by omega); exact ((stepcases j i hij).2.2.2 h1 h2 h3).2
    · intro j hj l o _ ho; exact (inv (j + 1) (by omega)).1 l o ho
    · intro j i hj k hk
      have := (st j i hj).1.1.2 _ hk
      simpa using this
    · intro j i k b hj hg
      have := (st j i hj).1.2
      rw [hg] at this
      simpa using this
    · intro j k i i' x hj hk hne hx hor
      by_cases h1 : k ∈ pdAt pds j
      · exact .inl h1
      by_cases h2 : j ∈ pdAt pds k
      · exact .inr h2
      have := (hpair j k i i' hj hk hne h1 h2).1 x hx
      simp only [readsVar, Bool.or_eq_false_iff, List.any_eq_false] at this
      rcases hor with hor | hor
      · have h3 := this.1 _ hor; simp at h3
      · have h3 := this.2; rw [hor] at h3; simp at h3
    · intro j i hj
      have hso := (htr j i hj).2
      unfold StepOk at hso
      split at hso
      · rename_i hg; exact hso.elim
      · rename_i hg; rw [hg]; exact hso
      · rename_i hg; rw [hg]
        simp only
        have heapy : kd j ≠ 0 → ∀ l, hd j l = false := fun hne l => by
          cases hb : hd j l with
          | false => rfl
          | true => exact absurd ((hhd j l).1 hb).1 hne
        cases hop : i.op with
        | prim io =>
          simp only [hop] at hso
          have hk : kd j = kindOf io := by rw [hkd j i hj]; simp [kindI, hop]
          by_cases h0 : kindOf io = 0
          · obtain ⟨e1, e2⟩ := stepF_pure h0 hso
            rw [e1]; exact e2 _
          · rw [hideL_none _ _ (heapy (by omega)), hideL_none _ _ (heapy (by omega))]
            exact hso
        | call =>
          have hk : kd j ≠ 0 := by rw [hkd j i hj]; simp only [kindI, hop]; split <;> omega
          rw [hideL_none _ _ (heapy hk), hideL_none _ _ (heapy hk)]
          cases has : i.args.map (evalO (V j) ((List.range j).map r)) with
          | nil => simp only [hop, has] at hso
          | cons fv as_ => simp only [hop, has] at hso ⊢; exact hso.1
  exact W_region_draw hmix hc hF hV0 hS0 (by rw [hlen] at hK; exact hK) m X en ac w hs hr

end Go.Proofs.Ytphdemhopihpnaa.AM


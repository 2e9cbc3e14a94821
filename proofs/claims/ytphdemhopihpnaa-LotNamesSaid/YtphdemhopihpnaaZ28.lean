/- Parts of the proof, joined: AmYx to AmYx. -/
import Derived.Test.YtphdemhopihpnaaZ27

namespace Go.Proofs.Ytphdemhopihpnaa.AM
open Go
set_option linter.unusedVariables false
set_option linter.unusedSimpArgs false

def isPrim (i : Ins) : Bool := match i.op with | .prim _ => true | .call => false

/-- operations that make a new place and change no other -/
def isPush : IOp → Bool
  | .alloc _ | .box | .bslice _ _ _ _ | .mkslice _ _ _ | .mkmap | .rstr | .mksliceC _ _ _ | .appendz _ _ _ => true
  | _ => false
def isPushI (i : Ins) : Bool := match i.op with | .prim io => isPush io | .call => false

theorem stepF_push {io : IOp} {as_ : List AV} {σ σ' : List AObj} {r : AV} (hp : isPush io = true) (h : stepF io as_ σ = some (r, σ')) : ∃ o, σ' = σ ++ [o] := by
  cases io <;> (try (cases hp; done)) <;> simp only [stepF] at h
  case alloc zs => unfold f_alloc at h; split at h <;> cases h; exact ⟨_, rfl⟩
  case box => unfold f_box at h; split at h <;> (try (cases h; done)); split at h <;> cases h; exact ⟨_, rfl⟩
  case bslice esz len zs ps => unfold f_bslice at h; simp only [Option.map_eq_some_iff] at h; obtain ⟨v, hv, he⟩ := h; cases he; exact ⟨_, rfl⟩
  case mkslice esz bytes zs => unfold f_mkslice at h; split at h <;> (try (cases h; done)); split at h <;> cases h; exact ⟨_, rfl⟩
  case mkmap => unfold f_mkmap at h; split at h <;> cases h; exact ⟨_, rfl⟩
  case appendz esz bytes zs => unfold f_appendz at h; split at h <;> (try (cases h; done)); simp only [Option.bind_eq_some_iff] at h; obtain ⟨cs, hcs, h⟩ := h; split at h <;> cases h; exact ⟨_, rfl⟩
  case mksliceC esz bytes zs => unfold f_mksliceC at h; split at h <;> (try (cases h; done)); split at h <;> cases h; exact ⟨_, rfl⟩
  case rstr => unfold f_rstr at h; split at h <;> cases h; exact ⟨_, rfl⟩

theorem hideL_high {σ : List AObj} {f : Nat → Bool} (h : ∀ l, l < σ.length → f l = false) : hideL f σ = σ := by
  apply List.ext_getElem?
  intro l
  rw [hideL_get]
  by_cases hl : l < σ.length
  · simp [h l hl, hl]
  · simp [hl]

/-- as ordOk; but the looks at a place that are listed in xs, each with what stands beside it, are let by -/
def ordOkx (ops : Array Oper) (is : List Ins) (pds : List (List Nat)) (kp : List Nat) (xs : List (Nat × Nat)) : Bool :=
  (xs.all fun p => decide (p.2 < is.length) && match is[p.1]? with | some i => isPrim i || (decide (p.1 < p.2) && (match is[p.2]? with | some i' => isPushI i' | none => false)) | none => false) &&
  (List.range ops.size).all fun j =>
    (dirOf ops j).all (fun e => decide (e < j)) &&
    (pdAt pds j).all (fun k => decide (k < j) && ((dirOf ops j).contains k || (dirOf ops j).any fun e => (pdAt pds e).contains k)) &&
    match is[j]? with
    | none => true
    | some i => insCl i && i.args.all (fun | .t k => (pdAt pds j).contains k | _ => true) && (match i.gd with | some (k, _) => (pdAt pds j).contains k | none => true) &&
      (List.range ops.size).all fun k =>
        match is[k]? with
        | none => true
        | some i' => decide (j = k) || (pdAt pds j).contains k || (pdAt pds k).contains j ||
            ((match i'.dst with | some x => !readsVar x i | none => true) && (!(decide (kindI kp k i' = 2) && decide (kindI kp j i ≠ 0)) || xs.contains (j, k)))

def ordOkx' (dirs : List (List Nat)) (is : List Ins) (pds : List (List Nat)) (kp : List Nat) (xs : List (Nat × Nat)) : Bool :=
  (xs.all fun p => decide (p.2 < is.length) && match is[p.1]? with | some i => isPrim i || (decide (p.1 < p.2) && (match is[p.2]? with | some i' => isPushI i' | none => false)) | none => false) &&
  (List.range dirs.length).all fun j =>
    (dirs.getD j []).all (fun e => decide (e < j)) &&
    (pdAt pds j).all (fun k => decide (k < j) && ((dirs.getD j []).contains k || (dirs.getD j []).any fun e => (pdAt pds e).contains k)) &&
    match is[j]? with
    | none => true
    | some i => insCl i && i.args.all (fun | .t k => (pdAt pds j).contains k | _ => true) && (match i.gd with | some (k, _) => (pdAt pds j).contains k | none => true) &&
      (List.range dirs.length).all fun k =>
        match is[k]? with
        | none => true
        | some i' => decide (j = k) || (pdAt pds j).contains k || (pdAt pds k).contains j ||
            ((match i'.dst with | some x => !readsVar x i | none => true) && (!(decide (kindI kp k i' = 2) && decide (kindI kp j i ≠ 0)) || xs.contains (j, k)))

theorem ordOkx_of {ops : Array Oper} {is : List Ins} {pds : List (List Nat)} {kp : List Nat} {xs : List (Nat × Nat)} (h : ordOkx' (dirsOf ops) is pds kp xs = true) : ordOkx ops is pds kp xs = true := by
  have hl : (dirsOf ops).length = ops.size := by simp [dirsOf]
  have hg : ∀ j, j < ops.size → (dirsOf ops).getD j [] = dirOf ops j := fun j hj => by simp [dirsOf, List.getD, hj]
  unfold ordOkx' at h
  unfold ordOkx
  rw [hl, Bool.and_eq_true] at h
  rw [Bool.and_eq_true]
  refine ⟨h.1, ?_⟩
  have h := h.2
  rw [List.all_eq_true] at h ⊢
  intro j hj
  have hj' : j < ops.size := by simpa using hj
  have := h j hj
  rw [hg j hj'] at this
  exact this

/-- places that are the same in two heaps -/
def xOne : List Nat → List AObj → List AObj → Prop
  | [], _, _ => True
  | l :: ls, a, b => a[l]? = b[l]? ∧ xOne ls a b
theorem xOne_get : ∀ {ls : List Nat} {a b : List AObj}, xOne ls a b → ∀ l ∈ ls, a[l]? = b[l]?
  | [], _, _, _, l, hl => by simp at hl
  | l0 :: ls, a, b, h, l, hl => by
    rcases List.mem_cons.1 hl with rfl | hl
    · exact h.1
    · exact xOne_get h.2 l hl

/-- the places that were looked at or written are kept by what stands beside -/
def xAll : List (Nat × Nat) → List PlT → List (List AObj) → Prop
  | [], _, _ => True
  | p :: xs, pl, hs => xOne (plLocs (pl.getD p.1 .no)) (hs.getD (p.2 + 1) []) (hs.getD p.2 []) ∧ xAll xs pl hs

theorem xAll_get : ∀ {xs : List (Nat × Nat)} {pl : List PlT} {hs : List (List AObj)}, xAll xs pl hs → ∀ a k, (a, k) ∈ xs → ∀ l ∈ plLocs (pl.getD a .no), (hs.getD (k + 1) [])[l]? = (hs.getD k [])[l]?
  | [], pl, hs, _, a, k, hm, l, hl => by simp at hm
  | p :: xs, pl, hs, h, a, k, hm, l, hl => by
    simp only [xAll] at h
    rcases List.mem_cons.1 hm with rfl | hm
    · exact xOne_get h.1 l hl
    · exact xAll_get h.2 a k hm l hl

/-- A region's run in the order of its text, with one result for each operation; what was looked at beside a call is kept by it. -/
def RPx (P : Program) (kp : List Nat) (xs : List (Nat × Nat)) : Nat → List Ins → List PlT → List (List AObj) → List AV → List AV → List AObj → (List AV → List AV → List AObj → Prop) → Prop
  | _, [], pl, hs, vals, ρ, σ, K => xAll xs pl (hs ++ [σ]) ∧ K vals ρ σ
  | j, i :: is, pl, hs, vals, ρ, σ, K =>
    match gdOk ρ i.gd with
    | none => False
    | some false => RPx P kp xs (j + 1) is (pl ++ [.no]) (hs ++ [σ]) (setD i.dst vals (.tup [])) (ρ ++ [.tup []]) σ K
    | some true =>
      match i.op, i.args.map (evalO vals ρ) with
      | .prim io, as_ =>
        match stepF io as_ σ with
        | some (v, σ') => RPx P kp xs (j + 1) is (pl ++ [plOf i as_ σ]) (hs ++ [σ]) (setD i.dst vals v) (ρ ++ [v]) σ' K
        | none => False
      | .call, fv :: as_ => if kp.contains j then ∃ v, CallV P fv as_ σ (fun v' τ' => v' = v ∧ τ' = σ) ∧ locsIn σ.length v = true ∧ RPx P kp xs (j + 1) is (pl ++ [.no]) (hs ++ [σ]) (setD i.dst vals v) (ρ ++ [v]) σ K
          else ∃ v τ, CallV P fv as_ σ (fun v' τ' => v' = v ∧ τ' = τ) ∧ CallOk σ v τ ∧ RPx P kp xs (j + 1) is (pl ++ [.no]) (hs ++ [σ]) (setD i.dst vals v) (ρ ++ [v]) τ K
      | .call, [] => False

variable {P : Program} {fx : Fx} {Q : Exit → St → Prop} {s : St}

def plAt (is : List Ins) (V : Nat → List AV) (pre : List AV) (r : Nat → AV) (S : Nat → List AObj) (q : Nat) : PlT :=
  match is[q]? with
  | some i => match gdOk (pre ++ (List.range q).map r) i.gd with
    | some true => plOf i (i.args.map (evalO (V q) (pre ++ (List.range q).map r))) (S q)
    | _ => .no
  | none => .no

theorem RPx_trace {kp : List Nat} {xs : List (Nat × Nat)} {K : List AV → List AV → List AObj → Prop} : ∀ (is : List Ins) (j : Nat) (pl : List PlT) (hs : List (List AObj)) (vals ρ : List AV) (σ : List AObj), RPx P kp xs j is pl hs vals ρ σ K →
    ∃ (V : Nat → List AV) (r : Nat → AV) (S : Nat → List AObj), V 0 = vals ∧ S 0 = σ ∧
      (∀ (q : Nat) i, is[q]? = some i → V (q + 1) = setD i.dst (V q) (r q) ∧ StepOk P kp (j + q) i (V q) (ρ ++ (List.range q).map r) (S q) (r q) (S (q + 1))) ∧
      xAll xs (pl ++ (List.range is.length).map (plAt is V ρ r S)) (hs ++ (List.range (is.length + 1)).map S) ∧
      K (V is.length) (ρ ++ (List.range is.length).map r) (S is.length)
  | [], j, pl, hs, vals, ρ, σ, h => ⟨fun _ => vals, fun _ => .undef, fun _ => σ, rfl, rfl, by simp, by simpa [RPx] using h.1, by simpa [RPx] using h.2⟩
  | i :: is, j, pl, hs, vals, ρ, σ, h => by
    have main : ∀ v τ p, p = (match gdOk ρ i.gd with | some true => plOf i (i.args.map (evalO vals ρ)) σ | _ => .no) → StepOk P kp j i vals ρ σ v τ → RPx P kp xs (j + 1) is (pl ++ [p]) (hs ++ [σ]) (setD i.dst vals v) (ρ ++ [v]) τ K →
        ∃ (V : Nat → List AV) (r : Nat → AV) (S : Nat → List AObj), V 0 = vals ∧ S 0 = σ ∧
        (∀ (q : Nat) i', (i :: is)[q]? = some i' → V (q + 1) = setD i'.dst (V q) (r q) ∧ StepOk P kp (j + q) i' (V q) (ρ ++ (List.range q).map r) (S q) (r q) (S (q + 1))) ∧
        xAll xs (pl ++ (List.range (i :: is).length).map (plAt (i :: is) V ρ r S)) (hs ++ (List.range ((i :: is).length + 1)).map S) ∧
        K (V (i :: is).length) (ρ ++ (List.range (i :: is).length).map r) (S (i :: is).length) := by
      intro v τ p hp hs' hr
      obtain ⟨V, r, S, h1, h2, h3, hx3, h4⟩ := RPx_trace is (j + 1) (pl ++ [p]) (hs ++ [σ]) _ _ _ hr
      have hrg : ∀ q, (List.range (q + 1)).map (fun q => match q with | 0 => v | q + 1 => r q) = v :: (List.range q).map r := by
        intro q; rw [List.range_succ_eq_map]; simp [Function.comp_def]
      have hrgS : ∀ q, (List.range (q + 1)).map (fun q => match q with | 0 => σ | q + 1 => S q) = σ :: (List.range q).map S := by
        intro q; rw [List.range_succ_eq_map]; simp [Function.comp_def]
      refine ⟨fun q => match q with | 0 => vals | q + 1 => V q, fun q => match q with | 0 => v | q + 1 => r q, fun q => match q with | 0 => σ | q + 1 => S q, rfl, rfl, ?_, ?_, ?_⟩
      · intro q i' hq
        cases q with
        | zero =>
          simp at hq; subst hq
          refine ⟨by simp [h1], ?_⟩
          simpa [h2] using hs'
        | succ q =>
          simp at hq
          obtain ⟨g1, g2⟩ := h3 q i' hq
          refine ⟨g1, ?_⟩
          rw [hrg, show j + (q + 1) = j + 1 + q by omega]
          simpa using g2
      · have e : ∀ q, (List.range (q + 1)).map (plAt (i :: is) (fun q => match q with | 0 => vals | q + 1 => V q) ρ (fun q => match q with | 0 => v | q + 1 => r q) (fun q => match q with | 0 => σ | q + 1 => S q)) = p :: (List.range q).map (plAt is V (ρ ++ [v]) r S) := by
          intro q
          rw [List.range_succ_eq_map]
          simp only [List.map_cons, List.map_map, List.cons.injEq]
          refine ⟨?_, List.map_congr_left fun k _ => ?_⟩
          · rw [hp]; simp [plAt]
          · simp only [Function.comp, plAt, List.getElem?_cons_succ]
            rw [hrg]
            simp
        simp only [List.length_cons]
        rw [e, hrgS]
        simpa using hx3
      · simp only [List.length_cons]
        rw [hrg]; simpa using h4
    simp only [RPx] at h
    cases hg : gdOk ρ i.gd with
    | none => rw [hg] at h; exact h.elim
    | some b =>
      rw [hg] at h
      cases b with
      | false => exact main (.tup []) σ .no (by rw [hg]) (by simp [StepOk, hg]) h
      | true =>
        simp only at h
        cases hop : i.op with
        | prim io =>
          simp only [hop] at h
          cases hst : stepF io (i.args.map (evalO vals ρ)) σ with
          | none => rw [hst] at h; exact h.elim
          | some p => rw [hst] at h; exact main p.1 p.2 _ (by rw [hg]) (by simp [StepOk, hg, hop, hst]) h
        | call =>
          have hpl : ∀ as_, plOf i as_ σ = .no := fun as_ => by simp [plOf, hop]
          simp only [hop] at h
          cases hargs : i.args.map (evalO vals ρ) with
          | nil => rw [hargs] at h; exact h.elim
          | cons fv as_ =>
            rw [hargs] at h
            simp only at h
            split at h
            · rename_i hk
              obtain ⟨v, h1, h2, h3⟩ := h
              exact main v σ .no (by rw [hg, hpl]) (by simp only [StepOk, hg, hop, hargs]; exact ⟨h1, .refl h2, fun _ => trivial⟩) h3
            · rename_i hk
              obtain ⟨v, τ, h1, h2, h3⟩ := h
              exact main v τ .no (by rw [hg, hpl]) (by simp only [StepOk, hg, hop, hargs]; exact ⟨h1, h2, fun h => absurd h hk⟩) h3

theorem W_region_ordx {id : Nat} {ops : Array Oper} {is : List Ins} (pds : List (List Nat)) (kp : List Nat) (xs : List (Nat × Nat)) (hmix : P.follows .mixedOrders = true) (hc : compReg P fx.vars fx.N ops = some is) (hord : ordOkx ops is pds kp xs = true)
    (hvl : s.vals.length = fx.vars.length) (h : RPx P kp xs 0 is [] [] s.vals [] s.heap fun vals _ σ => Q .normal ⟨vals, σ⟩) : W P fx (.region id ops true) s Q := by
  intro m X en ac w hs hr
  obtain ⟨V, r, S, hV0, hS0, htr, hx0, hK⟩ := RPx_trace is 0 [] [] _ _ _ h
  simp only [List.nil_append, Nat.zero_add] at htr hK hx0
  have hlen : is.length = ops.size := by
    unfold compReg at hc
    split at hc
    · rw [compAll_eq] at hc
      have key : ∀ (l : List Oper) (js : List Ins), l.mapM (compIns P fx.vars (ops.toList.map (·.dst))) = some js → js.length = l.length := by
        intro l
        induction l with
        | nil => intro js h; simp at h; subst h; rfl
        | cons x l ih =>
          intro js h
          simp only [List.mapM_cons, Option.bind_eq_bind, Option.bind_eq_some_iff, Option.pure_def, Option.some.injEq] at h
          obtain ⟨i, _, js', h2, rfl⟩ := h
          simp [ih _ h2]
      simpa using key _ _ hc
    · cases hc
  -- the static facts
  simp only [ordOkx, Bool.and_eq_true] at hord
  obtain ⟨hxs, hord⟩ := hord
  rw [List.all_eq_true] at hxs
  simp only [List.all_eq_true, List.mem_range, Bool.and_eq_true, decide_eq_true_eq] at hord
  have hi : ∀ j, j < ops.size → ∃ i, is[j]? = some i := fun j hj => ⟨is[j], List.getElem?_eq_getElem (by omega)⟩
  have hlt : ∀ (j : Nat) i, is[j]? = some i → j < ops.size := fun j i h => by have := (List.getElem?_eq_some_iff.1 h).1; omega
  have st := fun (j : Nat) (i : Ins) (h : is[j]? = some i) => by
    have := (hord j (hlt j i h)).2
    rw [h] at this
    simpa only [Bool.and_eq_true, List.all_eq_true, List.mem_range] using this
  have hpair : ∀ (j k : Nat) i i', is[j]? = some i → is[k]? = some i' → j ≠ k → k ∉ pdAt pds j → j ∉ pdAt pds k → (∀ x, i'.dst = some x → readsVar x i = false) ∧ (kindI kp k i' = 2 → kindI kp j i = 0 ∨ (j, k) ∈ xs) := by
    intro j k i i' hj hk hne h1 h2
    have := (st j i hj).2 k (hlt k i' hk)
    rw [hk] at this
    simp only [Bool.or_eq_true, decide_eq_true_eq, List.contains_iff_mem, hne, h1, h2, false_or, Bool.and_eq_true, Bool.not_eq_true', Bool.and_eq_false_iff, decide_eq_false_iff_not, ne_eq, Decidable.not_not] at this
    refine ⟨fun x hx => ?_, fun h2 => ?_⟩
    · have := this.1; rw [hx] at this; simpa using this
    · rcases this.2 with (h | h) | h
      · exact absurd h2 h
      · exact .inl h
      · exact .inr h
  have hxl : ∀ (j k : Nat), (j, k) ∈ xs → k < is.length ∧ ∃ i, is[j]? = some i ∧ ((∃ io, i.op = .prim io) ∨ (i.op = .call ∧ j < k ∧ ∃ i' io, is[k]? = some i' ∧ i'.op = .prim io ∧ isPush io = true)) := by
    intro j k hm
    have := hxs _ hm
    simp only [Bool.and_eq_true, decide_eq_true_eq] at this
    obtain ⟨h1, h2⟩ := this
    refine ⟨h1, ?_⟩
    cases hij : is[j]? with
    | none => rw [hij] at h2; simp at h2
    | some i =>
      rw [hij] at h2
      refine ⟨i, rfl, ?_⟩
      cases hop : i.op with
      | prim io => exact .inl ⟨io, rfl⟩
      | call =>
        simp only [isPrim, hop, Bool.false_or, Bool.and_eq_true, decide_eq_true_eq] at h2
        obtain ⟨h4, h5⟩ := h2
        refine .inr ⟨rfl, h4, ?_⟩
        cases hik : is[k]? with
        | none => rw [hik] at h5; cases h5
        | some i' =>
          rw [hik] at h5
          simp only [isPushI] at h5
          split at h5
          · rename_i io ho; exact ⟨i', io, rfl, ho, h5⟩
          · cases h5
  have hx : ∀ (j k : Nat) (i : Ins), (j, k) ∈ xs → is[j]? = some i → gdOk ((List.range j).map r) i.gd = some true → ∀ l ∈ plLocs (plOf i (i.args.map (evalO (V j) ((List.range j).map r))) (S j)), (S (k + 1))[l]? = (S k)[l]? := by
    intro j k i hm hij hg l hl
    obtain ⟨hk, _⟩ := hxl j k hm
    have hjl : j < is.length := (List.getElem?_eq_some_iff.1 hij).1
    have := xAll_get hx0 j k hm l (by simpa [List.getD, List.getElem?_map, List.getElem?_range hjl, plAt, hij, hg] using hl)
    simpa [List.getD, List.getElem?_map, List.getElem?_range (show k + 1 < is.length + 1 by omega), List.getElem?_range (show k < is.length + 1 by omega)] using this
  -- each step
  have stepcases : ∀ (j : Nat) i, is[j]? = some i → (S j).length ≤ (S (j + 1)).length ∧ (kindI kp j i ≠ 2 → S (j + 1) = S j) ∧ (∀ (l : Nat) o, (S j).length ≤ l → (S (j + 1))[l]? = some o → o.live) ∧
      (Cl (S j) → locsInAll (S j).length (V j) = true → locsInAll (S j).length ((List.range j).map r) = true → Cl (S (j + 1)) ∧ locsIn (S (j + 1)).length (r j) = true) := by
    intro j i hj
    have hso := (htr j i hj).2
    unfold StepOk at hso
    have same : r j = .tup [] → S (j + 1) = S j → _ := fun (e1 : r j = .tup []) (e2 : S (j + 1) = S j) => show (S j).length ≤ (S (j + 1)).length ∧ (kindI kp j i ≠ 2 → S (j + 1) = S j) ∧ (∀ (l : Nat) o, (S j).length ≤ l → (S (j + 1))[l]? = some o → o.live) ∧
      (Cl (S j) → locsInAll (S j).length (V j) = true → locsInAll (S j).length ((List.range j).map r) = true → Cl (S (j + 1)) ∧ locsIn (S (j + 1)).length (r j) = true) from by
        rw [e2, e1]
        refine ⟨Nat.le_refl _, fun _ => rfl, fun l o hl ho => ?_, fun h _ _ => ⟨h, rfl⟩⟩
        rw [List.getElem?_eq_none hl] at ho; cases ho
    split at hso
    · exact hso.elim
    · exact same hso.1 hso.2
    · cases hop : i.op with
      | prim io =>
        simp only [hop] at hso
        have hk : kindI kp j i = kindOf io := by simp [kindI, hop]
        refine ⟨stepF_le hso, fun hk2 => ?_, stepF_made hso, fun h1 h2 h3 => ?_⟩
        · rw [hk] at hk2
          by_cases h0 : kindOf io = 0
          · exact (stepF_pure h0 hso).1
          · by_cases h1 : kindOf io = 1
            · exact stepF_reads h1 hso
            · have := kindOf_le io
              omega
        · have hcl := (st j i hj).1.1.1
          unfold insCl at hcl
          rw [hop] at hcl
          simp only [Bool.and_eq_true, List.all_eq_true] at hcl
          have := stepF_locs hcl.1 (locsInAll_iff.2 fun v hv => by
            obtain ⟨x, hx, rfl⟩ := List.mem_map.1 hv
            exact evalO_locs h2 h3 (hcl.2 x hx)) h1 hso
          exact ⟨this.2, this.1⟩
      | call =>
        have hso' : ∃ σ0, CallOk σ0 (r j) (S (j + 1)) ∧ σ0 = S j ∧ (kp.contains j = true → S (j + 1) = S j) := by
          cases has : i.args.map (evalO (V j) ((List.range j).map r)) with
          | nil => simp only [hop, has] at hso
          | cons fv as_ => simp only [hop, has] at hso; exact ⟨S j, hso.2.1, rfl, hso.2.2⟩
        obtain ⟨_, ⟨g1, g2, g3⟩, rfl, g4⟩ := hso'
        refine ⟨g2, fun hk2 => ?_, fun l o hl ho => (g3 l o ho (by rw [List.getElem?_eq_none hl]; simp)).2 hl, fun h1 _ _ => ⟨fun l o ho => ?_, g1⟩⟩
        · simp only [kindI, hop] at hk2
          by_cases hkp : kp.contains j = true
          · exact g4 hkp
          · rw [if_neg hkp] at hk2; exact absurd rfl hk2
        · by_cases he : (S j)[l]? = some o
          · exact objIn_mono _ _ o g2 (h1 l o he)
          · exact (g3 l o ho he).1
  have inv : ∀ j, j ≤ ops.size → Cl (S j) ∧ locsInAll (S j).length (V j) = true ∧ locsInAll (S j).length ((List.range j).map r) = true := by
    intro j
    induction j with
    | zero =>
      intro _
      rw [hS0, hV0]
      exact ⟨fun l o ho => hs.heap.closed l o ho, hs.vals_locs (Nat.le_of_eq hvl), rfl⟩
    | succ j ih =>
      intro hj
      obtain ⟨i, hij⟩ := hi j (by omega)
      obtain ⟨h1, h2, h3⟩ := ih (by omega)
      obtain ⟨g1, _, _, g4⟩ := stepcases j i hij
      obtain ⟨g5, g6⟩ := g4 h1 h2 h3
      refine ⟨g5, ?_, ?_⟩
      · rw [(htr j i hij).1]
        unfold setD; split
        · exact locsInAll_set (locsAll_le g1 h2) g6
        · exact locsAll_le g1 h2
      · rw [List.range_succ, List.map_append]
        exact locsInAll_append (locsAll_le g1 h3) (by simp [locsInAll, g6])
  have hmono : ∀ j d, j + d ≤ ops.size → (S j).length ≤ (S (j + d)).length := by
    intro j d
    induction d with
    | zero => intro _; exact Nat.le_refl _
    | succ d ih =>
      intro hd
      obtain ⟨i3, hi3⟩ := hi (j + d) (by omega)
      exact Nat.le_trans (ih (by omega)) (stepcases (j + d) i3 hi3).1
  have hpush : ∀ (j k : Nat) (i' : Ins) (io : IOp), j < k → is[k]? = some i' → i'.op = .prim io → isPush io = true → ∀ l, (S (k + 1))[l]? ≠ (S k)[l]? → (S (j + 1)).length ≤ l := by
    intro j k i' io hjk hik e4 e5 l hch2
    have hle := hmono (j + 1) (k - (j + 1)) (by have := hlt k i' hik; omega)
    rw [show j + 1 + (k - (j + 1)) = k by omega] at hle
    have hso2 := (htr k i' hik).2
    unfold StepOk at hso2
    split at hso2
    · exact hso2.elim
    · exact absurd (by rw [hso2.2]) hch2
    · simp only [e4] at hso2
      obtain ⟨o, ho⟩ := stepF_push e5 hso2
      refine Nat.le_of_not_lt fun hl => hch2 ?_
      rw [ho, List.getElem?_append_left (by omega)]
  let kd : Nat → Nat := fun j => match is[j]? with | some i => kindI kp j i | none => 0
  have hkd : ∀ (j : Nat) i, is[j]? = some i → kd j = kindI kp j i := fun j i h => by simp only [kd, h]
  let ch : Nat → Nat → Bool := fun k l => Classical.propDecidable (kd k = 2 ∧ (S (k + 1))[l]? ≠ (S k)[l]?) |>.decide
  let hd : Nat → Nat → Bool := fun j l => Classical.propDecidable ((kd j = 0 ∨ ∃ k', (j, k') ∈ xs) ∧ ∃ k, k < ops.size ∧ k ≠ j ∧ k ∉ pdAt pds j ∧ j ∉ pdAt pds k ∧ ch k l = true) |>.decide
  have hch : ∀ k l, ch k l = true ↔ (kd k = 2 ∧ (S (k + 1))[l]? ≠ (S k)[l]?) := fun k l => by simp only [ch, decide_eq_true_eq]
  have hhd : ∀ j l, hd j l = true ↔ ((kd j = 0 ∨ ∃ k', (j, k') ∈ xs) ∧ ∃ k, k < ops.size ∧ k ≠ j ∧ k ∉ pdAt pds j ∧ j ∉ pdAt pds k ∧ ch k l = true) := fun j l => by simp only [hd, decide_eq_true_eq]
  have hF : Free P fx ops is V r S (pdAt pds) ch hd := by
    refine ⟨?_, ?_, ?_, by rw [hV0]; exact hvl, fun j i hj => (htr j i hj).1, ?_, ?_, ?_, ?_, ?_, ?_, ?_, ?_, ?_, ?_, ?_, ?_⟩
    · intro j hj e he; exact (hord j hj).1.1 e he
    · intro j hj k hk; exact ((hord j hj).1.2 k hk).1
    · intro j hj k hk
      have := ((hord j hj).1.2 k hk).2
      simp only [Bool.or_eq_true, List.contains_iff_mem, List.any_eq_true] at this
      exact this
    · intro j hj; obtain ⟨i, hij⟩ := hi j hj; exact (stepcases j i hij).1
    · intro j hj l hcl
      obtain ⟨i, hij⟩ := hi j hj
      by_cases hk : kindI kp j i = 2
      · by_cases he : (S (j + 1))[l]? = (S j)[l]?
        · exact he
        · have := (hch j l).2 ⟨by rw [hkd j i hij]; exact hk, he⟩
          rw [this] at hcl; cases hcl
      · rw [(stepcases j i hij).2.1 hk]
    · intro j hj l hcl
      obtain ⟨i, hij⟩ := hi j hj
      obtain ⟨_, hne⟩ := (hch j l).1 hcl
      rcases Nat.lt_or_ge l (S (j + 1)).length with h | h
      · exact h
      · have := (stepcases j i hij).1
        rw [List.getElem?_eq_none h, List.getElem?_eq_none (by omega)] at hne
        exact absurd rfl hne
    · intro j k hj hk hne h1 h2 l hcl
      obtain ⟨i, hij⟩ := hi j hj
      obtain ⟨i', hik⟩ := hi k hk
      obtain ⟨hk2, _⟩ := (hch k l).1 hcl
      rw [hkd k i' hik] at hk2
      have h0 := (hpair j k i i' hij hik (Ne.symm hne) h1 h2).2 hk2
      exact (hhd j l).2 ⟨h0.imp (fun h => by rw [hkd j i hij]; exact h) (fun h => ⟨k, h⟩), k, hk, hne, h1, h2, hcl⟩
    · intro j hj l hcl
      obtain ⟨hk2, hcj⟩ := (hch j l).1 hcl
      cases hb : hd j l with
      | false => rfl
      | true =>
        obtain ⟨h, k, hk, hne, h1, h2, hclk⟩ := (hhd j l).1 hb
        rcases h with h | ⟨k', h⟩
        · omega
        · obtain ⟨_, i, e1, hpc⟩ := hxl j k' h
          rcases hpc with ⟨io, e2⟩ | ⟨e2, _⟩
          rotate_left
          · obtain ⟨i', hik⟩ := hi k hk
            obtain ⟨hkk2, hch2⟩ := (hch k l).1 hclk
            rw [hkd k i' hik] at hkk2
            rw [hkd j i e1] at hk2
            rcases (hpair j k i i' e1 hik (Ne.symm hne) h1 h2).2 hkk2 with h3 | h3
            · omega
            obtain ⟨_, i0, f1, hpc⟩ := hxl j k h3
            rw [e1] at f1; cases f1
            rcases hpc with ⟨io, e3⟩ | ⟨_, hjk, i2, io, e3, e4, e5⟩
            · rw [e2] at e3; cases e3
            rw [hik] at e3; cases e3
            have hge := hpush j k i' io hjk hik e4 e5 l hch2
            have hge2 := (stepcases j i e1).1
            rw [List.getElem?_eq_none hge, List.getElem?_eq_none (by omega)] at hcj
            exact absurd rfl hcj
          obtain ⟨i', hik⟩ := hi k hk
          obtain ⟨hkk2, hch2⟩ := (hch k l).1 hclk
          rw [hkd k i' hik] at hkk2
          rw [hkd j i e1] at hk2
          have hso := (htr j i e1).2
          unfold StepOk at hso
          split at hso
          · exact hso.elim
          · exact absurd (by rw [hso.2]) hcj
          · rename_i hg
            simp only [e2] at hso
            have hmem := stepF_ch hso hcj
            rcases (hpair j k i i' e1 hik (Ne.symm hne) h1 h2).2 hkk2 with h3 | h3
            · omega
            · exact absurd (hx j k i h3 e1 hg l (by simp only [plOf, e2]; exact hmem)) hch2
    · intro j hj l o hl ho; obtain ⟨i, hij⟩ := hi j hj; exact (stepcases j i hij).2.2.1 l o hl ho
    · intro j hj; obtain ⟨i, hij⟩ := hi j hj; obtain ⟨h1, h2, h3⟩ := inv j (by omega); exact ((stepcases j i hij).2.2.2 h1 h2 h3).2
    · intro j hj l o _ ho; exact (inv (j + 1) (by omega)).1 l o ho
    · intro j i hj k hk
      have := (st j i hj).1.1.2 _ hk
      simpa using this
    · intro j i k b hj hg
      have := (st j i hj).1.2
      rw [hg] at this
      simpa using this
    · intro j k i i' x hj hk hne hx hor
      by_cases h1 : k ∈ pdAt pds j
      · exact .inl h1
      by_cases h2 : j ∈ pdAt pds k
      · exact .inr h2
      have := (hpair j k i i' hj hk hne h1 h2).1 x hx
      simp only [readsVar, Bool.or_eq_false_iff, List.any_eq_false] at this
      rcases hor with hor | hor
      · have h3 := this.1 _ hor; simp at h3
      · have h3 := this.2; rw [hor] at h3; simp at h3
    · intro j i hj
      have hso := (htr j i hj).2
      unfold StepOk at hso
      split at hso
      · rename_i hg; exact hso.elim
      · rename_i hg; rw [hg]; exact hso
      · rename_i hg; rw [hg]
        simp only
        have heapy : kd j ≠ 0 → (∀ k', (j, k') ∉ xs) → ∀ l, hd j l = false := fun hne hnx l => by
          cases hb : hd j l with
          | false => rfl
          | true =>
            rcases ((hhd j l).1 hb).1 with h | ⟨k', h⟩
            · exact absurd h hne
            · exact absurd h (hnx k')
        cases hop : i.op with
        | prim io =>
          simp only [hop] at hso
          have hk : kd j = kindOf io := by rw [hkd j i hj]; simp [kindI, hop]
          by_cases h0 : kindOf io = 0
          · obtain ⟨e1, e2⟩ := stepF_pure h0 hso
            rw [e1]; exact e2 _
          by_cases hxj : ∃ k', (j, k') ∈ xs
          · refine stepF_hide hso fun l hl => ?_
            cases hb : hd j l with
            | false => rfl
            | true =>
              obtain ⟨_, k, hk', hne, h1, h2, hcl⟩ := (hhd j l).1 hb
              obtain ⟨i', hik⟩ := hi k hk'
              obtain ⟨hk2, hch2⟩ := (hch k l).1 hcl
              rw [hkd k i' hik] at hk2
              rcases (hpair j k i i' hj hik (Ne.symm hne) h1 h2).2 hk2 with h | h
              · rw [← hkd j i hj] at h; omega
              · exact absurd (hx j k i h hj hg l (by simp only [plOf, hop]; exact hl)) hch2
          · have hnx : ∀ k', (j, k') ∉ xs := fun k' h => hxj ⟨k', h⟩
            rw [hideL_none _ _ (heapy (by omega) hnx), hideL_none _ _ (heapy (by omega) hnx)]
            exact hso
        | call =>
          have hk : kd j ≠ 0 := by rw [hkd j i hj]; simp only [kindI, hop]; split <;> omega
          have hhigh : ∀ l, l < (S (j + 1)).length → hd j l = false := fun l hl => by
            cases hb : hd j l with
            | false => rfl
            | true =>
              obtain ⟨hor, k, hk', hne, h1, h2, hcl⟩ := (hhd j l).1 hb
              obtain ⟨i', hik⟩ := hi k hk'
              obtain ⟨hk2, hch2⟩ := (hch k l).1 hcl
              rw [hkd k i' hik] at hk2
              rcases (hpair j k i i' hj hik (Ne.symm hne) h1 h2).2 hk2 with h | h
              · rw [← hkd j i hj] at h; exact absurd h hk
              · obtain ⟨_, i0, e1, hpc⟩ := hxl j k h
                rw [hj] at e1; cases e1
                rcases hpc with ⟨io, e2⟩ | ⟨_, hjk, i2, io, e3, e4, e5⟩
                · rw [hop] at e2; cases e2
                · rw [hik] at e3; cases e3
                  have := hpush j k i' io hjk hik e4 e5 l hch2
                  omega
          by_cases hxj : ∃ k', (j, k') ∈ xs
          · cases has : i.args.map (evalO (V j) ((List.range j).map r)) with
            | nil => simp only [hop, has] at hso
            | cons fv as_ =>
              simp only [hop, has] at hso ⊢
              have g := hso.1
              have hge2 := (stepcases j i hj).1
              rw [hideL_high hhigh, hideL_high fun l hl => hhigh l (by omega)]
              exact g
          have hnx : ∀ k', (j, k') ∉ xs := fun k' h => hxj ⟨k', h⟩
          rw [hideL_none _ _ (heapy hk hnx), hideL_none _ _ (heapy hk hnx)]
          cases has : i.args.map (evalO (V j) ((List.range j).map r)) with
          | nil => simp only [hop, has] at hso
          | cons fv as_ => simp only [hop, has] at hso ⊢; exact hso.1
  exact W_region_draw hmix hc hF hV0 hS0 (by rw [hlen] at hK; exact hK) m X en ac w hs hr

theorem DW_ordx {dirs : List (List Nat)} {is : List Ins} (kp : List Nat) (xs : List (Nat × Nat)) (hmix : P.follows .mixedOrders = true) (hord : ordOkx' dirs is (pdsOf dirs []) kp xs = true) (hvl : s.vals.length = fx.vars.length)
    (h : RPx P kp xs 0 is [] [] s.vals [] s.heap fun vals _ σ => Q .normal ⟨vals, σ⟩) : DW P fx dirs is s Q := by
  rintro id ops rfl hc
  exact W_region_ordx _ kp xs hmix hc (ordOkx_of hord) hvl h

end Go.Proofs.Ytphdemhopihpnaa.AM


/- Parts of the proof, joined: AmEa to AmEa. -/
import Derived.Test.YtphdemhopihpnaaZ29

namespace Go.Proofs.Ytphdemhopihpnaa.AM
open Go
set_option linter.unusedVariables false
set_option linter.unusedSimpArgs false

/-! ### Reading as closed, by computation -/

def mapO {α β : Type} (f : α → Option β) : List α → Option (List β)
  | [] => some []
  | a :: as_ => match f a with
    | none => none
    | some b => match mapO f as_ with
      | none => none
      | some bs => some (b :: bs)

def frzF (σ : List AObj) : Nat → AV → Option CV
  | _, .cv c => some c
  | n + 1, .sl l off len esz =>
    match rowOf σ l with
    | some cs => if off + len * esz ≤ cs.length then (mapO (frzF σ n) ((cs.drop off).take (len * esz))).map (.rsl · len) else none
    | none => none
  | n + 1, .ptr l off =>
    match rowOf σ l with
    | some cs => (mapO (frzF σ n) cs).map (.rp · off)
    | none => none
  | n + 1, .slc l off len _ esz =>
    match rowOf σ l with
    | some cs => if off + len * esz ≤ cs.length then (mapO (frzF σ n) ((cs.drop off).take (len * esz))).map (.rsl · len) else none
    | none => none
  | _, _ => none

def frzVF (σ : List AObj) : Nat → AV → Option AV
  | _, .cv c => some (.cv c)
  | n + 1, .agg as_ => (mapO (frzVF σ n) as_).map .agg
  | n + 1, .tup as_ => (mapO (frzVF σ n) as_).map .tup
  | n + 1, .fn f as_ => (mapO (frzVF σ n) as_).map (.fn f)
  | n + 1, .bm f as_ => (mapO (frzVF σ n) as_).map (.bm f)
  | _, .undef => some .undef
  | n + 1, a => (frzF σ n a).map .cv
  | _, _ => none

theorem frzF_sound {σ : List AObj} : ∀ (n : Nat) (a : AV) (c : CV), frzF σ n a = some c → FrzC anyC σ a c := by
  have hm : ∀ (n : Nat), (∀ (a : AV) (c : CV), frzF σ n a = some c → FrzC anyC σ a c) → ∀ (as_ : List AV) (cs : List CV), mapO (frzF σ n) as_ = some cs → FrzCs anyC σ as_ cs := by
    intro n ih as_
    induction as_ with
    | nil => intro cs h; simp only [mapO, Option.some.injEq] at h; subst h; exact .nil
    | cons a as_ ihl =>
      intro cs h
      simp only [mapO] at h
      split at h
      · cases h
      · rename_i b hb
        split at h
        · cases h
        · rename_i bs hbs
          cases h
          exact .cons (ih a b hb) (ihl bs hbs)
  intro n
  induction n with
  | zero => intro a c h; cases a <;> simp [frzF] at h; subst h; exact .c _ trivial
  | succ n ih =>
    intro a c h
    cases a <;> simp only [frzF, reduceCtorEq] at h
    · cases h; exact .c _ trivial
    · split at h
      · rename_i cs hcs
        simp only [Option.map_eq_some_iff] at h
        obtain ⟨ds, hds, rfl⟩ := h
        exact .ptr _ _ cs ds hcs (hm n ih _ _ hds)
      · cases h
    · split at h
      · rename_i cs hcs
        split at h
        · rename_i hle
          simp only [Option.map_eq_some_iff] at h
          obtain ⟨ds, hds, rfl⟩ := h
          exact .sl _ _ _ _ cs ds hcs hle (hm n ih _ _ hds)
        · cases h
      · cases h
    · split at h
      · rename_i cs hcs
        split at h
        · rename_i hle
          simp only [Option.map_eq_some_iff] at h
          obtain ⟨ds, hds, rfl⟩ := h
          exact .slc _ _ _ _ _ cs ds hcs hle (hm n ih _ _ hds)
        · cases h
      · cases h

theorem frzVF_sound {σ : List AObj} : ∀ (n : Nat) (a : AV) (c : AV), frzVF σ n a = some c → FrzV anyC σ a c := by
  have hm : ∀ (n : Nat), (∀ (a : AV) (c : AV), frzVF σ n a = some c → FrzV anyC σ a c) → ∀ (as_ : List AV) (cs : List AV), mapO (frzVF σ n) as_ = some cs → FrzVs anyC σ as_ cs := by
    intro n ih as_
    induction as_ with
    | nil => intro cs h; simp only [mapO, Option.some.injEq] at h; subst h; exact .nil
    | cons a as_ ihl =>
      intro cs h
      simp only [mapO] at h
      split at h
      · cases h
      · rename_i b hb
        split at h
        · cases h
        · rename_i bs hbs
          cases h
          exact .cons (ih a b hb) (ihl bs hbs)
  intro n
  induction n with
  | zero =>
    intro a c h
    cases a <;> simp only [frzVF, reduceCtorEq, Option.some.injEq] at h
    · subst h; exact .c (.c _ trivial)
    · subst h; exact .un _
  | succ n ih =>
    intro a c h
    cases a <;> simp only [frzVF, reduceCtorEq, Option.some.injEq] at h
    case cv => subst h; exact .c (.c _ trivial)
    case undef => subst h; exact .un _
    case agg => simp only [Option.map_eq_some_iff] at h; obtain ⟨ds, hds, rfl⟩ := h; exact .agg (hm n ih _ _ hds)
    case tup => simp only [Option.map_eq_some_iff] at h; obtain ⟨ds, hds, rfl⟩ := h; exact .tup (hm n ih _ _ hds)
    case fn => simp only [Option.map_eq_some_iff] at h; obtain ⟨ds, hds, rfl⟩ := h; exact .fn (hm n ih _ _ hds)
    case bm => simp only [Option.map_eq_some_iff] at h; obtain ⟨ds, hds, rfl⟩ := h; exact .bm (hm n ih _ _ hds)
    all_goals
      simp only [Option.map_eq_some_iff] at h
      obtain ⟨d, hd, rfl⟩ := h
      exact .c (frzF_sound n _ _ hd)

/-! ### Records of loops stay -/

def SameSite (r r' : ALoop) : Prop := r'.vars = r.vars ∧ r'.ntmps = r.ntmps ∧ r'.params = r.params ∧ r'.assign = r.assign ∧ r'.body = r.body

def LoopKeep (σ σ' : List AObj) : Prop := ∀ (l : Nat) (r : ALoop), σ[l]? = some (AObj.loop r) → ∃ r', σ'[l]? = some (AObj.loop r') ∧ SameSite r r'

theorem SameSite.refl (r : ALoop) : SameSite r r := ⟨rfl, rfl, rfl, rfl, rfl⟩
theorem SameSite.trans {a b c : ALoop} (h : SameSite a b) (k : SameSite b c) : SameSite a c :=
  ⟨k.1.trans h.1, k.2.1.trans h.2.1, k.2.2.1.trans h.2.2.1, k.2.2.2.1.trans h.2.2.2.1, k.2.2.2.2.trans h.2.2.2.2⟩
theorem LoopKeep.refl (σ : List AObj) : LoopKeep σ σ := fun l r h => ⟨r, h, .refl r⟩
theorem LoopKeep.trans {a b c : List AObj} (h : LoopKeep a b) (k : LoopKeep b c) : LoopKeep a c := fun l r hr =>
  let ⟨r1, h1, h2⟩ := h l r hr
  let ⟨r2, h3, h4⟩ := k l r1 h1
  ⟨r2, h3, h2.trans h4⟩

theorem stepF_loop {io : IOp} {as_ : List AV} {σ σ' : List AObj} {v : AV} (h : stepF io as_ σ = some (v, σ')) {l : Nat} {r : ALoop} (hl : σ[l]? = some (.loop r)) : σ'[l]? = some (.loop r) := by
  have push : ∀ (τ : List AObj) (x : AObj), σ' = τ ++ [x] → τ[l]? = some (.loop r) → σ'[l]? = some (.loop r) := by
    rintro τ x rfl ht
    rw [List.getElem?_append_left (List.getElem?_eq_some_iff.1 ht).1]; exact ht
  have row : ∀ (x : Nat) (cs : List AV) (y : AObj), rowOf σ x = some cs → (σ.set x y)[l]? = some (.loop r) := by
    intro x cs y hx
    have hx := rowOf_some hx
    rw [List.getElem?_set_ne]; exact hl
    rintro rfl; rw [hl] at hx; cases hx
  have mp : ∀ (x : Nat) (es : List (AV × AV)) (y : AObj), mapOf σ x = some es → (σ.set x y)[l]? = some (.loop r) := by
    intro x es y hx
    rw [List.getElem?_set_ne]; exact hl
    rintro rfl; unfold mapOf at hx; rw [hl] at hx; cases hx
  by_cases h0 : kindOf io = 0
  · rw [(stepF_pure h0 h).1]; exact hl
  by_cases h1 : kindOf io = 1
  · rw [stepF_reads h1 h]; exact hl
  cases io <;> (try (exact absurd rfl h0)) <;> (try (exact absurd rfl h1)) <;> simp only [stepF] at h
  case alloc zs => unfold f_alloc at h; split at h <;> cases h; exact push _ _ rfl hl
  case box => unfold f_box at h; split at h <;> (try (cases h; done)); split at h <;> cases h; exact push _ _ rfl hl
  case bslice esz len zs ps => unfold f_bslice at h; simp only [Option.map_eq_some_iff] at h; obtain ⟨v, hv, he⟩ := h; cases he; exact push _ _ rfl hl
  case store n => unfold f_store at h; split at h <;> (try (cases h; done)); simp only [Option.bind_eq_some_iff] at h; obtain ⟨cs, hcs, h⟩ := h; split at h <;> cases h; exact row _ _ _ hcs
  case mkmap => unfold f_mkmap at h; split at h <;> cases h; exact push _ _ rfl hl
  case mkslice esz bytes zs => unfold f_mkslice at h; split at h <;> (try (cases h; done)); split at h <;> cases h; exact push _ _ rfl hl
  case mksliceC esz bytes zs => unfold f_mksliceC at h; split at h <;> (try (cases h; done)); split at h <;> cases h; exact push _ _ rfl hl
  case append esz bytes =>
    unfold f_append at h
    split at h <;> (try (cases h; done))
    · simp only [Option.bind_eq_some_iff] at h; obtain ⟨new, hnew, n, hn, h⟩ := h
      split at h
      · cases h; exact hl
      · split at h <;> cases h; exact push _ _ rfl hl
    · simp only [Option.bind_eq_some_iff] at h; obtain ⟨cs, hcs, new, hnew, n, hn, h⟩ := h
      split at h <;> cases h
      exact push _ _ rfl (row _ _ _ hcs)
    · simp only [Option.bind_eq_some_iff] at h; obtain ⟨cs, hcs, new, hnew, n, hn, h⟩ := h
      split at h
      · split at h <;> cases h; exact row _ _ _ hcs
      · split at h <;> cases h; exact push _ _ rfl hl
  case clear zs => unfold f_clear at h; split at h <;> (try (cases h; done)) <;> (simp only [Option.bind_eq_some_iff] at h; obtain ⟨cs, hcs, h⟩ := h; split at h <;> cases h; exact row _ _ _ hcs)
  case copy esz => unfold f_copy at h; split at h <;> (try (cases h; done)); simp only [Option.bind_eq_some_iff] at h; obtain ⟨cs, hcs, new, hnew, n, hn, h⟩ := h; split at h <;> cases h; exact row _ _ _ hcs
  case mapset ks => unfold f_mapset at h; split at h <;> (try (cases h; done)); simp only [Option.bind_eq_some_iff] at h; obtain ⟨es, hes, h⟩ := h; split at h <;> (try (cases h; done)); simp only [Option.map_eq_some_iff] at h; obtain ⟨res, hres, he⟩ := h; cases he; exact mp _ _ _ hes
  case mapdel ks => unfold f_mapdel at h; split at h <;> (try (cases h; done)); simp only [Option.bind_eq_some_iff] at h; obtain ⟨es, hes, h⟩ := h; split at h <;> (try (cases h; done)); simp only [Option.map_eq_some_iff] at h; obtain ⟨res, hres, he⟩ := h; cases he; exact mp _ _ _ hes
  case stuck => cases h
  case appendz esz bytes zs => unfold f_appendz at h; split at h <;> (try (cases h; done)); simp only [Option.bind_eq_some_iff] at h; obtain ⟨cs, hcs, h⟩ := h; split at h <;> cases h; exact push _ _ rfl hl
  case rstr => unfold f_rstr at h; split at h <;> cases h; exact push _ _ rfl hl
  case snext =>
    unfold f_snext at h; split at h <;> (try (cases h; done)); simp only [Option.map_eq_some_iff] at h; obtain ⟨⟨s, p⟩, hsp, h⟩ := h; split at h <;> cases h
    · have := siterOf_some hsp
      rw [List.getElem?_set_ne]; exact hl
      rintro rfl; rw [hl] at this; cases this
    · exact hl

/-! ### The evaluator -/

inductive RC where
  | v (i : Nat)
  | l1 (i : Nat)
  | lN (i n : Nat)

def compRes (P : Program) (vars : List Nat) : ResultVar → Option RC
  | .tmp t => (vars.idxOf? t).map .v
  | .cell a t => (vars.idxOf? a).bind fun i => (isAggT P t).bind fun g => if g then (P.info? t).map fun ti => .lN i ti.size else some (.l1 i)

def resE (vals : List AV) (σ : List AObj) : RC → Option AV
  | .v i => some (vals.getD i .undef)
  | .l1 i => (f_load1 [vals.getD i .undef] σ).map (·.1)
  | .lN i n => (f_loadN n [vals.getD i .undef] σ).map (·.1)

def resEs (vals : List AV) (σ : List AObj) : List RC → Option AV
  | [r] => resE vals σ r
  | rs => (mapO (resE vals σ) rs).map .tup

theorem mapO_eq {α β : Type} (f : α → Option β) : ∀ l, mapO f l = l.mapM f
  | [] => rfl
  | a :: l => by
    simp only [mapO, mapO_eq f l, List.mapM_cons, Option.bind_eq_bind, Option.pure_def]
    cases f a <;> simp
    cases List.mapM f l <;> rfl

theorem resE_eq {P : Program} {vars : List Nat} {vals : List AV} {σ : List AObj} {rv : ResultVar} {rc : RC} (h : compRes P vars rv = some rc) : resF vars vals σ P rv = resE vals σ rc := by
  cases rv with
  | tmp t => simp only [compRes, Option.map_eq_some_iff] at h; obtain ⟨i, hi, rfl⟩ := h; simp [resF, resE, hi]
  | cell a t =>
    simp only [compRes, Option.bind_eq_some_iff] at h
    obtain ⟨i, hi, g, hg, h⟩ := h
    simp only [resF, hi, hg, Option.bind_some]
    cases g with
    | true => simp only [if_true, Option.map_eq_some_iff] at h ⊢; obtain ⟨ti, ht, rfl⟩ := h; simp [ht, resE]
    | false => simp only [Bool.false_eq_true, if_false, Option.some.injEq] at h ⊢; subst h; rfl

theorem resEs_eq {P : Program} {vars : List Nat} {vals : List AV} {σ : List AObj} {rvs : List ResultVar} {rcs : List RC} (h : mapO (compRes P vars) rvs = some rcs) : resAll P vars vals σ rvs = resEs vals σ rcs := by
  have key : ∀ (rvs : List ResultVar) (rcs : List RC), mapO (compRes P vars) rvs = some rcs → rvs.length = rcs.length ∧ mapO (resF vars vals σ P) rvs = mapO (resE vals σ) rcs := by
    intro rvs
    induction rvs with
    | nil => intro rcs h; simp only [mapO, Option.some.injEq] at h; subst h; exact ⟨rfl, rfl⟩
    | cons a rvs ih =>
      intro rcs h
      simp only [mapO] at h
      split at h
      · cases h
      · rename_i b hb
        split at h
        · cases h
        · rename_i bs hbs
          cases h
          obtain ⟨h1, h2⟩ := ih bs hbs
          refine ⟨by simp [h1], ?_⟩
          simp only [mapO, resE_eq hb, h2]
  obtain ⟨h1, h2⟩ := key rvs rcs h
  unfold resAll resEs
  match rvs, rcs, h1 with
  | [], [], _ => simp [mapO]
  | [a], [b], _ =>
    simp only [mapO] at h
    split at h
    · cases h
    · rename_i c hc
      cases h
      exact resE_eq hc
  | a :: b :: rvs, c :: d :: rcs, _ => simp only [← mapO_eq, h2]

/-- a function's entry; 'pure': it is called in the empty heap where its arguments are closed, and what it made is read as closed -/
structure FE where
  ic : IC
  vars : List Nat
  N : Nat
  res : List RC
  pure : Bool

structure FnOk (P : Program) (f : FuncId) (fe : FE) : Prop where
  ok : ∃ fn c, P.funcs[f]? = some fn ∧ fn.body = some c ∧ (fn.name == "runtime.NumGoroutine") = false ∧ fn.ntmps = fe.N ∧ compC P fe.vars fn.ntmps c = some fe.ic ∧ mapO (compRes P fe.vars) fn.results.toList = some fe.res

/-- a loop over a function, where it was begun -/
structure LE where
  vars : List Nat
  N : Nat
  ps : List Nat
  ia : IC
  ib : IC

abbrev Env := List (Nat × LE)
def envGet : Env → Nat → Option LE
  | [], _ => none
  | (k, e) :: es, l => if Nat.beq k l then some e else envGet es l

def EnvOk (P : Program) (E : Env) (σ : List AObj) : Prop :=
  ∀ (l : Nat) (le : LE), envGet E l = some le → ∃ r, σ[l]? = some (AObj.loop r) ∧ r.vars = le.vars ∧ r.ntmps = le.N ∧ r.params = le.ps ∧ compC P le.vars le.N r.assign = some le.ia ∧ compC P le.vars le.N r.body = some le.ib ∧
    le.vars.Nodup ∧ (∀ t ∈ le.ps, t ∈ le.vars) ∧ ∀ t ∈ le.ps, t < le.N

theorem EnvOk.keep {P : Program} {E : Env} {σ σ' : List AObj} (h : EnvOk P E σ) (k : LoopKeep σ σ') : EnvOk P E σ' := by
  intro l le hl
  obtain ⟨r, h1, h2, h3, h4, h5, h6, h7⟩ := h l le hl
  obtain ⟨r', k1, k2, k3, k4, k5, k6⟩ := k l r h1
  exact ⟨r', k1, k2.trans h2, k3.trans h3, k4.trans h4, by rw [k5]; exact h5, by rw [k6]; exact h6, h7⟩

def forceI {α : Type} (n : Int) (k : α) : α :=
  match n with
  | .ofNat m => if Nat.beq m 0 then k else k
  | .negSucc m => if Nat.beq m 0 then k else k
theorem forceI_eq {α : Type} (n : Int) (k : α) : forceI n k = k := by cases n <;> simp [forceI]

def forceV {α : Type} (v : AV) (k : α) : α :=
  match v with
  | .cv (.int _ n) => forceI n k
  | .cv (.bool true) => k
  | _ => k
theorem forceV_eq {α : Type} (v : AV) (k : α) : forceV v k = k := by unfold forceV; split <;> simp [forceI_eq]

def forceL {α β : Type} : List α → (List α → β) → β
  | [], k => k []
  | a :: as_, k => forceL as_ fun bs => k (a :: bs)
theorem forceL_eq {α β : Type} : ∀ (l : List α) (k : List α → β), forceL l k = k l
  | [], k => rfl
  | a :: l, k => by simp [forceL, forceL_eq l]

def isLive : AObj → Bool | .dead => false | _ => true

def callOk (σ : List AObj) (v : AV) (τ : List AObj) : Bool :=
  locsIn τ.length v && decide (σ.length ≤ τ.length) && τ.all (objIn τ.length) && (τ.drop σ.length).all isLive

def keepChk (b k : Bool) (σ : List AObj) (v : AV) (τ : List AObj) : Bool :=
  match b with
  | true => k
  | false => callOk σ v τ

abbrev CallE := AV → List AV → List AObj → Option (Bool × AV × List AObj)

def avEq : AV → AV → Bool
  | .cv (.int k a), .cv (.int k' b) => decide (k = k') && decide (a = b)
  | .cv (.bool a), .cv (.bool b) => a == b
  | .cv .nilp, .cv .nilp => true
  | .cv .nils, .cv .nils => true
  | .ptr a b, .ptr c d => Nat.beq a c && Nat.beq b d
  | .map a, .map b => Nat.beq a b
  | .sl a b c d, .sl a' b' c' d' => (Nat.beq a a' && Nat.beq b b') && (Nat.beq c c' && Nat.beq d d')
  | .slc a b c d e, .slc a' b' c' d' e' => (Nat.beq a a' && Nat.beq b b') && ((Nat.beq c c' && Nat.beq d d') && Nat.beq e e')
  | _, _ => false

def avsEq : List AV → List AV → Bool
  | [], [] => true
  | a :: as_, b :: bs => avEq a b && avsEq as_ bs
  | _, _ => false

def objEq : Option AObj → Option AObj → Bool
  | some (.cells a), some (.cells b) => avsEq a b
  | none, none => true
  | some .dead, some .dead => true
  | _, _ => false

def xOneB : List Nat → List AObj → List AObj → Bool
  | [], _, _ => true
  | l :: ls, a, b => objEq a[l]? b[l]? && xOneB ls a b

def xAllB : List (Nat × Nat) → List PlT → List (List AObj) → Bool
  | [], _, _ => true
  | p :: xs, pl, hs => xOneB (plLocs (pl.getD p.1 .no)) (hs.getD (p.2 + 1) []) (hs.getD p.2 []) && xAllB xs pl hs

abbrev RegR := Option (List AV × List AV × List AObj)
abbrev RegK := List AV → List AV → List AObj → RegR

def rPrim (i : Ins) (k : RegK) (vals ρ : List AV) : Option (AV × List AObj) → RegR
  | some (v, σ') => forceV v (k (setD i.dst vals v) (ρ ++ [v]) σ')
  | none => none

def rCall (i : Ins) (k : RegK) (vals ρ : List AV) : Option (Bool × AV × List AObj) → RegR
  | some (_, v, σ') => forceV v (k (setD i.dst vals v) (ρ ++ [v]) σ')
  | none => none

def rCall1 (call : CallE) (i : Ins) (k : RegK) (vals ρ : List AV) (σ : List AObj) : List AV → RegR
  | fv :: as_ => rCall i k vals ρ (call fv as_ σ)
  | [] => none

def rOp (call : CallE) (i : Ins) (k : RegK) (vals ρ : List AV) (σ : List AObj) : IK → RegR
  | .prim io => rPrim i k vals ρ (stepF io (i.args.map (evalO vals ρ)) σ)
  | .call => rCall1 call i k vals ρ σ (i.args.map (evalO vals ρ))

def rIns (call : CallE) (i : Ins) (k : RegK) (vals ρ : List AV) (σ : List AObj) : Option Bool → RegR
  | none => none
  | some false => k (setD i.dst vals (.tup [])) (ρ ++ [.tup []]) σ
  | some true => rOp call i k vals ρ σ i.op

def runR (call : CallE) : List Ins → List AV → List AV → List AObj → Option (List AV × List AV × List AObj)
  | [], vals, ρ, σ => some (vals, ρ, σ)
  | i :: is, vals, ρ, σ => rIns call i (runR call is) vals ρ σ (gdOk ρ i.gd)

abbrev RegX := List PlT → List (List AObj) → List AV → List AV → List AObj → RegR

def xPrim (i : Ins) (as_ : List AV) (k : RegX) (pl : List PlT) (hs : List (List AObj)) (vals ρ : List AV) (σ : List AObj) : Option (AV × List AObj) → RegR
  | some (v, σ') => forceV v (k (pl ++ [plOf i as_ σ]) (hs ++ [σ]) (setD i.dst vals v) (ρ ++ [v]) σ')
  | none => none

def xCall (b : Bool) (i : Ins) (k : RegX) (pl : List PlT) (hs : List (List AObj)) (vals ρ : List AV) (σ : List AObj) : Option (Bool × AV × List AObj) → RegR
  | some (kk, v, σ') => if keepChk b kk σ v σ' then forceV v (k (pl ++ [.no]) (hs ++ [σ]) (setD i.dst vals v) (ρ ++ [v]) σ') else none
  | none => none

def xCall1 (call : CallE) (b : Bool) (i : Ins) (k : RegX) (pl : List PlT) (hs : List (List AObj)) (vals ρ : List AV) (σ : List AObj) : List AV → RegR
  | fv :: as_ => xCall b i k pl hs vals ρ σ (call fv as_ σ)
  | [] => none

def xOp (call : CallE) (b : Bool) (i : Ins) (k : RegX) (pl : List PlT) (hs : List (List AObj)) (vals ρ : List AV) (σ : List AObj) : IK → RegR
  | .prim io => xPrim i (i.args.map (evalO vals ρ)) k pl hs vals ρ σ (stepF io (i.args.map (evalO vals ρ)) σ)
  | .call => xCall1 call b i k pl hs vals ρ σ (i.args.map (evalO vals ρ))

def xIns (call : CallE) (b : Bool) (i : Ins) (k : RegX) (pl : List PlT) (hs : List (List AObj)) (vals ρ : List AV) (σ : List AObj) : Option Bool → RegR
  | none => none
  | some false => k (pl ++ [.no]) (hs ++ [σ]) (setD i.dst vals (.tup [])) (ρ ++ [.tup []]) σ
  | some true => xOp call b i k pl hs vals ρ σ i.op

def runX (call : CallE) (kp : List Nat) (xs : List (Nat × Nat)) : Nat → List Ins → List PlT → List (List AObj) → List AV → List AV → List AObj → Option (List AV × List AV × List AObj)
  | _, [], pl, hs, vals, ρ, σ => if xAllB xs pl (hs ++ [σ]) then some (vals, ρ, σ) else none
  | j, i :: is, pl, hs, vals, ρ, σ => xIns call (kp.contains j) i (runX call kp xs (j + 1) is) pl hs vals ρ σ (gdOk ρ i.gd)

def isCall (i : Ins) : Bool := match i.op with | .call => true | _ => false
def callsOf (is : List Ins) : List Nat := (List.range is.length).filter fun j => match is[j]? with | some i => isCall i | none => false

/-- looks at places beside what changes the heap, in open order -/
def xsOf (is : List Ins) (pds : List (List Nat)) (kp : List Nat) : List (Nat × Nat) :=
  (List.range is.length).flatMap fun k => match is[k]? with
    | some i => if Nat.beq (kindI kp k i) 2 then ((List.range is.length).filter fun j => (match is[j]? with | some i' => ((isPrim i' && !Nat.beq (kindI kp j i') 0) || (Nat.blt j k && isPushI i)) && !Nat.beq j k | none => false) && !(pdAt pds k).contains j && !(pdAt pds j).contains k).map fun j => (j, k) else []
    | none => []

/-- which calls must keep the heap, and which places, that the region's order does not matter -/
def kpSel (dirs : List (List Nat)) (is : List Ins) (pds : List (List Nat)) : Option (List Nat × List (Nat × Nat)) :=
  let cs := callsOf is
  let ks := ([] : List Nat) :: cs :: (cs.map fun c => [c]) ++ cs.map fun c => cs.filter (· != c)
  if ordOkx' dirs is pds [] [] then some ([], []) else
  (ks.find? fun kp => ordOkx' dirs is pds kp (xsOf is pds kp)).map fun kp => (kp, xsOf is pds kp)

def loopF (body : St → Option (Exit × St)) : Nat → St → Option (Exit × St)
  | 0, _ => none
  | n + 1, s =>
    match body s with
    | some (.normal, s') => forceL s'.vals fun vals => forceL s'.heap fun heap => loopF body n ⟨vals, heap⟩
    | r => r

def loopAt (σ : List AObj) (l : Nat) : Option ALoop :=
  match σ[l]? with
  | some (.loop r) => some r
  | _ => none

def noneB {α : Type} : Option α → Bool | none => true | _ => false

def rfChk (fx : Fx) (s : St) (ps : Array Nat) : Bool :=
  Nat.ble s.vals.length fx.vars.length && (match fx.r with | none => true | some l0 => (loopAt s.heap l0).isSome) && (decide fx.vars.Nodup && ps.toList.all (fun t => fx.vars.contains t && Nat.blt t fx.N))

abbrev RI := Option (Exit × St)
abbrev RunI := Env → Fx → St → RI

def rThen (rb : RunI) (E : Env) (fx : Fx) : RI → RI
  | some (.normal, s') => rb E fx s'
  | r => r
def rBlock (i : Nat) : RI → RI
  | some (.exit i', s') => some (if Nat.beq i' i then .normal else .exit i', s')
  | r => r
def rScope : RI → RI
  | some (.goto _, _) => none
  | r => r
def rCond (ra rb : RunI) (E : Env) (fx : Fx) (s : St) : AV → RI
  | .cv (.bool true) => ra E fx s
  | .cv (.bool false) => rb E fx s
  | _ => none
def rReg : RegR → RI
  | some (vals, _, σ) => some (.normal, ⟨vals, σ⟩)
  | none => none
def rDraw (call : CallE) (fx : Fx) (is : List Ins) (s : St) : Option (List Nat × List (Nat × Nat)) → RI
  | none => none
  | some (kp, xs) => if Nat.beq s.vals.length fx.vars.length then rReg (runX call kp xs 0 is [] [] s.vals [] s.heap) else none

def rfPend (s : St) (r2 : ALoop) (σ' : List AObj) : Option Code → RI
  | none => some (.normal, ⟨s.vals, setLoop σ' s.heap.length r2 .exhausted none⟩)
  | some .ret => some (.ret, ⟨s.vals, setLoop σ' s.heap.length r2 .exhausted (some .ret)⟩)
  | some (.exit i) => some (.exit i, ⟨s.vals, setLoop σ' s.heap.length r2 .exhausted (some (.exit i))⟩)
  | _ => none
def isBusy : LoopState → Bool | .busy => true | _ => false
def isReady : LoopState → Bool | .ready => true | _ => false
def rfLoop (s : St) (σ' : List AObj) : Option ALoop → RI
  | some r2 => if isBusy r2.state then none else rfPend s r2 σ' r2.pending
  | none => none
def rfRes (s : St) : Option (Bool × AV × List AObj) → RI
  | some (_, _, σ') => rfLoop s σ' (loopAt σ' s.heap.length)
  | none => none
def rfGo (call : Env → CallE) (E : Env) (fx : Fx) (ps : Array Nat) (assign body : Code) (ia ib : IC) (s : St) : AV → RI
  | .fn (.func gf) cap =>
    if rfChk fx s ps then rfRes s (call ((s.heap.length, ⟨fx.vars, fx.N, ps.toList, ia, ib⟩) :: E) (.fn (.func gf) cap) [.yld s.heap.length] (s.heap ++ [.loop (newLoop fx s.vals ps assign body)]))
    else none
  | _ => none

def runI (call : Env → CallE) (lf : Nat) : IC → RunI
  | .skip => fun _ _ s => some (.normal, s)
  | .label _ => fun _ _ s => some (.normal, s)
  | .exit i => fun _ _ s => some (.exit i, s)
  | .ret => fun _ _ s => some (.ret, s)
  | .seq a b => fun E fx s => rThen (runI call lf b) E fx (runI call lf a E fx s)
  | .block i a => fun E fx s => rBlock i (runI call lf a E fx s)
  | .cond i a b => fun E fx s => rCond (runI call lf a) (runI call lf b) E fx s (s.vals.getD i .undef)
  | .loop a => fun E fx s => loopF (runI call lf a E fx) lf s
  | .scope a => fun E fx s => rScope (runI call lf a E fx s)
  | .region is => fun E fx s => rReg (runR (call E) is s.vals [] s.heap)
  | .draw dirs is pds => fun E fx s => rDraw (call E) fx is s (kpSel dirs is pds)
  | .rangef g ps assign body ia ib => fun E fx s => rfGo call E fx ps assign body ia ib s (evalO s.vals [] g)

def rRes (σ : List AObj) : Option AV → Option (AV × List AObj)
  | some r => some (r, σ)
  | none => none
def rFn (res : List RC) : RI → Option (AV × List AObj)
  | some (.normal, s) => rRes s.heap (resEs s.vals s.heap res)
  | some (.ret, s) => rRes s.heap (resEs s.vals s.heap res)
  | _ => none

/-- a function's body run -/
def runF (call : Env → CallE) (lf : Nat) (E : Env) (fe : FE) (args : List AV) (σ : List AObj) : Option (AV × List AObj) :=
  if Nat.ble args.length fe.N then rFn fe.res (runI call lf fe.ic E ⟨fe.vars, fe.N, none, σ.length⟩ ⟨initVals fe.vars args, σ⟩)
  else none

/-- what a call has made is dropped where nothing leads to it -/
def cutF (n0 : Nat) (r : AV) (σ : List AObj) : List AObj :=
  if Nat.ble (n0 + 24) σ.length && (locsIn n0 r && (σ.take n0).all (objIn n0)) then σ.take n0 else σ

def rFrz2 (σ : List AObj) : Option AV → Option (Bool × AV × List AObj)
  | some v => if locsIn 0 v then some (true, v, σ) else none
  | none => none
def rFrz (σ : List AObj) : Option (AV × List AObj) → Option (Bool × AV × List AObj)
  | some (r, σ') => rFrz2 σ (frzVF σ' 8 r)
  | none => none
def rCut (σ : List AObj) : Option (AV × List AObj) → Option (Bool × AV × List AObj)
  | some (r, σ') => some (false, r, cutF σ.length r σ')
  | none => none

def rFe (call : Env → CallE) (lf : Nat) (E : Env) (args : List AV) (σ : List AObj) : Option FE → Option (Bool × AV × List AObj)
  | none => none
  | some fe => if fe.pure && locsInAll 0 args then rFrz σ (runF call lf [] fe args []) else rCut σ (runF call lf E fe args σ)

mutual
def cvEq : CV → CV → Bool
  | .int k a, .int k' b => decide (k = k') && decide (a = b)
  | .bool a, .bool b => a == b
  | .str a, .str b => decide (a = b)
  | .nilp, .nilp | .nilm, .nilm | .nilf, .nilf | .nili, .nili | .nils, .nils => true
  | .rsl as_ n, .rsl bs m => Nat.beq n m && cvsEq as_ bs
  | .rp as_ n, .rp bs m => Nat.beq n m && cvsEq as_ bs
  | _, _ => false
def cvsEq : List CV → List CV → Bool
  | [], [] => true
  | a :: as_, b :: bs => cvEq a b && cvsEq as_ bs
  | _, _ => false
end

mutual
def aEq : AV → AV → Bool
  | .cv a, .cv b => cvEq a b
  | .agg as_, .agg bs => asEq as_ bs
  | _, _ => false
def asEq : List AV → List AV → Bool
  | [], [] => true
  | a :: as_, b :: bs => aEq a b && asEq as_ bs
  | _, _ => false
end

/-- calls whose answers are known -/
abbrev Kn := List (Nat × List AV × AV)
def knGet : Kn → Nat → List AV → Option AV
  | [], _, _ => none
  | (f, as_, v) :: ks, g, bs => if Nat.beq f g && asEq as_ bs then some v else knGet ks g bs

structure Tb where
  T : Nat → Option FE
  K : Kn

def rKn (call : Env → CallE) (lf : Nat) (E : Env) (args : List AV) (σ : List AObj) (fe : Option FE) : Option AV → Option (Bool × AV × List AObj)
  | some v => some (true, v, σ)
  | none => rFe call lf E args σ fe

def runCall (T : Tb) (call : Env → CallE) (lf : Nat) (E : Env) (f : FuncId) (args : List AV) (σ : List AObj) : Option (Bool × AV × List AObj) :=
  rKn call lf E args σ (T.T f) (knGet T.K f args)

def yEnd (σ : List AObj) (l : Nat) (e : Exit) : Option ALoop → Option (Bool × AV × List AObj)
  | some r2 => some (false, .b (noneB (jumpOf e)), setLoop σ l r2 (if noneB (jumpOf e) then .ready else .done) (jumpOf e))
  | none => none
def yRes (l : Nat) : RI → Option (Bool × AV × List AObj)
  | none => none
  | some (.panic _, _) => none
  | some (.outgrown, _) => none
  | some (e, s2) => yEnd s2.heap l e (loopAt s2.heap l)
def yBody (rb : RunI) (E : Env) (fx : Fx) (l : Nat) (s1 : St) : Option ALoop → Option (Bool × AV × List AObj)
  | some r1 => if isReady r1.state then yRes l (rb E fx ⟨s1.vals, setLoop s1.heap l r1 .busy r1.pending⟩) else none
  | none => none
def yAss (rb : RunI) (E : Env) (fx : Fx) (l : Nat) : RI → Option (Bool × AV × List AObj)
  | some (.normal, s1) => yBody rb E fx l s1 (loopAt s1.heap l)
  | _ => none
def yGo (call : Env → CallE) (lf : Nat) (E : Env) (l : Nat) (args : List AV) (σ : List AObj) : Option LE → Option ALoop → Option (Bool × AV × List AObj)
  | some le, some r =>
    if isReady r.state && Nat.beq args.length le.ps.length then
      yAss (runI call lf le.ib) E ⟨le.vars, le.N, some l, σ.length⟩ l (runI call lf le.ia E ⟨le.vars, le.N, some l, σ.length⟩ ⟨putPars le.vars le.ps args r.vals, σ⟩)
    else none
  | _, _ => none

def runY (call : Env → CallE) (lf : Nat) (E : Env) (l : Nat) (args : List AV) (σ : List AObj) : Option (Bool × AV × List AObj) :=
  yGo call lf E l args σ (envGet E l) (loopAt σ l)

/-- calls, to a depth -/
def callD (T : Tb) (lf : Nat) : Nat → Env → CallE
  | 0, _, _, _, _ => none
  | d + 1, E, fv, as_, σ =>
    match fv with
    | .fn (.func f) cap => runCall T (callD T lf d) lf E f (as_ ++ cap) σ
    | .bm f first => runCall T (callD T lf d) lf E f (first ++ as_) σ
    | .yld l => runY (callD T lf d) lf E l as_ σ
    | _ => none

end Go.Proofs.Ytphdemhopihpnaa.AM


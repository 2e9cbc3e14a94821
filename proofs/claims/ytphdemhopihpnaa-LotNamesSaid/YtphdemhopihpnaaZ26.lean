/- Parts of the proof, joined: AmY to AmY. -/
import Derived.Test.YtphdemhopihpnaaZ25

namespace Go.Proofs.Ytphdemhopihpnaa.AM
open Go
set_option linter.unusedVariables false
set_option linter.unusedSimpArgs false

section
variable {P : Program} {b : Frame} {a : Act} {k : List Item} {cs : List Frame} {w : World}
theorem stepR_scope {c : Code} : step P (lone (b.atR a (.code (.scope c) :: k)) cs w) = .next (lone (b.atR a (.code c :: .inScope c :: k)) cs w) :=
  step_lone_go (by simp [stepG, stepG.exec, Frame.atR])
theorem stepR_inScope {c : Code} : step P (lone (b.atR a (.inScope c :: k)) cs w) = .next (lone (b.atR a k) cs w) :=
  step_lone_go (by simp [stepG, stepG.exec, Frame.atR])

theorem wpIn_scope_straight {F : Fence} {n : Nat} {Q : Exit → Act → World → Prop} {c : Code} (h : c.wpIn F n P (fun e a w => match e with | .goto _ => False | e => Q e a w) a w) : (Code.scope c).wpIn F n P Q a w := by
  intro b k cs hro hb hr
  have h0 : (lone (b.atR a (.code (.scope c) :: k)) cs w).fenced P F := fenced_calm hb hr rfl
  obtain ⟨e, a₁, w₁, hq, harr⟩ := h b (.inScope c :: k) cs hro hb hr
  cases e with
  | normal => exact ⟨.normal, a₁, w₁, hq, .head h0 stepR_scope (StepsIn.trans harr (.one (fenced_calm hb hr rfl) stepR_inScope))⟩
  | exit id' =>
    have hx : exitTo id' (.inScope c :: k) = exitTo id' k := by simp [exitTo]
    exact ⟨.exit id', a₁, w₁, hq, fun k' hk => .head h0 stepR_scope (harr.1 k' (by rw [hx]; exact hk)),
      fun hr' hk => let ⟨k₁, h1, h2⟩ := harr.2 hr' (by rw [hx]; exact hk); ⟨k₁, h1, .head h0 stepR_scope h2⟩⟩
  | goto l => exact hq.elim
  | ret => exact ⟨_, a₁, w₁, hq, .of_steps (.one h0 stepR_scope) harr⟩
  | panic ch => exact ⟨_, a₁, w₁, hq, .of_steps (.one h0 stepR_scope) harr⟩
  | outgrown => exact ⟨_, a₁, w₁, hq, .of_steps (.one h0 stepR_scope) harr⟩
end

theorem W_scope {P : Program} {fx : Fx} {s : St} {Q : Exit → St → Prop} {c : Code} (h : W P fx c s fun e s' => match e with | .goto _ => False | e => Q e s') : W P fx (.scope c) s Q := by
  intro m X en ac w hs hr
  refine wpIn_scope_straight (wpIn_mono (h m X en ac w hs hr) ?_)
  rintro e ac' w' ⟨s', m', hq, hs', hst⟩
  cases e with
  | goto l => exact hq.elim
  | _ => exact ⟨s', m', hq, hs', hst⟩

theorem W_cond_const {P : Program} {fx : Fx} {s : St} {Q : Exit → St → Prop} {b : Bool} {x y : Code} (h : W P fx (if b then x else y) s Q) : W P fx (.cond (.const (.bool b)) x y) s Q :=
  fun m X en ac w hs hr => wpIn_cond (t := b) rfl (h m X en ac w hs hr)

inductive IC where
  | scope (a : IC)
  | skip
  | label (l : Nat)
  | exit (i : Nat)
  | ret
  | seq (a b : IC)
  | block (i : Nat) (a : IC)
  | cond (i : Nat) (a b : IC)
  | loop (a : IC)
  | region (is : List Ins)
  | draw (dirs : List (List Nat)) (is : List Ins) (pds : List (List Nat))
  | rangef (g : Opd) (ps : Array Nat) (assign body : Code) (ia ib : IC)

/-- what comes before each operation in every order -/
def pdsOf : List (List Nat) → List (List Nat) → List (List Nat)
  | [], pds => pds
  | d :: ds, pds => pdsOf ds (pds ++ [(d ++ d.flatMap fun e => pds.getD e []).eraseDups])

def dirsOf (ops : Array Oper) : List (List Nat) := (List.range ops.size).map (dirOf ops)
/-- a region in open order, by what stands directly before each operation -/
def IC.dr (dirs : List (List Nat)) (is : List Ins) : IC := .draw dirs is (pdsOf dirs [])

def compC (P : Program) (vars : List Nat) (N : Nat) : Code → Option IC
  | .skip => some .skip
  | .label l => some (.label l)
  | .exit i => some (.exit i)
  | .ret => some .ret
  | .seq a b => (compC P vars N a).bind fun x => (compC P vars N b).map fun y => .seq x y
  | .block i a => (compC P vars N a).map fun x => .block i x
  | .loop a => (compC P vars N a).map fun x => .loop x
  | .scope a => (compC P vars N a).map fun x => .scope x
  | .cond (.const (.bool b)) x y => if b then compC P vars N x else compC P vars N y
  | .cond (.tmp t) a b => (vars.idxOf? t).bind fun i => (compC P vars N a).bind fun x => (compC P vars N b).map fun y => .cond i x y
  | .region _ ops false => (compReg P vars N ops).map .region
  | .region _ ops true => (compReg P vars N ops).map fun is => .draw (dirsOf ops) is (pdsOf (dirsOf ops) [])
  | .rangeFunc g ps assign body => (compC P vars N assign).bind fun ia => (compC P vars N body).map fun ib => .rangef (compOpd vars [] g) ps assign body ia ib
  | _ => none

variable {P : Program} {fx : Fx} {s : St} {Q : Exit → St → Prop}

def DW (P : Program) (fx : Fx) (dirs : List (List Nat)) (is : List Ins) (s : St) (Q : Exit → St → Prop) : Prop :=
  ∀ id ops, dirsOf ops = dirs → compReg P fx.vars fx.N ops = some is → W P fx (.region id ops true) s Q
def IL (P : Program) (fx : Fx) (a : IC) (s : St) (Q : Exit → St → Prop) : Prop :=
  ∀ c, compC P fx.vars fx.N c = some a → WL P fx c s Q
def RW (P : Program) (fx : Fx) (g : Opd) (ps : Array Nat) (assign body : Code) (s : St) (Q : Exit → St → Prop) : Prop :=
  ∃ gf cap, evalO s.vals [] g = .fn (.func gf) cap ∧ s.vals.length ≤ fx.vars.length ∧ (∀ l0, fx.r = some l0 → ∃ r0, s.heap[l0]? = some (.loop r0)) ∧
    AC P gf (.yld s.heap.length :: cap) (s.heap ++ [.loop (newLoop fx s.vals ps assign body)]) fun _ σ' => afterLoop P fx s.vals s.heap.length Q σ'

def IW (P : Program) (fx : Fx) : IC → St → (Exit → St → Prop) → Prop
  | .skip, s, Q => Q .normal s
  | .label _, s, Q => Q .normal s
  | .exit i, s, Q => Q (.exit i) s
  | .ret, s, Q => Q .ret s
  | .seq a b, s, Q => IW P fx a s fun e s' => match e with | .normal => IW P fx b s' Q | e => Q e s'
  | .block i a, s, Q => IW P fx a s fun e s' => match e with | .exit i' => if i' = i then Q .normal s' else Q (.exit i') s' | e => Q e s'
  | .cond i a b, s, Q => ∃ t, s.vals.getD i .undef = .b t ∧ (if t then IW P fx a s Q else IW P fx b s Q)
  | .loop a, s, Q => IL P fx a s Q
  | .scope a, s, Q => IW P fx a s fun e s' => match e with | .goto _ => False | e => Q e s'
  | .region is, s, Q => RG P is s.vals [] s.heap fun vals _ σ => Q .normal ⟨vals, σ⟩
  | .draw dirs is _, s, Q => DW P fx dirs is s Q
  | .rangef g ps assign body _ _, s, Q => RW P fx g ps assign body s Q

theorem IW_sound : ∀ (c : Code) (ic : IC) (s : St) (Q : Exit → St → Prop), compC P fx.vars fx.N c = some ic → IW P fx ic s Q → W P fx c s Q
  | .skip, ic, s, Q, hc, h => by simp only [compC, Option.some.injEq] at hc; subst hc; exact W_skip h
  | .label l, ic, s, Q, hc, h => by simp only [compC, Option.some.injEq] at hc; subst hc; exact W_label h
  | .exit i, ic, s, Q, hc, h => by simp only [compC, Option.some.injEq] at hc; subst hc; exact W_exit h
  | .ret, ic, s, Q, hc, h => by simp only [compC, Option.some.injEq] at hc; subst hc; exact W_ret h
  | .seq a b, ic, s, Q, hc, h => by
    simp only [compC, Option.bind_eq_some_iff, Option.map_eq_some_iff] at hc
    obtain ⟨x, hx, y, hy, rfl⟩ := hc
    refine W_seq ((IW_sound a x s _ hx h).mono ?_)
    intro e s' hq
    cases e with
    | normal => exact IW_sound b y s' Q hy hq
    | _ => exact hq
  | .block i a, ic, s, Q, hc, h => by
    simp only [compC, Option.map_eq_some_iff] at hc
    obtain ⟨x, hx, rfl⟩ := hc
    exact W_block (IW_sound a x s _ hx h)
  | .loop a, ic, s, Q, hc, h => by
    simp only [compC, Option.map_eq_some_iff] at hc
    obtain ⟨x, hx, rfl⟩ := hc
    exact W_loop (h a hx)
  | .scope a, ic, s, Q, hc, h => by
    simp only [compC, Option.map_eq_some_iff] at hc
    obtain ⟨x, hx, rfl⟩ := hc
    exact W_scope (IW_sound a x s _ hx h)
  | .cond (.const v) a b, ic, s, Q, hc, h => by
    cases v <;> simp only [compC, reduceCtorEq] at hc
    rename_i t
    cases t with
    | true => simp only [if_true] at hc; exact W_cond_const (IW_sound a ic s Q hc h)
    | false => simp only [Bool.false_eq_true, if_false] at hc; exact W_cond_const (IW_sound b ic s Q hc h)
  | .cond (.tmp t) a b, ic, s, Q, hc, h => by
    simp only [compC, Option.bind_eq_some_iff, Option.map_eq_some_iff] at hc
    obtain ⟨i, hi, x, hx, y, hy, rfl⟩ := hc
    obtain ⟨b', hb, h⟩ := h
    refine W_cond (idxOf?_some hi) hb ?_
    cases b' with
    | true => exact IW_sound a x s Q hx h
    | false => exact IW_sound b y s Q hy h
  | .region id ops false, ic, s, Q, hc, h => by
    simp only [compC, Option.map_eq_some_iff] at hc
    obtain ⟨is, his, rfl⟩ := hc
    exact W_region his h
  | .region id ops true, ic, s, Q, hc, h => by
    simp only [compC, Option.map_eq_some_iff] at hc
    obtain ⟨is, his, rfl⟩ := hc
    exact h id ops rfl his
  | .rangeFunc g ps assign body, ic, s, Q, hc, h => by
    simp only [compC, Option.bind_eq_some_iff, Option.map_eq_some_iff] at hc
    obtain ⟨ia, h1, ib, h2, rfl⟩ := hc
    obtain ⟨gf, cap, g1, g2, g3, g4⟩ := h
    exact W_rangeFunc rfl g1 g2 g3 g4
  | .cond (.global _) _ _, _, _, _, hc, _ => by simp [compC] at hc
  | .cond (.func _) _ _, _, _, _, hc, _ => by simp [compC] at hc
  | .goto _, _, _, _, hc, _ => by simp [compC] at hc
  | .refuse _, _, _, _, hc, _ => by simp [compC] at hc


/-! ### Loops -/

theorem IL_inv {a : IC} (I : St → Prop) (μ : St → Nat) (h : ∀ s, I s → IW P fx a s fun e s' => match e with | .normal => ∃ s'', Weak fx s' s'' ∧ I s'' ∧ μ s'' < μ s | e => Q e s') (hs : I s) : IL P fx a s Q :=
  fun c hc => WL_inv I μ (fun s' hI => IW_sound c a s' _ hc (h s' hI)) s hs

theorem IL_unroll {a : IC} (h : IW P fx a s fun e s' => match e with | .normal => IL P fx a s' Q | e => Q e s') : IL P fx a s Q :=
  fun c hc => WL_unroll ((IW_sound c a s _ hc h).mono fun e s' hq => by
    cases e with
    | normal => exact hq c hc
    | _ => exact hq)

theorem IL.weak {a : IC} {s' : St} (hw : Weak fx s s') (h : IL P fx a s' Q) : IL P fx a s Q := fun c hc => (h c hc).weak hw

/-! ### Regions in open order -/

def ordOk' (dirs : List (List Nat)) (is : List Ins) (pds : List (List Nat)) (kp : List Nat) : Bool :=
  (List.range dirs.length).all fun j =>
    (dirs.getD j []).all (fun e => decide (e < j)) &&
    (pdAt pds j).all (fun k => decide (k < j) && ((dirs.getD j []).contains k || (dirs.getD j []).any fun e => (pdAt pds e).contains k)) &&
    match is[j]? with
    | none => true
    | some i => insCl i && i.args.all (fun | .t k => (pdAt pds j).contains k | _ => true) && (match i.gd with | some (k, _) => (pdAt pds j).contains k | none => true) &&
      (List.range dirs.length).all fun k =>
        match is[k]? with
        | none => true
        | some i' => decide (j = k) || (pdAt pds j).contains k || (pdAt pds k).contains j ||
            ((match i'.dst with | some x => !readsVar x i | none => true) && !(decide (kindI kp k i' = 2) && decide (kindI kp j i ≠ 0)))

theorem ordOk_of {ops : Array Oper} {is : List Ins} {pds : List (List Nat)} {kp : List Nat} (h : ordOk' (dirsOf ops) is pds kp = true) : ordOk ops is pds kp = true := by
  have hl : (dirsOf ops).length = ops.size := by simp [dirsOf]
  have hg : ∀ j, j < ops.size → (dirsOf ops).getD j [] = dirOf ops j := fun j hj => by simp [dirsOf, List.getD, hj]
  unfold ordOk' at h
  unfold ordOk
  rw [hl] at h
  rw [List.all_eq_true] at h ⊢
  intro j hj
  have hj' : j < ops.size := by simpa using hj
  have := h j hj
  rw [hg j hj'] at this
  exact this

theorem DW_ord {dirs : List (List Nat)} {is : List Ins} (pds : List (List Nat)) (kp : List Nat) (hmix : P.follows .mixedOrders = true) (hord : ordOk' dirs is pds kp = true) (hvl : s.vals.length = fx.vars.length)
    (h : RP P kp 0 is s.vals [] s.heap fun vals _ σ => Q .normal ⟨vals, σ⟩) : DW P fx dirs is s Q := by
  rintro id ops rfl hc
  exact W_region_ord pds kp hmix hc (ordOk_of hord) hvl h

/-! ### Functions -/

theorem AC_IW {f : FuncId} {fn : Func} {c : Code} {ic : IC} {args : List AV} {σ : List AObj} {Q : AV → List AObj → Prop} (vars : List Nat) (hf : P.funcs[f]? = some fn) (hb : fn.body = some c) (hn : (fn.name == "runtime.NumGoroutine") = false) (hargs : args.length ≤ fn.ntmps)
    (hc : compC P vars fn.ntmps c = some ic)
    (h : IW P ⟨vars, fn.ntmps, none, σ.length⟩ ic ⟨initVals vars args, σ⟩ fun e s' => match e with
      | .normal | .ret => ∃ r, resAll P vars s'.vals s'.heap fn.results.toList = some r ∧ Q r s'.heap
      | _ => False) : AC P f args σ Q :=
  AC_of_body hf hb (Enter_of hf hn hb) hargs (IW_sound (fx := ⟨vars, fn.ntmps, none, σ.length⟩) c ic _ _ hc h)

/-- bytes, for compiled code -/
def bts (l : List Nat) : ByteArray := ⟨(l.map UInt8.ofNat).toArray⟩

/-- the part of a code at a place -/
def nav : List Nat → Code → Code
  | [], c => c
  | 0 :: p, .seq a _ => nav p a
  | 1 :: p, .seq _ b => nav p b
  | 0 :: p, .cond _ a _ => nav p a
  | 1 :: p, .cond _ _ b => nav p b
  | 0 :: p, .block _ a => nav p a
  | 0 :: p, .loop a => nav p a
  | 0 :: p, .scope a => nav p a
  | 2 :: p, .rangeFunc _ _ a _ => nav p a
  | 3 :: p, .rangeFunc _ _ _ b => nav p b
  | _, _ => .skip


end Go.Proofs.Ytphdemhopihpnaa.AM


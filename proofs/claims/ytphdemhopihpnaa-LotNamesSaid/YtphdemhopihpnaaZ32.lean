/- Parts of the proof, joined: AmEc to AmEc. -/
import Derived.Test.YtphdemhopihpnaaZ31

namespace Go.Proofs.Ytphdemhopihpnaa.AM
open Go
set_option linter.unusedVariables false
set_option linter.unusedSimpArgs false

section
variable {P : Program} {T : Tb} {call : Env → CallE}

theorem EnvOk.nil (σ : List AObj) : EnvOk P [] σ := fun l le h => by simp [envGet] at h

theorem cut_AC' {f : FuncId} {args : List AV} {σ σ' : List AObj} {r : AV} (h : AC P f args σ (fun v τ => v = r ∧ τ = σ')) (hk : LoopKeep σ σ') : AC P f args σ (fun v τ => v = r ∧ τ = cutF σ.length r σ') ∧ LoopKeep σ (cutF σ.length r σ') := by
  rcases Nat.lt_or_ge σ'.length σ.length with hlt | hge
  · have : cutF σ.length r σ' = σ' := by
      unfold cutF
      rw [List.take_of_length_le (by omega)]
      split <;> rfl
    rw [this]; exact ⟨h, hk⟩
  · exact cut_AC h hk hge

theorem cvEq_sound : ∀ (n : Nat), (∀ a b : CV, SizeOf.sizeOf a ≤ n → cvEq a b = true → a = b) ∧ (∀ as_ bs : List CV, SizeOf.sizeOf as_ ≤ n → cvsEq as_ bs = true → as_ = bs)
  | 0 => ⟨fun a b h => by cases a <;> simp at h, fun as_ bs h => by cases as_ <;> simp at h⟩
  | n + 1 => by
    obtain ⟨ih1, ih2⟩ := cvEq_sound n
    refine ⟨fun a b hn h => ?_, fun as_ bs hn h => ?_⟩
    · cases a <;> cases b <;> simp only [cvEq, Bool.false_eq_true, Bool.and_eq_true, decide_eq_true_eq, beq_iff_eq] at h
      · rw [h.1, h.2]
      · rw [h]
      · rw [h]
      · rfl
      · rfl
      · rfl
      · rfl
      · rfl
      · rw [Nat.eq_of_beq_eq_true h.1, ih2 _ _ (by simp at hn; omega) h.2]
      · rw [Nat.eq_of_beq_eq_true h.1, ih2 _ _ (by simp at hn; omega) h.2]
    · cases as_ <;> cases bs <;> simp only [cvsEq, Bool.false_eq_true, Bool.and_eq_true] at h
      · rfl
      · rw [ih1 _ _ (by simp at hn; omega) h.1, ih2 _ _ (by simp at hn; omega) h.2]

theorem aEq_sound : ∀ (n : Nat), (∀ a b : AV, SizeOf.sizeOf a ≤ n → aEq a b = true → a = b) ∧ (∀ as_ bs : List AV, SizeOf.sizeOf as_ ≤ n → asEq as_ bs = true → as_ = bs)
  | 0 => ⟨fun a b h => by cases a <;> simp at h, fun as_ bs h => by cases as_ <;> simp at h⟩
  | n + 1 => by
    obtain ⟨ih1, ih2⟩ := aEq_sound n
    refine ⟨fun a b hn h => ?_, fun as_ bs hn h => ?_⟩
    · cases a <;> cases b <;> simp only [aEq, Bool.false_eq_true, reduceCtorEq] at h
      · rw [(cvEq_sound _).1 _ _ (Nat.le_refl _) h]
      · rw [ih2 _ _ (by simp at hn; omega) h]
    · cases as_ <;> cases bs <;> simp only [asEq, Bool.false_eq_true, Bool.and_eq_true, reduceCtorEq] at h
      · rfl
      · rw [ih1 _ _ (by simp at hn; omega) h.1, ih2 _ _ (by simp at hn; omega) h.2]

def KnOk (P : Program) : Kn → Prop
  | [] => True
  | (f, as_, v) :: ks => (locsIn 0 v = true ∧ ∀ σ, AC P f as_ σ fun r τ => r = v ∧ τ = σ) ∧ KnOk P ks

theorem KnOk.get {P : Program} : ∀ {ks : Kn}, KnOk P ks → ∀ f as_ v, knGet ks f as_ = some v → locsIn 0 v = true ∧ ∀ σ, AC P f as_ σ fun r τ => r = v ∧ τ = σ
  | [], _, f, as_, v, h => by simp [knGet] at h
  | (g, bs, u) :: ks, hok, f, as_, v, h => by
    simp only [knGet] at h
    split at h
    · rename_i hk
      cases h
      simp only [Bool.and_eq_true] at hk
      rw [← Nat.eq_of_beq_eq_true hk.1, ← (aEq_sound _).2 _ _ (Nat.le_refl _) hk.2]
      exact hok.1
    · exact KnOk.get hok.2 f as_ v h

structure TbOk (P : Program) (T : Tb) : Prop where
  t : ∀ f fe, T.T f = some fe → FnOk P f fe
  k : KnOk P T.K

theorem runCall_sound (hmix : P.follows .mixedOrders = true) (hT : TbOk P T) (hc : ∀ E, CallSound P E (call E)) (lf : Nat) {E : Env} {f : FuncId} {args : List AV} {σ σ' : List AObj} {k : Bool} {v : AV} (hE : EnvOk P E σ)
    (h : runCall T call lf E f args σ = some (k, v, σ')) : AC P f args σ (fun v' τ => v' = v ∧ τ = σ') ∧ LoopKeep σ σ' ∧ (k = true → σ' = σ ∧ locsIn 0 v = true) := by
  unfold runCall rKn at h
  split at h
  · rename_i v0 hkn
    simp only [Option.some.injEq, Prod.mk.injEq] at h
    obtain ⟨rfl, rfl, rfl⟩ := h
    obtain ⟨h1, h2⟩ := hT.k.get _ _ _ hkn
    exact ⟨h2 σ, .refl _, fun _ => ⟨rfl, h1⟩⟩
  unfold rFe at h
  split at h
  · cases h
  rename_i fe hfe
  have hfo := hT.t f fe hfe
  by_cases hp : (fe.pure && locsInAll 0 args) = true
  · rw [if_pos hp] at h
    simp only [Bool.and_eq_true] at hp
    unfold rFrz at h
    split at h
    rotate_left
    · cases h
    rename_i r τ hr
    unfold rFrz2 at h
    split at h
    rotate_left
    · cases h
    rename_i v0 hv0
    split at h
    rotate_left
    · cases h
    rename_i hl0
    simp only [Option.some.injEq, Prod.mk.injEq] at h
    obtain ⟨rfl, rfl, rfl⟩ := h
    obtain ⟨g1, g2⟩ := runF_sound hmix hc lf hfo (.nil []) hr
    refine ⟨?_, .refl _, fun _ => ⟨rfl, hl0⟩⟩
    refine AC.pure hp.2 g1 ?_ σ
    rintro v' τ' ⟨rfl, rfl⟩
    exact ⟨v0, frzVF_sound 8 _ _ hv0, rfl⟩
  · rw [if_neg hp] at h
    unfold rCut at h
    split at h
    rotate_left
    · cases h
    rename_i r τ hr
    simp only [Option.some.injEq, Prod.mk.injEq] at h
    obtain ⟨rfl, rfl, rfl⟩ := h
    obtain ⟨g1, g2⟩ := runF_sound hmix hc lf hfo hE hr
    obtain ⟨g3, g4⟩ := cut_AC' g1 g2
    exact ⟨g3, g4, fun hk => by cases hk⟩

theorem runY_sound (hmix : P.follows .mixedOrders = true) (hc : ∀ E, CallSound P E (call E)) (lf : Nat) {E : Env} {l : Nat} {args : List AV} {σ σ' : List AObj} {k : Bool} {v : AV} (hE : EnvOk P E σ)
    (h : runY call lf E l args σ = some (k, v, σ')) : YC P l args σ (fun v' τ => v' = v ∧ τ = σ') ∧ LoopKeep σ σ' ∧ (k = true → σ' = σ ∧ locsIn 0 v = true) := by
  unfold runY yGo at h
  split at h
  rotate_left
  · cases h
  rename_i le r hle hr
  have hr := loopAt_some hr
  obtain ⟨r', h0, h1, h2, h3, h4, h5, h6, h7, h8⟩ := hE l le hle
  rw [hr] at h0; cases h0
  have ready : ∀ st : LoopState, isReady st = true → st = .ready := fun st h => by cases st <;> simp_all [isReady]
  split at h
  rotate_left
  · cases h
  rename_i hchk
  simp only [Bool.and_eq_true] at hchk
  have hst := ready _ hchk.1
  have hlen := Nat.eq_of_beq_eq_true hchk.2
  unfold yAss at h
  split at h
  rotate_left
  · cases h
  rename_i s1 hs1
  obtain ⟨k1, k2⟩ := runI_sound hmix hc lf r.assign E ⟨le.vars, le.N, some l, σ.length⟩ le.ia _ _ _ h4 hE hs1
  unfold yBody at h
  split at h
  rotate_left
  · cases h
  rename_i r1 hr1
  have hr1 := loopAt_some hr1
  split at h
  rotate_left
  · cases h
  rename_i hst1
  have hst1 := ready _ hst1
  have hkl := LoopKeep.setLoop hr1 .busy r1.pending
  have fin : ∀ (e : Exit) (s2 : St) (r2 : ALoop), runI call lf le.ib E ⟨le.vars, le.N, some l, σ.length⟩ ⟨s1.vals, setLoop s1.heap l r1 .busy r1.pending⟩ = some (e, s2) → (∀ x, e ≠ .panic x) → e ≠ .outgrown → loopAt s2.heap l = some r2 →
      (k, v, σ') = (false, .b (noneB (jumpOf e)), setLoop s2.heap l r2 (if noneB (jumpOf e) then .ready else .done) (jumpOf e)) →
      YC P l args σ (fun v' τ => v' = v ∧ τ = σ') ∧ LoopKeep σ σ' ∧ (k = true → σ' = σ ∧ locsIn 0 v = true) := by
    intro e s2 r2 hrun hnp hno hr2 heq
    have hr2 := loopAt_some hr2
    simp only [Prod.mk.injEq] at heq
    obtain ⟨rfl, rfl, rfl⟩ := heq
    obtain ⟨k3, k4⟩ := runI_sound hmix hc lf r.body E ⟨le.vars, le.N, some l, σ.length⟩ le.ib _ _ _ h5 (hE.keep (k1.trans hkl)) hrun
    refine ⟨?_, ((k1.trans hkl).trans k3).trans (.setLoop hr2 _ _), fun hk => by cases hk⟩
    refine YC_of_round hr hst (by rw [h3]; exact hlen) (by rw [h1]; exact h6) (by rw [h1, h3]; exact h7) (by rw [h2, h3]; exact h8) ?_
    rw [h1, h2, h3]
    refine k2 _ ?_
    refine ⟨r1, hr1, hst1, ?_⟩
    refine k4 _ ?_
    cases e with
    | panic x => exact absurd rfl (hnp x)
    | outgrown => exact absurd rfl hno
    | _ => exact ⟨r2, hr2, by simp only [noneB_iff], by simp only [noneB_iff]⟩
  unfold yRes at h
  split at h
  · cases h
  · cases h
  · cases h
  · rename_i e s2 hn1 hn2 hs2
    unfold yEnd at h
    split at h
    rotate_left
    · cases h
    rename_i r2 hr2
    simp only [Option.some.injEq] at h
    exact fin e s2 r2 hs2 (fun x hx => hn1 x hx) (fun hx => hn2 hx) hr2 h.symm

theorem callD_sound (hmix : P.follows .mixedOrders = true) (hT : TbOk P T) (lf : Nat) : ∀ (d : Nat) (E : Env), CallSound P E (callD T lf d E)
  | 0, E, fv, as_, σ, k, v, σ', hE, h => by simp [callD] at h
  | d + 1, E, fv, as_, σ, k, v, σ', hE, h => by
    have hc := callD_sound hmix hT lf d
    simp only [callD] at h
    split at h
    · exact runCall_sound hmix hT hc lf hE h
    · exact runCall_sound hmix hT hc lf hE h
    · exact runY_sound hmix hc lf hE h
    · cases h

/-- A closed call: what the evaluator answers, in any heap. -/
theorem AC_run (hmix : P.follows .mixedOrders = true) (hT : TbOk P T) (lf d : Nat) {f : FuncId} {args : List AV} {v : AV} (h : runCall T (callD T lf d) lf [] f args [] = some (true, v, [])) (hcl : locsInAll 0 args = true) (σ : List AObj) :
    AC P f args σ fun r τ => r = v ∧ τ = σ := by
  obtain ⟨g1, g2, g3⟩ := runCall_sound hmix hT (callD_sound hmix hT lf d) lf (.nil []) h
  obtain ⟨_, hl⟩ := g3 rfl
  refine AC.pure hcl g1 ?_ σ
  rintro r τ ⟨rfl, rfl⟩
  refine ⟨r, ?_, rfl⟩
  exact frz_refl (k := 0) r hl

end

/-- the entries of a table, each of them checked -/
def TOk (P : Program) : List (Nat × FE) → Prop
  | [] => True
  | (f, fe) :: es => FnOk P f fe ∧ TOk P es

def tget : List (Nat × FE) → Nat → Option FE
  | [], _ => none
  | (k, e) :: es, f => if Nat.beq k f then some e else tget es f

theorem TOk.get {P : Program} : ∀ {es : List (Nat × FE)}, TOk P es → ∀ f fe, tget es f = some fe → FnOk P f fe
  | [], _, f, fe, h => by simp [tget] at h
  | (k, e) :: es, hok, f, fe, h => by
    simp only [tget] at h
    split at h
    · rename_i hk
      cases h
      rw [← Nat.eq_of_beq_eq_true hk]; exact hok.1
    · exact TOk.get hok.2 f fe h

theorem FnOk.mk' {P : Program} {f : FuncId} {fn : Func} {c : Code} {vars : List Nat} {N : Nat} {ic : IC} {res : List RC} {pure : Bool} (h1 : P.funcs[f]? = some fn) (h2 : fn.body = some c) (h3 : (fn.name == "runtime.NumGoroutine") = false) (h5 : compC P vars fn.ntmps c = some ic)
    (h6 : mapO (compRes P vars) fn.results.toList = some res) (h4 : fn.ntmps = N) : FnOk P f ⟨ic, vars, N, res, pure⟩ := ⟨fn, c, h1, h2, h3, h4, h5, h6⟩

theorem FnOk.mk2 {P : Program} {f : FuncId} {fn : Func} {vars : List Nat} {N : Nat} {ic : IC} {res : List RC} {pure : Bool} (h1 : P.funcs[f]? = some fn) (h2 : fn.body.isSome = true) (h3 : (fn.name == "runtime.NumGoroutine") = false)
    (h5 : compC P vars fn.ntmps (fn.body.getD .skip) = some ic) (h6 : mapO (compRes P vars) fn.results.toList = some res) (h4 : fn.ntmps = N) : FnOk P f ⟨ic, vars, N, res, pure⟩ := by
  cases hb : fn.body with
  | none => rw [hb] at h2; cases h2
  | some c => rw [hb] at h5; exact FnOk.mk' h1 hb h3 h5 h6 h4

/-! Instructions in short words -/
def jS : Opd := .c (.cv .nils)
def jB (b : Bool) : Opd := .c (.cv (.bool b))
def jn (z : Int) : Opd := .c (.cv (.int .i64 z))
def jq (o : IOp) (a : List Opd) : Ins := ⟨none, none, .prim o, a⟩
def jw (d : Nat) (o : IOp) (a : List Opd) : Ins := ⟨some d, none, .prim o, a⟩
def jg (n : Nat) (b : Bool) (o : IOp) (a : List Opd) : Ins := ⟨none, some (n, b), .prim o, a⟩
def jk (f : Nat) (a : List Opd) : Ins := ⟨none, none, .call, .c (.fn (.func f) []) :: a⟩
def jd (d f : Nat) (a : List Opd) : Ins := ⟨some d, none, .call, .c (.fn (.func f) []) :: a⟩
def jf (n : Nat) (b : Bool) (f : Nat) (a : List Opd) : Ins := ⟨none, some (n, b), .call, .c (.fn (.func f) []) :: a⟩
def jv (n : Nat) : Ins := ⟨none, none, .prim .mv, [.v n]⟩
def jt (n : Nat) : Ins := ⟨none, none, .prim .mv, [.t n]⟩
def jl (n : Nat) : Ins := ⟨none, none, .prim .load1, [.t n]⟩
def jL (n : Nat) : Ins := ⟨none, none, .prim .load1, [.v n]⟩
def je (n : Nat) : Ins := ⟨none, none, .prim (.len false), [.t n]⟩
def jc (n : Nat) : Ins := ⟨none, none, .prim .nilck, [.t n]⟩
def ja (e a b : Nat) : Ins := ⟨none, none, .prim (.iaS e), [.t a, .t b]⟩
def jF (k n : Nat) : Ins := ⟨none, none, .prim (.fadd k), [.v n]⟩
def jG (k n : Nat) : Ins := ⟨none, none, .prim (.fadd k), [.t n]⟩
def jx (k n : Nat) : Ins := ⟨none, none, .prim (.extract k), [.t n]⟩
def jN (k n : Nat) : Ins := ⟨none, none, .prim (.loadN k), [.v n]⟩
def jm (d n : Nat) : Ins := ⟨some d, none, .prim .mv, [.t n]⟩
def jz (d : Nat) (z : Int) : Ins := ⟨some d, none, .prim .mv, [.c (.cv (.int .i64 z))]⟩
def jb (d n : Nat) : Ins := ⟨some d, none, .prim .box, [.v n]⟩
def jh (n : Nat) (b : Bool) (m : Nat) : Ins := ⟨none, some (n, b), .prim .mv, [.v m]⟩
def ji (n : Nat) (b : Bool) (m : Nat) : Ins := ⟨none, some (n, b), .prim .load1, [.t m]⟩

end Go.Proofs.Ytphdemhopihpnaa.AM


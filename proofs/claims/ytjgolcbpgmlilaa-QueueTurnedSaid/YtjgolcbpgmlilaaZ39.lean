/- Parts of the proof, joined: AmYf to AmYf. -/
import Derived.Test.YtjgolcbpgmlilaaZ38

namespace Go.Proofs.Ytjgolcbpgmlilaa.AM
open Go
set_option linter.unusedVariables false
set_option linter.unusedSimpArgs false

variable {P : Program} {fx : Fx}

/-- what is to be proved of any code that is compiled to ic -/
def SW (P : Program) (fx : Fx) (ic : IC) (s : St) (Q : Exit → St → Prop) : Prop := ∀ c, compC P fx.vars fx.N c = some ic → W P fx c s Q

theorem SW_of {ic : IC} {s : St} {Q : Exit → St → Prop} (h : IS P fx ic s Q .mk .mk) : SW P fx ic s Q := fun c hc => IW_sound c ic s Q hc (IS_sound ic s Q _ _ h)
theorem SW.weak {ic : IC} {s s' : St} {Q : Exit → St → Prop} (hw : Weak fx s s') (h : SW P fx ic s' Q) : SW P fx ic s Q := fun c hc => (h c hc).weak hw

def kSW (P : Program) (fx : Fx) (b : IC) (Q : Exit → St → Prop) : Exit → St → Prop := fun e s' => match e with | .normal => SW P fx b s' Q | e => Q e s'
theorem kSW_n {b : IC} {Q : Exit → St → Prop} {s : St} : kSW P fx b Q .normal s = SW P fx b s Q := Eq.trans rfl rfl
theorem kSW_x {b : IC} {Q : Exit → St → Prop} {s : St} {i : Nat} : kSW P fx b Q (.exit i) s = Q (.exit i) s := Eq.trans rfl rfl
theorem kSW_r {b : IC} {Q : Exit → St → Prop} {s : St} : kSW P fx b Q .ret s = Q .ret s := Eq.trans rfl rfl

theorem SW_seq {a b : IC} {s : St} {Q : Exit → St → Prop} (h : IS P fx a s (kSW P fx b Q) .mk .mk) : SW P fx (.seq a b) s Q := by
  have h := IS_sound a s _ _ _ h
  intro c
  induction c with
  | seq x y _ _ =>
    intro hc
    simp only [compC, Option.bind_eq_some_iff, Option.map_eq_some_iff] at hc
    obtain ⟨x', hx, y', hy, he⟩ := hc
    cases he
    refine W_seq ((IW_sound x a s _ hx h).mono ?_)
    intro e s' hq
    cases e with
    | normal => exact hq y hy
    | _ => exact hq
  | cond o x y ihx ihy =>
    intro hc
    cases o with
    | const v =>
      cases v <;> simp only [compC, reduceCtorEq] at hc
      rename_i t
      cases t with
      | true => simp only [if_true] at hc; exact W_cond_const (ihx hc)
      | false => simp only [Bool.false_eq_true, if_false] at hc; exact W_cond_const (ihy hc)
    | tmp t =>
      simp only [compC, Option.bind_eq_some_iff, Option.map_eq_some_iff] at hc
      obtain ⟨_, _, _, _, _, _, he⟩ := hc
      cases he
    | global g => simp [compC] at hc
    | func f => simp [compC] at hc
  | region id ops dr =>
    intro hc
    cases dr <;> simp [compC] at hc
  | rangeFunc g ps assign body _ _ =>
    intro hc
    simp only [compC, Option.bind_eq_some_iff, Option.map_eq_some_iff] at hc
    obtain ⟨_, _, _, _, he⟩ := hc
    cases he
  | skip => intro hc; simp [compC] at hc
  | label l => intro hc; simp [compC] at hc
  | exit i => intro hc; simp [compC] at hc
  | ret => intro hc; simp [compC] at hc
  | block i a _ => intro hc; simp [compC] at hc
  | loop a _ => intro hc; simp [compC] at hc
  | scope a _ => intro hc; simp [compC] at hc
  | goto l => intro hc; simp [compC] at hc
  | refuse r => intro hc; simp [compC] at hc

theorem AC_SW {f : FuncId} {ic : IC} {vars : List Nat} {N : Nat} {res : List RC} {p : Bool} {args : List AV} {σ : List AObj} {Q : AV → List AObj → Prop} (hf : FnOk P f ⟨ic, vars, N, res, p⟩) (hargs : args.length ≤ N)
    (h : SW P ⟨vars, N, none, σ.length⟩ ic ⟨initVals vars args, σ⟩ (kEnd res Q)) : AC P f args σ Q := by
  obtain ⟨fn, c, h1, h2, h3, h4, h5, h6⟩ := hf.ok
  dsimp only at h4 h5 h6
  subst h4
  have hr : ∀ vals heap, resAll P vars vals heap fn.results.toList = resEs vals heap res := fun vals heap => resEs_eq h6
  refine AC_of_body h1 h2 (Enter_of h1 h3 h2) hargs ((h c h5).mono ?_)
  intro e s' h'
  have key : rK (resEs s'.vals s'.heap res) (fun r => Q r s'.heap) .mk → ∃ r, resAll P vars s'.vals s'.heap fn.results.toList = some r ∧ Q r s'.heap := by
    intro h'
    unfold rK at h'
    split at h'
    · exact h'.elim
    · rename_i v hv; exact ⟨v, by rw [hr]; exact hv, h'⟩
  cases e with
  | normal => exact key h'
  | ret => exact key h'
  | _ => exact h'.elim

/-- values read as closed, one by one -/
theorem FrzVs.get {p : CV → Prop} {σ : List AObj} : ∀ {as_ bs : List AV}, FrzVs p σ as_ bs → ∀ i, FrzV p σ (as_.getD i .undef) (bs.getD i .undef)
  | _, _, .nil, i => by simpa [List.getD] using FrzV.un _
  | _, _, .cons h _, 0 => by simpa [List.getD] using h
  | _, _, .cons _ h, i + 1 => by simpa [List.getD] using h.get i

theorem SW.freeze {ic : IC} {vals vals' : List AV} {σ : List AObj} {Q : Exit → St → Prop} (h0 : fx.n0 = 0) (hv : FrzVs anyC σ vals vals') (h : SW P fx ic ⟨vals', []⟩ Q) : SW P fx ic ⟨vals, σ⟩ Q :=
  h.weak (Weak.freeze h0 hv.get)

end Go.Proofs.Ytjgolcbpgmlilaa.AM


/- Parts of the proof, joined: AmD to AmD. -/
import Derived.Laws.CopyRow
import Derived.Laws.Entries
import Derived.Test.YtphdemhopihpnaaZ3

namespace Go.Proofs.Ytphdemhopihpnaa.AM
open Go
set_option linter.unusedVariables false
set_option linter.unusedSimpArgs false

/-- What 'carried out as the abstract reading says' means: the model's operation goes through; its value is the abstract one's; the memory behind it is the abstract heap's. -/
def Sound (P : Program) (s : Sem Next) (m : LM) (X : Nat → Prop) (σ : List AObj) (w : World) (r : AV) (σ' : List AObj) : Prop :=
  ∃ nx w' m', s.run P w = .ok nx w' ∧ ((∃ v, nx = .value v ∧ VRel m' X w' r v) ∨ (nx = .skip ∧ r = .undef)) ∧ HRel m' X σ' w' ∧ Step σ.length m X w m' w'

variable {P : Program} {m : LM} {X : Nat → Prop} {σ : List AObj} {w : World}

theorem sound_pure {s : Sem Next} {r : AV} {v : Value} (h : HRel m X σ w) (hs : s.run P w = .ok (.value v) w) (hr : VRel m X w r v) : Sound P s m X σ w r σ :=
  ⟨_, w, m, hs, .inl ⟨v, rfl, hr⟩, h, Step.refl _ _ _ _⟩

theorem VRel.int {k : IntKind} {n : Int} {v : Value} (h : VRel m X w (.cv (.int k n)) v) : v = .int k n := by simpa [VRel, CV.rep] using h
theorem VRel.bool {b : Bool} {v : Value} (h : VRel m X w (.cv (.bool b)) v) : v = .bool b := by simpa [VRel, CV.rep] using h
theorem VRel.str {s : ByteArray} {v : Value} (h : VRel m X w (.cv (.str s)) v) : v = .string s := by simpa [VRel, CV.rep] using h
theorem VRel.nilp {v : Value} (h : VRel m X w (.cv .nilp) v) : v = .pointer none := by simpa [VRel, CV.rep] using h
theorem VRel.nils {v : Value} (h : VRel m X w (.cv .nils) v) : v = .slice none 0 0 := by simpa [VRel, CV.rep] using h
theorem VRel.nilf {v : Value} (h : VRel m X w (.cv .nilf) v) : v = .nilFunc := by simpa [VRel, CV.rep] using h
theorem VRel.mk_int (k : IntKind) (n : Int) : VRel m X w (.cv (.int k n)) (.int k n) := by simp [VRel, CV.rep]
theorem VRel.mk_bool (b : Bool) : VRel m X w (.cv (.bool b)) (.bool b) := by simp [VRel, CV.rep]
theorem VRel.mk_str (s : ByteArray) : VRel m X w (.cv (.str s)) (.string s) := by simp [VRel, CV.rep]

theorem VRels.one {a : AV} {vs : List Value} (h : VRels m X w [a] vs) : ∃ v, vs = [v] ∧ VRel m X w a v := by
  cases vs with
  | nil => simp [VRels] at h
  | cons v vs => cases vs with
    | nil => simp only [VRels] at h; exact ⟨v, rfl, h.1⟩
    | cons => simp [VRels] at h
theorem VRels.cons {a : AV} {as : List AV} {vs : List Value} (h : VRels m X w (a :: as) vs) : ∃ v us, vs = v :: us ∧ VRel m X w a v ∧ VRels m X w as us := by
  cases vs with
  | nil => simp [VRels] at h
  | cons v vs => simp only [VRels] at h; exact ⟨v, vs, rfl, h.1, h.2⟩
theorem VRels.nil' {vs : List Value} (h : VRels m X w [] vs) : vs = [] := by
  cases vs with
  | nil => rfl
  | cons => simp [VRels] at h

/-! ### Integers, bools, strings -/

theorem binI_sound {op : BinOp} {k : IntKind} {x y : Int} {r : AV} (hop : isShift op = false) (h : binI op k x y = some r) {t : TypeId} :
    ∃ v, (Go.binOp op t (.int k x) (.int k y)).run P w = .ok v w ∧ VRel m X w r v := by
  cases op <;> simp only [binI, isShift, Bool.false_eq_true, reduceCtorEq] at h hop <;>
    (first
      | (obtain rfl := Option.some.inj h; refine ⟨_, by simp [Go.binOp, Op.intArith, Op.intBits, Op.intCmp]; rfl, by simp [VRel, CV.rep]⟩)
      | (split at h <;> first | (cases h; done) | (obtain rfl := Option.some.inj h; rename_i hy; refine ⟨_, by simp [Go.binOp, Op.intDiv, hy]; rfl, by simp [VRel, CV.rep]⟩)))

theorem shiftI_sound {op : BinOp} {k k' : IntKind} {x y : Int} {r : AV} (hop : isShift op = true) (h : shiftI op k x y = some r) {t : TypeId} :
    ∃ v, (Go.binOp op t (.int k x) (.int k' y)).run P w = .ok v w ∧ VRel m X w r v := by
  unfold shiftI at h
  split at h
  · cases h
  · rename_i hy
    cases op <;> simp only [isShift, Bool.false_eq_true, reduceCtorEq] at h hop <;>
      (obtain rfl := Option.some.inj h; refine ⟨_, by simp [Go.binOp, Op.shift, hy]; rfl, by simp [VRel, CV.rep]⟩)

theorem binS_sound {op : BinOp} {x y : ByteArray} {r : AV} (h : binS op x y = some r) {t : TypeId} :
    ∃ v, (Go.binOp op t (.string x) (.string y)).run P w = .ok v w ∧ VRel m X w r v := by
  cases op <;> simp only [binS, reduceCtorEq] at h <;>
    (first
      | (obtain rfl := Option.some.inj h; refine ⟨_, by simp [Go.binOp, Op.stringOp]; rfl, by simp [VRel, CV.rep]⟩)
      | (split at h <;> first | (cases h; done) | (obtain rfl := Option.some.inj h; rename_i hy; refine ⟨_, by simp [Go.binOp, Op.stringOp]; rw [if_neg (by simp [IntKind.max, IntKind.signed, IntKind.bits]; omega)], by simp [VRel, CV.rep]⟩)))

theorem run_eqGuard_int {op : BinOp} {t : TypeId} {xo yo : Operand} {k k' : IntKind} {x y : Int} : (eqGuard op t xo yo (.int k x) (.int k' y)).run P w = .ok () w := by
  cases op <;> simp [eqGuard]
theorem run_eqGuard_bool {op : BinOp} {t : TypeId} {xo yo : Operand} {x y : Bool} : (eqGuard op t xo yo (.bool x) (.bool y)).run P w = .ok () w := by
  cases op <;> simp [eqGuard]
theorem run_eqGuard_str {op : BinOp} {t : TypeId} {xo yo : Operand} {x y : ByteArray} : (eqGuard op t xo yo (.string x) (.string y)).run P w = .ok () w := by
  cases op <;> simp [eqGuard]
theorem run_eqGuard_ptr {op : BinOp} {t : TypeId} {xo yo : Operand} {x y : Option Addr} : (eqGuard op t xo yo (.pointer x) (.pointer y)).run P w = .ok () w := by
  cases op <;> simp [eqGuard]
theorem run_eqGuard_slc {op : BinOp} {t : TypeId} {xo yo : Operand} {a b : Option Addr} {l c l' c' : Nat} : (eqGuard op t xo yo (.slice a l c) (.slice b l' c')).run P w = .ok () w := by
  cases op <;> simp [eqGuard]
theorem run_eqGuard_fn {op : BinOp} {t : TypeId} {xo yo : Operand} {f : Fn} {a b : Array Value} : (eqGuard op t xo yo (.func f a b) .nilFunc).run P w = .ok () w := by
  cases op <;> simp [eqGuard]


theorem run_equal_bool {t : TypeId} (hu : P.underlying t = some .bool) (a b : Bool) : (Op.equal t (.bool a) (.bool b)).run P w = .ok (a == b) w := by
  show (Op.equalIn (9999 + 1) t _ _).run P w = _
  rw [Op.equalIn]; simp only [Sem.run_bind, run_underlying hu, Result.andThen_ok, Sem.run_pure]
theorem run_equal_nilp {t e : TypeId} (hu : P.underlying t = some (.pointer e)) (b : Option Addr) : (Op.equal t (.pointer b) (.pointer none)).run P w = .ok b.isNone w := by
  show (Op.equalIn (9999 + 1) t _ _).run P w = _
  cases b <;> (rw [Op.equalIn]; simp only [Sem.run_bind, run_underlying hu, Result.andThen_ok, Sem.run_pure, Option.isNone])
theorem run_equal_nils {t e : TypeId} (hu : P.underlying t = some (.slice e)) (b : Option Addr) (l c l' c' : Nat) : (Op.equal t (.slice b l c) (.slice none l' c')).run P w = .ok b.isNone w := by
  show (Op.equalIn (9999 + 1) t _ _).run P w = _
  cases b <;> (rw [Op.equalIn]; simp only [Sem.run_bind, run_underlying hu, Result.andThen_ok, Sem.run_pure, Option.isNone])
theorem run_equal_nilf {t : TypeId} {e e2 : Array TypeId} {e3 : Bool} (hu : P.underlying t = some (.func e e2 e3)) (f : Fn) (a b : Array Value) : (Op.equal t (.func f a b) .nilFunc).run P w = .ok false w := by
  show (Op.equalIn (9999 + 1) t _ _).run P w = _
  rw [Op.equalIn]; simp only [Sem.run_bind, run_underlying hu, Result.andThen_ok, Sem.run_pure]

theorem binF_sound {op : BinOp} {t : TypeId} {tk : TK} {a b r : AV} {x y : Value} {xo yo : Operand} (ht : tkOf P t = some tk) (hx : VRel m X w a x) (hy : VRel m X w b y) (h : binF op tk a b = some r) :
    ∃ v, (do eqGuard op t xo yo x y; Go.binOp op t x y).run P w = .ok v w ∧ VRel m X w r v := by
  unfold binF at h
  split at h
  · rename_i k n k' n'
    obtain rfl := hx.int; obtain rfl := hy.int
    simp only [Sem.run_bind, run_eqGuard_int, Result.andThen_ok]
    split at h
    · rename_i hs; exact shiftI_sound hs h
    · rename_i hs
      split at h
      · rename_i hk; subst hk; exact binI_sound (by simpa using hs) h
      · cases h
  · obtain rfl := hx.bool; obtain rfl := hy.bool
    simp only [Sem.run_bind, run_eqGuard_bool, Result.andThen_ok]
    have hu : P.underlying t = some .bool := by
      unfold tkOf at ht; split at ht <;> simp_all
    cases op <;> simp only [eqNil, reduceCtorEq] at h <;> obtain rfl := Option.some.inj h <;>
      exact ⟨_, by simp [Go.binOp, run_equal_bool hu]; rfl, by simp [VRel, CV.rep]⟩
  · obtain rfl := hx.str; obtain rfl := hy.str
    simp only [Sem.run_bind, run_eqGuard_str, Result.andThen_ok]
    exact binS_sound h
  · obtain rfl := hx.nilp; obtain rfl := hy.nilp
    simp only [Sem.run_bind, run_eqGuard_ptr, Result.andThen_ok]
    obtain ⟨e, hu⟩ : ∃ e, P.underlying t = some (.pointer e) := by
      unfold tkOf at ht; split at ht <;> simp_all
    cases op <;> simp only [eqNil, reduceCtorEq] at h <;> obtain rfl := Option.some.inj h <;>
      exact ⟨_, by simp [Go.binOp, run_equal_nilp hu]; rfl, by simp [VRel, CV.rep]⟩
  · simp only [VRel] at hx; obtain ⟨b', hb', rfl⟩ := hx; obtain rfl := hy.nilp
    simp only [Sem.run_bind, run_eqGuard_ptr, Result.andThen_ok]
    obtain ⟨e, hu⟩ : ∃ e, P.underlying t = some (.pointer e) := by
      unfold tkOf at ht; split at ht <;> simp_all
    cases op <;> simp only [eqNil, reduceCtorEq] at h <;> obtain rfl := Option.some.inj h <;>
      exact ⟨_, by simp [Go.binOp, run_equal_nilp hu]; rfl, by simp [VRel, CV.rep]⟩
  · simp only [VRel, CV.rep] at hx; obtain ⟨b', rfl, _⟩ := hx; obtain rfl := hy.nilp
    simp only [Sem.run_bind, run_eqGuard_ptr, Result.andThen_ok]
    obtain ⟨e, hu⟩ : ∃ e, P.underlying t = some (.pointer e) := by
      unfold tkOf at ht; split at ht <;> simp_all
    cases op <;> simp only [eqNil, reduceCtorEq] at h <;> obtain rfl := Option.some.inj h <;>
      exact ⟨_, by simp [Go.binOp, run_equal_nilp hu]; rfl, by simp [VRel, CV.rep]⟩
  · obtain rfl := hx.nils; obtain rfl := hy.nils
    simp only [Sem.run_bind, run_eqGuard_slc, Result.andThen_ok]
    obtain ⟨e, hu⟩ : ∃ e, P.underlying t = some (.slice e) := by
      unfold tkOf at ht; split at ht <;> simp_all
    cases op <;> simp only [eqNil, reduceCtorEq] at h <;> obtain rfl := Option.some.inj h <;>
      exact ⟨_, by simp [Go.binOp, run_equal_nils hu]; rfl, by simp [VRel, CV.rep]⟩
  · simp only [VRel] at hx; obtain ⟨b', cap, hb', rfl, _⟩ := hx; obtain rfl := hy.nils
    simp only [Sem.run_bind, run_eqGuard_slc, Result.andThen_ok]
    obtain ⟨e, hu⟩ : ∃ e, P.underlying t = some (.slice e) := by
      unfold tkOf at ht; split at ht <;> simp_all
    cases op <;> simp only [eqNil, reduceCtorEq] at h <;> obtain rfl := Option.some.inj h <;>
      exact ⟨_, by simp [Go.binOp, run_equal_nils hu]; rfl, by simp [VRel, CV.rep]⟩
  · simp only [VRel] at hx; obtain ⟨vs, rfl, _⟩ := hx; obtain rfl := hy.nilf
    simp only [Sem.run_bind, run_eqGuard_fn, Result.andThen_ok]
    obtain ⟨e, e2, e3, hu⟩ : ∃ e e2 e3, P.underlying t = some (.func e e2 e3) := by
      unfold tkOf at ht; split at ht <;> simp_all
    cases op <;> simp only [eqNil, reduceCtorEq] at h <;> obtain rfl := Option.some.inj h <;>
      exact ⟨_, by simp [Go.binOp, run_equal_nilf hu]; rfl, by simp [VRel, CV.rep]⟩
  · simp only [VRel] at hx; obtain ⟨b', hb', rfl, _⟩ := hx; obtain rfl := hy.nils
    simp only [Sem.run_bind, run_eqGuard_slc, Result.andThen_ok]
    obtain ⟨e, hu⟩ : ∃ e, P.underlying t = some (.slice e) := by
      unfold tkOf at ht; split at ht <;> simp_all
    cases op <;> simp only [eqNil, reduceCtorEq] at h <;> obtain rfl := Option.some.inj h <;>
      exact ⟨_, by simp [Go.binOp, run_equal_nils hu]; rfl, by simp [VRel, CV.rep]⟩
  · simp only [VRel, CV.rep] at hx; obtain rfl := hy.nils
    rcases hx with ⟨_, h0, _⟩ | ⟨a', cap', rfl, _⟩
    · omega
    simp only [Sem.run_bind, run_eqGuard_slc, Result.andThen_ok]
    obtain ⟨e, hu⟩ : ∃ e, P.underlying t = some (.slice e) := by
      unfold tkOf at ht; split at ht <;> simp_all
    cases op <;> simp only [eqNil, reduceCtorEq] at h <;> obtain rfl := Option.some.inj h <;>
      exact ⟨_, by simp [Go.binOp, run_equal_nils hu]; rfl, by simp [VRel, CV.rep]⟩
  · cases h

end Go.Proofs.Ytphdemhopihpnaa.AM


/- Parts of the proof, joined: AmK to AmK. -/
import Derived.Test.YtphdemhopihpnaaZ11

namespace Go.Proofs.Ytphdemhopihpnaa.AM
open Go
set_option linter.unusedVariables false
set_option linter.unusedSimpArgs false

variable {P : Program} {m : LM} {X : Nat → Prop} {σ σ' : List AObj} {w : World} {r : AV}

theorem map_args (ρ : Operand → Value) (ps : Array (Nat × Operand)) : ps.map (fun (i, x) => (i, ρ x)) = ((ps.toList.map fun p => (p.1, ρ p.2))).toArray := by
  apply Array.ext'; simp

theorem mapM_places {P : Program} {fs : Array Field} : ∀ (ps : List (Nat × Operand)) (ρ : Operand → Value) (pl : List (Nat × Nat)), (ps.mapM fun p => (fs[p.1]?).bind fun f => (P.info? f.type).map fun i => (f.offset, i.size)) = some pl →
    (ps.map fun p => (p.1, ρ p.2)).mapM (fun p => (fs[p.1]?).map fun (f : Field) => (f.offset, P.cellsOf f.type)) = some pl
  | [], ρ, pl, h => by simpa using h
  | p :: ps, ρ, pl, h => by
    simp only [List.mapM_cons, Option.bind_eq_bind, Option.bind_eq_some_iff, Option.pure_def, Option.some.injEq, Option.map_eq_some_iff] at h
    obtain ⟨q, ⟨f, hf, i, hi, rfl⟩, pl', hpl, rfl⟩ := h
    simp only [List.map_cons, List.mapM_cons, hf, Option.map_some, Option.bind_eq_bind, Option.bind_some, mapM_places ps ρ pl' hpl, Option.pure_def]
    simp [Program.cellsOf, hi]

theorem two_args {ρ : Operand → Value} {args : Array Operand} {avs : List AV} (ha : VRels m X w avs (args.toList.map ρ)) (hl : avs.length = 2) : ∃ x y, args.map ρ = #[x, y] ∧ VRels m X w avs [x, y] := by
  have h1 := ha.length
  obtain ⟨l⟩ := args
  match l, h1 with
  | [a, b], _ => exact ⟨ρ a, ρ b, by simp, ha⟩
  | [], h1 => simp only [List.length_map, List.length_cons, List.length_nil] at h1; omega
  | [a], h1 => simp only [List.length_map, List.length_cons, List.length_nil] at h1; omega
  | a :: b :: c :: l, h1 => simp only [List.length_map, List.length_cons, List.length_nil] at h1; omega

theorem one_arg {ρ : Operand → Value} {args : Array Operand} {avs : List AV} (ha : VRels m X w avs (args.toList.map ρ)) (hl : avs.length = 1) : ∃ x, args.map ρ = #[x] ∧ VRels m X w avs [x] := by
  have h1 := ha.length
  obtain ⟨l⟩ := args
  match l, h1 with
  | [a], _ => exact ⟨ρ a, by simp, ha⟩
  | [], h1 => simp only [List.length_map, List.length_cons, List.length_nil] at h1; omega
  | a :: b :: l, h1 => simp only [List.length_map, List.length_cons, List.length_nil] at h1; omega

theorem builtin_sound {b : Builtin} {argTypes : Array TypeId} {args : Array Operand} {t : TypeId} {io : IOp} {ρ : Operand → Value} {avs : List AV} (hc : compBuiltin P b argTypes.toList = some io) (h : HRel m X σ w) (ha : VRels m X w avs (args.toList.map ρ)) (hs : stepF io avs σ = some (r, σ')) :
    Sound P (do let d ← resolve ρ { callee := .builtin b, args, argTypes } t; invoke d.target d.args) m X σ w r σ' := by
  have key : ∀ {s : Sem Next}, (∀ cs, builtin b argTypes t cs (args.map ρ) = s) → Sound P s m X σ w r σ' → Sound P (do let d ← resolve ρ { callee := .builtin b, args, argTypes } t; invoke d.target d.args) m X σ w r σ' := by
    rintro s hb ⟨nx, w', m', h1, h2⟩
    refine ⟨nx, w', m', ?_, h2⟩
    simp only [resolve, Sem.run_bind, Sem.run_pure, Result.andThen_ok, invoke, hb]
    exact h1
  unfold compBuiltin at hc
  split at hc
  · rename_i st hat
    have hat' : argTypes = #[st] := by apply Array.ext'; simpa using hat
    subst hat'
    have hl : avs.length = 1 := by
      split at hc <;> first | (cases hc; done) | (cases hc; simp only [stepF, f_len] at hs; split at hs <;> first | (cases hs; done) | rfl)
    obtain ⟨x, hx, hv⟩ := one_arg ha hl
    refine key (fun cs => by rw [hx]; rfl) ?_
    split at hc
    · rename_i hu; cases hc
      exact snd_len (t := t) h (.inr ⟨rfl, hu⟩) hv hs
    · rename_i e hu; cases hc
      exact snd_len (t := t) h (.inl ⟨rfl, e, hu⟩) hv hs
    · cases hc
  · cases hc
    have hl : avs.length = 2 := by
      simp only [stepF, f_min2] at hs; split at hs <;> first | (cases hs; done) | rfl
    obtain ⟨x, y, hx, hv⟩ := two_args ha hl
    exact key (fun cs => by rw [hx]; rfl) (snd_min2 (at_ := argTypes) (t := t) h hv hs)
  · cases hc
    have hl : avs.length = 2 := by
      simp only [stepF, f_max2] at hs; split at hs <;> first | (cases hs; done) | rfl
    obtain ⟨x, y, hx, hv⟩ := two_args ha hl
    exact key (fun cs => by rw [hx]; rfl) (snd_max2 (at_ := argTypes) (t := t) h hv hs)
  · rename_i st xt hat
    have hat' : argTypes = #[st, xt] := by apply Array.ext'; simpa using hat
    subst hat'
    split at hc
    · rename_i e e' hu hxu
      simp only [Option.bind_eq_some_iff] at hc
      obtain ⟨i, hi, z, hz, hc⟩ := hc
      split at hc
      · rename_i hcond; cases hc
        have hl : avs.length = 2 := by
          simp only [stepF, f_append] at hs; split at hs <;> first | (cases hs; done) | rfl
        obtain ⟨x, y, hx, hv⟩ := two_args ha hl
        exact key (fun cs => by rw [hx]; rfl) (snd_append_sl (ty := t) h hu hxu hi hz hcond.1 hcond.2.1 hcond.2.2 hv hs)
      · cases hc
    · rename_i e hu hxu
      simp only [Option.bind_eq_some_iff] at hc
      obtain ⟨i, hi, z, hz, hc⟩ := hc
      split at hc
      · rename_i hcond; cases hc
        have hl : avs.length = 2 := by
          simp only [stepF, f_append] at hs; split at hs <;> first | (cases hs; done) | rfl
        obtain ⟨x, y, hx, hv⟩ := two_args ha hl
        exact key (fun cs => by rw [hx]; rfl) (snd_append_str (ty := t) h hu hxu hi hz hcond.1 hcond.2.1 hcond.2.2 hv hs)
      · cases hc
    · rename_i e kn hu hxu
      simp only [Option.bind_eq_some_iff] at hc
      obtain ⟨i, hi, z, hz, hc⟩ := hc
      split at hc
      · rename_i hcond; cases hc
        have hl : avs.length = 2 := by
          simp only [stepF, f_appendz] at hs; split at hs <;> first | (cases hs; done) | rfl
        obtain ⟨x, y, hx, hv⟩ := two_args ha hl
        exact key (fun cs => by rw [hx]; rfl) (snd_appendz (ty := t) h hu hxu hi hz hcond.1 hcond.2.1 hcond.2.2 hv hs)
      · cases hc
    · cases hc
  · rename_i dt st hat
    have hat' : argTypes = #[dt, st] := by apply Array.ext'; simpa using hat
    subst hat'
    split at hc
    · rename_i e hu
      simp only [Option.map_eq_some_iff] at hc
      obtain ⟨i, hi, he⟩ := hc; cases he
      have hl : avs.length = 2 := by
        simp only [stepF, f_copy] at hs; split at hs <;> first | (cases hs; done) | rfl
      obtain ⟨x, y, hx, hv⟩ := two_args ha hl
      exact key (fun cs => by rw [hx]; rfl) (snd_copy (st := st) (ty := t) h hu hi hv hs)
    · cases hc
  · rename_i st hat
    have hat' : argTypes = #[st] := by apply Array.ext'; simpa using hat
    subst hat'
    split at hc
    · rename_i e hu
      simp only [Option.bind_eq_some_iff] at hc
      obtain ⟨i, hi, z, hz, hc⟩ := hc
      split at hc
      · rename_i hcond; cases hc
        have hl : avs.length = 1 := by
          simp only [stepF, f_clear] at hs; split at hs <;> first | (cases hs; done) | rfl
        obtain ⟨x, hx, hv⟩ := one_arg ha hl
        exact key (fun cs => by rw [hx]; rfl) (snd_clear (ty := t) h hu hi hz hcond.1 hcond.2 hv hs)
      · cases hc
    · cases hc
  · rename_i st hat
    have hat' : argTypes = #[st] := by apply Array.ext'; simpa using hat
    subst hat'
    split at hc
    · rename_i e hu
      cases hc
      have hl : avs.length = 1 := by
        simp only [stepF, f_cap] at hs; split at hs <;> first | (cases hs; done) | rfl
      obtain ⟨x, hx, hv⟩ := one_arg ha hl
      exact key (fun cs => by rw [hx]; rfl) (snd_cap (t := t) h hu hv hs)
    · cases hc
  · cases hc

theorem prim_sound {cm : Bool} {o : Oper} {io : IOp} {os : List Operand} {ρ : Operand → Value} {avs : List AV} (hc : compOp P cm o = some (io, os)) (h : HRel m X σ w) (ha : VRels m X w avs (os.map ρ)) (hs : stepF io avs σ = some (r, σ')) :
    Sound P (execOp ρ o) m X σ w r σ' := by
  unfold compOp at hc
  unfold execOp
  split at hc
  · rename_i x ho
    cases hc; rw [ho]
    simp only [stepF, f_mv] at hs
    split at hs <;> cases hs
    obtain ⟨v, hv, hr⟩ := ha.one; cases hv
    exact sound_pure h (by simp) hr
  · rename_i x ho
    cases hc; rw [ho]
    simp only [stepF, f_mv] at hs
    split at hs <;> cases hs
    obtain ⟨v, hv, hr⟩ := ha.one; cases hv
    exact sound_pure h (by simp) hr
  · rename_i c a b ho
    cases hc; rw [ho]
    simp only [stepF, f_pick] at hs
    split at hs <;> cases hs
    obtain ⟨v, us, hv, hr, hus⟩ := ha.cons; cases hv
    obtain ⟨v, us, hv, hr2, hus⟩ := hus.cons; cases hv
    obtain ⟨v, hv, hr3⟩ := hus.one; cases hv
    have hb := hr.bool
    have key : ∀ cb : Bool, ρ c = .bool cb → ∀ av bv : AV, VRel m X w av (ρ a) → VRel m X w bv (ρ b) → Sound P (do pure (.value (if ← asBool (ρ c) then ρ a else ρ b))) m X σ w (if cb then av else bv) σ := by
      intro cb hcb av bv h1 h2
      refine ⟨.value (if cb then ρ a else ρ b), w, m, ?_, .inl ⟨_, rfl, ?_⟩, h, Step.refl _ _ _ _⟩
      · rw [hcb]; cases cb <;> simp [asBool]
      · cases cb <;> simpa
    exact key _ hb _ _ hr2 hr3
  · rename_i t ho
    rw [ho]
    simp only [Option.map_eq_some_iff] at hc
    obtain ⟨z, hz, he⟩ := hc; cases he
    exact snd_alloc h hz hs
  · rename_i t x ho
    cases hc; rw [ho]
    exact snd_box h ha hs
  · rename_i t ps ho
    rw [ho]; dsimp only
    rw [map_args]
    split at hc
    · rename_i fs z hu hz
      split at hc
      · cases hc
      rename_i hfs
      simp only [Option.map_eq_some_iff] at hc
      obtain ⟨pl, hpl, he⟩ := hc; cases he
      unfold zeroOf at hz
      simp only [Option.bind_eq_some_iff, Option.map_eq_some_iff] at hz
      obtain ⟨i, hi, z0, hz0, rfl⟩ := hz
      have hall : ∀ cells : Array Value, Instr.fill (fun k => (fs[k]?).map fun (f : Field) => (f.offset, P.cellsOf f.type)) z0.cells (ps.toList.map fun p => (p.1, ρ p.2)) = some cells → (Instr.build t ((ps.toList.map fun p => (p.1, ρ p.2))).toArray).run P w = .ok (.agg cells) w := by
        intro cells hf
        refine run_build_struct hu hi hz0 ?_ hf
        intro f hf
        have h0 := hfs
        simp only [Bool.not_eq_false, List.all_eq_true] at h0
        exact h0 f hf
      exact snd_build h hi hz0 hall (mapM_places _ ρ pl hpl) (by rw [List.map_map] at ha ⊢; exact ha) hs
    · rename_i n e z hu hz
      simp only [Option.map_eq_some_iff] at hc
      obtain ⟨j, hj, he⟩ := hc; cases he
      unfold zeroOf at hz
      simp only [Option.bind_eq_some_iff, Option.map_eq_some_iff] at hz
      obtain ⟨i, hi, z0, hz0, rfl⟩ := hz
      refine snd_build (place := fun k => some (k * j.size, j.size)) h hi hz0 (fun cells hf => run_build_array hu hi hz0 hj hf) ?_ (by rw [List.map_map] at ha ⊢; exact ha) hs
      generalize ps.toList = l
      induction l with
      | nil => rfl
      | cons p l ih => simp only [List.map_cons, List.mapM_cons, Option.bind_eq_bind, Option.bind_some, ih, Option.pure_def]
    · cases hc
  · rename_i t len ps ho
    rw [ho]; dsimp only
    rw [map_args]
    split at hc
    · rename_i e hu
      simp only [Option.bind_eq_some_iff] at hc
      obtain ⟨i, hi, z, hz, hc⟩ := hc
      split at hc
      · rename_i hcond; cases hc
        obtain ⟨hbig, hsz, hpos⟩ := hcond
        exact snd_bslice h hu hi hz hsz hpos hbig (by simp [List.map_map]) (by rw [List.map_map] at ha ⊢; exact ha) hs
      · cases hc
    · cases hc
  · rename_i t a ho
    rw [ho]
    simp only [Option.bind_eq_some_iff] at hc
    obtain ⟨g, hg, hc⟩ := hc
    cases g with
    | true =>
      simp only [if_true, Option.map_eq_some_iff] at hc
      obtain ⟨i, hi, he⟩ := hc; cases he
      exact snd_loadN h hg hi ha hs
    | false =>
      simp only [Bool.false_eq_true, if_false] at hc; cases hc
      exact snd_load1 h hg ha hs
  · rename_i t a x ho
    rw [ho]
    simp only [Option.map_eq_some_iff] at hc
    obtain ⟨i, hi, he⟩ := hc; cases he
    have hr : r = .undef := by
      simp only [stepF, f_store] at hs
      split at hs
      · simp only [Option.bind_eq_some_iff] at hs
        obtain ⟨cs, _, hs⟩ := hs
        split at hs <;> cases hs; rfl
      · cases hs
    subst hr
    exact snd_store h hi ha hs
  · rename_i x ho
    cases hc; rw [ho]
    simp only [stepF, f_nilck] at hs
    split at hs
    · cases hs
      obtain ⟨v, hv, hr⟩ := ha.one; cases hv
      have hr0 := hr
      simp only [VRel] at hr; obtain ⟨b, hb, he⟩ := hr
      exact sound_pure h (v := ρ x) (by simp [he]) hr0
    · cases hs
      obtain ⟨v, hv, hr⟩ := ha.one; cases hv
      have hr0 := hr
      simp only [VRel, CV.rep] at hr; obtain ⟨b, he, _⟩ := hr
      exact sound_pure h (v := ρ x) (by simp [he]) hr0
    · cases hs
      obtain ⟨v, hv, hr⟩ := ha.one; cases hv
      have hr0 := hr
      simp only [VRel] at hr; obtain ⟨vs, he, _⟩ := hr
      exact sound_pure h (v := ρ x) (by simp [he]) hr0
    · cases hs
  · rename_i op t x y yt ho
    rw [ho]
    split at hc
    · rename_i tk htk
      cases hc
      simp only [stepF, f_bin] at hs
      split at hs
      · simp only [Option.map_eq_some_iff] at hs
        obtain ⟨v, hv, he⟩ := hs; cases he
        obtain ⟨x', us, hx, hr, hus⟩ := ha.cons; cases hx
        obtain ⟨y', hy, hra⟩ := hus.one; cases hy
        obtain ⟨v', hv', hrr⟩ := binF_sound (P := P) (xo := x) (yo := y) htk hr hra hv
        exact sound_val0 h hv' hrr
      · cases hs
    · split at hc
      · cases hc
      · rename_i hgd
        have hgd : P.eqGuardType P.depth t = false := by simpa using hgd
        split at hc
        · rename_i ks hks
          cases hc
          exact snd_eqS (xo := x) (yo := y) h hgd hks ha hs
        · rename_i ks hks
          cases hc
          exact snd_neS (xo := x) (yo := y) h hgd hks ha hs
        · cases hc
  · rename_i t x ho
    cases hc; rw [ho]
    simp only [stepF, f_not] at hs
    split at hs <;> cases hs
    obtain ⟨v, hv, hr⟩ := ha.one; cases hv
    have hb := hr.bool
    exact sound_val0 h (v := _) (by rw [hb]; simp [Op.unary]) (VRel.mk_bool _)
  · rename_i s t x ho
    rw [ho]
    split at hc
    · rename_i d k hu1 hu2
      cases hc
      simp only [stepF, f_conv] at hs
      split at hs <;> cases hs
      obtain ⟨v, hv, hr⟩ := ha.one; cases hv
      have hb := hr.int
      exact sound_val0 h (v := _) (by rw [hb]; simp [Go.convert, rUnderlying hu1, rUnderlying hu2, Conv.intToInt]) (VRel.mk_int _ _)
    · cases hc
  · rename_i f first captured ho
    rw [ho]
    split at hc
    · rename_i hfirst
      cases hc
      simp only [stepF, f_mkfn] at hs
      cases hs
      refine sound_val0 h (v := .func f #[] (captured.map ρ)) ?_ ?_
      · have : first = #[] := by simpa using hfirst
        simp only [Instr.makeFunc, this, Array.map_empty]; rfl
      · simp only [VRel]
        exact ⟨captured.toList.map ρ, by rw [show captured.map ρ = (captured.toList.map ρ).toArray from by apply Array.ext'; simp], ha⟩
    · split at hc
      · rename_i hcap
        split at hc
        · rename_i g
          cases hc
          simp only [stepF, f_mkbm] at hs
          cases hs
          refine sound_val0 h (v := .func (.func g) (first.map ρ) #[]) ?_ ?_
          · have : captured = #[] := by simpa using hcap
            simp only [Instr.makeFunc, this, Array.map_empty]; rfl
          · simp only [VRel]
            exact ⟨first.toList.map ρ, by rw [show first.map ρ = (first.toList.map ρ).toArray from by apply Array.ext'; simp], ha⟩
        · cases hc
      · cases hc
  · rename_i t ho
    cases hc; rw [ho]
    exact snd_mkmap h hs
  · rename_i t x ix ok ho
    rw [ho]
    split at hc
    · rename_i kt e hu
      simp only [Option.bind_eq_some_iff, Option.map_eq_some_iff] at hc
      obtain ⟨ks, hks, z, hz, he⟩ := hc; cases he
      exact snd_lookup h hu hks hz ha hs
    · cases hc
  · rename_i t x k v ho
    rw [ho]
    split at hc
    · rename_i kt e hu
      simp only [Option.map_eq_some_iff] at hc
      obtain ⟨ks, hks, he⟩ := hc; cases he
      exact snd_mapset h hu hks ha hs
    · cases hc
  · rename_i t l c ho
    rw [ho]
    split at hc
    · rename_i e hu
      simp only [Option.bind_eq_some_iff] at hc
      obtain ⟨i, hi, z, hz, hc⟩ := hc
      split at hc
      · rename_i hcond
        cases cm with
        | true => cases hc; exact snd_mksliceC h hu hi hz hcond.1 hcond.2 ha hs
        | false => cases hc; exact snd_mkslice h hu hi hz hcond.1 hcond.2 ha hs
      · cases hc
    · cases hc
  · rename_i t x lo hi ho
    rw [ho]
    have ha' : ∀ (a : List AV), VRels m X w a ((x :: (lo.toList ++ hi.toList)).map ρ) → VRels m X w a (ρ x :: ((lo.map ρ).toList ++ (hi.map ρ).toList)) := by
      intro a; cases lo <;> cases hi <;> simp
    have e1 : lo.isSome = (lo.map ρ).isSome := by cases lo <;> rfl
    have e2 : hi.isSome = (hi.map ρ).isSome := by cases hi <;> rfl
    split at hc
    · rename_i n e hu
      simp only [Option.map_eq_some_iff] at hc
      obtain ⟨i, hi', he⟩ := hc; cases he
      rw [e1, e2] at hs
      exact snd_slA h hu hi' (ha' _ ha) hs
    · rename_i e hu
      simp only [Option.map_eq_some_iff] at hc
      obtain ⟨i, hi', he⟩ := hc; cases he
      rw [e1, e2] at hs
      exact snd_slS h hu hi' (ha' _ ha) hs
    · rename_i hu
      cases hc
      rw [e1, e2] at hs
      exact snd_slStr h hu (ha' _ ha) hs
    · cases hc
  · rename_i t x lo hi mx ho
    rw [ho]
    split at hc
    · rename_i e hu
      simp only [Option.map_eq_some_iff] at hc
      obtain ⟨i, hi', he⟩ := hc; cases he
      exact snd_slS3 h hu hi' ha hs
    · cases hc
  · rename_i s x f ho
    rw [ho]
    split at hc
    · rename_i fs hu
      simp only [Option.bind_eq_some_iff] at hc
      obtain ⟨fd, hf, i, hi, hc⟩ := hc
      split at hc
      · rename_i h0; cases hc
        exact snd_fadd h hu hf hi h0 ha hs
      · cases hc
    · cases hc
  · rename_i s x f ho
    rw [ho]
    split at hc
    · rename_i fs hu
      simp only [Option.bind_eq_some_iff, Option.map_eq_some_iff] at hc
      obtain ⟨fd, hf, i, hi, g, hg, he⟩ := hc; cases he
      exact snd_fld h hu hf hi hg ha hs
    · cases hc
  · rename_i t x ix ho
    rw [ho]
    split at hc
    · rename_i n e hu
      simp only [Option.map_eq_some_iff] at hc
      obtain ⟨i, hi, he⟩ := hc; cases he
      exact snd_iaA h hu hi ha hs
    · rename_i e hu
      simp only [Option.map_eq_some_iff] at hc
      obtain ⟨i, hi, he⟩ := hc; cases he
      exact snd_iaS h hu hi ha hs
    · cases hc
  · rename_i t x ix ho
    rw [ho]
    split at hc
    · rename_i n e hu
      simp only [Option.bind_eq_some_iff, Option.map_eq_some_iff] at hc
      obtain ⟨i, hi, g, hg, he⟩ := hc; cases he
      exact snd_ixA h hu hi hg ha hs
    · rename_i hu
      cases hc
      exact snd_ixStr h hu ha hs
    · cases hc
  · rename_i t i ho
    cases hc; rw [ho]
    simp only [stepF, f_extract] at hs
    split at hs
    · simp only [Option.map_eq_some_iff] at hs
      obtain ⟨a, haa, he⟩ := hs; cases he
      obtain ⟨v, hv, hr⟩ := ha.one; cases hv
      simp only [VRel] at hr; obtain ⟨vs, he, hrs⟩ := hr
      obtain ⟨v, hv, hr⟩ := hrs.get _ _ haa
      refine sound_val0 h (v := v) ?_ hr
      rw [he]; simp [Instr.extract, hv]
    · cases hs
  · rename_i b args at_ ho
    rw [ho]
    simp only [Option.map_eq_some_iff] at hc
    obtain ⟨io', hio, he⟩ := hc; cases he
    exact builtin_sound hio h ha hs
  · rename_i t x ho
    rw [ho]
    split at hc
    · rename_i hu
      cases hc
      exact snd_rstr h hu ha hs
    · cases hc
  · rename_i it ho
    cases hc; rw [ho]
    exact snd_snext h ha hs
  · cases hc; simp only [stepF] at hs; cases hs
  · cases hc; simp only [stepF] at hs; cases hs
  · cases hc

end Go.Proofs.Ytphdemhopihpnaa.AM


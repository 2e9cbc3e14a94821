/- Parts of the proof of Forms. -/
import Derived.Test.YtpnghcaccfnngaaGreatDoorRows
import Derived.WalkKit
import Derived.ProofKit
import Derived.OpenShut
import Derived.Carry
import Derived.Test.YtpnghcaccfnngaaGreatDoorZ17
set_option linter.unusedVariables false
set_option linter.unusedSimpArgs false
set_option linter.unusedSectionVars false
namespace Go.Proofs.YtpnghcaccfnngaaGreatDoor.AM
variable [Dr]
open Go Go.ChangeShapes Go.WideShapes Go.ChangeAt Go.RowKit
abbrev noO : Nat → Prop := Own (fun _ => none) (fun _ => False)
theorem not_noO (b : Nat) : ¬ noO b := by rintro (h | ⟨l, hl⟩); exact h; cases hl
theorem fin_choice {α : Type} {Q : Nat → α → Prop} : ∀ (n : Nat), (∀ i, i < n → ∃ l, Q i l) → ∃ L : List α, L.length = n ∧ ∀ (i : Nat) (l : α), L[i]? = some l → Q i l
 | 0, _ => ⟨[], rfl, by simp⟩
 | n + 1, h => by
  obtain ⟨L, h1, h2⟩ := fin_choice n (fun i hi => h i (by omega))
  obtain ⟨l, hl⟩ := h n (by omega)
  refine ⟨L ++ [l], by simp [h1], fun i l' hi => ?_⟩
  rcases Nat.lt_or_ge i n with hlt | hge
  ·rw [List.getElem?_append_left (by omega)] at hi; exact h2 i l' hi
  ·rw [List.getElem?_append_right (by omega), h1] at hi
   have : i = n := by
    rcases Nat.lt_or_ge n i with h' | h'
    ·rw [List.getElem?_eq_none (by simp; omega)] at hi; cases hi
    ·omega
   subst this
   simp at hi; subst hi; exact hl
theorem flat_rel {R : Nat → CV → Prop} {esz : Nat} : ∀ (L : List (List CV)) (n : Nat), (∀ (i : Nat) (l : List CV), L[i]? = some l → l.length = esz ∧ ∀ (j : Nat) (c : CV), l[j]? = some c → R (n + i * esz + j) c) →
  L.flatten.length = L.length * esz ∧ ∀ (k : Nat) (c : CV), L.flatten[k]? = some c → R (n + k) c
 | [], n, _ => by simp
 | l :: L, n, h => by
  obtain ⟨h1, h2⟩ := h 0 l (by simp)
  have ih := flat_rel L (n + esz) (fun i l' hi => by
   obtain ⟨g1, g2⟩ := h (i + 1) l' (by simpa using hi)
   refine ⟨g1, fun j c hj => ?_⟩
   have := g2 j c hj
   rwa [Nat.add_mul, Nat.one_mul, ← Nat.add_assoc, Nat.add_right_comm n] at this)
  refine ⟨by simp [h1, ih.1, Nat.add_mul, Nat.add_comm], fun k c hk => ?_⟩
  rw [List.flatten_cons] at hk
  rcases Nat.lt_or_ge k l.length with hlt | hge
  ·rw [List.getElem?_append_left hlt] at hk
   have := h2 k c hk
   simpa using this
  ·rw [List.getElem?_append_right hge] at hk
   have := ih.2 (k - l.length) c hk
   rwa [show n + esz + (k - l.length) = n + k by omega] at this
theorem flat_relF {P : Program} {R : Nat → CV → Prop} {N : Nat} : ∀ (fs : List Field) (L : List (List CV)) (n : Nat), fieldsEnd P fs n = some N → L.length = fs.length →
  (∀ (i : Nat) (f : Field) (l : List CV), fs[i]? = some f → L[i]? = some l → l.length = P.cellsOf f.type ∧ ∀ (j : Nat) (c : CV), l[j]? = some c → R (f.offset + j) c) →
  n + L.flatten.length = N ∧ ∀ (k : Nat) (c : CV), L.flatten[k]? = some c → R (n + k) c
 | [], L, n, he, hl, _ => by
  have : L = [] := List.eq_nil_of_length_eq_zero (by simpa using hl)
  subst this
  simp only [fieldsEnd, Option.some.injEq] at he
  simp [he]
 | f :: fs, [], n, _, hl, _ => by simp at hl
 | f :: fs, l :: L, n, he, hl, h => by
  simp only [fieldsEnd] at he
  split at he
  ·rename_i hoff
   obtain ⟨h1, h2⟩ := h 0 f l (by simp) (by simp)
   have ih := flat_relF fs L (n + P.cellsOf f.type) he (by simpa using hl) (fun i f' l' hf hl' => h (i + 1) f' l' (by simpa using hf) (by simpa using hl'))
   refine ⟨by rw [← ih.1]; simp [h1]; omega, fun k c hk => ?_⟩
   rw [List.flatten_cons] at hk
   rcases Nat.lt_or_ge k l.length with hlt | hge
   ·rw [List.getElem?_append_left hlt] at hk
    have := h2 k c hk
    rwa [hoff] at this
   ·rw [List.getElem?_append_right hge] at hk
    have := ih.2 (k - l.length) c hk
    rwa [show n + P.cellsOf f.type + (k - l.length) = n + k by omega] at this
  ·cases he
theorem reps_of_all {W : World} {a : Addr} : ∀ (cs : List CV) (i : Nat), (∀ (j : Nat) (c : CV), cs[j]? = some c → ∃ v, W.cell? (a.add (i + j)) = some v ∧ c.rep W noO v) → CV.reps W noO cs a i
 | [], _, _ => by simp [CV.reps]
 | c :: cs, i, h => by
  simp only [CV.reps]
  refine ⟨not_noO _, by simpa using h 0 c (by simp), reps_of_all cs (i + 1) fun j c' hj => ?_⟩
  have := h (j + 1) c' (by simpa using hj)
  rwa [show i + (j + 1) = i + 1 + j by omega] at this
section
variable {H : Type} {enc : TypeId × Value → H} {P : Program} {W : World}
theorem trod_typed : ∀ (n : Nat) (t : TypeId) (cs : List Value) (x : DataW H × List MemPlace) (fuel : Nat), openT P n t = true → DataW.trod enc P W 0 (fun _ => true) true fuel t cs = some x →
  ∃ cvs : List CV, Typed P t cvs ∧ cvs.length = cs.length ∧ ∀ (i : Nat) (c : CV) (v : Value), cvs[i]? = some c → cs[i]? = some v → c.rep W noO v
 | 0, t, cs, x, fuel, ho, _ => by simp [openT] at ho
 | n + 1, t, cs, x, fuel, ho, h => by
  simp only [openT] at ho
  split at ho
  ·rename_i ht
   obtain ⟨b, rfl, _⟩ := DataW.trod_bool ht h
   refine ⟨[.bool b], .bool ht b, rfl, fun i c v h1 h2 => ?_⟩
   cases i with
   | zero => simp at h1 h2; subst h1 h2; simp [CV.rep]
   | succ i => simp at h1
  ·rename_i k ht
   obtain ⟨b, rfl, _, hw⟩ := DataW.trod_int ht h
   refine ⟨[.int k b], .int ht b hw, rfl, fun i c v h1 h2 => ?_⟩
   cases i with
   | zero => simp at h1 h2; subst h1 h2; simp [CV.rep]
   | succ i => simp at h1
  ·rename_i ht
   obtain ⟨s, rfl, _, hw⟩ := DataW.trod_string ht h
   refine ⟨[.str s], .str ht s hw, rfl, fun i c v h1 h2 => ?_⟩
   cases i with
   | zero => simp at h1 h2; subst h1 h2; simp [CV.rep]
   | succ i => simp at h1
  ·rename_i e ht
   rcases DataW.trod_slice ht h with ⟨rfl, _⟩ | ⟨a, len, cap, elems, rest, m, _, rfl, _, _, hlc, hcm, hel, hget, _⟩
   ·refine ⟨[.rsl [] 0], by simpa using Typed.slc ht [] (by simp) (by simp) (by simp), rfl, fun i c v h1 h2 => ?_⟩
    cases i with
    | zero => simp at h1 h2; subst h1 h2; simp [CV.rep]
    | succ i => simp at h1
   ·obtain ⟨L, hL, hQ⟩ := fin_choice (Q := fun i l => Typed P e l ∧ l.length = P.cellsOf e ∧ ∀ (j : Nat) (c : CV), l[j]? = some c → ∃ v, W.cell? (a.add (i * P.cellsOf e + j)) = some v ∧ c.rep W noO v) len (fun i hi => by
     have hg := hget i hi
     rw [List.getElem?_eq_getElem (by omega)] at hg
     obtain ⟨ci, h1, h2⟩ := Option.bind_eq_some_iff.1 hg
     obtain ⟨_, hlen, hcell⟩ := World.cells?_some h1
     obtain ⟨cvs, g1, g2, g3⟩ := trod_typed n e ci _ _ ho h2
     refine ⟨cvs, g1, by omega, fun j c hj => ?_⟩
     have hjl : j < cvs.length := (List.getElem?_eq_some_iff.1 hj).1
     have hc := hcell j (by omega)
     rw [List.getElem?_eq_getElem (by omega)] at hc
     exact ⟨_, by rw [← Addr.add_add]; exact hc, g3 j c _ hj (List.getElem?_eq_getElem _)⟩)
    have hmem : ∀ l ∈ L, ∃ i : Nat, L[i]? = some l := fun l hl => List.mem_iff_getElem?.1 hl
    have hfl := flat_rel (R := fun k c => ∃ v, W.cell? (a.add k) = some v ∧ c.rep W noO v) (esz := P.cellsOf e) L 0 (fun i l hi => ⟨(hQ i l hi).2.1, fun j c hj => by simpa using (hQ i l hi).2.2 j c hj⟩)
    refine ⟨[.rsl L.flatten L.length], Typed.slc ht L (by omega) (fun l hl => let ⟨i, hi⟩ := hmem l hl; (hQ i l hi).2.1) (fun l hl => let ⟨i, hi⟩ := hmem l hl; (hQ i l hi).1), rfl, fun i c v h1 h2 => ?_⟩
    cases i with
    | zero =>
     simp at h1 h2; subst h1 h2
     simp only [CV.rep]
     exact .inr ⟨a, cap, by rw [hL], by omega, reps_of_all _ 0 (fun j c hj => hfl.2 j c hj)⟩
    | succ i => simp at h1
  ·rename_i k e ht
   simp only [Bool.and_eq_true, decide_eq_true_eq] at ho
   obtain ⟨xs, m, _, _, hlen, hxs, hget⟩ := DataW.trod_array ht h
   obtain ⟨L, hL, hQ⟩ := fin_choice (Q := fun i l => Typed P e l ∧ l.length = P.cellsOf e ∧ ∀ (j : Nat) (c : CV), l[j]? = some c → ∀ v, cs[i * P.cellsOf e + j]? = some v → c.rep W noO v) k (fun i hi => by
     have hg := hget i hi
     rw [List.getElem?_eq_getElem (by omega)] at hg
     obtain ⟨cvs, g1, g2, g3⟩ := trod_typed n e _ _ _ ho.1 hg
     have hik : i * P.cellsOf e + P.cellsOf e ≤ k * P.cellsOf e := by
      have := Nat.mul_le_mul_right (P.cellsOf e) (show i + 1 ≤ k by omega)
      rwa [Nat.add_mul, Nat.one_mul] at this
     have hl2 : cvs.length = P.cellsOf e := by rw [g2]; simp; omega
     refine ⟨cvs, g1, hl2, fun j c hj v hv => ?_⟩
     have hjl : j < cvs.length := (List.getElem?_eq_some_iff.1 hj).1
     exact g3 j c v hj (by rw [List.getElem?_take, if_pos (by omega), List.getElem?_drop]; exact hv))
   have hmem : ∀ l ∈ L, ∃ i : Nat, L[i]? = some l := fun l hl => List.mem_iff_getElem?.1 hl
   have hfl := flat_rel (R := fun k c => ∀ v, cs[k]? = some v → c.rep W noO v) (esz := P.cellsOf e) L 0 (fun i l hi => ⟨(hQ i l hi).2.1, fun j c hj => by simpa using (hQ i l hi).2.2 j c hj⟩)
   exact ⟨L.flatten, Typed.arr ht L hL (fun l hl => let ⟨i, hi⟩ := hmem l hl; (hQ i l hi).2.1) (fun l hl => let ⟨i, hi⟩ := hmem l hl; (hQ i l hi).1), by rw [hfl.1, hlen, ho.2, hL], fun i c v h1 h2 => hfl.2 i c h1 v (by simpa using h2)⟩
  ·rename_i fs ht
   simp only [Bool.and_eq_true, decide_eq_true_eq, List.all_eq_true] at ho
   obtain ⟨xs, m, _, _, hlen, hxs, hget⟩ := DataW.trod_struct ht h
   obtain ⟨L, hL, hQ⟩ := fin_choice (Q := fun i l => ∀ f, fs[i]? = some f → Typed P f.type l ∧ l.length = min (P.cellsOf f.type) (cs.length - f.offset) ∧ ∀ (j : Nat) (c : CV), l[j]? = some c → ∀ v, cs[f.offset + j]? = some v → c.rep W noO v) fs.size (fun i hi => by
     have hfi : fs[i]? = some fs[i] := Array.getElem?_eq_getElem hi
     have hg := hget i fs[i] hfi
     rw [List.getElem?_eq_getElem (by omega)] at hg
     obtain ⟨cvs, g1, g2, g3⟩ := trod_typed n _ _ _ _ (ho.1 fs[i] (by simp)) hg
     have hl2 : cvs.length = min (P.cellsOf fs[i].type) (cs.length - fs[i].offset) := by rw [g2]; simp
     refine ⟨cvs, fun f hf => ?_⟩
     rw [hfi] at hf; cases hf
     refine ⟨g1, hl2, fun j c hj v hv => ?_⟩
     have hjl : j < cvs.length := (List.getElem?_eq_some_iff.1 hj).1
     exact g3 j c v hj (by rw [List.getElem?_take, if_pos (by omega), List.getElem?_drop]; exact hv))
   have hoff : ∀ (fs : List Field) (n N : Nat), fieldsEnd P fs n = some N → n ≤ N ∧ ∀ (i : Nat) (f : Field), fs[i]? = some f → f.offset + P.cellsOf f.type ≤ N := by
    intro fs
    induction fs with
    | nil => intro n N h; simp only [fieldsEnd, Option.some.injEq] at h; simp [h]
    | cons f fs ih =>
     intro n N h
     simp only [fieldsEnd] at h
     split at h
     ·rename_i ho
      obtain ⟨h1, h2⟩ := ih _ _ h
      refine ⟨by omega, fun i f' hi => ?_⟩
      cases i with
      | zero => simp at hi; subst hi; omega
      | succ i => exact h2 i f' (by simpa using hi)
     ·cases h
   have hin := (hoff _ _ _ ho.2).2
   have hl : ∀ (i : Nat) (f : Field) (l : List CV), fs[i]? = some f → L[i]? = some l → l.length = P.cellsOf f.type := by
    intro i f l hf hl
    obtain ⟨_, h2, _⟩ := hQ i l hl f hf
    have := hin i f (by simpa using hf)
    omega
   have hfl := flat_relF (P := P) (R := fun k c => ∀ v, cs[k]? = some v → c.rep W noO v) fs.toList L 0 ho.2 (by simpa using hL) (fun i f l hf hl' =>
    ⟨hl i f l (by simpa using hf) hl', fun j c hj => (hQ i l hl' f (by simpa using hf)).2.2 j c hj⟩)
   exact ⟨L.flatten, Typed.struct ht L hL hl (fun i f l hf hl' => (hQ i l hl' f hf).1), by have := hfl.1; omega, fun i c v h1 h2 => hfl.2 i c h1 v (by simpa using h2)⟩
  ·cases ho
abbrev noX : Nat → Prop := fun _ => False
theorem VRels_of_all : ∀ (cvs : List CV) (vs : List Value), cvs.length = vs.length → (∀ (i : Nat) (c : CV) (v : Value), cvs[i]? = some c → vs[i]? = some v → c.rep W noO v) → VRels nom noX W (cvs.map .cv) vs
 | [], [], _, _ => by simp [VRels]
 | c :: cvs, v :: vs, hl, h => by
  simp only [List.map_cons, VRels, VRel]
  exact ⟨h 0 c v rfl rfl, VRels_of_all cvs vs (by simpa using hl) fun i c v h1 h2 => h (i + 1) c v (by simpa using h1) (by simpa using h2)⟩
 | [], _ :: _, hl, _ => by simp at hl
 | _ :: _, [], hl, _ => by simp at hl
theorem arg_typed {n : Nat} {t : TypeId} {v : Value} {d : DataW H} {ps : List MemPlace} {r : Reach} {base : Nat} (ho : openT P n t = true) (hval : Value.okWide P W r base t v) (h : DataW.Trod enc P W 0 (fun _ => true) true t v d ps) :
  ∃ cs, Typed P t cs ∧ VRel nom noX W (avOf P t cs) v := by
 obtain ⟨fuel, h⟩ := h
 obtain ⟨cvs, h1, h2, h3⟩ := trod_typed n t _ _ _ ho h
 refine ⟨cvs, h1, ?_⟩
 unfold avOf
 have one : (v.cells.toList = [v]) → VRel nom noX W (.cv (cvs.headD .nilp)) v := by
  intro hv
  rw [hv] at h2 h3
  match cvs, h2 with
  | [c], _ => simp only [List.headD_cons, VRel]; exact h3 0 c v rfl rfl
 cases n with
 | zero => simp [openT] at ho
 | succ n =>
  simp only [openT] at ho
  split at ho
  ·rename_i ht; rw [ht]; obtain ⟨b, rfl⟩ := okWide_bool ht hval; exact one rfl
  ·rename_i ht; rw [ht]; obtain ⟨b, rfl⟩ := okWide_int ht hval; exact one rfl
  ·rename_i ht; rw [ht]; obtain ⟨b, rfl⟩ := okWide_string ht hval; exact one rfl
  ·rename_i ht; rw [ht]; obtain ⟨_, _, _, rfl⟩ := okWide_slice ht hval; exact one rfl
  ·rename_i ht; rw [ht]
   simp only [Value.okWide, ht] at hval
   obtain ⟨arr, rfl, _⟩ := hval
   simp only [VRel]
   exact ⟨arr.toList, by simp, VRels_of_all _ _ h2 h3⟩
  ·rename_i ht; rw [ht]
   simp only [Value.okWide, ht] at hval
   obtain ⟨arr, rfl, _⟩ := hval
   simp only [VRel]
   exact ⟨arr.toList, by simp, VRels_of_all _ _ h2 h3⟩
  ·cases ho
theorem args_typed {n : Nat} {r : Reach} {base : Nat} : ∀ {ts : List TypeId} {vs : List Value} {ds : List (DataW H)} {ps : List MemPlace}, (ts.all (openT P n)) = true →
  (∀ (j : Nat) (t : TypeId) (v : Value), ts[j]? = some t → vs[j]? = some v → Value.okWide P W r base t v) → DataW.TrodAll enc P W 0 (fun _ => true) true ts vs ds ps →
  ds.length = ts.length ∧ ∃ avs, Args P ts avs ∧ VRels nom noX W avs vs
 | [], _, _, _, _, _, h => by
  obtain ⟨rfl, rfl, rfl⟩ := trodAll_nil h
  exact ⟨rfl, [], .nil, by simp [VRels]⟩
 | t :: ts, _, _, _, ho, hval, h => by
  obtain ⟨v, vs1, d, ds1, a, b, rfl, rfl, rfl, h1, h2⟩ := trodAll_cons h
  simp only [List.all_cons, Bool.and_eq_true] at ho
  obtain ⟨cs, g1, g2⟩ := arg_typed ho.1 (hval 0 t v rfl rfl) h1
  obtain ⟨hl, avs, g3, g4⟩ := args_typed ho.2 (fun j t v h1 h2 => hval (j + 1) t v (by simpa using h1) (by simpa using h2)) h2
  exact ⟨by simp [hl], _, .cons g1 g3, by simp only [VRels]; exact ⟨g2, g4⟩⟩
theorem trodAll_below (hl : laidOutB P = true) {W' : World} (hb : Below W.heap.size W W') : ∀ {ts : List TypeId} {vs : List Value} {ds : List (DataW H)} {ps : List MemPlace}, (ts.all fun t => P.readableRec t && decide (t < P.types.size)) = true →
  DataW.TrodAll enc P W 0 (fun _ => true) true ts vs ds ps → (∀ x ∈ ps, x.block < W.heap.size) → DataW.TrodAll enc P W' 0 (fun b => decide (b < W.heap.size)) true ts vs ds ps
 | [], _, _, _, _, h, _ => by
  obtain ⟨rfl, rfl, rfl⟩ := trodAll_nil h
  exact trodAll_mk0
 | t :: ts, _, _, _, ho, h, hlt => by
  obtain ⟨v, vs1, d, ds1, a, b, rfl, rfl, rfl, h1, h2⟩ := trodAll_cons h
  simp only [List.all_cons, Bool.and_eq_true, decide_eq_true_eq] at ho
  refine trodAll_cons_mk (Below.trod hl ho.1.1 ho.1.2 h1 hb fun x hx => hlt x (by simp [hx])) (trodAll_below hl hb ?_ h2 fun x hx => hlt x (by simp [hx]))
  simpa using ho.2
theorem law_of_AC {f : FuncId} {fn : Func} {s : ChangeSpec} {n : Nat} {t : TypeId} {base : Nat} {args : Array Value} {ds gs : List (DataW H)} {before : List MemPlace}
  (hl : laidOutB P = true) (hpar : (fn.params.toList.all fun t => P.readableRec t && decide (t < P.types.size)) = true) (ho : fn.params.toList.all (openT P n) = true)
  (hres : fn.resultTypes = #[t]) (htb : P.underlying t = some .bool) (hsv : s.vars = []) (hs : ∀ ds : List (DataW H), ds.length = fn.params.toList.length → s.fn H ds = { results := [.lit (.bool true)], args := ds })
  (hAC : ∀ avs, Args P fn.params.toList avs → AC P f avs [] fun r _ => r = .b true)
  (hval : ∀ (j : Nat) t v, fn.params[j]? = some t → args[j]? = some v → Value.okWide P W .any base t v)
  (hW : DataW.Whole enc P fn.params.toList s.vars false W args.toList ds gs before) :
  Calls P f args W fun e W' => ∃ v, e = .returned v ∧ s.post enc P fn false true false false W args v W' := by
 have hW' := hW
 obtain ⟨p, q, hA, hV, rfl, hfz, hnd⟩ := hW
 rw [hsv] at hV
 obtain ⟨rfl, rfl⟩ := trodVars_none hV
 have hlt : ∀ x ∈ p, x.block < W.heap.size := fun x hx => hW'.lt x (by simp [hx])
 obtain ⟨hlen, avs, hav, hrel⟩ := args_typed ho (fun j t v h1 h2 => hval j t v (by simpa using h1) (by simpa using h2)) hA
 have hcall := (hAC avs hav).2 nom noX W args.toList hrel ⟨by simp, by simp, by simp, by simp, by simp⟩
 have hcall := callsIn_wide.1 hcall
 simp only [Array.toArray_toList] at hcall
 refine hcall.mono fun e W' ⟨c, r, σ', m', he, hq, hr, _, hst, _⟩ => ?_
 subst he hq
 simp only [VRel, CV.rep] at hr
 subst hr
 have hb : Below W.heap.size W W' := ⟨hst.os, hst.tape, hst.output, hst.size, fun k hk => hst.fr k hk (.inr (by simp))⟩
 have hsf : s.fn H (ds ++ []) = { results := [.lit (.bool true)], args := ds } := by rw [List.append_nil]; exact hs ds hlen
 refine ⟨_, rfl, ds, [], p ++ [], [], p, [], hW', ?_, ?_, ?_, hb.frame _, fun h => by simp at h⟩
 ·rw [hsf, hres]
  exact trodAll_mk1 (shut_bool htb true)
 ·rw [hsf]
  exact trodAll_below hl hb hpar hA hlt
 ·rw [hsf, hsv]
  rfl
end
end Go.Proofs.YtpnghcaccfnngaaGreatDoor.AM
namespace Go.Proofs.YtpnghcaccfnngaaGreatDoor.AM
variable [Dr]
open Go
theorem SameSite.trans {a b c : ALoop} (h : SameSite a b) (k : SameSite b c) : SameSite a c :=
 ⟨k.1.trans h.1, k.2.1.trans h.2.1, k.2.2.1.trans h.2.2.1, k.2.2.2.1.trans h.2.2.2.1, k.2.2.2.2.trans h.2.2.2.2⟩
theorem LoopKeep.trans {a b c : List AObj} (h : LoopKeep a b) (k : LoopKeep b c) : LoopKeep a c := fun l r hr =>
 let ⟨r1, h1, h2⟩ := h l r hr
 let ⟨r2, h3, h4⟩ := k l r1 h1
 ⟨r2, h3, h2.trans h4⟩
abbrev vs32 : List Nat := [0, 1, 2, 4, 5, 6, 11]
def ic32 : IC := (.seq (.region [jb 2 0, jw 3 .mv [jS], jz 4 0])
 (.seq (.region [jN 2 2, jv 1, jk 66 [.t 0, .t 1], jm 5 2])
 (.seq (.seq (.region [jv 5, jw 6 (.bin .neq .int) [.t 0, jn 0]])
 (.cond 6 (.seq (.region [jv 5, jw 3 .mv [jS], jm 4 0])
 .ret)
 .skip))
 (.seq (.region [jN 2 2, jv 1, jk 68 [.t 0, .t 1], jm 3 2, jz 4 0])
 .ret))))
abbrev rs32 : List RC := [(.v 3), (.v 4)]
theorem fok32 (p : Bool) : FnOk Tryz.prog 32 ⟨ic32, vs32, 16, rs32, p⟩ := .mk2 Tryz.func32 (by kernel_rfl) (by kernel_rfl) (by kernel_rfl) (by kernel_rfl) (by kernel_rfl)
abbrev vs35 : List Nat := [0, 1, 2, 3, 6, 7, 8, 9, 10, 15, 20, 26, 34, 49]
def ic35l0 : IC := (.seq (.seq (.region [jv 8, jF 1 3, jl 1, je 2, jk 49 [.t 3], jw 12 (.bin .lss .int) [.t 0, .t 4]])
 (.cond 12 .skip
 (.exit 2)))
 (.seq (.block 3 (.seq (.region [jN 2 3, jv 2, jv 7, jv 8, jk 50 [.t 0, .t 1, .t 2, .t 3], jt 4, jg 5 true (.loadN 2) [.v 3], jh 5 true 1, jh 5 true 7, jh 5 true 8, jf 5 true 50 [.t 6, .t 7, .t 8, .t 9], jg 5 true .not [.t 10], jw 13 .pick [.t 5, .t 11, jB false]])
 (.cond 13 (.seq (.region [jw 4 .mv [jB false], jz 5 0])
 .ret)
 .skip)))
 (.region [jv 8, jq (.bin .add .int) [.t 0, jn 1], jm 8 1])))
def ic35l1 : IC := (.seq (.seq (.region [jv 7, jF 0 3, jl 1, je 2, jw 11 (.bin .lss .int) [.t 0, .t 3]])
 (.cond 11 .skip
 (.exit 0)))
 (.seq (.block 1 (.seq (.region [jz 8 0])
 (.block 2 (.loop ic35l0))))
 (.region [jv 7, jq (.bin .add .int) [.t 0, jn 1], jm 7 1])))
def ic35 : IC := (.seq (.region [jb 3 0, jw 4 .mv [jB false], jz 5 0])
 (.seq (.region [jN 2 3, jv 1, jk 66 [.t 0, .t 1], jm 6 2])
 (.seq (.seq (.region [jv 6, jw 9 (.bin .eql .int) [.t 0, jn 0]])
 (.cond 9 (.region [jN 2 3, jv 2, jk 66 [.t 0, .t 1], jm 6 2])
 .skip))
 (.seq (.seq (.region [jv 6, jw 10 (.bin .neq .int) [.t 0, jn 0]])
 (.cond 10 (.seq (.region [jv 6, jw 4 .mv [jB false], jm 5 0])
 .ret)
 .skip))
 (.seq (.seq (.region [jz 7 0])
 (.block 0 (.loop ic35l1)))
 (.seq (.region [jw 4 .mv [jB true], jz 5 0])
 .ret))))))
abbrev rs35 : List RC := [(.v 4), (.v 5)]
theorem fok35 (p : Bool) : FnOk Tryz.prog 35 ⟨ic35, vs35, 50, rs35, p⟩ := .mk2 Tryz.func35 (by kernel_rfl) (by kernel_rfl) (by kernel_rfl) (by kernel_rfl) (by kernel_rfl)
abbrev vs37 : List Nat := [0, 1, 2, 3, 6, 7, 8, 9, 10, 11, 12, 13, 18, 23, 34, 39, 57, 69]
def ic37l0 : IC := (.seq (.seq (.region [jv 10, jv 8, jw 15 (.bin .leq .int) [.t 0, .t 1]])
 (.cond 15 .skip
 (.exit 2)))
 (.seq (.block 3 (.seq (.region [jN 2 3, jv 1, jv 9, jv 8, jv 10, jq (.bin .sub .int) [.t 3, .t 4], jk 50 [.t 0, .t 1, .t 2, .t 5], jt 6, jg 7 true (.loadN 2) [.v 3], jh 7 true 2, jh 7 true 9, jh 7 true 8, jh 7 true 10, jg 7 true (.bin .sub .int) [.t 11, .t 12], jf 7 true 50 [.t 8, .t 9, .t 10, .t 13], jw 16 .pick [.t 7, .t 14, jB false]])
 (.cond 16 (.region [jv 7, jv 9, jv 10, jq (.build [(.cv (.int .i64 0)), (.cv (.int .i64 0))] [(0, 1), (1, 1)]) [.t 1, .t 2], jq (.bslice 2 1 [(.cv (.int .i64 0)), (.cv (.int .i64 0))] [(0, 2)]) [.t 3], jq (.append 2 16) [.t 0, .t 4], jm 7 5])
 .skip)))
 (.region [jv 10, jq (.bin .add .int) [.t 0, jn 1], jm 10 1])))
def ic37l1 : IC := (.seq (.seq (.region [jv 9, jF 0 3, jl 1, je 2, jw 14 (.bin .lss .int) [.t 0, .t 3]])
 (.cond 14 .skip
 (.exit 0)))
 (.seq (.block 1 (.seq (.region [jz 10 0])
 (.block 2 (.loop ic37l0))))
 (.region [jv 9, jq (.bin .add .int) [.t 0, jn 1], jm 9 1])))
def ic37 : IC := (.seq (.region [jb 3 0, jw 4 .mv [jS], jz 5 0])
 (.seq (.region [jN 2 3, jv 1, jk 66 [.t 0, .t 1], jm 6 2])
 (.seq (.seq (.region [jv 6, jw 12 (.bin .eql .int) [.t 0, jn 0]])
 (.cond 12 (.region [jN 2 3, jv 2, jk 66 [.t 0, .t 1], jm 6 2])
 .skip))
 (.seq (.seq (.region [jv 6, jw 13 (.bin .neq .int) [.t 0, jn 0]])
 (.cond 13 (.seq (.region [jv 6, jw 4 .mv [jS], jm 5 0])
 .ret)
 .skip))
 (.seq (.region [jw 7 .mv [jS]])
 (.seq (.region [jF 1 3, jl 0, je 1, jk 49 [.t 2], jq (.bin .sub .int) [.t 3, jn 1], jm 8 4])
 (.seq (.seq (.region [jz 9 0])
 (.block 0 (.loop ic37l1)))
 (.seq (.region [jN 2 3, jv 7, jk 68 [.t 0, .t 1], jm 11 2])
 (.seq (.seq (.region [jv 11, je 0, jw 17 (.bin .gtr .int) [.t 1, jn 40]])
 (.cond 17 (.seq (.region [jw 4 .mv [jS], jz 5 3])
 .ret)
 .skip))
 (.seq (.region [jv 11, jm 4 0, jz 5 0])
 .ret))))))))))
abbrev rs37 : List RC := [(.v 4), (.v 5)]
theorem fok37 (p : Bool) : FnOk Tryz.prog 37 ⟨ic37, vs37, 71, rs37, p⟩ := .mk2 Tryz.func37 (by kernel_rfl) (by kernel_rfl) (by kernel_rfl) (by kernel_rfl) (by kernel_rfl)
abbrev vs68 : List Nat := [0, 1, 2, 4, 5, 6, 7, 8, 9, 10, 11, 12, 13, 14, 22, 36, 56, 65, 74, 84, 94, 108]
def ic68l0 : IC := (.seq (.seq (.region [jv 13, jv 7, je 1, jq (.bin .lss .int) [.t 0, .t 2], jt 3, jh 4 true 12, jg 4 true .not [.t 5], jw 20 .pick [.t 4, .t 6, jB false]])
 (.cond 20 .skip
 (.exit 10)))
 (.seq (.block 11 (.dr [[], [], [], [1, 2], [3], [], [], [5, 6], [7], [0, 4, 8], [9, 9, 0, 1, 2, 3, 4, 5, 6, 7, 8, 9]] [jN 2 2, jv 7, jv 11, ja 2 1 2, jq (.loadN 2) [.t 3], jv 7, jv 13, ja 2 5 6, jq (.loadN 2) [.t 7], jk 92 [.t 0, .t 4, .t 8], jm 12 9]))
 (.region [jv 13, jq (.bin .add .int) [.t 0, jn 1], jm 13 1])))
def ic68l1 : IC := (.seq (.seq (.region [jv 11, jv 7, je 1, jw 19 (.bin .lss .int) [.t 0, .t 2]])
 (.cond 19 .skip
 (.exit 8)))
 (.seq (.block 9 (.seq (.region [jw 12 .mv [jB false]])
 (.seq (.seq (.region [jz 13 0])
 (.block 10 (.loop ic68l0)))
 (.seq (.region [jv 12, jw 21 .not [.t 0]])
 (.cond 21 (.region [jv 10, jv 7, jv 11, ja 2 1 2, jq (.loadN 2) [.t 3], jq (.bslice 2 1 [(.cv (.int .i64 0)), (.cv (.int .i64 0))] [(0, 2)]) [.t 4], jq (.append 2 16) [.t 0, .t 5], jm 10 6])
 .skip)))))
 (.region [jv 11, jq (.bin .add .int) [.t 0, jn 1], jm 11 1])))
def ic68l2 : IC := (.seq (.seq (.region [jv 9, jv 4, jv 8, ja 1 1 2, jl 3, je 4, jw 17 (.bin .lss .int) [.t 0, .t 5]])
 (.cond 17 .skip
 (.exit 6)))
 (.seq (.block 7 (.seq (.region [jv 4, jv 8, ja 1 0 1, jl 2, jv 9, ja 1 3 4, jw 18 .load1 [.t 5]])
 (.cond 18 (.region [jv 7, jv 8, jv 9, jq (.build [(.cv (.int .i64 0)), (.cv (.int .i64 0))] [(0, 1), (1, 1)]) [.t 1, .t 2], jq (.bslice 2 1 [(.cv (.int .i64 0)), (.cv (.int .i64 0))] [(0, 2)]) [.t 3], jq (.append 2 16) [.t 0, .t 4], jm 7 5])
 .skip)))
 (.region [jv 9, jq (.bin .add .int) [.t 0, jn 1], jm 9 1])))
def ic68l3 : IC := (.seq (.seq (.region [jv 8, jv 4, je 1, jw 16 (.bin .lss .int) [.t 0, .t 2]])
 (.cond 16 .skip
 (.exit 4)))
 (.seq (.block 5 (.seq (.region [jz 9 0])
 (.block 6 (.loop ic68l2))))
 (.region [jv 8, jq (.bin .add .int) [.t 0, jn 1], jm 8 1])))
def ic68l4 : IC := (.seq (.seq (.region [jv 6, jv 1, je 1, jw 15 (.bin .lss .int) [.t 0, .t 2]])
 (.cond 15 .skip
 (.exit 2)))
 (.seq (.block 3 (.dr [[], [], [], [1, 2], [3], [4], [0, 5], [6], [], [], [8, 9], [10], [11], [7, 12, 0, 1, 2, 3, 4, 5, 6, 7, 8, 9, 10, 11, 12], [13, 0, 1, 2, 3, 4, 5, 6, 7, 8, 9, 10, 11, 12]] [jv 4, jv 1, jv 6, ja 2 1 2, jG 0 3, jl 4, ja 1 0 5, jl 6, jv 1, jv 6, ja 2 8 9, jG 1 10, jl 11, ja 1 7 12, jq (.store 1) [.t 13, jB true]]))
 (.region [jv 6, jq (.bin .add .int) [.t 0, jn 1], jm 6 1])))
def ic68l5 : IC := (.seq (.seq (.region [jv 5, jv 4, je 1, jw 14 (.bin .lss .int) [.t 0, .t 2]])
 (.cond 14 .skip
 (.exit 0)))
 (.seq (.block 1 (.region [jv 4, jv 5, jF 1 2, jl 2, je 3, jk 49 [.t 4], jq (.mkslice 1 1 [(.cv (.bool false))]) [.t 5, .t 5], ja 1 0 1, jq (.store 1) [.t 7, .t 6]]))
 (.region [jv 5, jq (.bin .add .int) [.t 0, jn 1], jm 5 1])))
def ic68 : IC := (.seq (.region [jb 2 0, jw 3 .mv [jS]])
 (.seq (.region [jF 0 2, jl 0, je 1, jq (.mkslice 1 24 [(.cv .nils)]) [.t 2, .t 2], jm 4 3])
 (.seq (.seq (.region [jz 5 0])
 (.block 0 (.loop ic68l5)))
 (.seq (.seq (.region [jz 6 0])
 (.block 2 (.loop ic68l4)))
 (.seq (.region [jw 7 .mv [jS]])
 (.seq (.seq (.region [jz 8 0])
 (.block 4 (.loop ic68l3)))
 (.seq (.region [jw 10 .mv [jS]])
 (.seq (.seq (.region [jz 11 0])
 (.block 8 (.loop ic68l1)))
 (.seq (.region [jv 10, jm 3 0])
 .ret)))))))))
abbrev rs68 : List RC := [(.v 3)]
theorem fok68 (p : Bool) : FnOk Tryz.prog 68 ⟨ic68, vs68, 117, rs68, p⟩ := .mk2 Tryz.func68 (by kernel_rfl) (by kernel_rfl) (by kernel_rfl) (by kernel_rfl) (by kernel_rfl)
abbrev vs92 : List Nat := [0, 1, 2, 3, 4, 5, 6]
def ic92 : IC := (.seq (.region [jb 3 0, jb 4 1, jb 5 2, jw 6 .mv [jB false]])
 (.seq (.dr [[], [], [0, 1], [2], [3], [3], [5, 3], [4, 6, 3, 3], [3], [8, 3], [7, 9, 3], [10, 3], [3, 11], [12, 7], [13], [14, 13], [13], [16, 13], [15, 17, 13, 13], [13, 18], [19, 18, 0, 1, 2, 3, 4, 5, 6, 7, 8, 9, 10, 11, 12, 13, 14, 15, 16, 17, 18, 19]] [jN 2 4, jN 2 5, jq (.eqS true (true, [(.int .i64), (.int .i64)])) [.t 0, .t 1], jt 2, jg 3 true (.loadN 2) [.v 3], jg 3 true (.fadd 0) [.v 5], ji 3 true 5, jf 3 true 51 [.t 4, .t 6], jg 3 true (.fadd 0) [.v 4], ji 3 true 8, jg 3 true (.iaS 1) [.t 7, .t 9], ji 3 true 10, jq .pick [.t 3, .t 11, jB false], jt 12, jg 13 true (.fadd 1) [.v 5], ji 13 true 14, jg 13 true (.fadd 1) [.v 4], ji 13 true 16, jf 13 true 114 [.t 15, .t 17], jq .pick [.t 13, .t 18, jB false], jm 6 19])
 .ret))
abbrev rs92 : List RC := [(.v 6)]
theorem fok92 (p : Bool) : FnOk Tryz.prog 92 ⟨ic92, vs92, 27, rs92, p⟩ := .mk2 Tryz.func92 (by kernel_rfl) (by kernel_rfl) (by kernel_rfl) (by kernel_rfl) (by kernel_rfl)
abbrev vs114 : List Nat := [0, 1, 4, 5, 7, 18]
def ic114l0 : IC := (.seq (.seq (.region [jv 3, jw 4 (.bin .lss .int) [.t 0, jn 8]])
 (.cond 4 .skip
 (.exit 0)))
 (.seq (.block 1 (.seq (.region [jv 0, jv 3, jk 52 [.t 0, .t 1], jt 2, jh 3 true 1, jh 3 true 3, jf 3 true 52 [.t 4, .t 5], jg 3 true .not [.t 6], jw 5 .pick [.t 3, .t 7, jB false]])
 (.cond 5 (.seq (.region [jw 2 .mv [jB false]])
 .ret)
 .skip)))
 (.region [jv 3, jq (.bin .add .int) [.t 0, jn 1], jm 3 1])))
def ic114 : IC := (.seq (.region [jw 2 .mv [jB false]])
 (.seq (.seq (.region [jz 3 0])
 (.block 0 (.loop ic114l0)))
 (.seq (.region [jw 2 .mv [jB true]])
 .ret)))
abbrev rs114 : List RC := [(.v 2)]
theorem fok114 (p : Bool) : FnOk Tryz.prog 114 ⟨ic114, vs114, 19, rs114, p⟩ := .mk2 Tryz.func114 (by kernel_rfl) (by kernel_rfl) (by kernel_rfl) (by kernel_rfl) (by kernel_rfl)
end Go.Proofs.YtpnghcaccfnngaaGreatDoor.AM
namespace Go.Proofs.YtpnghcaccfnngaaGreatDoor.Pl
theorem subI_zero {a b : Int} (ha : a < 2 ^ 63) : subI a b = 0 ↔ ∀ k, bit a k = true → bit b k = true := by
 constructor
 ·intro h k h1
  have := bit_sub (b := b) ha k
  rw [h, h1, bit_zero] at this
  cases h2 : bit b k
  ·rw [h2] at this; cases this
  ·rfl
 ·intro h
  refine bit_ext (subI_nn _ _) (Int.le_refl _) fun k => ?_
  rw [bit_sub ha, bit_zero]
  have := h k
  cases h1 : bit a k <;> simp_all
end Go.Proofs.YtpnghcaccfnngaaGreatDoor.Pl
namespace Go.Proofs.YtpnghcaccfnngaaGreatDoor.AM
variable [Dr]
open Go Pl
section
variable {p q : CV → Prop} {σ : List AObj}
mutual
theorem FrzC.mono (h : ∀ c, p c → q c) : ∀ {a : AV} {c : CV}, FrzC p σ a c → FrzC q σ a c
 | _, _, .c c hc => .c c (h c hc)
 | _, _, .nl => .nl
 | _, _, .sl l off len esz cs ds h1 h2 h3 => .sl l off len esz cs ds h1 h2 (FrzCs.mono h h3)
 | _, _, .ptr l off cs ds h1 h2 => .ptr l off cs ds h1 (FrzCs.mono h h2)
 | _, _, .slc l off len cap esz cs ds h1 h2 h3 => .slc l off len cap esz cs ds h1 h2 (FrzCs.mono h h3)
theorem FrzCs.mono (h : ∀ c, p c → q c) : ∀ {as_ : List AV} {cs : List CV}, FrzCs p σ as_ cs → FrzCs q σ as_ cs
 | _, _, .nil => .nil
 | _, _, .cons h1 h2 => .cons (FrzC.mono h h1) (FrzCs.mono h h2)
end
mutual
theorem FrzV.mono (h : ∀ c, p c → q c) : ∀ {a b : AV}, FrzV p σ a b → FrzV q σ a b
 | _, _, .c h1 => .c (FrzC.mono h h1)
 | _, _, .agg h1 => .agg (FrzVs.mono h h1)
 | _, _, .tup h1 => .tup (FrzVs.mono h h1)
 | _, _, .fn h1 => .fn (FrzVs.mono h h1)
 | _, _, .bm h1 => .bm (FrzVs.mono h h1)
 | _, _, .un a => .un a
theorem FrzVs.mono (h : ∀ c, p c → q c) : ∀ {as_ bs : List AV}, FrzVs p σ as_ bs → FrzVs q σ as_ bs
 | _, _, .nil => .nil
 | _, _, .cons h1 h2 => .cons (FrzV.mono h h1) (FrzVs.mono h h2)
end
end
theorem PC.pa {P : Program} {f : FuncId} {args : List AV} {v : AV} (h : PC P f args v) (hal : locsInAll 0 args = true) : PA P f args v := ⟨h.ac.mono fun r τ h => h.mono fun _ _ => trivial, h.cl, hal⟩
theorem c31 (s : Sys) (hs : SSz s) (l : List Rt) (hl : l.length < 2 ^ 63) : PA Tryz.prog 31 [sysV s, rgL l] (lstV s l) := (p31 s hs l hl).pa rfl
theorem c36 (s : Sys) (hs : SSz s) (a b : List Rt) (ha : a.length < 2 ^ 63) (hb : b.length < 2 ^ 63) : PA Tryz.prog 36 [sysV s, rgL a, rgL b] (bthV s a b) := (p36 s hs a b ha hb).pa rfl
theorem sub_any {a b : Int} (h0 : 0 ≤ a) (ha : a < 256) : (subI a b == 0) = !anyN (fun k => bit a k && !bit b k) 8 := by
 rw [Bool.eq_iff_iff]
 rw [beq_iff_eq, subI_zero (by omega), Bool.not_eq_true', anyN_false]
 constructor
 ·intro h k hk
  have := h k
  cases h1 : bit a k <;> cases h2 : bit b k <;> simp_all
 ·intro h k h1
  rcases Nat.lt_or_ge k 8 with hk | hk
  ·have := h k hk; rw [h1] at this
   cases h2 : bit b k <;> simp_all
  ·rw [bit_hi (m := 8) (by omega) hk] at h1; cases h1
theorem c114 (a b : Int) (ha : 0 ≤ a ∧ a < 256) (hb : 0 ≤ b ∧ b < 9223372036854775808) : PC Tryz.prog 114 [.i a, .i b] (.b (subI a b == 0)) := by
 refine ⟨AC_FE (fok114 true) (Nat.le_of_ble_eq_true rfl) ?_, rfl⟩
 rw [sub_any ha.1 ha.2]
 simp only [ic114, evA, if_true, if_false, beq_false, simprocAttr]
 refine IL_for 8 (fun i s' => (∀ j, j < i → (bit a j && !bit b j) = false) ∧ ∃ v4 v5, s' = ⟨[.i a, .i b, .b false, .i i, v4, v5], []⟩) ?_ 0 (Nat.zero_le _) ⟨by omega, _, _, rfl⟩
 rintro i s' hi ⟨hall, v4, v5, rfl⟩
 by_cases h : i < 8
 ·have hlt : decide ((i : Int) < 8) = true := decide_eq_true (by omega)
  simp only [ic114l0, hlt, evA, if_true, if_false, beq_false, simprocAttr]
  refine (c52 a ⟨ha.1, by omega⟩ i (by omega)).call frz ?_
  cases h1 : bit a i with
  | false =>
   simp only [wrap_succ (show i + 1 < 2 ^ 63 by omega), evA, if_true, if_false, beq_false, simprocAttr]
   refine kFor_go (by first | trivial | omega) ⟨fun j hj => ?_, _, _, rfl⟩
   rcases Nat.lt_succ_iff_lt_or_eq.1 hj with hj | rfl
   ·exact hall j hj
   ·rw [h1]; rfl
  | true =>
   simp only [evA, if_true, if_false, beq_false, simprocAttr]
   refine (c52 b hb i (by omega)).call frz ?_
   cases h2 : bit b i with
   | false =>
    have : anyN (fun k => bit a k && !bit b k) 8 = true := anyN_true.2 ⟨i, h, by rw [h1, h2]; rfl⟩
    rw [this]
    simp only [evA, if_true, if_false, beq_false, simprocAttr]
    exact frz
   | true =>
    simp only [wrap_succ (show i + 1 < 2 ^ 63 by omega), evA, if_true, if_false, beq_false, simprocAttr]
    refine kFor_go (by first | trivial | omega) ⟨fun j hj => ?_, _, _, rfl⟩
    rcases Nat.lt_succ_iff_lt_or_eq.1 hj with hj | rfl
    ·exact hall j hj
    ·rw [h1, h2]; rfl
 ·have : i = 8 := by omega
  subst this
  have hlt : decide (((8 : Nat) : Int) < 8) = false := by decide
  rw [anyN_false.2 hall]
  simp only [ic114l0, hlt, evA, if_true, if_false, beq_false, simprocAttr]
  exact frz
theorem c92 (s : Sys) (hs : SSz s) (hn12 : s.cl.length ≤ 12) (hm : s.co.length ≤ 8) (hok : OkI s) (x r : Rt) (hx : RgOk s x) (hr : RgOk s r) : PC Tryz.prog 92 [sysV s, rgV x, rgV r] (.b (wkB s x r)) := by
 refine ⟨AC_FE (fok92 true) (Nat.le_of_ble_eq_true rfl) ?_, rfl⟩
 have hbp := pow_bd hm
 have e40 : (2 : Nat) ^ 40 = 1099511627776 := by decide
 have hxw := hx.w hn12 hm
 have hrw := hr.w hn12 hm
 have heq : ∀ σ, f_eqS true KR [rgV x, rgV r] σ = some (.b (!decide (x = r)), σ) := fun σ => by
  simp only [f_eqS, rg_eq hxw hrw, Option.map_some, if_true]
 obtain ⟨⟨x1, x2⟩, x3, x4⟩ := hx
 obtain ⟨⟨r1, r2⟩, r3, r4⟩ := hr
 have x4' : x.2 < 256 := by unfold setN at x4; omega
 have r4' : r.2 < 256 := by unfold setN at r4; omega
 obtain ⟨c, hc⟩ : ∃ c : Nat, r.1 = (c : Int) := ⟨r.1.toNat, by omega⟩
 obtain ⟨d, hd⟩ : ∃ d : Nat, x.1 = (d : Int) := ⟨x.1.toNat, by omega⟩
 have hcl : c < s.cl.length := by omega
 have hdl : d < s.cl.length := by omega
 have hwk1 : wkB s x r = (!decide (x = r) && (covB s c d && (subI r.2 x.2 == 0))) := by unfold wkB; rw [hc, hd, Int.toNat_natCast, Int.toNat_natCast]
 rw [hwk1]
 simp only [ic92, f_box, cellsOf, evA, if_true, if_false, beq_false, simprocAttr]
 refine DW_s [7, 18] [] hmix (by kernel_rfl) rfl ?_
 simp only [heq, evA, if_true, if_false, beq_false, simprocAttr]
 cases hdc : decide (x = r) with
 | true =>
  simp only [Bool.not_true, evA, if_true, if_false, beq_false, simprocAttr]
  exact frz
 | false =>
 simp only [Bool.not_false, hc, hd, evA, if_true, if_false, beq_false, simprocAttr]
 refine kK_keep ((c51 s hs (by omega) hok c hcl).call frz ⟨rfl, rfl⟩) rfl ?_
 simp only [ia_cov hdl, Nat.mul_one, cov_get hdl, evA, if_true, if_false, beq_false, simprocAttr]
 cases hcv : covB s c d with
 | false =>
  simp only [evA, if_true, if_false, beq_false, simprocAttr]
  exact frz
 | true =>
  simp only [evA, if_true, if_false, beq_false, simprocAttr]
  refine kK_keep ((c114 r.2 x.2 ⟨r3, r4'⟩ ⟨x3, by omega⟩).call frz ⟨rfl, rfl⟩) rfl ?_
  simp only [evA, if_true, if_false, beq_false, simprocAttr]
  exact frz
def rowL (l : List Rt) (c k : Nat) : List Rt := (List.range k).flatMap fun j : Nat => if decide (((c : Int), (j : Int)) ∈ l) then [((c : Int), (j : Int))] else []
def allL (l : List Rt) (N c : Nat) : List Rt := (List.range c).flatMap fun c' : Nat => rowL l c' N
theorem rowL_s (l : List Rt) (c k : Nat) : rowL l c (k + 1) = rowL l c k ++ if decide (((c : Int), (k : Int)) ∈ l) then [((c : Int), (k : Int))] else [] := by simp [rowL, List.range_succ]
theorem allL_s (l : List Rt) (N c : Nat) : allL l N (c + 1) = allL l N c ++ rowL l c N := by simp [allL, List.range_succ]
theorem rowL_mem {l : List Rt} {c k : Nat} {x : Rt} : x ∈ rowL l c k ↔ x ∈ l ∧ x.1 = (c : Int) ∧ ∃ j : Nat, j < k ∧ x.2 = (j : Int) := by
 unfold rowL
 rw [List.mem_flatMap]
 constructor
 ·rintro ⟨j, hj, h⟩
  split at h
  ·rename_i hd
   rw [List.mem_singleton] at h
   subst h
   exact ⟨of_decide_eq_true hd, rfl, j, List.mem_range.1 hj, rfl⟩
  ·simp at h
 ·rintro ⟨h1, h2, j, h3, h4⟩
  have hx : x = ((c : Int), (j : Int)) := Prod.ext h2 h4
  refine ⟨j, List.mem_range.2 h3, ?_⟩
  rw [← hx, if_pos (decide_eq_true h1)]; simp
theorem allL_mem {l : List Rt} {N c : Nat} {x : Rt} : x ∈ allL l N c ↔ x ∈ l ∧ (∃ i : Nat, i < c ∧ x.1 = (i : Int)) ∧ ∃ j : Nat, j < N ∧ x.2 = (j : Int) := by
 unfold allL
 rw [List.mem_flatMap]
 constructor
 ·rintro ⟨i, hi, h⟩
  obtain ⟨h1, h2, h3⟩ := rowL_mem.1 h
  exact ⟨h1, ⟨i, List.mem_range.1 hi, h2⟩, h3⟩
 ·rintro ⟨h1, ⟨i, hi, h2⟩, h3⟩
  exact ⟨i, List.mem_range.2 hi, rowL_mem.2 ⟨h1, h2, h3⟩⟩
theorem allL_lt (l : List Rt) (N c : Nat) : (allL l N c).Pairwise fun a b => a.1 < b.1 ∨ (a.1 = b.1 ∧ a.2 < b.2) := by
 unfold allL
 rw [List.pairwise_flatMap]
 constructor
 ·intro i _
  unfold rowL
  rw [List.pairwise_flatMap]
  constructor
  ·intro j _
   split <;> simp
  ·refine List.pairwise_lt_range.imp ?_
   intro j k hjk x hx y hy
   split at hx
   ·split at hy
    ·rw [List.mem_singleton] at hx hy
     subst hx hy
     exact .inr ⟨rfl, by show (j : Int) < k; omega⟩
    ·simp at hy
   ·simp at hx
 ·refine List.pairwise_lt_range.imp ?_
  intro i k hik x hx y hy
  have h1 := (rowL_mem.1 hx).2.1
  have h2 := (rowL_mem.1 hy).2.1
  exact .inl (by omega)
theorem allL_eq {s : Sys} {l : List Rt} {N : Nat} (hN : setN s = (N : Int)) (hr : ∀ r ∈ l, RgOk s r) : allL l N s.cl.length = sortR (ddR l) := by
 have hlt := allL_lt l N s.cl.length
 refine sortR_eq (nodup_perm (hlt.imp ?_) (esN_nodup _ _) fun x => ?_) (hlt.imp ?_)
 ·rintro a b h rfl
  omega
 ·rw [allL_mem, ddR_mem]
  constructor
  ·exact fun h => h.1
  ·intro h
   obtain ⟨⟨h1, h2⟩, h3, h4⟩ := hr x h
   exact ⟨h, ⟨x.1.toNat, by omega, by omega⟩, x.2.toNat, by omega, by omega⟩
 ·intro a b h
  simp only [leR, Bool.or_eq_true, Bool.and_eq_true, decide_eq_true_eq]
  omega
theorem leastF_all {s : Sys} {l : List Rt} {N : Nat} (hN : setN s = (N : Int)) (hr : ∀ r ∈ l, RgOk s r) : leastF s l = (allL l N s.cl.length).filter fun x => !(allL l N s.cl.length).any fun r => wkB s x r := by
 have hall := allL_eq hN hr
 rw [leastF_keys (ks := ddR l) (esN_nodup _ _) (fun x => ddR_mem), hall]
 apply List.filter_congr
 intro x _
 congr 1
 rw [Bool.eq_iff_iff, List.any_eq_true, List.any_eq_true]
 constructor <;> rintro ⟨r, h1, h2⟩ <;> refine ⟨r, ?_, h2⟩
 ·rw [mem_sortR, ddR_mem]; exact h1
 ·rw [mem_sortR, ddR_mem] at h1; exact h1
theorem mk_nils {n : Nat} (h : n < 2 ^ 40) (σ : List AObj) : f_mkslice 1 24 [.cv .nils] [.i n, .i n] σ = some (.sl σ.length 0 n 1, σ ++ [.cells (List.replicate n (.cv .nils))]) := by
 have e : (2 : Int) ^ 46 = 70368744177664 := by decide
 have e2 : (2 : Nat) ^ 40 = 1099511627776 := by decide
 have h1 : 0 ≤ (n : Int) ∧ True ∧ (n : Int) * (24 : Nat) ≤ 2 ^ 46 ∧ (n : Int) ≤ 2 ^ 46 ∧ [AV.cv .nils].length = 1 := by
  refine ⟨by omega, trivial, by omega, by omega, rfl⟩
 simp only [f_mkslice]
 rw [if_pos h1]
 simp [zcells]
def rowA (n N k : Nat) : List AV := (List.range n).map fun c => if c < k then AV.sl (c + 1 + 1) 0 N 1 else .cv .nils
def rowsB (B : Nat → List Bool) (k : Nat) : List AObj := (List.range k).map fun c => AObj.cells (boolA (B c))
theorem rowsB_len (B : Nat → List Bool) (k : Nat) : (rowsB B k).length = k := by simp [rowsB]
theorem rowsB_s (B : Nat → List Bool) (k : Nat) : rowsB B k ++ [AObj.cells (boolA (B k))] = rowsB B (k + 1) := by simp [rowsB, List.range_succ]
theorem rowA_0 (n N : Nat) : List.replicate n (AV.cv .nils) = rowA n N 0 := by
 apply List.ext_getElem (by simp [rowA])
 intro i h1 h2
 simp [rowA]
theorem rowA_set {n N k : Nat} (hk : k < n) : (rowA n N k).set k (.sl (k + 1 + 1) 0 N 1) = rowA n N (k + 1) := by
 apply List.ext_getElem (by simp [rowA])
 intro i h1 h2
 rw [List.getElem_set]
 simp only [rowA, List.getElem_map, List.getElem_range]
 by_cases h : k = i
 ·subst h; simp
 ·rw [if_neg h]
  by_cases h3 : i < k
  ·rw [if_pos h3, if_pos (by omega)]
  ·rw [if_neg h3, if_neg (by omega)]
theorem rowA_get {n N z : Nat} (hz : z < n) : (rowA n N n)[z]? = some (.sl (z + 1 + 1) 0 N 1) := by simp [rowA, hz]
theorem rowsB_row {B : Nat → List Bool} {n z : Nat} (hz : z < n) : rowOf (rowsB B n) z = some (boolA (B z)) := by
 unfold rowOf; simp [rowsB, hz]
theorem rowsB_set {B B' : Nat → List Bool} {n z : Nat} (hz : z < n) (h : ∀ c, c ≠ z → B c = B' c) : (rowsB B n).set z (.cells (boolA (B' z))) = rowsB B' n := by
 apply List.ext_getElem (by simp [rowsB])
 intro i h1 h2
 rw [List.getElem_set]
 simp only [rowsB, List.getElem_map, List.getElem_range]
 by_cases hi : z = i
 ·subst hi; simp
 ·rw [if_neg hi, h i (Ne.symm hi)]
def bitsL (L : List Rt) (N c : Nat) : List Bool := (List.range N).map fun k : Nat => decide (((c : Int), (k : Int)) ∈ L)
theorem bitsL_len (L : List Rt) (N c : Nat) : (bitsL L N c).length = N := by simp [bitsL]
theorem bitsL_nil (N c : Nat) : bitsL [] N c = List.replicate N false := by
 apply List.ext_getElem (by simp [bitsL])
 intro i h1 h2
 simp [bitsL]
theorem bitsL_get {L : List Rt} {N c k : Nat} (hk : k < N) : (bitsL L N c)[k]?.getD false = decide (((c : Int), (k : Int)) ∈ L) := by simp [bitsL, hk]
theorem bitsL_add (L : List Rt) (N z k : Nat) (hk : k < N) : setT (bitsL L N z) k = bitsL (L ++ [((z : Int), (k : Int))]) N z := by
 apply List.ext_getElem (by simp [bitsL, setT])
 intro i h1 h2
 simp only [setT, List.getElem_set, bitsL, List.getElem_map, List.getElem_range, List.mem_append, List.mem_singleton, Prod.mk.injEq]
 by_cases h : k = i
 ·subst h; simp
 ·rw [if_neg h]
  rw [Bool.eq_iff_iff]; simp
  omega
theorem bitsL_ne (L : List Rt) (N z k c : Nat) (h : c ≠ z) : bitsL L N c = bitsL (L ++ [((z : Int), (k : Int))]) N c := by
 apply List.ext_getElem (by simp [bitsL])
 intro i h1 h2
 simp only [bitsL, List.getElem_map, List.getElem_range, List.mem_append, List.mem_singleton, Prod.mk.injEq]
 rw [Bool.eq_iff_iff]; simp
 omega
theorem rowL_le (l : List Rt) (c : Nat) : ∀ k, (rowL l c k).length ≤ k
 | 0 => by simp [rowL]
 | k + 1 => by
  have := rowL_le l c k
  rw [rowL_s, List.length_append]
  split <;> simp <;> omega
theorem allL_le (l : List Rt) (N : Nat) : ∀ c, (allL l N c).length ≤ c * N
 | 0 => by simp [allL]
 | c + 1 => by
  have := allL_le l N c
  have := rowL_le l c N
  rw [allL_s, List.length_append, Nat.succ_mul]
  omega
theorem c68 (s : Sys) (hs : SSz s) (hn1 : 1 ≤ s.cl.length) (hn12 : s.cl.length ≤ 12) (hm : s.co.length ≤ 8) (hok : OkI s) (l : List Rt) (hl : l.length < 2 ^ 38) (hr : ∀ r ∈ l, RgOk s r) : PC Tryz.prog 68 [sysV s, rgL l] (rgL (leastF s l)) := by
 have hp2 : (2 : Nat) ^ 38 = 274877906944 := by decide
 have hp3 : (2 : Nat) ^ 44 = 17592186044416 := by decide
 have e40 : (2 : Nat) ^ 40 = 1099511627776 := by decide
 have hbp := pow_bd hm
 obtain ⟨N, hN⟩ : ∃ N : Nat, setN s = (N : Int) := ⟨(setN s).toNat, by unfold setN; omega⟩
 have hN' : (2 : Int) ^ s.co.length = (N : Int) := hN
 have hNr : 1 ≤ N ∧ N ≤ 256 := by rw [hN'] at hbp; omega
 have h49 := c49 s.co.length hm
 rw [hN'] at h49
 refine ⟨AC_FE (fok68 true) (Nat.le_of_ble_eq_true rfl) ?_, rfl⟩
 have hnn : s.cl.length < 2 ^ 40 := by omega
 simp only [ic68, f_box, cellsOf, mk_nils hnn, evA, if_true, if_false, beq_false, simprocAttr]
 rw [rowA_0 s.cl.length N]
 refine IL_for s.cl.length (fun c s' => ∃ v14, s' = ⟨[sysV s, rgL l, .ptr 0 0, .cv .nils, .sl 1 0 s.cl.length 1, .i c, .undef, .undef, .undef, .undef, .undef, .undef, .undef, .undef, v14, .undef, .undef, .undef, .undef, .undef, .undef, .undef], .cells [.cv (clsR s.cl), .cv (strR s.co)] :: .cells (rowA s.cl.length N c) :: rowsB (fun _ => List.replicate N false) c⟩) ?_ 0 (Nat.zero_le _) ⟨_, rfl⟩
 rintro c s' hc ⟨v14, rfl⟩
 by_cases hcn : c < s.cl.length
 ·have hsl : ∀ σ, f_iaS 1 [.sl 1 0 s.cl.length 1, .cv (.int .i64 c)] σ = some (.ptr 1 (0 + c), σ) := sl_addr hcn
  have hcl : c + 1 ≤ (rowA s.cl.length N c).length := by simp [rowA]; omega
  have hNN : N < 2 ^ 40 := by omega
  have hset := rowA_set (N := N) hcn
  simp only [ic68l5, Int.ofNat_lt, hcn, evA, if_true, if_false, beq_false, simprocAttr]
  refine h49.call frz ?_
  simp only [mk_bools hNN, hsl, Nat.zero_add, hcl, rowsB_len, hset, wrap_succ (show c + 1 < 2 ^ 63 by omega), evA, if_true, if_false, beq_false, simprocAttr]
  exact kFor_go (by first | trivial | omega) ⟨_, by rw [← rowsB_s (fun _ => List.replicate N false) c]⟩
 have hcn' : c = s.cl.length := by omega
 subst hcn'
 have hb0 : rowsB (fun _ => List.replicate N false) s.cl.length = rowsB (bitsL (l.take 0) N) s.cl.length := by
  unfold rowsB
  apply List.map_congr_left
  intro c _
  rw [List.take_zero, bitsL_nil]
 simp only [ic68l5, Int.ofNat_lt, hcn, hb0, evA, if_true, if_false, beq_false, simprocAttr]
 refine IL_for l.length (fun i s' => ∃ v5 v14 v15, (∀ k, locsIn k v5 = true ∧ locsIn k v14 = true) ∧ s' = ⟨[sysV s, rgL l, .ptr 0 0, .cv .nils, .sl 1 0 s.cl.length 1, v5, .i i, .undef, .undef, .undef, .undef, .undef, .undef, .undef, v14, v15, .undef, .undef, .undef, .undef, .undef, .undef], .cells [.cv (clsR s.cl), .cv (strR s.co)] :: .cells (rowA s.cl.length N s.cl.length) :: rowsB (bitsL (l.take i) N) s.cl.length⟩) ?_ 0 (Nat.zero_le _) ⟨_, _, _, fun _ => ⟨rfl, rfl⟩, rfl⟩
 rintro i s' hi ⟨v5, v14, v15, hv, rfl⟩
 by_cases hil : i < l.length
 ·have hri := hr l[i]! (by rw [getElem!_pos l i hil]; exact List.getElem_mem hil)
  have hst : l.take (i + 1) = l.take i ++ [l[i]!] := by rw [List.take_add_one, List.getElem?_eq_getElem hil, getElem!_pos l i hil]; rfl
  have hl0 := rg_0 hil
  have hl1 := rg_1 hil
  rw [hst]
  generalize l[i]! = r at *
  obtain ⟨⟨r1, r2⟩, r3, r4⟩ := hri
  rw [hN] at r4
  obtain ⟨z, hz⟩ : ∃ z : Nat, r.1 = (z : Int) := ⟨r.1.toNat, by omega⟩
  obtain ⟨k, hk⟩ : ∃ k : Nat, r.2 = (k : Int) := ⟨r.2.toNat, by omega⟩
  have hzl : z < s.cl.length := by omega
  have hkN : k < N := by omega
  have hrzk : r = ((z : Int), (k : Int)) := Prod.ext hz hk
  have hsl : ∀ σ, f_iaS 1 [.sl 1 0 s.cl.length 1, .cv (.int .i64 z)] σ = some (.ptr 1 (0 + z), σ) := sl_addr hzl
  have hsk : ∀ σ, f_iaS 1 [.sl (z + 1 + 1) 0 N 1, .cv (.int .i64 k)] σ = some (.ptr (z + 1 + 1) (0 + k), σ) := sl_addr hkN
  have hkb : k + 1 ≤ (bitsL (l.take i) N z).length := by rw [bitsL_len]; omega
  have hset : (rowsB (bitsL (l.take i) N) s.cl.length).set z (.cells (boolA (setT (bitsL (l.take i) N z) k))) = rowsB (bitsL (l.take i ++ [r]) N) s.cl.length := by
   rw [bitsL_add _ _ _ _ hkN, hrzk]
   exact rowsB_set (B' := bitsL (l.take i ++ [((z : Int), (k : Int))]) N) hzl fun c hc => bitsL_ne _ _ _ _ _ hc
  simp only [ic68l4, Int.ofNat_lt, hil, evA, if_true, if_false, beq_false, simprocAttr]
  refine DW_s [] [] hmix (by kernel_rfl) rfl ?_
  simp only [ia_rg hil, hl0, hl1, hz, hk, hsl, hsk, Nat.zero_add, rowA_get hzl, rowsB_row hzl, set_bools, hkb, hset, wrap_succ (show i + 1 < 2 ^ 63 by omega), evA, if_true, if_false, beq_false, simprocAttr]
  exact kFor_go (by first | trivial | omega) ⟨_, _, _, hv, rfl⟩
 have hil' : i = l.length := by omega
 subst hil'
 rw [List.take_length]
 simp only [ic68l4, Int.ofNat_lt, hil, evA, if_true, if_false, beq_false, simprocAttr]
 obtain ⟨bC, hbC⟩ : ∃ bC : List CV, bC = (List.range s.cl.length).map fun c => boolR (bitsL l N c) := ⟨_, rfl⟩
 have hbg : ∀ c, c < s.cl.length → bC[c]? = some (boolR (bitsL l N c)) := fun c hc => by rw [hbC]; simp [hc]
 have hvr : FrzV anyC (List.replicate 1 .dead ++ (AObj.cells (rowA s.cl.length N s.cl.length) :: rowsB (bitsL l N) s.cl.length)) (.sl 1 0 s.cl.length 1) (.cv (.rsl bC s.cl.length)) := by
  refine .c (.sl 1 0 s.cl.length 1 (rowA s.cl.length N s.cl.length) _ rfl (by simp [rowA]) ?_)
  have hl2 : (rowA s.cl.length N s.cl.length).length = s.cl.length := by simp [rowA]
  rw [List.drop_zero, Nat.mul_one, List.take_of_length_le (by omega), hbC]
  unfold rowA
  have key : ∀ ks : List Nat, (∀ k ∈ ks, k < s.cl.length) → FrzCs anyC (List.replicate 1 AObj.dead ++ (AObj.cells (rowA s.cl.length N s.cl.length) :: rowsB (bitsL l N) s.cl.length)) (ks.map fun c => if c < s.cl.length then AV.sl (c + 1 + 1) 0 N 1 else .cv .nils) (ks.map fun c => boolR (bitsL l N c)) := by
   intro ks
   induction ks with
   | nil => intro _; exact .nil
   | cons k ks ih =>
    intro h
    have hk := h k (by simp)
    have hfb := frz_bools (p := anyC) (fun _ => trivial) (n := N) (o := bitsL l N k) (by rw [bitsL_len]) (show rowOf (List.replicate 1 AObj.dead ++ (AObj.cells (rowA s.cl.length N s.cl.length) :: rowsB (bitsL l N) s.cl.length)) (k + 1 + 1) = some (boolA (bitsL l N k)) from rowsB_row hk)
    refine .cons ?_ (ih fun k' hk' => h k' (by simp [hk']))
    show FrzC anyC _ (if k < s.cl.length then AV.sl (k + 1 + 1) 0 N 1 else .cv .nils) (boolR (bitsL l N k))
    rw [if_pos hk]
    cases hfb with
    | c h => exact h
  exact key _ fun k hk => List.mem_range.1 hk
 refine IL.weak (Weak.turn (τ := [.cells [.cv (clsR s.cl), .cv (strR s.co)]]) (τ2 := [.cells [.cv (clsR s.cl), .cv (strR s.co)]]) (J := AObj.cells (rowA s.cl.length N s.cl.length) :: rowsB (bitsL l N) s.cl.length) rfl rfl (vals2 := [sysV s, rgL l, .ptr 0 0, .cv .nils, .cv (.rsl bC s.cl.length), v5, .i l.length, .cv .nils, .i 0, .undef, .undef, .undef, .undef, .undef, v14, .b false, .undef, .undef, .undef, .undef, .undef, .undef]) ?_ ?_) ?_
 ·refine .cons (.inl ⟨rfl, rfl⟩) (.cons (.inl ⟨rfl, rfl⟩) (.cons (.inl ⟨rfl, rfl⟩) (.cons (.inl ⟨rfl, rfl⟩) (.cons (.inr hvr) (.cons (.inl ⟨rfl, (hv _).1⟩) (.cons (.inl ⟨rfl, rfl⟩) (.cons (.inl ⟨rfl, rfl⟩) (.cons (.inl ⟨rfl, rfl⟩) (.cons (.inl ⟨rfl, rfl⟩) (.cons (.inl ⟨rfl, rfl⟩) (.cons (.inl ⟨rfl, rfl⟩) (.cons (.inl ⟨rfl, rfl⟩) (.cons (.inl ⟨rfl, rfl⟩) (.cons (.inl ⟨rfl, (hv _).2⟩) ?_))))))))))))))
  repeat (first | exact .nil | refine .cons (.inl ⟨rfl, rfl⟩) ?_)
 ·intro l' o2 hl
  match l' with
  | 0 => cases hl; exact ⟨_, rfl, trivial, .inl ⟨rfl, rfl⟩⟩
  | l' + 1 => simp at hl
 have hall0 : (allL l N s.cl.length).length < 2 ^ 38 := by
  have := (allL_eq hN hr)
  rw [this, sortR_len]
  have h1 := esN_len l l.length
  show ((esN l l.length).map (·.1)).length < _
  rw [List.length_map]; omega
 refine IL_for s.cl.length (fun c s' => ∃ v5 v7 v9 v14 v16 v17 v18 τ, (∀ k, locsIn k v5 = true ∧ locsIn k v14 = true ∧ locsIn k v9 = true ∧ locsIn k v16 = true ∧ locsIn k v17 = true ∧ locsIn k v18 = true) ∧ AccSF 1 2 (.cells [.cv (clsR s.cl), .cv (strR s.co)] :: τ) v7 (allL l N c).length ((allL l N c).flatMap rgC) ∧ s' = ⟨[sysV s, rgL l, .ptr 0 0, .cv .nils, .cv (.rsl bC s.cl.length), v5, .i l.length, v7, .i c, v9, .undef, .undef, .undef, .undef, v14, .b false, v16, v17, v18, .undef, .undef, .undef], .cells [.cv (clsR s.cl), .cv (strR s.co)] :: τ⟩) ?_ 0 (Nat.zero_le _) ⟨_, _, _, _, _, _, _, _, fun k => ⟨(hv k).1, (hv k).2, rfl, rfl, rfl, rfl⟩, .inl ⟨rfl, rfl, rfl⟩, rfl⟩
 rintro c s' hc ⟨v5, v7, v9, v14, v16, v17, v18, τ, hv2, hA, rfl⟩
 by_cases hcn : c < s.cl.length
 ·have hcb := hbg c hcn
  have hla := allL_le l N c
  have hcN : c * N ≤ 12 * 256 := Nat.mul_le_mul (by omega) hNr.2
  simp only [ic68l3, Int.ofNat_lt, hcn, evA, if_true, if_false, beq_false, simprocAttr]
  refine IL_for N (fun k s' => ∃ v7 v17 v18 τ, (∀ k, locsIn k v17 = true ∧ locsIn k v18 = true) ∧ AccSF 1 2 (.cells [.cv (clsR s.cl), .cv (strR s.co)] :: τ) v7 (allL l N c ++ rowL l c k).length ((allL l N c ++ rowL l c k).flatMap rgC) ∧ s' = ⟨[sysV s, rgL l, .ptr 0 0, .cv .nils, .cv (.rsl bC s.cl.length), v5, .i l.length, v7, .i c, .i k, .undef, .undef, .undef, .undef, v14, .b false, .b true, v17, v18, .undef, .undef, .undef], .cells [.cv (clsR s.cl), .cv (strR s.co)] :: τ⟩) ?_ 0 (Nat.zero_le _) ⟨_, _, _, _, fun k => (hv2 k).2.2.2.2, by simpa [rowL] using hA, rfl⟩
  rintro k s' hk ⟨v7, v17, v18, τ, hv17, hA, rfl⟩
  by_cases hkN : k < N
  ·have hbk := bitsL_get (L := l) (c := c) hkN
   have hbm : ((bitsL l N c).map CV.bool)[k]? = some (.bool (decide (((c : Int), (k : Int)) ∈ l))) := by
    rw [← hbk, List.getElem?_map, List.getElem?_eq_getElem (by rw [bitsL_len]; exact hkN)]; rfl
   have hia : ∀ σ, f_iaS 1 [.cv (boolR (bitsL l N c)), .cv (.int .i64 k)] σ = some (.cv (.rp ((bitsL l N c).map CV.bool) (k * 1)), σ) := ia_rsl (by rw [bitsL_len]; exact hkN)
   have hrs := rowL_s l c k
   have hrl := rowL_le l c k
   simp only [ic68l2, ia_rsl hcn, Nat.mul_one, hcb, bitsL_len, Int.ofNat_lt, hkN, hia, hbm, evA, if_true, if_false, beq_false, simprocAttr]
   cases hd : decide (((c : Int), (k : Int)) ∈ l) with
   | false =>
    rw [hd] at hrs
    have hrs' : rowL l c (k + 1) = rowL l c k := by simpa using hrs
    simp only [wrap_succ (show k + 1 < 2 ^ 63 by omega), evA, if_true, if_false, beq_false, simprocAttr]
    exact kFor_go (by first | trivial | omega) ⟨_, _, _, _, fun _ => ⟨rfl, rfl⟩, by rw [hrs']; exact hA, rfl⟩
   | true =>
    rw [hd] at hrs
    have hrs' : rowL l c (k + 1) = rowL l c k ++ [((c : Int), (k : Int))] := by simpa using hrs
    have hln1 : (allL l N c ++ rowL l c k).length ≤ 12 * 256 + 256 := by rw [List.length_append]; omega
    have hln2 : (allL l N c ++ rowL l c (k + 1)).length = (allL l N c ++ rowL l c k).length + 1 := by rw [hrs', ← List.append_assoc, List.length_append]; rfl
    have hfl : (allL l N c ++ rowL l c (k + 1)).flatMap rgC = (allL l N c ++ rowL l c k).flatMap rgC ++ rgC ((c : Int), (k : Int)) := by rw [hrs', ← List.append_assoc, List.flatMap_append]; simp
    obtain ⟨v', σ', happ, hA', hfr, hlnn⟩ := accSF_append (by_ := 16) (x := rgC ((c : Int), (k : Int))) (by simp) hA rfl (by omega) (by omega)
    rw [← hln2, ← hfl] at hA'
    have f0 := hfr 0 (by omega)
    match σ', hlnn with
    | x0 :: σ2, _ =>
    have g0 : x0 = .cells [.cv (clsR s.cl), .cv (strR s.co)] := by simpa using f0
    subst g0
    simp only [List.append_assoc, List.length_append, rowOf_az, rowOf_as, set_az, set_as, get_az, get_as, get_nz, get_ns, List.cons_append, List.nil_append, List.length_cons, List.length_nil, Nat.zero_add, rgC, List.map_cons, List.map_nil] at happ
    simp only [happ, hA.nu, hA'.nu, wrap_succ (show k + 1 < 2 ^ 63 by omega), List.append_assoc, List.length_append, rowOf_az, rowOf_as, set_az, set_as, get_az, get_as, get_nz, get_ns, evA, if_true, if_false, beq_false, simprocAttr]
    exact kFor_go (by first | trivial | omega) ⟨_, _, _, _, fun _ => ⟨rfl, rfl⟩, (by rw [List.length_append] at hA'; exact hA'), rfl⟩
  ·have hkN' : k = N := by omega
   subst hkN'
   simp only [ic68l2, ia_rsl hcn, Nat.mul_one, hcb, bitsL_len, Int.ofNat_lt, hkN, wrap_succ (show c + 1 < 2 ^ 63 by omega), evA, if_true, if_false, beq_false, simprocAttr]
   exact kFor_go (by first | trivial | omega) ⟨_, _, _, _, _, _, _, _, fun i => ⟨(hv2 i).1, (hv2 i).2.1, rfl, rfl, rfl, (hv17 i).2⟩, by rw [allL_s]; exact hA, rfl⟩
 have hcn' : c = s.cl.length := by omega
 subst hcn'
 have has := leastF_all hN hr
 have hAok0 : ∀ r ∈ allL l N s.cl.length, RgOk s r := fun r h => hr r (allL_mem.1 h).1
 generalize allL l N s.cl.length = A at *
 have hAok : ∀ r ∈ A, RgOk s r := hAok0
 have hvA : FrzV anyC (List.replicate 1 .dead ++ τ) v7 (rgL A) := by
  refine accS_frz (e := 2) ?_ (fun _ _ => trivial)
  rcases hA with h | ⟨p, h1, h2, h3, h4⟩
  ·exact .inl h
  ·refine .inr ⟨p, h2, h3, ?_⟩
   obtain ⟨q, rfl⟩ : ∃ q, p = q + 1 := ⟨p - 1, by omega⟩
   exact h4
 simp only [ic68l3, Int.ofNat_lt, hcn, evA, if_true, if_false, beq_false, simprocAttr]
 refine IL.weak (Weak.turn (τ := [.cells [.cv (clsR s.cl), .cv (strR s.co)]]) (τ2 := [.cells [.cv (clsR s.cl), .cv (strR s.co)]]) (J := τ) rfl rfl (vals2 := [sysV s, rgL l, .ptr 0 0, .cv .nils, .cv (.rsl bC s.cl.length), v5, .i l.length, rgL A, .i s.cl.length, v9, .cv .nils, .i 0, .undef, .undef, v14, .b false, .b false, v17, v18, .undef, .undef, .undef]) ?_ ?_) ?_
 ·refine .cons (.inl ⟨rfl, rfl⟩) (.cons (.inl ⟨rfl, rfl⟩) (.cons (.inl ⟨rfl, rfl⟩) (.cons (.inl ⟨rfl, rfl⟩) (.cons (.inl ⟨rfl, rfl⟩) (.cons (.inl ⟨rfl, (hv2 _).1⟩) (.cons (.inl ⟨rfl, rfl⟩) (.cons (.inr hvA) (.cons (.inl ⟨rfl, rfl⟩) (.cons (.inl ⟨rfl, (hv2 _).2.2.1⟩) (.cons (.inl ⟨rfl, rfl⟩) (.cons (.inl ⟨rfl, rfl⟩) (.cons (.inl ⟨rfl, rfl⟩) (.cons (.inl ⟨rfl, rfl⟩) (.cons (.inl ⟨rfl, (hv2 _).2.1⟩) (.cons (.inl ⟨rfl, rfl⟩) (.cons (.inl ⟨rfl, rfl⟩) (.cons (.inl ⟨rfl, (hv2 _).2.2.2.2.1⟩) (.cons (.inl ⟨rfl, (hv2 _).2.2.2.2.2⟩) ?_))))))))))))))))))
  repeat (first | exact .nil | refine .cons (.inl ⟨rfl, rfl⟩) ?_)
 ·intro l' o2 hl
  match l' with
  | 0 => cases hl; exact ⟨_, rfl, trivial, .inl ⟨rfl, rfl⟩⟩
  | l' + 1 => simp at hl
 obtain ⟨ot, hot⟩ : ∃ ot : Nat → List Rt, ot = fun i => (A.take i).filter fun x => !A.any fun r => wkB s x r := ⟨_, rfl⟩
 have hotl : ∀ i, (ot i).length ≤ A.length := fun i => by
  rw [hot]
  exact Nat.le_trans (List.length_filter_le _ _) (by rw [List.length_take]; omega)
 refine IL_for A.length (fun i s' => ∃ v10 v12 v13 v19 v20 v21 τ, AccSF 1 2 (.cells [.cv (clsR s.cl), .cv (strR s.co)] :: τ) v10 (ot i).length ((ot i).flatMap rgC) ∧ s' = ⟨[sysV s, rgL l, .ptr 0 0, .cv .nils, .cv (.rsl bC s.cl.length), v5, .i l.length, rgL A, .i s.cl.length, v9, v10, .i i, v12, v13, v14, .b false, .b false, v17, v18, v19, v20, v21], .cells [.cv (clsR s.cl), .cv (strR s.co)] :: τ⟩) ?_ 0 (Nat.zero_le _) ⟨_, _, _, _, _, _, [], .inl ⟨rfl, by rw [hot]; simp, by rw [hot]; simp⟩, rfl⟩
 rintro i s' hi ⟨v10, v12, v13, v19, v20, v21, τ, hA2, rfl⟩
 by_cases hiA : i < A.length
 ·have hxi := hAok A[i]! (by rw [getElem!_pos A i hiA]; exact List.getElem_mem hiA)
  have hos : ot (i + 1) = ot i ++ if A.any (fun r => wkB s A[i]! r) then [] else [A[i]!] := by
   rw [hot]
   show (A.take (i + 1)).filter _ = _
   rw [List.take_add_one, List.getElem?_eq_getElem hiA, getElem!_pos A i hiA, List.filter_append]
   congr 1
   show [A[i]].filter _ = _
   rw [List.filter_cons]
   cases h : A.any fun r => wkB s A[i] r <;> simp [h]
  have hldi := rg_ld hiA
  have hany : (A.any fun r => wkB s A[i]! r) = anyN (fun k => wkB s A[i]! A[k]!) A.length := by
   rw [Bool.eq_iff_iff, anyN_true, List.any_eq_true]
   constructor
   ·rintro ⟨r, hr, h⟩
    obtain ⟨k, hk, rfl⟩ := List.mem_iff_getElem.1 hr
    exact ⟨k, hk, by rw [getElem!_pos A k hk]; exact h⟩
   ·rintro ⟨k, hk, h⟩
    rw [getElem!_pos A k hk] at h
    exact ⟨_, List.getElem_mem hk, h⟩
  rw [hany] at hos
  have hoi := hotl i
  generalize A[i]! = x at *
  simp only [ic68l1, Int.ofNat_lt, hiA, evA, if_true, if_false, beq_false, simprocAttr]
  refine IL_for A.length (fun k s' => ∃ v20, s' = ⟨[sysV s, rgL l, .ptr 0 0, .cv .nils, .cv (.rsl bC s.cl.length), v5, .i l.length, rgL A, .i s.cl.length, v9, v10, .i i, .b (anyN (fun k => wkB s x A[k]!) k), .i k, v14, .b false, .b false, v17, v18, .b true, v20, v21], .cells [.cv (clsR s.cl), .cv (strR s.co)] :: τ⟩) ?_ 0 (Nat.zero_le _) ⟨_, rfl⟩
  rintro k s' hk ⟨v20, rfl⟩
  have hend : ∀ w, anyN (fun k => wkB s x A[k]!) k = w → (k = A.length ∨ w = true) → anyN (fun k => wkB s x A[k]!) A.length = w := fun w h1 h2 => by
   rcases h2 with rfl | rfl
   ·exact h1
   ·obtain ⟨j, hj, hw⟩ := anyN_true.1 h1
    exact anyN_true.2 ⟨j, by omega, hw⟩
  cases hw : anyN (fun k => wkB s x A[k]!) k with
  | true =>
   rw [hend true hw (.inr rfl), if_pos rfl, List.append_nil] at hos
   by_cases hkA : k < A.length
   all_goals
    simp only [ic68l0, Int.ofNat_lt, hkA, Bool.not_true, wrap_succ (show i + 1 < 2 ^ 63 by omega), evA, if_true, if_false, beq_false, simprocAttr]
    exact kFor_go (by first | trivial | omega) ⟨_, _, _, _, _, _, _, by rw [hos]; exact hA2, rfl⟩
  | false =>
  by_cases hkA : k < A.length
  ·have hyk := hAok A[k]! (by rw [getElem!_pos A k hkA]; exact List.getElem_mem hkA)
   have hsucc := anyN_succ (fun k => wkB s x A[k]!) k
   rw [hw, Bool.false_or] at hsucc
   have hldk := rg_ld hkA
   simp only [ic68l0, Int.ofNat_lt, hkA, Bool.not_false, evA, if_true, if_false, beq_false, simprocAttr]
   refine DW_s [9] [] hmix (by kernel_rfl) rfl ?_
   simp only [ia_rg hiA, ia_rg hkA, hldi, hldk, evA, if_true, if_false, beq_false, simprocAttr]
   refine kK_keep ((c92 s hs hn12 hm hok x A[k]! hxi hyk).call frz ⟨rfl, rfl⟩) rfl ?_
   simp only [wrap_succ (show k + 1 < 2 ^ 63 by omega), evA, if_true, if_false, beq_false, simprocAttr]
   exact kFor_go (by first | trivial | omega) ⟨_, by rw [hsucc]⟩
  ·have hkA' : k = A.length := by omega
   rw [hend false hw (.inl hkA'), if_neg (by decide)] at hos
   have hoi1 : (ot (i + 1)).length = (ot i).length + 1 := by rw [hos, List.length_append]; rfl
   have hfl : (ot (i + 1)).flatMap rgC = (ot i).flatMap rgC ++ rgC x := by rw [hos, List.flatMap_append]; simp
   obtain ⟨v', σ', happ, hA', hfr, hlnn⟩ := accSF_append (by_ := 16) (x := rgC x) (by simp) hA2 rfl (by omega) (by omega)
   rw [← hoi1, ← hfl] at hA'
   have f0 := hfr 0 (by omega)
   match σ', hlnn with
   | x0 :: σ2, _ =>
   have g0 : x0 = .cells [.cv (clsR s.cl), .cv (strR s.co)] := by simpa using f0
   subst g0
   simp only [List.append_assoc, List.length_append, rowOf_az, rowOf_as, set_az, set_as, get_az, get_as, get_nz, get_ns, List.cons_append, List.nil_append, List.length_cons, List.length_nil, Nat.zero_add, rgC, List.map_cons, List.map_nil] at happ
   simp only [ic68l0, Int.ofNat_lt, hkA, Bool.not_false, ia_rg hiA, hldi, happ, hA2.nu, hA'.nu, wrap_succ (show i + 1 < 2 ^ 63 by omega), List.append_assoc, List.length_append, rowOf_az, rowOf_as, set_az, set_as, get_az, get_as, get_nz, get_ns, evA, if_true, if_false, beq_false, simprocAttr]
   exact kFor_go (by first | trivial | omega) ⟨_, _, _, _, _, _, _, hA', rfl⟩
 ·have hiA' : i = A.length := by omega
  subst hiA'
  have hoe : ot A.length = leastF s l := by rw [hot, has]; simp
  rw [hoe] at hA2
  simp only [ic68l1, Int.ofNat_lt, hiA, hA2.nu, evA, if_true, if_false, beq_false, simprocAttr]
  exact accS_frz hA2.acc (rgL_scl _)
theorem c32 (s : Sys) (hs : SSz s) (l : List Rt) (hl : l.length < 2 ^ 63) : PA Tryz.prog 32 [sysV s, rgL l] (lstV s l) := by
 refine ⟨AC_FE (fok32 true) (Nat.le_of_ble_eq_true rfl) ?_, by unfold lstV; repeat (split <;> try rfl), rfl⟩
 have h66 := c66 s hs l hl
 have hdec := rdE_ok (s := s) (l := l)
 have hn0 := sysE_n (s := s)
 unfold lstV
 generalize rdE s (sysE s).2.2 [l] = e at *
 by_cases he : e = 0
 rotate_left
 ·have hb : (e != 0) = true := by simpa using he
  rw [if_pos he]
  simp only [ic32, f_box, cellsOf, evA, if_true, if_false, beq_false, simprocAttr]
  refine h66.call frz ?_
  simp only [hb, evA, if_true, if_false, beq_false, simprocAttr]
  exact .tup (.cons (.c .nl) (.cons (.c (.c _ trivial)) .nil))
 have hb2 : (e != 0) = false := by simpa using he
 obtain ⟨k1, k2⟩ := hdec he
 obtain ⟨⟨hn1, hn12⟩, hm, hok⟩ := hn0 k1
 obtain ⟨hl40, hr⟩ := rgsE_ok k2
 rw [if_neg (show ¬ (e ≠ 0) from fun h => h he)]
 simp only [ic32, f_box, cellsOf, evA, if_true, if_false, beq_false, simprocAttr]
 refine h66.call frz ?_
 simp only [hb2, evA, if_true, if_false, beq_false, simprocAttr]
 refine (c68 s hs hn1 hn12 hm hok l (by omega) hr).call frz ?_
 simp only [evA, if_true, if_false, beq_false, simprocAttr]
 exact .tup (.cons (.c (.c _ trivial)) (.cons (.c (.c _ trivial)) .nil))
theorem covB_iff {s : Sys} (hok : OkI s) {c k : Nat} (hc : c < s.cl.length) : covB s c k = true ↔ Rch (nx s) c k := covG_iff hok.inN hc
theorem covB_refl {s : Sys} (hok : OkI s) {c : Nat} (hc : c < s.cl.length) : covB s c c = true := (covB_iff hok hc).2 .refl
theorem covB_trans {s : Sys} (hok : OkI s) {a b c : Nat} (ha : a < s.cl.length) (hb : b < s.cl.length) (h1 : covB s a b = true) (h2 : covB s b c = true) : covB s a c = true :=
 (covB_iff hok ha).2 (((covB_iff hok ha).1 h1).trans ((covB_iff hok hb).1 h2))
theorem alwB_iff {s : Sys} {l : List Rt} {c f : Int} : alwB s l c f = true ↔ ∃ r ∈ l, covB s r.1.toNat c.toNat = true ∧ ∀ k, ¬ (bit r.2 k = true ∧ bit f k = true) := by
 unfold alwB
 rw [List.any_eq_true]
 constructor
 ·rintro ⟨r, hr, h⟩
  unfold alw1 at h
  rw [Bool.and_eq_true, beq_iff_eq, andI_zero] at h
  exact ⟨r, hr, h⟩
 ·rintro ⟨r, hr, h1, h2⟩
  refine ⟨r, hr, ?_⟩
  unfold alw1
  rw [Bool.and_eq_true, beq_iff_eq, andI_zero]
  exact ⟨h1, h2⟩
theorem bit_last {m k : Nat} : bit ((2 : Int) ^ m - 1) k = decide (k < m) := by
 unfold bit
 have : ((2 : Int) ^ m - 1).toNat = 2 ^ m - 1 := by
  have h1 : ((2 : Int) ^ m) = ((2 ^ m : Nat) : Int) := by push_cast; rfl
  have h2 := Nat.two_pow_pos m
  rw [h1]; omega
 rw [this, Nat.testBit_two_pow_sub_one]
theorem bit_hard {s : Sys} (hm : s.co.length ≤ 8) (n : Int) (k : Nat) : bit (subI (setN s - 1) n) k = (decide (k < s.co.length) && !bit n k) := by
 have hb := pow_bd hm
 rw [bit_sub (by unfold setN; omega)]
 unfold setN
 rw [bit_last]
theorem allB_iff {s : Sys} (hm : s.co.length ≤ 8) (hok : OkI s) {a b : List Rt} (ha : ∀ r ∈ a, RgOk s r) (hb : ∀ r ∈ b, RgOk s r) :
  allB s a b = true ↔ ∀ c f : Nat, c < s.cl.length → (f : Int) < setN s → alwB s b c f = true → alwB s a c f = true := by
 have hpw := pow_bd hm
 have hsl : ∀ n, subI (setN s - 1) n < setN s := fun n => subI_lt (by unfold setN; omega) (show setN s - 1 < 2 ^ s.co.length by unfold setN; omega)
 constructor
 ·intro h c f hc hf hbf
  unfold allB at h
  rw [Bool.not_eq_true', List.any_eq_false] at h
  obtain ⟨r, hr, h1, h2⟩ := alwB_iff.1 hbf
  have h3 := h r hr
  rw [Bool.not_eq_true, Bool.not_eq_false'] at h3
  obtain ⟨q, hq, h4, h5⟩ := alwB_iff.1 h3
  refine alwB_iff.2 ⟨q, hq, covB_trans hok (ha q hq).nat (hb r hr).nat h4 h1, fun k ⟨g1, g2⟩ => h5 k ⟨g1, ?_⟩⟩
  rw [bit_hard hm]
  have g3 : bit r.2 k = false := by
   cases hh : bit r.2 k with
   | false => rfl
   | true => exact absurd ⟨hh, g2⟩ (h2 k)
  have g4 : k < s.co.length := by
   rcases Nat.lt_or_ge k s.co.length with h | h
   ·exact h
   ·rw [bit_hi (m := s.co.length) hf h] at g2; cases g2
  rw [g3, decide_eq_true g4]; rfl
 ·intro h
  unfold allB
  rw [Bool.not_eq_true', List.any_eq_false]
  intro r hr
  rw [Bool.not_eq_true, Bool.not_eq_false']
  obtain ⟨⟨r1, r2⟩, r3, r4⟩ := hb r hr
  have h0 := subI_nn (setN s - 1) r.2
  have := h r.1.toNat (subI (setN s - 1) r.2).toNat (by omega) (by have := hsl r.2; omega)
  rw [Int.toNat_of_nonneg r1, Int.toNat_of_nonneg h0] at this
  refine this (alwB_iff.2 ⟨r, hr, covB_refl hok (by omega), fun k ⟨g1, g2⟩ => ?_⟩)
  rw [bit_hard hm, g1] at g2
  simp at g2
theorem rdE_two (s : Sys) (E : Int) (a b : List Rt) : rdE s E [a, b] = if rdE s E [a] = 0 then rdE s E [b] else rdE s E [a] := by
 have h1 : rdE s E [a, b] = if rdE s E [a] = 0 then rgsE s b else rdE s E [a] := rfl
 rw [h1]
 by_cases h : rdE s E [a] = 0
 ·rw [if_pos h, if_pos h]
  have hE : E = 0 := Decidable.byContradiction fun hne => by rw [rdE_ne s _ _ hne] at h; exact hne h
  rw [hE]; rfl
 ·rw [if_neg h, if_neg h]
theorem c35 (s : Sys) (hs : SSz s) (a b : List Rt) (ha : a.length < 2 ^ 63) (hb : b.length < 2 ^ 63) : PC Tryz.prog 35 [sysV s, rgL a, rgL b] (alsV s a b) := by
 refine ⟨AC_FE (fok35 true) (Nat.le_of_ble_eq_true rfl) ?_, by unfold alsV; repeat (split <;> try rfl)⟩
 have h66a := c66 s hs a ha
 have h66b := c66 s hs b hb
 have hdec := rdE_ok2 (s := s) (a := a) (b := b)
 have hn0 := sysE_n (s := s)
 have htwo := rdE_two s (sysE s).2.2 a b
 unfold alsV
 generalize rdE s (sysE s).2.2 [a, b] = e at *
 generalize rdE s (sysE s).2.2 [a] = ea at *
 generalize rdE s (sysE s).2.2 [b] = eb at *
 simp only [ic35, f_box, cellsOf, evA, if_true, if_false, beq_false, simprocAttr]
 refine h66a.call frz ?_
 by_cases hea : ea = 0
 rotate_left
 ·have hb1 : (ea == 0) = false := by simpa using hea
  have hb2 : (ea != 0) = true := by simpa using hea
  rw [if_neg hea] at htwo
  rw [htwo, if_pos hea]
  simp only [hb1, hb2, evA, if_true, if_false, beq_false, simprocAttr]
  exact frz
 have hb1 : (ea == 0) = true := by simpa using hea
 rw [if_pos hea] at htwo
 subst htwo
 simp only [hb1, evA, if_true, if_false, beq_false, simprocAttr]
 refine h66b.call frz ?_
 by_cases he : e = 0
 rotate_left
 ·have hb2 : (e != 0) = true := by simpa using he
  rw [if_pos he]
  simp only [hb2, evA, if_true, if_false, beq_false, simprocAttr]
  exact frz
 have hb2 : (e != 0) = false := by simpa using he
 obtain ⟨k1, k2, k3⟩ := hdec he
 obtain ⟨⟨hn1, hn12⟩, hm, hok⟩ := hn0 k1
 obtain ⟨hla, hra⟩ := rgsE_ok k2
 obtain ⟨hlb, hrb⟩ := rgsE_ok k3
 have hbp := pow_bd hm
 obtain ⟨N, hN⟩ : ∃ N : Nat, setN s = (N : Int) := ⟨(setN s).toNat, by unfold setN; omega⟩
 have hN' : (2 : Int) ^ s.co.length = (N : Int) := hN
 have hNr : 1 ≤ N ∧ N ≤ 256 := by rw [hN'] at hbp; omega
 have h49 := c49 s.co.length hm
 rw [hN'] at h49
 have hall := allB_iff hm hok hra hrb
 have hallT : (∀ c f : Nat, c < s.cl.length → f < N → alwB s b c f = true → alwB s a c f = true) → allB s a b = true := fun h => hall.2 fun c f hc hf => h c f hc (by omega)
 have hallF : ∀ c f : Nat, c < s.cl.length → f < N → alwB s b c f = true → alwB s a c f = false → allB s a b = false := fun c f hc hf h1 h2 => by
  cases h : allB s a b with
  | false => rfl
  | true =>
   have := hall.1 h c f hc (by omega) h1
   rw [h2] at this; cases this
 rw [if_neg (show ¬ (e ≠ 0) from fun h => h he)]
 simp only [hb2, evA, if_true, if_false, beq_false, simprocAttr]
 refine IL_for s.cl.length (fun c s' => ∃ v8 v11 v12 v13, (∀ c' f : Nat, c' < c → f < N → alwB s b c' f = true → alwB s a c' f = true) ∧ s' = ⟨[sysV s, rgL a, rgL b, .ptr 0 0, .b false, .i 0, .i e, .i c, v8, .b true, .b false, v11, v12, v13], [.cells [.cv (clsR s.cl), .cv (strR s.co)]]⟩) ?_ 0 (Nat.zero_le _) ⟨_, _, _, _, fun _ _ h => absurd h (Nat.not_lt_zero _), rfl⟩
 rintro c s' hc ⟨v8, v11, v12, v13, hok1, rfl⟩
 by_cases hcn : c < s.cl.length
 ·simp only [ic35l1, Int.ofNat_lt, hcn, evA, if_true, if_false, beq_false, simprocAttr]
  refine IL_for N (fun f s' => ∃ v12 v13, (∀ f' : Nat, f' < f → alwB s b c f' = true → alwB s a c f' = true) ∧ s' = ⟨[sysV s, rgL a, rgL b, .ptr 0 0, .b false, .i 0, .i e, .i c, .i f, .b true, .b false, .b true, v12, v13], [.cells [.cv (clsR s.cl), .cv (strR s.co)]]⟩) ?_ 0 (Nat.zero_le _) ⟨_, _, fun _ h => absurd h (Nat.not_lt_zero _), rfl⟩
  rintro f s' hf ⟨v12, v13, hok2, rfl⟩
  simp only [ic35l0, evA, if_true, if_false, beq_false, simprocAttr]
  refine h49.call frz ?_
  by_cases hfN : f < N
  ·have hst : (alwB s b c f = true → alwB s a c f = true) → ∀ f' : Nat, f' < f + 1 → alwB s b c f' = true → alwB s a c f' = true := fun h f' hf' => by
    rcases Nat.lt_succ_iff_lt_or_eq.1 hf' with hf' | rfl
    ·exact hok2 f' hf'
    ·exact h
   simp only [Int.ofNat_lt, hfN, evA, if_true, if_false, beq_false, simprocAttr]
   refine (c50 s hs hn12 hok b hm hb hrb c (by omega) f (by omega)).call frz ?_
   cases h1 : alwB s b c f with
   | false =>
    simp only [wrap_succ (show f + 1 < 2 ^ 63 by omega), evA, if_true, if_false, beq_false, simprocAttr]
    exact kFor_go (by first | trivial | omega) ⟨_, _, hst (fun h => by rw [h1] at h; cases h), rfl⟩
   | true =>
    simp only [evA, if_true, if_false, beq_false, simprocAttr]
    refine (c50 s hs hn12 hok a hm ha hra c (by omega) f (by omega)).call frz ?_
    cases h2 : alwB s a c f with
    | false =>
     rw [hallF c f hcn hfN h1 h2]
     simp only [Bool.not_false, evA, if_true, if_false, beq_false, simprocAttr]
     exact frz
    | true =>
     simp only [Bool.not_true, wrap_succ (show f + 1 < 2 ^ 63 by omega), evA, if_true, if_false, beq_false, simprocAttr]
     exact kFor_go (by first | trivial | omega) ⟨_, _, hst (fun _ => h2), rfl⟩
  ·have hfN' : f = N := by omega
   simp only [Int.ofNat_lt, hfN, wrap_succ (show c + 1 < 2 ^ 63 by omega), evA, if_true, if_false, beq_false, simprocAttr]
   refine kFor_go (by first | trivial | omega) ⟨_, _, _, _, fun c' f' hc' hf' => ?_, rfl⟩
   rcases Nat.lt_succ_iff_lt_or_eq.1 hc' with hc' | rfl
   ·exact hok1 c' f' hc' hf'
   ·exact hok2 f' (by omega)
 ·have hcn' : c = s.cl.length := by omega
  subst hcn'
  rw [hallT fun c f hc hf => hok1 c f hc hf]
  simp only [ic35l1, Int.ofNat_lt, hcn, evA, if_true, if_false, beq_false, simprocAttr]
  exact frz
theorem leastF_mem {s : Sys} {l : List Rt} {x : Rt} : x ∈ leastF s l ↔ x ∈ l ∧ ∀ r ∈ l, wkB s x r = false := by
 unfold leastF
 rw [List.mem_filter, mem_sortR, ddR_mem, Bool.not_eq_true', List.any_eq_false]
 constructor
 ·rintro ⟨h1, h2⟩
  exact ⟨h1, fun r hr => by have := h2 r (ddR_mem.2 hr); simpa using this⟩
 ·rintro ⟨h1, h2⟩
  exact ⟨h1, fun r hr => by rw [h2 r (ddR_mem.1 hr)]; decide⟩
theorem leastF_nodup (s : Sys) (l : List Rt) : (leastF s l).Nodup := ((sortR_perm _).nodup_iff.2 (esN_nodup l l.length)).filter _
theorem leastF_sorted (s : Sys) (l : List Rt) : (leastF s l).Pairwise fun a b => leR a b = true := (sortR_sorted _).filter _
theorem leastF_ext {s : Sys} {l m : List Rt} (h : ∀ x, x ∈ leastF s l ↔ x ∈ leastF s m) : leastF s l = leastF s m := by
 have hp := nodup_perm (leastF_nodup s l) (leastF_nodup s m) h
 rw [sortR_eq hp (leastF_sorted s l)]
 exact (sortR_eq (List.Perm.refl _) (leastF_sorted s m)).symm
theorem bit_last_sub {m : Nat} {n k : Nat} (h : (n : Int) < 2 ^ m) : bit ((2 : Int) ^ m - 1 - n) k = (decide (k < m) && !bit (n : Int) k) := by
 have h1 : ((2 : Int) ^ m) = ((2 ^ m : Nat) : Int) := by push_cast; rfl
 have h2 : n < 2 ^ m := by rw [h1] at h; omega
 have h3 : ((2 : Int) ^ m - 1 - n).toNat = 2 ^ m - (n + 1) := by rw [h1]; omega
 unfold bit
 rw [h3, Nat.testBit_two_pow_sub_succ h2, Int.toNat_natCast]
def qB (s : Sys) (a b : List Rt) (c n : Nat) : Bool := alwB s a c (setN s - 1 - n) && alwB s b c (setN s - 1 - n)
def rowQ (s : Sys) (a b : List Rt) (c k : Nat) : List Rt := (List.range k).flatMap fun n : Nat => if qB s a b c n then [((c : Int), (n : Int))] else []
def allQ (s : Sys) (a b : List Rt) (N c : Nat) : List Rt := (List.range c).flatMap fun c' : Nat => rowQ s a b c' N
theorem rowQ_s (s : Sys) (a b : List Rt) (c k : Nat) : rowQ s a b c (k + 1) = rowQ s a b c k ++ if qB s a b c k then [((c : Int), (k : Int))] else [] := by simp [rowQ, List.range_succ]
theorem allQ_s (s : Sys) (a b : List Rt) (N c : Nat) : allQ s a b N (c + 1) = allQ s a b N c ++ rowQ s a b c N := by simp [allQ, List.range_succ]
theorem rowQ_le (s : Sys) (a b : List Rt) (c : Nat) : ∀ k, (rowQ s a b c k).length ≤ k
 | 0 => by simp [rowQ]
 | k + 1 => by
  have := rowQ_le s a b c k
  rw [rowQ_s, List.length_append]
  split <;> simp <;> omega
theorem allQ_le (s : Sys) (a b : List Rt) (N : Nat) : ∀ c, (allQ s a b N c).length ≤ c * N
 | 0 => by simp [allQ]
 | c + 1 => by
  have := allQ_le s a b N c
  have := rowQ_le s a b c N
  rw [allQ_s, List.length_append, Nat.succ_mul]
  omega
theorem allQ_mem {s : Sys} {a b : List Rt} {N c : Nat} {x : Rt} : x ∈ allQ s a b N c ↔ ∃ i n : Nat, i < c ∧ n < N ∧ qB s a b i n = true ∧ x = ((i : Int), (n : Int)) := by
 unfold allQ
 rw [List.mem_flatMap]
 constructor
 ·rintro ⟨i, hi, h⟩
  unfold rowQ at h
  rw [List.mem_flatMap] at h
  obtain ⟨n, hn, h⟩ := h
  split at h
  ·rename_i hq
   exact ⟨i, n, List.mem_range.1 hi, List.mem_range.1 hn, hq, List.mem_singleton.1 h⟩
  ·simp at h
 ·rintro ⟨i, n, hi, hn, hq, rfl⟩
  refine ⟨i, List.mem_range.2 hi, ?_⟩
  unfold rowQ
  rw [List.mem_flatMap]
  exact ⟨n, List.mem_range.2 hn, by rw [if_pos hq]; simp⟩
theorem qB_iff {s : Sys} {a b : List Rt} {N c n : Nat} (hN : setN s = (N : Int)) (ha : ∀ r ∈ a, RgOk s r) (hb : ∀ r ∈ b, RgOk s r) (hn : n < N) :
  qB s a b c n = true ↔ (∃ x ∈ a, covB s x.1.toNat c = true ∧ ∀ k, bit x.2 k = true → bit (n : Int) k = true) ∧ ∃ y ∈ b, covB s y.1.toNat c = true ∧ ∀ k, bit y.2 k = true → bit (n : Int) k = true := by
 have one : ∀ l : List Rt, (∀ r ∈ l, RgOk s r) → (alwB s l c (setN s - 1 - n) = true ↔ ∃ x ∈ l, covB s x.1.toNat c = true ∧ ∀ k, bit x.2 k = true → bit (n : Int) k = true) := fun l hl => by
  rw [alwB_iff]
  have hbl : ∀ k, bit (setN s - 1 - n) k = (decide (k < s.co.length) && !bit (n : Int) k) := fun k => by
   unfold setN; exact bit_last_sub (by show (n : Int) < setN s; omega)
  constructor
  ·rintro ⟨r, hr, h1, h2⟩
   refine ⟨r, hr, by simpa using h1, fun k hk => ?_⟩
   have hkm : k < s.co.length := by
    rcases Nat.lt_or_ge k s.co.length with h | h
    ·exact h
    ·rw [bit_hi (m := s.co.length) (hl r hr).2.2 h] at hk; cases hk
   cases hh : bit (n : Int) k with
   | true => rfl
   | false => exact absurd ⟨hk, by rw [hbl, hh, decide_eq_true hkm]; rfl⟩ (h2 k)
  ·rintro ⟨r, hr, h1, h2⟩
   refine ⟨r, hr, by simpa using h1, fun k ⟨g1, g2⟩ => ?_⟩
   rw [hbl, h2 k g1] at g2
   simp at g2
 unfold qB
 rw [Bool.and_eq_true, one a ha, one b hb]
theorem comL_mem {s : Sys} {a b : List Rt} {x : Rt} : x ∈ comL s a b ↔ ∃ p ∈ a, ∃ q ∈ b, ∃ i : Nat, i < s.cl.length ∧ covB s p.1.toNat i = true ∧ covB s q.1.toNat i = true ∧ x = ((i : Int), orI p.2 q.2) := by
 unfold comL comT
 rw [List.take_length, List.mem_flatMap]
 constructor
 ·rintro ⟨p, hp, h⟩
  unfold comX at h
  rw [List.take_length, List.mem_flatMap] at h
  obtain ⟨q, hq, h⟩ := h
  unfold comXY at h
  rw [List.mem_flatMap] at h
  obtain ⟨i, hi, h⟩ := h
  unfold comI at h
  split at h
  ·rename_i hc
   rw [Bool.and_eq_true] at hc
   exact ⟨p, hp, q, hq, i, List.mem_range.1 hi, hc.1, hc.2, List.mem_singleton.1 h⟩
  ·simp at h
 ·rintro ⟨p, hp, q, hq, i, hi, h1, h2, rfl⟩
  refine ⟨p, hp, ?_⟩
  unfold comX
  rw [List.take_length, List.mem_flatMap]
  refine ⟨q, hq, ?_⟩
  unfold comXY
  rw [List.mem_flatMap]
  refine ⟨i, List.mem_range.2 hi, ?_⟩
  unfold comI
  rw [h1, h2]; simp
theorem wkB_iff {s : Sys} {x r : Rt} (hr : r.2 < 2 ^ 63) : wkB s x r = true ↔ x ≠ r ∧ covB s r.1.toNat x.1.toNat = true ∧ ∀ k, bit r.2 k = true → bit x.2 k = true := by
 unfold wkB
 rw [Bool.and_eq_true, Bool.and_eq_true, beq_iff_eq, subI_zero hr]
 simp
theorem both_least {s : Sys} {a b : List Rt} {N : Nat} (hm : s.co.length ≤ 8) (hok : OkI s) (hN : setN s = (N : Int)) (ha : ∀ r ∈ a, RgOk s r) (hb : ∀ r ∈ b, RgOk s r) : leastF s (allQ s a b N s.cl.length) = leastF s (comL s a b) := by
 have hbp := pow_bd hm
 have hNr : N ≤ 256 := by unfold setN at hN; omega
 have sub : ∀ x, x ∈ comL s a b → x ∈ allQ s a b N s.cl.length := fun x hx => by
  obtain ⟨p, hp, q, hq, i, hi, h1, h2, rfl⟩ := comL_mem.1 hx
  have ho : orI p.2 q.2 < setN s := orI_lt (ha p hp).2.2 (hb q hq).2.2
  have ho0 := orI_nn p.2 q.2
  refine allQ_mem.2 ⟨i, (orI p.2 q.2).toNat, hi, by omega, ?_, by rw [Int.toNat_of_nonneg ho0]⟩
  rw [qB_iff hN ha hb (by omega), Int.toNat_of_nonneg ho0]
  exact ⟨⟨p, hp, h1, fun k hk => by rw [bit_or, hk]; rfl⟩, q, hq, h2, fun k hk => by rw [bit_or, hk]; simp⟩
 have dom : ∀ x, x ∈ allQ s a b N s.cl.length → ∃ r ∈ comL s a b, r.1 = x.1 ∧ ∀ k, bit r.2 k = true → bit x.2 k = true := fun x hx => by
  obtain ⟨i, n, hi, hn, hq, rfl⟩ := allQ_mem.1 hx
  obtain ⟨⟨p, hp, h1, h2⟩, q, hq, h3, h4⟩ := (qB_iff hN ha hb hn).1 hq
  refine ⟨((i : Int), orI p.2 q.2), comL_mem.2 ⟨p, hp, q, hq, i, hi, h1, h3, rfl⟩, rfl, fun k hk => ?_⟩
  rw [bit_or, Bool.or_eq_true] at hk
  rcases hk with hk | hk
  ·exact h2 k hk
  ·exact h4 k hk
 have lt : ∀ x, x ∈ allQ s a b N s.cl.length → (x.1.toNat < s.cl.length ∧ 0 ≤ x.2 ∧ x.2 < 2 ^ 63) := fun x hx => by
  obtain ⟨i, n, hi, hn, hq, rfl⟩ := allQ_mem.1 hx
  exact ⟨by simpa using hi, by show (0 : Int) ≤ n; omega, by show (n : Int) < _; omega⟩
 apply leastF_ext
 intro x
 rw [leastF_mem, leastF_mem]
 constructor
 ·rintro ⟨hx, h⟩
  obtain ⟨r, hr, hr1, hr2⟩ := dom x hx
  have hw := h r (sub r hr)
  have hxr : x = r := Decidable.byContradiction fun hne => by
   have : wkB s x r = true := (wkB_iff (lt r (sub r hr)).2.2).2 ⟨hne, by rw [hr1]; exact covB_refl hok (lt x hx).1, hr2⟩
   rw [hw] at this; cases this
  exact ⟨by rw [hxr]; exact hr, fun q hq => h q (sub q hq)⟩
 ·rintro ⟨hx, h⟩
  refine ⟨sub x hx, fun r hr => ?_⟩
  cases hw : wkB s x r with
  | false => rfl
  | true =>
   obtain ⟨h1, h2, h3⟩ := (wkB_iff (lt r hr).2.2).1 hw
   obtain ⟨q, hq, hq1, hq2⟩ := dom r hr
   have hwq := h q hq
   have hxq : x = q := Decidable.byContradiction fun hne => by
    have : wkB s x q = true := (wkB_iff (lt q (sub q hq)).2.2).2 ⟨hne, by rw [hq1]; exact h2, fun k hk => h3 k (hq2 k hk)⟩
    rw [hwq] at this; cases this
   subst hxq
   refine absurd (Prod.ext hq1 ?_) h1
   exact bit_ext (lt x (sub x hx)).2.1 (lt r hr).2.1 fun k => by
    rw [Bool.eq_iff_iff]
    exact ⟨hq2 k, h3 k⟩
theorem c37 (s : Sys) (hs : SSz s) (a b : List Rt) (ha : a.length < 2 ^ 63) (hb : b.length < 2 ^ 63) : PA Tryz.prog 37 [sysV s, rgL a, rgL b] (bthV s a b) := by
 refine ⟨AC_FE (fok37 true) (Nat.le_of_ble_eq_true rfl) ?_, by unfold bthV; repeat (split <;> try rfl), rfl⟩
 have hp2 : (2 : Nat) ^ 38 = 274877906944 := by decide
 have hp3 : (2 : Nat) ^ 44 = 17592186044416 := by decide
 have h66a := c66 s hs a ha
 have h66b := c66 s hs b hb
 have hdec := rdE_ok2 (s := s) (a := a) (b := b)
 have hn0 := sysE_n (s := s)
 have htwo := rdE_two s (sysE s).2.2 a b
 unfold bthV
 generalize rdE s (sysE s).2.2 [a, b] = e at *
 generalize rdE s (sysE s).2.2 [a] = ea at *
 generalize rdE s (sysE s).2.2 [b] = eb at *
 simp only [ic37, f_box, cellsOf, evA, if_true, if_false, beq_false, simprocAttr]
 refine h66a.call frz ?_
 by_cases hea : ea = 0
 rotate_left
 ·have hb1 : (ea == 0) = false := by simpa using hea
  have hb2 : (ea != 0) = true := by simpa using hea
  rw [if_neg hea] at htwo
  rw [htwo, if_pos hea]
  simp only [hb1, hb2, evA, if_true, if_false, beq_false, simprocAttr]
  exact .tup (.cons (.c .nl) (.cons (.c (.c _ trivial)) .nil))
 have hb1 : (ea == 0) = true := by simpa using hea
 rw [if_pos hea] at htwo
 subst htwo
 simp only [hb1, evA, if_true, if_false, beq_false, simprocAttr]
 refine h66b.call frz ?_
 by_cases he : e = 0
 rotate_left
 ·have hb2 : (e != 0) = true := by simpa using he
  rw [if_pos he]
  simp only [hb2, evA, if_true, if_false, beq_false, simprocAttr]
  exact .tup (.cons (.c .nl) (.cons (.c (.c _ trivial)) .nil))
 have hb2 : (e != 0) = false := by simpa using he
 obtain ⟨k1, k2, k3⟩ := hdec he
 obtain ⟨⟨hn1, hn12⟩, hm, hok⟩ := hn0 k1
 obtain ⟨hla, hra⟩ := rgsE_ok k2
 obtain ⟨hlb, hrb⟩ := rgsE_ok k3
 have hbp := pow_bd hm
 obtain ⟨N, hN⟩ : ∃ N : Nat, setN s = (N : Int) := ⟨(setN s).toNat, by unfold setN; omega⟩
 have hN' : (2 : Int) ^ s.co.length = (N : Int) := hN
 have hNr : 1 ≤ N ∧ N ≤ 256 := by rw [hN'] at hbp; omega
 have h49 := c49 s.co.length hm
 rw [hN'] at h49
 have hw1 : IntKind.i64.wrap ((N : Int) - 1) = (N : Int) - 1 := wrap_in (by omega)
 have hlaw := both_least hm hok hN hra hrb
 rw [if_neg (show ¬ (e ≠ 0) from fun h => h he), ← hlaw]
 have hQok : ∀ r ∈ allQ s a b N s.cl.length, RgOk s r := fun r hr => by
  obtain ⟨i, n, hi, hn, hq, rfl⟩ := allQ_mem.1 hr
  exact ⟨⟨by show (0 : Int) ≤ i; omega, by show (i : Int) < _; omega⟩, by show (0 : Int) ≤ n; omega, by rw [hN]; show (n : Int) < _; omega⟩
 simp only [hb2, evA, if_true, if_false, beq_false, simprocAttr]
 refine h49.call frz ?_
 simp only [hw1, evA, if_true, if_false, beq_false, simprocAttr]
 refine IL_for s.cl.length (fun c s' => ∃ v7 v10 v14 v15 v16 τ, AccSF 1 2 (.cells [.cv (clsR s.cl), .cv (strR s.co)] :: τ) v7 (allQ s a b N c).length ((allQ s a b N c).flatMap rgC) ∧ s' = ⟨[sysV s, rgL a, rgL b, .ptr 0 0, .cv .nils, .i 0, .i e, v7, .i ((N : Int) - 1), .i c, v10, .undef, .b true, .b false, v14, v15, v16, .undef], .cells [.cv (clsR s.cl), .cv (strR s.co)] :: τ⟩) ?_ 0 (Nat.zero_le _) ⟨_, _, _, _, _, [], .inl ⟨rfl, rfl, rfl⟩, rfl⟩
 rintro c s' hc ⟨v7, v10, v14, v15, v16, τ, hA, rfl⟩
 by_cases hcn : c < s.cl.length
 ·have hla' := allQ_le s a b N c
  have hcN : c * N ≤ 12 * 256 := Nat.mul_le_mul (by omega) hNr.2
  simp only [ic37l1, Int.ofNat_lt, hcn, evA, if_true, if_false, beq_false, simprocAttr]
  refine IL_for N (fun k s' => ∃ v7 v15 v16 τ, AccSF 1 2 (.cells [.cv (clsR s.cl), .cv (strR s.co)] :: τ) v7 (allQ s a b N c ++ rowQ s a b c k).length ((allQ s a b N c ++ rowQ s a b c k).flatMap rgC) ∧ s' = ⟨[sysV s, rgL a, rgL b, .ptr 0 0, .cv .nils, .i 0, .i e, v7, .i ((N : Int) - 1), .i c, .i k, .undef, .b true, .b false, .b true, v15, v16, .undef], .cells [.cv (clsR s.cl), .cv (strR s.co)] :: τ⟩) ?_ 0 (Nat.zero_le _) ⟨_, _, _, _, by simpa [rowQ] using hA, rfl⟩
  rintro k s' hk ⟨v7, v15, v16, τ, hA, rfl⟩
  by_cases hkN : k < N
  ·have hle : decide ((k : Int) ≤ (N : Int) - 1) = true := decide_eq_true (by omega)
   have hws : IntKind.i64.wrap ((N : Int) - 1 - k) = (N : Int) - 1 - k := wrap_in (by omega)
   have hqd : qB s a b c k = (alwB s a c ((N : Int) - 1 - k) && alwB s b c ((N : Int) - 1 - k)) := by unfold qB; rw [hN]
   have hrs := rowQ_s s a b c k
   have hrl := rowQ_le s a b c k
   rw [hqd] at hrs
   simp only [ic37l0, hle, hws, evA, if_true, if_false, beq_false, simprocAttr]
   refine (c50 s hs hn12 hok a hm ha hra c (by omega) ((N : Int) - 1 - k) (by omega)).call frz ?_
   cases h1 : alwB s a c ((N : Int) - 1 - k) with
   | false =>
    rw [h1] at hrs
    have hrs' : rowQ s a b c (k + 1) = rowQ s a b c k := by simpa using hrs
    simp only [wrap_succ (show k + 1 < 2 ^ 63 by omega), evA, if_true, if_false, beq_false, simprocAttr]
    exact kFor_go (by first | trivial | omega) ⟨_, _, _, _, by rw [hrs']; exact hA, rfl⟩
   | true =>
   simp only [hws, evA, if_true, if_false, beq_false, simprocAttr]
   refine (c50 s hs hn12 hok b hm hb hrb c (by omega) ((N : Int) - 1 - k) (by omega)).call frz ?_
   cases h2 : alwB s b c ((N : Int) - 1 - k) with
   | false =>
    rw [h1, h2] at hrs
    have hrs' : rowQ s a b c (k + 1) = rowQ s a b c k := by simpa using hrs
    simp only [wrap_succ (show k + 1 < 2 ^ 63 by omega), evA, if_true, if_false, beq_false, simprocAttr]
    exact kFor_go (by first | trivial | omega) ⟨_, _, _, _, by rw [hrs']; exact hA, rfl⟩
   | true =>
    rw [h1, h2] at hrs
    have hrs' : rowQ s a b c (k + 1) = rowQ s a b c k ++ [((c : Int), (k : Int))] := by simpa using hrs
    have hln1 : (allQ s a b N c ++ rowQ s a b c k).length ≤ 12 * 256 + 256 := by rw [List.length_append]; omega
    have hln2 : (allQ s a b N c ++ rowQ s a b c (k + 1)).length = (allQ s a b N c ++ rowQ s a b c k).length + 1 := by rw [hrs', ← List.append_assoc, List.length_append]; rfl
    have hfl : (allQ s a b N c ++ rowQ s a b c (k + 1)).flatMap rgC = (allQ s a b N c ++ rowQ s a b c k).flatMap rgC ++ rgC ((c : Int), (k : Int)) := by rw [hrs', ← List.append_assoc, List.flatMap_append]; simp
    obtain ⟨v', σ', happ, hA', hfr, hlnn⟩ := accSF_append (by_ := 16) (x := rgC ((c : Int), (k : Int))) (by simp) hA rfl (by omega) (by omega)
    rw [← hln2, ← hfl] at hA'
    have f0 := hfr 0 (by omega)
    match σ', hlnn with
    | x0 :: σ2, _ =>
    have g0 : x0 = .cells [.cv (clsR s.cl), .cv (strR s.co)] := by simpa using f0
    subst g0
    simp only [List.append_assoc, List.length_append, rowOf_az, rowOf_as, set_az, set_as, get_az, get_as, get_nz, get_ns, List.cons_append, List.nil_append, List.length_cons, List.length_nil, Nat.zero_add, rgC, List.map_cons, List.map_nil] at happ
    simp only [happ, hA.nu, hA'.nu, wrap_succ (show k + 1 < 2 ^ 63 by omega), List.append_assoc, List.length_append, rowOf_az, rowOf_as, set_az, set_as, get_az, get_as, get_nz, get_ns, evA, if_true, if_false, beq_false, simprocAttr]
    exact kFor_go (by first | trivial | omega) ⟨_, _, _, _, (by rw [List.length_append] at hA'; exact hA'), rfl⟩
  ·have hkN' : k = N := by omega
   have hle : decide ((k : Int) ≤ (N : Int) - 1) = false := decide_eq_false (by omega)
   rw [hkN'] at hA
   simp only [ic37l0, hle, wrap_succ (show c + 1 < 2 ^ 63 by omega), evA, if_true, if_false, beq_false, simprocAttr]
   exact kFor_go (by first | trivial | omega) ⟨_, _, _, _, _, _, by rw [allQ_s]; exact hA, rfl⟩
 ·have hcn' : c = s.cl.length := by omega
  subst hcn'
  have hql := allQ_le s a b N s.cl.length
  have hcN : s.cl.length * N ≤ 12 * 256 := Nat.mul_le_mul (by omega) hNr.2
  generalize allQ s a b N s.cl.length = Q at *
  simp only [ic37l1, Int.ofNat_lt, hcn, evA, if_true, if_false, beq_false, simprocAttr]
  refine (c68 s hs hn1 hn12 hm hok Q (by omega) hQok).call (.cons (.agg (.cons (.c (.c _ trivial)) (.cons (.c (.c _ trivial)) .nil))) (.cons (accS_frz hA.acc (fun _ _ => trivial)) .nil)) ?_
  by_cases h40 : ((leastF s Q).length : Int) > 40
  ·rw [if_pos h40]
   simp only [h40, evA, if_true, if_false, beq_false, simprocAttr]
   exact .tup (.cons (.c .nl) (.cons (.c (.c _ trivial)) .nil))
  ·rw [if_neg h40]
   simp only [h40, evA, if_true, if_false, beq_false, simprocAttr]
   exact .tup (.cons (.c (.c _ trivial)) (.cons (.c (.c _ trivial)) .nil))
end Go.Proofs.YtpnghcaccfnngaaGreatDoor.AM
namespace Go.Proofs.YtpnghcaccfnngaaGreatDoor.AM
variable [Dr]
open Go
theorem typed_int {P : Program} {t : TypeId} {k : IntKind} {cs : List CV} (ht : P.underlying t = some (.int k)) (h : Typed P t cs) : ∃ n, cs = [.int k n] ∧ (Lit.int k n).wf = true := by
 cases h with
 | int ht' n hw => rw [ht] at ht'; cases ht'; exact ⟨n, rfl, hw⟩
 | bool ht' => rw [ht] at ht'; cases ht'
 | str ht' => rw [ht] at ht'; cases ht'
 | slc ht' => rw [ht] at ht'; cases ht'
 | arr ht' => rw [ht] at ht'; cases ht'
 | struct ht' => rw [ht] at ht'; cases ht'
theorem typed_str {P : Program} {t : TypeId} {cs : List CV} (ht : P.underlying t = some .string) (h : Typed P t cs) : ∃ s : ByteArray, cs = [.str s] ∧ s.size ≤ maxLen := by
 cases h with
 | str ht' s hs => exact ⟨s, rfl, hs⟩
 | bool ht' => rw [ht] at ht'; cases ht'
 | int ht' => rw [ht] at ht'; cases ht'
 | slc ht' => rw [ht] at ht'; cases ht'
 | arr ht' => rw [ht] at ht'; cases ht'
 | struct ht' => rw [ht] at ht'; cases ht'
theorem typed_slc {P : Program} {t e : TypeId} {cs : List CV} (ht : P.underlying t = some (.slice e)) (h : Typed P t cs) : ∃ L : List (List CV), cs = [.rsl L.flatten L.length] ∧ L.length ≤ maxLen ∧ (∀ l ∈ L, l.length = P.cellsOf e) ∧ ∀ l ∈ L, Typed P e l := by
 cases h with
 | slc ht' L hn hl h => rw [ht] at ht'; cases ht'; exact ⟨L, rfl, hn, hl, h⟩
 | bool ht' => rw [ht] at ht'; cases ht'
 | int ht' => rw [ht] at ht'; cases ht'
 | str ht' => rw [ht] at ht'; cases ht'
 | arr ht' => rw [ht] at ht'; cases ht'
 | struct ht' => rw [ht] at ht'; cases ht'
theorem typed_struct {P : Program} {t : TypeId} {fs : Array Field} {cs : List CV} (ht : P.underlying t = some (.struct fs)) (h : Typed P t cs) : ∃ L : List (List CV), cs = L.flatten ∧ L.length = fs.size ∧ ∀ (i : Nat) (f : Field) (l : List CV), fs[i]? = some f → L[i]? = some l → Typed P f.type l := by
 cases h with
 | struct ht' L hn hl h => rw [ht] at ht'; cases ht'; exact ⟨L, rfl, hn, h⟩
 | bool ht' => rw [ht] at ht'; cases ht'
 | int ht' => rw [ht] at ht'; cases ht'
 | str ht' => rw [ht] at ht'; cases ht'
 | slc ht' => rw [ht] at ht'; cases ht'
 | arr ht' => rw [ht] at ht'; cases ht'
theorem ints_of {P : Program} {e : TypeId} {k : IntKind} (he : P.underlying e = some (.int k)) : ∀ L : List (List CV), (∀ l ∈ L, Typed P e l) → ∃ zs : List Int, L.flatten = zs.map (.int k) ∧ L.length = zs.length ∧ ∀ z ∈ zs, (Lit.int k z).wf = true
 | [], _ => ⟨[], rfl, rfl, by simp⟩
 | l :: L, h => by
  obtain ⟨n, rfl, hn⟩ := typed_int he (h l (by simp))
  obtain ⟨zs, h1, h2, h3⟩ := ints_of he L fun l hl => h l (by simp [hl])
  exact ⟨n :: zs, by simp [h1], by simp [h2], by simpa using ⟨hn, h3⟩⟩
theorem wf_i64 {n : Int} (h : (Lit.int .i64 n).wf = true) : -9223372036854775808 ≤ n ∧ n ≤ 9223372036854775807 := by
 simp only [Lit.wf, Bool.and_eq_true, decide_eq_true_eq, IntKind.min, IntKind.max, IntKind.bits, IntKind.signed] at h
 simp at h; omega
theorem args_cons {P : Program} {t : TypeId} {ts : List TypeId} {avs : List AV} (h : Args P (t :: ts) avs) : ∃ cs avs', avs = avOf P t cs :: avs' ∧ Typed P t cs ∧ Args P ts avs' := by
 generalize hts : t :: ts = u at h
 cases h with
 | nil => cases hts
 | cons h1 h2 => cases hts; exact ⟨_, _, rfl, h1, h2⟩
theorem args_nil {P : Program} {avs : List AV} (h : Args P [] avs) : avs = [] := by
 generalize hts : ([] : List TypeId) = u at h
 cases h with
 | nil => rfl
 | cons h1 h2 => cases hts
end Go.Proofs.YtpnghcaccfnngaaGreatDoor.AM
namespace Go.Proofs.YtpnghcaccfnngaaGreatDoor.AM
open Go Pl
theorem typed_list {α : Type} {f : α → List CV} {p : α → Prop} {t : TypeId} (h : ∀ cs, Typed Tryz.prog t cs → ∃ x, cs = f x ∧ p x) : ∀ L : List (List CV), (∀ l ∈ L, Typed Tryz.prog t l) → ∃ xs : List α, L.flatten = xs.flatMap f ∧ L.length = xs.length ∧ ∀ x ∈ xs, p x
 | [], _ => ⟨[], rfl, rfl, by simp⟩
 | l :: L, hl => by
  obtain ⟨x, h1, h2⟩ := h l (hl l (by simp))
  obtain ⟨xs, g1, g2, g3⟩ := typed_list h L fun l hh => hl l (by simp [hh])
  exact ⟨x :: xs, by simp [h1, g1], by simp [g2], by simpa using ⟨h2, g3⟩⟩
theorem typed_cls {cs : List CV} (h : Typed Tryz.prog 109 cs) : ∃ c : Cls, cs = clsC c ∧ c.nm.size ≤ maxLen ∧ c.inc.length ≤ maxLen := by
 obtain ⟨L, rfl, hn, hf⟩ := typed_struct Tryz.underlying109 h
 match L, hn with
 | [a, b, c, d, e], _ =>
  obtain ⟨s, rfl, h1⟩ := typed_str Tryz.underlying9 (hf 0 _ a rfl rfl)
  obtain ⟨L2, rfl, hn2, _, hl2⟩ := typed_slc Tryz.underlying54 (hf 1 _ b rfl rfl)
  obtain ⟨zs, g1, g2, g3⟩ := ints_of Tryz.underlying3 L2 hl2
  obtain ⟨n1, rfl, _⟩ := typed_int Tryz.underlying3 (hf 2 _ c rfl rfl)
  obtain ⟨n2, rfl, _⟩ := typed_int Tryz.underlying3 (hf 3 _ d rfl rfl)
  obtain ⟨n3, rfl, _⟩ := typed_int Tryz.underlying3 (hf 4 _ e rfl rfl)
  exact ⟨⟨s, zs, n1, n2, n3⟩, by simp [clsC, g1, g2], h1, by show zs.length ≤ maxLen; omega⟩
theorem typed_rg {cs : List CV} (h : Typed Tryz.prog 60 cs) : ∃ r : Rt, cs = rgC r ∧ RgW r := by
 obtain ⟨L, rfl, hn, hf⟩ := typed_struct Tryz.underlying60 h
 match L, hn with
 | [a, b], _ =>
  obtain ⟨n1, rfl, w1⟩ := typed_int Tryz.underlying3 (hf 0 _ a rfl rfl)
  obtain ⟨n2, rfl, w2⟩ := typed_int Tryz.underlying3 (hf 1 _ b rfl rfl)
  exact ⟨(n1, n2), by simp [rgC], ⟨wf_i64 w1, wf_i64 w2⟩⟩
theorem typed_sys {cs : List CV} (h : Typed Tryz.prog 38 cs) : ∃ s : Sys, avOf Tryz.prog 38 cs = sysV s ∧ SSz s := by
 obtain ⟨L, rfl, hn, hf⟩ := typed_struct Tryz.underlying38 h
 match L, hn with
 | [a, b], _ =>
  obtain ⟨L1, rfl, n1, _, h1⟩ := typed_slc Tryz.underlying35 (hf 0 _ a rfl rfl)
  obtain ⟨L2, rfl, n2, _, h2⟩ := typed_slc Tryz.underlying36 (hf 1 _ b rfl rfl)
  obtain ⟨cs, a1, a2, a3⟩ := typed_list (fun cs h => typed_cls h) L1 h1
  obtain ⟨co, b1, b2, b3⟩ := typed_list (f := fun x : ByteArray => [CV.str x]) (p := fun x => x.size ≤ maxLen) (fun cs h => by
   obtain ⟨x, rfl, hx⟩ := typed_str Tryz.underlying9 h
   exact ⟨x, rfl, hx⟩) L2 h2
  have hm : maxLen < 2 ^ 63 := by decide
  have b1' : L2.flatten = co.map CV.str := by rw [b1, List.map_eq_flatMap]
  refine ⟨⟨cs, co⟩, ?_, ⟨by show cs.length < _; omega, by show co.length < _; omega, fun i hi => ?_, fun i hi => ?_, fun i hi => ?_⟩⟩
  ·simp only [avOf, Tryz.underlying38, a1, b1', a2, b2]
   rfl
  ·have hi : i < cs.length := hi
   show (cs[i]!).nm.size < _
   rw [getElem!_pos cs i hi]
   have := (a3 _ (List.getElem_mem hi)).1
   omega
  ·have hi : i < cs.length := hi
   show (cs[i]!).inc.length < _
   rw [getElem!_pos cs i hi]
   have := (a3 _ (List.getElem_mem hi)).2
   omega
  ·have hi : i < co.length := hi
   show (co[i]!).size < _
   rw [getElem!_pos co i hi]
   have := b3 _ (List.getElem_mem hi)
   omega
theorem rights_of {L : List (List CV)} (h : ∀ l ∈ L, Typed Tryz.prog 60 l) : ∃ xs : List Rt, L.flatten = xs.flatMap rgC ∧ L.length = xs.length ∧ ∀ x ∈ xs, RgW x := typed_list (fun cs h => typed_rg h) L h
theorem typed_rgs {cs : List CV} (h : Typed Tryz.prog 39 cs) : ∃ l : List Rt, avOf Tryz.prog 39 cs = rgL l ∧ l.length < 2 ^ 63 ∧ ∀ r ∈ l, RgW r := by
 obtain ⟨L1, rfl, n1, _, h1⟩ := typed_slc Tryz.underlying39 h
 obtain ⟨l, a1, a2, a3⟩ := rights_of h1
 have hm : maxLen < 2 ^ 63 := by decide
 refine ⟨l, by simp only [avOf, Tryz.underlying39, List.headD_cons, a1, a2], by omega, a3⟩
theorem leastF_len (s : Sys) (l : List Rt) : (leastF s l).length ≤ l.length := by
 unfold leastF
 have h1 := List.length_filter_le (fun x => !(ddR l).any fun r => wkB s x r) (sortR (ddR l))
 rw [sortR_len] at h1
 have h2 := esN_len l l.length
 unfold ddR keysE at h1
 rw [List.length_map] at h1
 unfold ddR keysE
 omega
theorem leastF_ok {s : Sys} {l : List Rt} (h : ∀ r ∈ l, RgOk s r) : ∀ r ∈ leastF s l, RgOk s r := fun r hr => h r (leastF_mem.1 hr).1
theorem comL_ok {s : Sys} {a b : List Rt} (ha : ∀ r ∈ a, RgOk s r) (hb : ∀ r ∈ b, RgOk s r) : ∀ r ∈ comL s a b, RgOk s r := fun r hr => by
 obtain ⟨p, hp, q, hq, i, hi, _, _, rfl⟩ := comL_mem.1 hr
 have h1 := ha p hp
 have h2 := hb q hq
 exact ⟨⟨by simp only; omega, by simp only; omega⟩, orI_nn _ _, orI_lt h1.2.2 h2.2.2⟩
theorem lst_form {s : Sys} (l : List Rt) : ∃ L e, lstV s l = .tup [rgL L, .i e] ∧ L.length < 2 ^ 63 ∧ ∀ r ∈ L, RgW r := by
 unfold lstV
 by_cases he : rdE s (sysE s).2.2 [l] = 0
 ·rw [if_neg (fun h => h he)]
  obtain ⟨k1, k2⟩ := rdE_ok he
  obtain ⟨⟨hn1, hn12⟩, hm, hok⟩ := sysE_n k1
  obtain ⟨hl40, hr⟩ := rgsE_ok k2
  have := leastF_len s l
  exact ⟨_, _, rfl, by omega, fun r h => (leastF_ok hr r h).w hn12 hm⟩
 ·rw [if_pos he]
  exact ⟨[], _, rfl, by decide, by simp⟩
theorem bth_form {s : Sys} (a b : List Rt) : ∃ L e, bthV s a b = .tup [rgL L, .i e] ∧ L.length < 2 ^ 63 ∧ ∀ r ∈ L, RgW r := by
 unfold bthV
 by_cases he : rdE s (sysE s).2.2 [a, b] = 0
 ·rw [if_neg (fun h => h he)]
  obtain ⟨k1, k2, k3⟩ := rdE_ok2 he
  obtain ⟨⟨hn1, hn12⟩, hm, hok⟩ := sysE_n k1
  obtain ⟨ha40, ha⟩ := rgsE_ok k2
  obtain ⟨hb40, hb⟩ := rgsE_ok k3
  by_cases h40 : ((leastF s (comL s a b)).length : Int) > 40
  ·rw [if_pos h40]
   exact ⟨[], _, rfl, by decide, by simp⟩
  ·rw [if_neg h40]
   exact ⟨_, _, rfl, by omega, fun r h => (leastF_ok (comL_ok ha hb) r h).w hn12 hm⟩
 ·rw [if_pos he]
  exact ⟨[], _, rfl, by decide, by simp⟩
theorem als_form (s : Sys) (a b : List Rt) : ∃ x e, alsV s a b = .tup [.b x, .i e] := by
 unfold alsV
 split
 all_goals exact ⟨_, _, rfl⟩
end Go.Proofs.YtpnghcaccfnngaaGreatDoor.AM
namespace Go.Proofs.YtpnghcaccfnngaaGreatDoor.AM
variable [Dr]
open Go
abbrev vs5 : List Nat := [0, 1, 2, 3, 6, 7, 8, 9, 10, 11, 12, 33, 55]
def ic5 : IC := (.seq (.region [jb 3 0, jw 4 .mv [jB false]])
 (.seq (.region [jN 2 3, jv 1, jk 31 [.t 0, .t 1], jt 2, jx 0 3, jx 1 3, jm 5 4, jm 6 5])
 (.seq (.region [jN 2 3, jv 1, jk 32 [.t 0, .t 1], jt 2, jx 0 3, jx 1 3, jm 7 4, jm 8 5])
 (.seq (.seq (.region [jv 5, jv 7, jk 33 [.t 0, .t 1], jq .not [.t 2], jt 3, jh 4 false 6, jh 4 false 8, jg 4 false (.bin .neq .int) [.t 5, .t 6], jw 11 .pick [.t 4, jB true, .t 7]])
 (.cond 11 (.seq (.region [jw 4 .mv [jB false]])
 .ret)
 .skip))
 (.seq (.region [jN 2 3, jv 1, jv 2, jk 34 [.t 0, .t 1, .t 2], jt 3, jx 0 4, jx 1 4, jm 9 5, jm 6 6])
 (.seq (.region [jN 2 3, jv 1, jv 2, jk 35 [.t 0, .t 1, .t 2], jt 3, jx 0 4, jx 1 4, jm 10 5, jm 8 6])
 (.seq (.seq (.region [jv 9, jv 10, jq (.bin .neq .bool) [.t 0, .t 1], jt 2, jh 3 false 6, jh 3 false 8, jg 3 false (.bin .neq .int) [.t 4, .t 5], jw 12 .pick [.t 3, jB true, .t 6]])
 (.cond 12 (.seq (.region [jw 4 .mv [jB false]])
 .ret)
 .skip))
 (.seq (.region [jN 2 3, jv 1, jv 2, jk 36 [.t 0, .t 1, .t 2], jt 3, jx 0 4, jx 1 4, jm 5 5, jm 6 6])
 (.seq (.region [jN 2 3, jv 1, jv 2, jk 37 [.t 0, .t 1, .t 2], jt 3, jx 0 4, jx 1 4, jm 7 5, jm 8 6])
 (.seq (.region [jv 5, jv 7, jk 33 [.t 0, .t 1], jt 2, jh 3 true 6, jh 3 true 8, jg 3 true (.bin .eql .int) [.t 4, .t 5], jq .pick [.t 3, .t 6, jB false], jt 7, jf 8 true 28 [], jq .pick [.t 8, .t 9, jB false], jm 4 10])
 .ret))))))))))
abbrev rs5 : List RC := [(.v 4)]
theorem fok5 (p : Bool) : FnOk Tryz.prog 5 ⟨ic5, vs5, 81, rs5, p⟩ := .mk2 Tryz.func5 (by kernel_rfl) (by kernel_rfl) (by kernel_rfl) (by kernel_rfl) (by kernel_rfl)
end Go.Proofs.YtpnghcaccfnngaaGreatDoor.AM
namespace Go.Proofs.YtpnghcaccfnngaaGreatDoor.AM
open Go Pl
theorem lc5 (s : Sys) (hs : SSz s) (a b : List Rt) (ha : a.length < 2 ^ 63) (hb : b.length < 2 ^ 63) : AC Tryz.prog 5 [sysV s, rgL a, rgL b] [] fun r _ => r = .b true := by
 refine AC_FE (fok5 true) (Nat.le_of_ble_eq_true rfl) ?_
 have h31 := c31 s hs a ha
 have h32 := c32 s hs a ha
 have h34 := c34 s hs a b ha hb
 have h35 := c35 s hs a b ha hb
 have h36 := c36 s hs a b ha hb
 have h37 := c37 s hs a b ha hb
 obtain ⟨L, e, h, hL, hw⟩ := lst_form (s := s) a
 rw [h] at h31 h32
 obtain ⟨t, e', h⟩ := als_form s a b
 rw [h] at h34 h35
 obtain ⟨M, e'', h, hM, hwM⟩ := bth_form (s := s) a b
 rw [h] at h36 h37
 have h33 := c33 L L hL hL hw hw
 rw [decide_eq_true rfl] at h33
 have h33' := c33 M M hM hM hwM hwM
 rw [decide_eq_true rfl] at h33'
 have n1 : (e != e) = false := by simp
 have n2 : (e' != e') = false := by simp
 have n3 : (t == t) = true := by simp
 have n4 : (e'' == e'') = true := by simp
 have n5 : (t != t) = false := by simp
 simp only [ic5, f_box, cellsOf, evA, if_true, if_false, beq_false, simprocAttr]
 refine h31.call ?_
 simp only [evA, if_true, if_false, beq_false, simprocAttr]
 refine h32.call ?_
 simp only [evA, if_true, if_false, beq_false, simprocAttr]
 refine h33.call frz ?_
 simp only [n1, evA, if_true, if_false, beq_false, simprocAttr]
 refine h34.call frz ?_
 simp only [evA, if_true, if_false, beq_false, simprocAttr]
 refine h35.call frz ?_
 simp only [n2, n3, n5, Bool.not_true, evA, if_true, if_false, beq_false, simprocAttr]
 refine h36.call ?_
 simp only [evA, if_true, if_false, beq_false, simprocAttr]
 refine h37.call ?_
 simp only [evA, if_true, if_false, beq_false, simprocAttr]
 refine h33'.call frz ?_
 simp only [n4, evA, if_true, if_false, beq_false, simprocAttr]
 refine awake.call .nil ?_
 simp only [evA, if_true, if_false, beq_false, simprocAttr]
theorem law_ClassForms (avs : List AV) (h : Args Tryz.prog Tryz.f5.params.toList avs) : AC Tryz.prog 5 avs [] fun r _ => r = .b true := by
 have h : Args Tryz.prog [38, 39, 39] avs := h
 obtain ⟨cs1, avs, rfl, h1, h⟩ := args_cons h
 obtain ⟨cs2, avs, rfl, h2, h⟩ := args_cons h
 obtain ⟨cs3, avs, rfl, h3, h⟩ := args_cons h
 cases args_nil h
 obtain ⟨s, e1, hs⟩ := typed_sys h1
 obtain ⟨a, e2, ha, _⟩ := typed_rgs h2
 obtain ⟨b, e3, hb, _⟩ := typed_rgs h3
 rw [e1, e2, e3]
 exact lc5 s hs a b ha hb
end Go.Proofs.YtpnghcaccfnngaaGreatDoor.AM

/- Parts of the proof of Round. -/
import Derived.Test.YtpnghcaccfnngaaGreatDoorRows
import Derived.WalkKit
import Derived.ProofKit
import Derived.OpenShut
import Derived.Carry
import Derived.Test.YtpnghcaccfnngaaGreatDoorZ17
set_option linter.unusedVariables false
set_option linter.unusedSimpArgs false
set_option linter.unusedSectionVars false
namespace Go.Proofs.YtpnghcaccfnngaaGreatDoor.AM
variable [Dr]
open Go Go.ChangeShapes Go.WideShapes Go.ChangeAt Go.RowKit
abbrev noO : Nat → Prop := Own (fun _ => none) (fun _ => False)
theorem not_noO (b : Nat) : ¬ noO b := by rintro (h | ⟨l, hl⟩); exact h; cases hl
theorem fin_choice {α : Type} {Q : Nat → α → Prop} : ∀ (n : Nat), (∀ i, i < n → ∃ l, Q i l) → ∃ L : List α, L.length = n ∧ ∀ (i : Nat) (l : α), L[i]? = some l → Q i l
 | 0, _ => ⟨[], rfl, by simp⟩
 | n + 1, h => by
  obtain ⟨L, h1, h2⟩ := fin_choice n (fun i hi => h i (by omega))
  obtain ⟨l, hl⟩ := h n (by omega)
  refine ⟨L ++ [l], by simp [h1], fun i l' hi => ?_⟩
  rcases Nat.lt_or_ge i n with hlt | hge
  ·rw [List.getElem?_append_left (by omega)] at hi; exact h2 i l' hi
  ·rw [List.getElem?_append_right (by omega), h1] at hi
   have : i = n := by
    rcases Nat.lt_or_ge n i with h' | h'
    ·rw [List.getElem?_eq_none (by simp; omega)] at hi; cases hi
    ·omega
   subst this
   simp at hi; subst hi; exact hl
theorem flat_rel {R : Nat → CV → Prop} {esz : Nat} : ∀ (L : List (List CV)) (n : Nat), (∀ (i : Nat) (l : List CV), L[i]? = some l → l.length = esz ∧ ∀ (j : Nat) (c : CV), l[j]? = some c → R (n + i * esz + j) c) →
  L.flatten.length = L.length * esz ∧ ∀ (k : Nat) (c : CV), L.flatten[k]? = some c → R (n + k) c
 | [], n, _ => by simp
 | l :: L, n, h => by
  obtain ⟨h1, h2⟩ := h 0 l (by simp)
  have ih := flat_rel L (n + esz) (fun i l' hi => by
   obtain ⟨g1, g2⟩ := h (i + 1) l' (by simpa using hi)
   refine ⟨g1, fun j c hj => ?_⟩
   have := g2 j c hj
   rwa [Nat.add_mul, Nat.one_mul, ← Nat.add_assoc, Nat.add_right_comm n] at this)
  refine ⟨by simp [h1, ih.1, Nat.add_mul, Nat.add_comm], fun k c hk => ?_⟩
  rw [List.flatten_cons] at hk
  rcases Nat.lt_or_ge k l.length with hlt | hge
  ·rw [List.getElem?_append_left hlt] at hk
   have := h2 k c hk
   simpa using this
  ·rw [List.getElem?_append_right hge] at hk
   have := ih.2 (k - l.length) c hk
   rwa [show n + esz + (k - l.length) = n + k by omega] at this
theorem flat_relF {P : Program} {R : Nat → CV → Prop} {N : Nat} : ∀ (fs : List Field) (L : List (List CV)) (n : Nat), fieldsEnd P fs n = some N → L.length = fs.length →
  (∀ (i : Nat) (f : Field) (l : List CV), fs[i]? = some f → L[i]? = some l → l.length = P.cellsOf f.type ∧ ∀ (j : Nat) (c : CV), l[j]? = some c → R (f.offset + j) c) →
  n + L.flatten.length = N ∧ ∀ (k : Nat) (c : CV), L.flatten[k]? = some c → R (n + k) c
 | [], L, n, he, hl, _ => by
  have : L = [] := List.eq_nil_of_length_eq_zero (by simpa using hl)
  subst this
  simp only [fieldsEnd, Option.some.injEq] at he
  simp [he]
 | f :: fs, [], n, _, hl, _ => by simp at hl
 | f :: fs, l :: L, n, he, hl, h => by
  simp only [fieldsEnd] at he
  split at he
  ·rename_i hoff
   obtain ⟨h1, h2⟩ := h 0 f l (by simp) (by simp)
   have ih := flat_relF fs L (n + P.cellsOf f.type) he (by simpa using hl) (fun i f' l' hf hl' => h (i + 1) f' l' (by simpa using hf) (by simpa using hl'))
   refine ⟨by rw [← ih.1]; simp [h1]; omega, fun k c hk => ?_⟩
   rw [List.flatten_cons] at hk
   rcases Nat.lt_or_ge k l.length with hlt | hge
   ·rw [List.getElem?_append_left hlt] at hk
    have := h2 k c hk
    rwa [hoff] at this
   ·rw [List.getElem?_append_right hge] at hk
    have := ih.2 (k - l.length) c hk
    rwa [show n + P.cellsOf f.type + (k - l.length) = n + k by omega] at this
  ·cases he
theorem reps_of_all {W : World} {a : Addr} : ∀ (cs : List CV) (i : Nat), (∀ (j : Nat) (c : CV), cs[j]? = some c → ∃ v, W.cell? (a.add (i + j)) = some v ∧ c.rep W noO v) → CV.reps W noO cs a i
 | [], _, _ => by simp [CV.reps]
 | c :: cs, i, h => by
  simp only [CV.reps]
  refine ⟨not_noO _, by simpa using h 0 c (by simp), reps_of_all cs (i + 1) fun j c' hj => ?_⟩
  have := h (j + 1) c' (by simpa using hj)
  rwa [show i + (j + 1) = i + 1 + j by omega] at this
section
variable {H : Type} {enc : TypeId × Value → H} {P : Program} {W : World}
theorem trod_typed : ∀ (n : Nat) (t : TypeId) (cs : List Value) (x : DataW H × List MemPlace) (fuel : Nat), openT P n t = true → DataW.trod enc P W 0 (fun _ => true) true fuel t cs = some x →
  ∃ cvs : List CV, Typed P t cvs ∧ cvs.length = cs.length ∧ ∀ (i : Nat) (c : CV) (v : Value), cvs[i]? = some c → cs[i]? = some v → c.rep W noO v
 | 0, t, cs, x, fuel, ho, _ => by simp [openT] at ho
 | n + 1, t, cs, x, fuel, ho, h => by
  simp only [openT] at ho
  split at ho
  ·rename_i ht
   obtain ⟨b, rfl, _⟩ := DataW.trod_bool ht h
   refine ⟨[.bool b], .bool ht b, rfl, fun i c v h1 h2 => ?_⟩
   cases i with
   | zero => simp at h1 h2; subst h1 h2; simp [CV.rep]
   | succ i => simp at h1
  ·rename_i k ht
   obtain ⟨b, rfl, _, hw⟩ := DataW.trod_int ht h
   refine ⟨[.int k b], .int ht b hw, rfl, fun i c v h1 h2 => ?_⟩
   cases i with
   | zero => simp at h1 h2; subst h1 h2; simp [CV.rep]
   | succ i => simp at h1
  ·rename_i ht
   obtain ⟨s, rfl, _, hw⟩ := DataW.trod_string ht h
   refine ⟨[.str s], .str ht s hw, rfl, fun i c v h1 h2 => ?_⟩
   cases i with
   | zero => simp at h1 h2; subst h1 h2; simp [CV.rep]
   | succ i => simp at h1
  ·rename_i e ht
   rcases DataW.trod_slice ht h with ⟨rfl, _⟩ | ⟨a, len, cap, elems, rest, m, _, rfl, _, _, hlc, hcm, hel, hget, _⟩
   ·refine ⟨[.rsl [] 0], by simpa using Typed.slc ht [] (by simp) (by simp) (by simp), rfl, fun i c v h1 h2 => ?_⟩
    cases i with
    | zero => simp at h1 h2; subst h1 h2; simp [CV.rep]
    | succ i => simp at h1
   ·obtain ⟨L, hL, hQ⟩ := fin_choice (Q := fun i l => Typed P e l ∧ l.length = P.cellsOf e ∧ ∀ (j : Nat) (c : CV), l[j]? = some c → ∃ v, W.cell? (a.add (i * P.cellsOf e + j)) = some v ∧ c.rep W noO v) len (fun i hi => by
     have hg := hget i hi
     rw [List.getElem?_eq_getElem (by omega)] at hg
     obtain ⟨ci, h1, h2⟩ := Option.bind_eq_some_iff.1 hg
     obtain ⟨_, hlen, hcell⟩ := World.cells?_some h1
     obtain ⟨cvs, g1, g2, g3⟩ := trod_typed n e ci _ _ ho h2
     refine ⟨cvs, g1, by omega, fun j c hj => ?_⟩
     have hjl : j < cvs.length := (List.getElem?_eq_some_iff.1 hj).1
     have hc := hcell j (by omega)
     rw [List.getElem?_eq_getElem (by omega)] at hc
     exact ⟨_, by rw [← Addr.add_add]; exact hc, g3 j c _ hj (List.getElem?_eq_getElem _)⟩)
    have hmem : ∀ l ∈ L, ∃ i : Nat, L[i]? = some l := fun l hl => List.mem_iff_getElem?.1 hl
    have hfl := flat_rel (R := fun k c => ∃ v, W.cell? (a.add k) = some v ∧ c.rep W noO v) (esz := P.cellsOf e) L 0 (fun i l hi => ⟨(hQ i l hi).2.1, fun j c hj => by simpa using (hQ i l hi).2.2 j c hj⟩)
    refine ⟨[.rsl L.flatten L.length], Typed.slc ht L (by omega) (fun l hl => let ⟨i, hi⟩ := hmem l hl; (hQ i l hi).2.1) (fun l hl => let ⟨i, hi⟩ := hmem l hl; (hQ i l hi).1), rfl, fun i c v h1 h2 => ?_⟩
    cases i with
    | zero =>
     simp at h1 h2; subst h1 h2
     simp only [CV.rep]
     exact .inr ⟨a, cap, by rw [hL], by omega, reps_of_all _ 0 (fun j c hj => hfl.2 j c hj)⟩
    | succ i => simp at h1
  ·rename_i k e ht
   simp only [Bool.and_eq_true, decide_eq_true_eq] at ho
   obtain ⟨xs, m, _, _, hlen, hxs, hget⟩ := DataW.trod_array ht h
   obtain ⟨L, hL, hQ⟩ := fin_choice (Q := fun i l => Typed P e l ∧ l.length = P.cellsOf e ∧ ∀ (j : Nat) (c : CV), l[j]? = some c → ∀ v, cs[i * P.cellsOf e + j]? = some v → c.rep W noO v) k (fun i hi => by
     have hg := hget i hi
     rw [List.getElem?_eq_getElem (by omega)] at hg
     obtain ⟨cvs, g1, g2, g3⟩ := trod_typed n e _ _ _ ho.1 hg
     have hik : i * P.cellsOf e + P.cellsOf e ≤ k * P.cellsOf e := by
      have := Nat.mul_le_mul_right (P.cellsOf e) (show i + 1 ≤ k by omega)
      rwa [Nat.add_mul, Nat.one_mul] at this
     have hl2 : cvs.length = P.cellsOf e := by rw [g2]; simp; omega
     refine ⟨cvs, g1, hl2, fun j c hj v hv => ?_⟩
     have hjl : j < cvs.length := (List.getElem?_eq_some_iff.1 hj).1
     exact g3 j c v hj (by rw [List.getElem?_take, if_pos (by omega), List.getElem?_drop]; exact hv))
   have hmem : ∀ l ∈ L, ∃ i : Nat, L[i]? = some l := fun l hl => List.mem_iff_getElem?.1 hl
   have hfl := flat_rel (R := fun k c => ∀ v, cs[k]? = some v → c.rep W noO v) (esz := P.cellsOf e) L 0 (fun i l hi => ⟨(hQ i l hi).2.1, fun j c hj => by simpa using (hQ i l hi).2.2 j c hj⟩)
   exact ⟨L.flatten, Typed.arr ht L hL (fun l hl => let ⟨i, hi⟩ := hmem l hl; (hQ i l hi).2.1) (fun l hl => let ⟨i, hi⟩ := hmem l hl; (hQ i l hi).1), by rw [hfl.1, hlen, ho.2, hL], fun i c v h1 h2 => hfl.2 i c h1 v (by simpa using h2)⟩
  ·rename_i fs ht
   simp only [Bool.and_eq_true, decide_eq_true_eq, List.all_eq_true] at ho
   obtain ⟨xs, m, _, _, hlen, hxs, hget⟩ := DataW.trod_struct ht h
   obtain ⟨L, hL, hQ⟩ := fin_choice (Q := fun i l => ∀ f, fs[i]? = some f → Typed P f.type l ∧ l.length = min (P.cellsOf f.type) (cs.length - f.offset) ∧ ∀ (j : Nat) (c : CV), l[j]? = some c → ∀ v, cs[f.offset + j]? = some v → c.rep W noO v) fs.size (fun i hi => by
     have hfi : fs[i]? = some fs[i] := Array.getElem?_eq_getElem hi
     have hg := hget i fs[i] hfi
     rw [List.getElem?_eq_getElem (by omega)] at hg
     obtain ⟨cvs, g1, g2, g3⟩ := trod_typed n _ _ _ _ (ho.1 fs[i] (by simp)) hg
     have hl2 : cvs.length = min (P.cellsOf fs[i].type) (cs.length - fs[i].offset) := by rw [g2]; simp
     refine ⟨cvs, fun f hf => ?_⟩
     rw [hfi] at hf; cases hf
     refine ⟨g1, hl2, fun j c hj v hv => ?_⟩
     have hjl : j < cvs.length := (List.getElem?_eq_some_iff.1 hj).1
     exact g3 j c v hj (by rw [List.getElem?_take, if_pos (by omega), List.getElem?_drop]; exact hv))
   have hoff : ∀ (fs : List Field) (n N : Nat), fieldsEnd P fs n = some N → n ≤ N ∧ ∀ (i : Nat) (f : Field), fs[i]? = some f → f.offset + P.cellsOf f.type ≤ N := by
    intro fs
    induction fs with
    | nil => intro n N h; simp only [fieldsEnd, Option.some.injEq] at h; simp [h]
    | cons f fs ih =>
     intro n N h
     simp only [fieldsEnd] at h
     split at h
     ·rename_i ho
      obtain ⟨h1, h2⟩ := ih _ _ h
      refine ⟨by omega, fun i f' hi => ?_⟩
      cases i with
      | zero => simp at hi; subst hi; omega
      | succ i => exact h2 i f' (by simpa using hi)
     ·cases h
   have hin := (hoff _ _ _ ho.2).2
   have hl : ∀ (i : Nat) (f : Field) (l : List CV), fs[i]? = some f → L[i]? = some l → l.length = P.cellsOf f.type := by
    intro i f l hf hl
    obtain ⟨_, h2, _⟩ := hQ i l hl f hf
    have := hin i f (by simpa using hf)
    omega
   have hfl := flat_relF (P := P) (R := fun k c => ∀ v, cs[k]? = some v → c.rep W noO v) fs.toList L 0 ho.2 (by simpa using hL) (fun i f l hf hl' =>
    ⟨hl i f l (by simpa using hf) hl', fun j c hj => (hQ i l hl' f (by simpa using hf)).2.2 j c hj⟩)
   exact ⟨L.flatten, Typed.struct ht L hL hl (fun i f l hf hl' => (hQ i l hl' f hf).1), by have := hfl.1; omega, fun i c v h1 h2 => hfl.2 i c h1 v (by simpa using h2)⟩
  ·cases ho
abbrev noX : Nat → Prop := fun _ => False
theorem VRels_of_all : ∀ (cvs : List CV) (vs : List Value), cvs.length = vs.length → (∀ (i : Nat) (c : CV) (v : Value), cvs[i]? = some c → vs[i]? = some v → c.rep W noO v) → VRels nom noX W (cvs.map .cv) vs
 | [], [], _, _ => by simp [VRels]
 | c :: cvs, v :: vs, hl, h => by
  simp only [List.map_cons, VRels, VRel]
  exact ⟨h 0 c v rfl rfl, VRels_of_all cvs vs (by simpa using hl) fun i c v h1 h2 => h (i + 1) c v (by simpa using h1) (by simpa using h2)⟩
 | [], _ :: _, hl, _ => by simp at hl
 | _ :: _, [], hl, _ => by simp at hl
theorem arg_typed {n : Nat} {t : TypeId} {v : Value} {d : DataW H} {ps : List MemPlace} {r : Reach} {base : Nat} (ho : openT P n t = true) (hval : Value.okWide P W r base t v) (h : DataW.Trod enc P W 0 (fun _ => true) true t v d ps) :
  ∃ cs, Typed P t cs ∧ VRel nom noX W (avOf P t cs) v := by
 obtain ⟨fuel, h⟩ := h
 obtain ⟨cvs, h1, h2, h3⟩ := trod_typed n t _ _ _ ho h
 refine ⟨cvs, h1, ?_⟩
 unfold avOf
 have one : (v.cells.toList = [v]) → VRel nom noX W (.cv (cvs.headD .nilp)) v := by
  intro hv
  rw [hv] at h2 h3
  match cvs, h2 with
  | [c], _ => simp only [List.headD_cons, VRel]; exact h3 0 c v rfl rfl
 cases n with
 | zero => simp [openT] at ho
 | succ n =>
  simp only [openT] at ho
  split at ho
  ·rename_i ht; rw [ht]; obtain ⟨b, rfl⟩ := okWide_bool ht hval; exact one rfl
  ·rename_i ht; rw [ht]; obtain ⟨b, rfl⟩ := okWide_int ht hval; exact one rfl
  ·rename_i ht; rw [ht]; obtain ⟨b, rfl⟩ := okWide_string ht hval; exact one rfl
  ·rename_i ht; rw [ht]; obtain ⟨_, _, _, rfl⟩ := okWide_slice ht hval; exact one rfl
  ·rename_i ht; rw [ht]
   simp only [Value.okWide, ht] at hval
   obtain ⟨arr, rfl, _⟩ := hval
   simp only [VRel]
   exact ⟨arr.toList, by simp, VRels_of_all _ _ h2 h3⟩
  ·rename_i ht; rw [ht]
   simp only [Value.okWide, ht] at hval
   obtain ⟨arr, rfl, _⟩ := hval
   simp only [VRel]
   exact ⟨arr.toList, by simp, VRels_of_all _ _ h2 h3⟩
  ·cases ho
theorem args_typed {n : Nat} {r : Reach} {base : Nat} : ∀ {ts : List TypeId} {vs : List Value} {ds : List (DataW H)} {ps : List MemPlace}, (ts.all (openT P n)) = true →
  (∀ (j : Nat) (t : TypeId) (v : Value), ts[j]? = some t → vs[j]? = some v → Value.okWide P W r base t v) → DataW.TrodAll enc P W 0 (fun _ => true) true ts vs ds ps →
  ds.length = ts.length ∧ ∃ avs, Args P ts avs ∧ VRels nom noX W avs vs
 | [], _, _, _, _, _, h => by
  obtain ⟨rfl, rfl, rfl⟩ := trodAll_nil h
  exact ⟨rfl, [], .nil, by simp [VRels]⟩
 | t :: ts, _, _, _, ho, hval, h => by
  obtain ⟨v, vs1, d, ds1, a, b, rfl, rfl, rfl, h1, h2⟩ := trodAll_cons h
  simp only [List.all_cons, Bool.and_eq_true] at ho
  obtain ⟨cs, g1, g2⟩ := arg_typed ho.1 (hval 0 t v rfl rfl) h1
  obtain ⟨hl, avs, g3, g4⟩ := args_typed ho.2 (fun j t v h1 h2 => hval (j + 1) t v (by simpa using h1) (by simpa using h2)) h2
  exact ⟨by simp [hl], _, .cons g1 g3, by simp only [VRels]; exact ⟨g2, g4⟩⟩
theorem trodAll_below (hl : laidOutB P = true) {W' : World} (hb : Below W.heap.size W W') : ∀ {ts : List TypeId} {vs : List Value} {ds : List (DataW H)} {ps : List MemPlace}, (ts.all fun t => P.readableRec t && decide (t < P.types.size)) = true →
  DataW.TrodAll enc P W 0 (fun _ => true) true ts vs ds ps → (∀ x ∈ ps, x.block < W.heap.size) → DataW.TrodAll enc P W' 0 (fun b => decide (b < W.heap.size)) true ts vs ds ps
 | [], _, _, _, _, h, _ => by
  obtain ⟨rfl, rfl, rfl⟩ := trodAll_nil h
  exact trodAll_mk0
 | t :: ts, _, _, _, ho, h, hlt => by
  obtain ⟨v, vs1, d, ds1, a, b, rfl, rfl, rfl, h1, h2⟩ := trodAll_cons h
  simp only [List.all_cons, Bool.and_eq_true, decide_eq_true_eq] at ho
  refine trodAll_cons_mk (Below.trod hl ho.1.1 ho.1.2 h1 hb fun x hx => hlt x (by simp [hx])) (trodAll_below hl hb ?_ h2 fun x hx => hlt x (by simp [hx]))
  simpa using ho.2
theorem law_of_AC {f : FuncId} {fn : Func} {s : ChangeSpec} {n : Nat} {t : TypeId} {base : Nat} {args : Array Value} {ds gs : List (DataW H)} {before : List MemPlace}
  (hl : laidOutB P = true) (hpar : (fn.params.toList.all fun t => P.readableRec t && decide (t < P.types.size)) = true) (ho : fn.params.toList.all (openT P n) = true)
  (hres : fn.resultTypes = #[t]) (htb : P.underlying t = some .bool) (hsv : s.vars = []) (hs : ∀ ds : List (DataW H), ds.length = fn.params.toList.length → s.fn H ds = { results := [.lit (.bool true)], args := ds })
  (hAC : ∀ avs, Args P fn.params.toList avs → AC P f avs [] fun r _ => r = .b true)
  (hval : ∀ (j : Nat) t v, fn.params[j]? = some t → args[j]? = some v → Value.okWide P W .any base t v)
  (hW : DataW.Whole enc P fn.params.toList s.vars false W args.toList ds gs before) :
  Calls P f args W fun e W' => ∃ v, e = .returned v ∧ s.post enc P fn false true false false W args v W' := by
 have hW' := hW
 obtain ⟨p, q, hA, hV, rfl, hfz, hnd⟩ := hW
 rw [hsv] at hV
 obtain ⟨rfl, rfl⟩ := trodVars_none hV
 have hlt : ∀ x ∈ p, x.block < W.heap.size := fun x hx => hW'.lt x (by simp [hx])
 obtain ⟨hlen, avs, hav, hrel⟩ := args_typed ho (fun j t v h1 h2 => hval j t v (by simpa using h1) (by simpa using h2)) hA
 have hcall := (hAC avs hav).2 nom noX W args.toList hrel ⟨by simp, by simp, by simp, by simp, by simp⟩
 have hcall := callsIn_wide.1 hcall
 simp only [Array.toArray_toList] at hcall
 refine hcall.mono fun e W' ⟨c, r, σ', m', he, hq, hr, _, hst, _⟩ => ?_
 subst he hq
 simp only [VRel, CV.rep] at hr
 subst hr
 have hb : Below W.heap.size W W' := ⟨hst.os, hst.tape, hst.output, hst.size, fun k hk => hst.fr k hk (.inr (by simp))⟩
 have hsf : s.fn H (ds ++ []) = { results := [.lit (.bool true)], args := ds } := by rw [List.append_nil]; exact hs ds hlen
 refine ⟨_, rfl, ds, [], p ++ [], [], p, [], hW', ?_, ?_, ?_, hb.frame _, fun h => by simp at h⟩
 ·rw [hsf, hres]
  exact trodAll_mk1 (shut_bool htb true)
 ·rw [hsf]
  exact trodAll_below hl hb hpar hA hlt
 ·rw [hsf, hsv]
  rfl
end
end Go.Proofs.YtpnghcaccfnngaaGreatDoor.AM
namespace Go.Proofs.YtpnghcaccfnngaaGreatDoor.AM
variable [Dr]
open Go
theorem SameSite.trans {a b c : ALoop} (h : SameSite a b) (k : SameSite b c) : SameSite a c :=
 ⟨k.1.trans h.1, k.2.1.trans h.2.1, k.2.2.1.trans h.2.2.1, k.2.2.2.1.trans h.2.2.2.1, k.2.2.2.2.trans h.2.2.2.2⟩
theorem LoopKeep.trans {a b c : List AObj} (h : LoopKeep a b) (k : LoopKeep b c) : LoopKeep a c := fun l r hr =>
 let ⟨r1, h1, h2⟩ := h l r hr
 let ⟨r2, h3, h4⟩ := k l r1 h1
 ⟨r2, h3, h2.trans h4⟩
end Go.Proofs.YtpnghcaccfnngaaGreatDoor.AM
namespace Go.Proofs.YtpnghcaccfnngaaGreatDoor.AM
variable [Dr]
open Go Pl
theorem rgsE_of {s : Sys} {l : List Rt} (h1 : l.length ≤ 40) (h2 : ∀ r ∈ l, RgOk s r) : rgsE s l = 0 := by
 unfold rgsE
 rw [if_neg (by omega), findE_none]
 intro j _ hj
 show rgErr s l[j]! = 0
 rw [getElem!_pos l j (by omega)]
 exact rgErr_iff.2 (h2 _ (List.getElem_mem _))
theorem textN_ne {s : Sys} (hv : Val s) {l : List Rt} (hr : ∀ r ∈ l, RgOk s r) (h : l ≠ []) : textN s l l.length ≠ bts [45] := by
 intro he
 have hw := text_words hv hr h
 rw [he] at hw
 have h2 : splitF (bts [45]) 32 = [bts [45]] := by decide +kernel
 rw [h2] at hw
 match l, h with
 | x :: r, _ =>
  simp only [List.map_cons, List.cons.injEq] at hw
  have := wordF_nosp hv (hr x (by simp)) (c := 45) (by simp)
  rw [← hw.1] at this
  exact this (by decide)
end Go.Proofs.YtpnghcaccfnngaaGreatDoor.AM
namespace Go.Proofs.YtpnghcaccfnngaaGreatDoor.AM
variable [Dr]
open Go
theorem typed_int {P : Program} {t : TypeId} {k : IntKind} {cs : List CV} (ht : P.underlying t = some (.int k)) (h : Typed P t cs) : ∃ n, cs = [.int k n] ∧ (Lit.int k n).wf = true := by
 cases h with
 | int ht' n hw => rw [ht] at ht'; cases ht'; exact ⟨n, rfl, hw⟩
 | bool ht' => rw [ht] at ht'; cases ht'
 | str ht' => rw [ht] at ht'; cases ht'
 | slc ht' => rw [ht] at ht'; cases ht'
 | arr ht' => rw [ht] at ht'; cases ht'
 | struct ht' => rw [ht] at ht'; cases ht'
theorem typed_str {P : Program} {t : TypeId} {cs : List CV} (ht : P.underlying t = some .string) (h : Typed P t cs) : ∃ s : ByteArray, cs = [.str s] ∧ s.size ≤ maxLen := by
 cases h with
 | str ht' s hs => exact ⟨s, rfl, hs⟩
 | bool ht' => rw [ht] at ht'; cases ht'
 | int ht' => rw [ht] at ht'; cases ht'
 | slc ht' => rw [ht] at ht'; cases ht'
 | arr ht' => rw [ht] at ht'; cases ht'
 | struct ht' => rw [ht] at ht'; cases ht'
theorem typed_slc {P : Program} {t e : TypeId} {cs : List CV} (ht : P.underlying t = some (.slice e)) (h : Typed P t cs) : ∃ L : List (List CV), cs = [.rsl L.flatten L.length] ∧ L.length ≤ maxLen ∧ (∀ l ∈ L, l.length = P.cellsOf e) ∧ ∀ l ∈ L, Typed P e l := by
 cases h with
 | slc ht' L hn hl h => rw [ht] at ht'; cases ht'; exact ⟨L, rfl, hn, hl, h⟩
 | bool ht' => rw [ht] at ht'; cases ht'
 | int ht' => rw [ht] at ht'; cases ht'
 | str ht' => rw [ht] at ht'; cases ht'
 | arr ht' => rw [ht] at ht'; cases ht'
 | struct ht' => rw [ht] at ht'; cases ht'
theorem typed_struct {P : Program} {t : TypeId} {fs : Array Field} {cs : List CV} (ht : P.underlying t = some (.struct fs)) (h : Typed P t cs) : ∃ L : List (List CV), cs = L.flatten ∧ L.length = fs.size ∧ ∀ (i : Nat) (f : Field) (l : List CV), fs[i]? = some f → L[i]? = some l → Typed P f.type l := by
 cases h with
 | struct ht' L hn hl h => rw [ht] at ht'; cases ht'; exact ⟨L, rfl, hn, h⟩
 | bool ht' => rw [ht] at ht'; cases ht'
 | int ht' => rw [ht] at ht'; cases ht'
 | str ht' => rw [ht] at ht'; cases ht'
 | slc ht' => rw [ht] at ht'; cases ht'
 | arr ht' => rw [ht] at ht'; cases ht'
theorem ints_of {P : Program} {e : TypeId} {k : IntKind} (he : P.underlying e = some (.int k)) : ∀ L : List (List CV), (∀ l ∈ L, Typed P e l) → ∃ zs : List Int, L.flatten = zs.map (.int k) ∧ L.length = zs.length ∧ ∀ z ∈ zs, (Lit.int k z).wf = true
 | [], _ => ⟨[], rfl, rfl, by simp⟩
 | l :: L, h => by
  obtain ⟨n, rfl, hn⟩ := typed_int he (h l (by simp))
  obtain ⟨zs, h1, h2, h3⟩ := ints_of he L fun l hl => h l (by simp [hl])
  exact ⟨n :: zs, by simp [h1], by simp [h2], by simpa using ⟨hn, h3⟩⟩
theorem wf_i64 {n : Int} (h : (Lit.int .i64 n).wf = true) : -9223372036854775808 ≤ n ∧ n ≤ 9223372036854775807 := by
 simp only [Lit.wf, Bool.and_eq_true, decide_eq_true_eq, IntKind.min, IntKind.max, IntKind.bits, IntKind.signed] at h
 simp at h; omega
theorem args_cons {P : Program} {t : TypeId} {ts : List TypeId} {avs : List AV} (h : Args P (t :: ts) avs) : ∃ cs avs', avs = avOf P t cs :: avs' ∧ Typed P t cs ∧ Args P ts avs' := by
 generalize hts : t :: ts = u at h
 cases h with
 | nil => cases hts
 | cons h1 h2 => cases hts; exact ⟨_, _, rfl, h1, h2⟩
theorem args_nil {P : Program} {avs : List AV} (h : Args P [] avs) : avs = [] := by
 generalize hts : ([] : List TypeId) = u at h
 cases h with
 | nil => rfl
 | cons h1 h2 => cases hts
end Go.Proofs.YtpnghcaccfnngaaGreatDoor.AM
namespace Go.Proofs.YtpnghcaccfnngaaGreatDoor.AM
open Go Pl
theorem typed_list {α : Type} {f : α → List CV} {p : α → Prop} {t : TypeId} (h : ∀ cs, Typed Tryz.prog t cs → ∃ x, cs = f x ∧ p x) : ∀ L : List (List CV), (∀ l ∈ L, Typed Tryz.prog t l) → ∃ xs : List α, L.flatten = xs.flatMap f ∧ L.length = xs.length ∧ ∀ x ∈ xs, p x
 | [], _ => ⟨[], rfl, rfl, by simp⟩
 | l :: L, hl => by
  obtain ⟨x, h1, h2⟩ := h l (hl l (by simp))
  obtain ⟨xs, g1, g2, g3⟩ := typed_list h L fun l hh => hl l (by simp [hh])
  exact ⟨x :: xs, by simp [h1, g1], by simp [g2], by simpa using ⟨h2, g3⟩⟩
theorem typed_cls {cs : List CV} (h : Typed Tryz.prog 109 cs) : ∃ c : Cls, cs = clsC c ∧ c.nm.size ≤ maxLen ∧ c.inc.length ≤ maxLen := by
 obtain ⟨L, rfl, hn, hf⟩ := typed_struct Tryz.underlying109 h
 match L, hn with
 | [a, b, c, d, e], _ =>
  obtain ⟨s, rfl, h1⟩ := typed_str Tryz.underlying9 (hf 0 _ a rfl rfl)
  obtain ⟨L2, rfl, hn2, _, hl2⟩ := typed_slc Tryz.underlying54 (hf 1 _ b rfl rfl)
  obtain ⟨zs, g1, g2, g3⟩ := ints_of Tryz.underlying3 L2 hl2
  obtain ⟨n1, rfl, _⟩ := typed_int Tryz.underlying3 (hf 2 _ c rfl rfl)
  obtain ⟨n2, rfl, _⟩ := typed_int Tryz.underlying3 (hf 3 _ d rfl rfl)
  obtain ⟨n3, rfl, _⟩ := typed_int Tryz.underlying3 (hf 4 _ e rfl rfl)
  exact ⟨⟨s, zs, n1, n2, n3⟩, by simp [clsC, g1, g2], h1, by show zs.length ≤ maxLen; omega⟩
theorem typed_rg {cs : List CV} (h : Typed Tryz.prog 60 cs) : ∃ r : Rt, cs = rgC r ∧ RgW r := by
 obtain ⟨L, rfl, hn, hf⟩ := typed_struct Tryz.underlying60 h
 match L, hn with
 | [a, b], _ =>
  obtain ⟨n1, rfl, w1⟩ := typed_int Tryz.underlying3 (hf 0 _ a rfl rfl)
  obtain ⟨n2, rfl, w2⟩ := typed_int Tryz.underlying3 (hf 1 _ b rfl rfl)
  exact ⟨(n1, n2), by simp [rgC], ⟨wf_i64 w1, wf_i64 w2⟩⟩
theorem typed_sys {cs : List CV} (h : Typed Tryz.prog 38 cs) : ∃ s : Sys, avOf Tryz.prog 38 cs = sysV s ∧ SSz s := by
 obtain ⟨L, rfl, hn, hf⟩ := typed_struct Tryz.underlying38 h
 match L, hn with
 | [a, b], _ =>
  obtain ⟨L1, rfl, n1, _, h1⟩ := typed_slc Tryz.underlying35 (hf 0 _ a rfl rfl)
  obtain ⟨L2, rfl, n2, _, h2⟩ := typed_slc Tryz.underlying36 (hf 1 _ b rfl rfl)
  obtain ⟨cs, a1, a2, a3⟩ := typed_list (fun cs h => typed_cls h) L1 h1
  obtain ⟨co, b1, b2, b3⟩ := typed_list (f := fun x : ByteArray => [CV.str x]) (p := fun x => x.size ≤ maxLen) (fun cs h => by
   obtain ⟨x, rfl, hx⟩ := typed_str Tryz.underlying9 h
   exact ⟨x, rfl, hx⟩) L2 h2
  have hm : maxLen < 2 ^ 63 := by decide
  have b1' : L2.flatten = co.map CV.str := by rw [b1, List.map_eq_flatMap]
  refine ⟨⟨cs, co⟩, ?_, ⟨by show cs.length < _; omega, by show co.length < _; omega, fun i hi => ?_, fun i hi => ?_, fun i hi => ?_⟩⟩
  ·simp only [avOf, Tryz.underlying38, a1, b1', a2, b2]
   rfl
  ·have hi : i < cs.length := hi
   show (cs[i]!).nm.size < _
   rw [getElem!_pos cs i hi]
   have := (a3 _ (List.getElem_mem hi)).1
   omega
  ·have hi : i < cs.length := hi
   show (cs[i]!).inc.length < _
   rw [getElem!_pos cs i hi]
   have := (a3 _ (List.getElem_mem hi)).2
   omega
  ·have hi : i < co.length := hi
   show (co[i]!).size < _
   rw [getElem!_pos co i hi]
   have := b3 _ (List.getElem_mem hi)
   omega
theorem rights_of {L : List (List CV)} (h : ∀ l ∈ L, Typed Tryz.prog 60 l) : ∃ xs : List Rt, L.flatten = xs.flatMap rgC ∧ L.length = xs.length ∧ ∀ x ∈ xs, RgW x := typed_list (fun cs h => typed_rg h) L h
theorem typed_rgs {cs : List CV} (h : Typed Tryz.prog 39 cs) : ∃ l : List Rt, avOf Tryz.prog 39 cs = rgL l ∧ l.length < 2 ^ 63 ∧ ∀ r ∈ l, RgW r := by
 obtain ⟨L1, rfl, n1, _, h1⟩ := typed_slc Tryz.underlying39 h
 obtain ⟨l, a1, a2, a3⟩ := rights_of h1
 have hm : maxLen < 2 ^ 63 := by decide
 refine ⟨l, by simp only [avOf, Tryz.underlying39, List.headD_cons, a1, a2], by omega, a3⟩
theorem typed_s {cs : List CV} (h : Typed Tryz.prog 9 cs) : ∃ x : ByteArray, avOf Tryz.prog 9 cs = .cv (.str x) ∧ x.size < 2 ^ 63 := by
 obtain ⟨n, rfl, hw⟩ := typed_str Tryz.underlying9 h
 have hm : maxLen < 2 ^ 63 := by decide
 exact ⟨n, by simp [avOf, Tryz.underlying9], by omega⟩
end Go.Proofs.YtpnghcaccfnngaaGreatDoor.AM
namespace Go.Proofs.YtpnghcaccfnngaaGreatDoor.AM
variable [Dr]
open Go Pl
theorem wordF_size {s : Sys} (hv : Val s) {r : Rt} (hr : RgOk s r) : (wordF s r).size ≤ 152 := by
 have h1 := nameOk_size (hv.nm.cl r.1.toNat hr.nat)
 have h2 := tailC_size hv.nm (s.cl[r.1.toNat]!).nm r s.co.length (Nat.le_refl _)
 have h3 := hv.m8
 unfold wordF
 omega
theorem textN_size2 {s : Sys} (hv : Val s) {l : List Rt} (hr : ∀ r ∈ l, RgOk s r) : ∀ i, i ≤ l.length → (textN s l i).size ≤ i * 153
 | 0, _ => by simp [textN]; rfl
 | i + 1, h => by
  have ih := textN_size2 hv hr i (by omega)
  have h1 := wordF_size hv (hr l[i]! (by rw [getElem!_pos l i (by omega)]; exact List.getElem_mem _))
  have h3 : (bts [32]).size = 1 := rfl
  rw [textN_word, ByteArray.size_append]
  split
  ·omega
  ·rw [ByteArray.size_append, h3]; omega
theorem textF_size {s : Sys} (hv : Val s) {l : List Rt} (hr : ∀ r ∈ l, RgOk s r) (h40 : l.length ≤ 40) : (textF s l).size ≤ 7000 := by
 unfold textF
 split
 ·decide
 ·have := textN_size2 hv hr l.length (Nat.le_refl _); omega
theorem wrt_round (s : Sys) (l : List Rt) : (∃ e : Int, e ≠ 0 ∧ wrtV s l = .tup [.cv (.str (bts [])), .i e]) ∨ ∃ t : ByteArray, wrtV s l = .tup [.cv (.str t), .i 0] ∧ rdV s t = .tup [rgL l, .i 0] ∧ t.size ≤ 7000 ∧ l.length ≤ 40 := by
 unfold wrtV
 by_cases h : rdE s (sysE s).2.2 [l] = 0
 ·right
  obtain ⟨h0, h1⟩ := rdE_ok h
  obtain ⟨h40, hr⟩ := rgsE_ok h1
  have hv := val_of h0
  have hsz := textF_size hv hr h40
  refine ⟨textF s l, by rw [if_neg (fun hh => hh h)], ?_, hsz, h40⟩
  by_cases hl : l = []
  ·subst hl
   have e : textF s [] = bts [45] := rfl
   rw [e]
   unfold rdV
   rw [if_neg (fun hh => hh h0), if_neg (by decide), if_pos rfl]
  ·have hl0 : l.length ≠ 0 := fun hh => hl (List.eq_nil_of_length_eq_zero hh)
   have e : textF s l = textN s l l.length := by unfold textF; rw [if_neg hl0]
   have hne := textN_ne hv hr hl
   rw [e] at hsz ⊢
   rw [rdV_eq _ h0 (by omega) hne]
   unfold rdO
   rw [text_words hv hr hl, List.length_map, word_pwL hv hr h40 _ (Nat.le_refl _), List.take_length]
 ·exact .inl ⟨_, h, by rw [if_pos h]⟩
theorem rd_round (s : Sys) (x : ByteArray) : (∃ e : Int, e ≠ 0 ∧ rdV s x = .tup [rgL [], .i e]) ∨ ∃ m : List Rt, rdV s x = .tup [rgL m, .i 0] ∧ wrtV s m = .tup [.cv (.str x), .i 0] ∧ m.length ≤ 40 := by
 have wr : ∀ m, (sysE s).2.2 = 0 → m.length ≤ 40 → (∀ r ∈ m, RgOk s r) → textF s m = x → wrtV s m = .tup [.cv (.str x), .i 0] := fun m h0 h40 hr ht => by
  have : rdE s (sysE s).2.2 [m] = 0 := by
   rw [h0]; show (if (0 : Int) = 0 then rgsE s m else 0) = 0
   rw [if_pos rfl]; exact rgsE_of h40 hr
  unfold wrtV
  rw [if_neg (fun hh => hh this), ht]
 unfold rdV
 by_cases h0 : (sysE s).2.2 = 0
 ·rw [if_neg (fun hh => hh h0)]
  by_cases h7 : x.size > 7000
  ·exact .inl ⟨3, by decide, by rw [if_pos h7]⟩
  ·rw [if_neg h7]
   by_cases hd : x = bts [45]
   ·exact .inr ⟨[], by rw [if_pos hd], wr [] h0 (by simp) (by simp) hd.symm, by simp⟩
   ·rw [if_neg hd]
    cases hr : rdL s (splitF x 32) (splitF x 32).length with
    | none => exact .inl ⟨6, by decide, rfl⟩
    | some m =>
     obtain ⟨k1, k2⟩ := rdL_ok (val_of h0).m8 _ _ m hr
     by_cases ht : textF s m = x
     ·exact .inr ⟨m, by simp only; rw [if_pos ht], wr m h0 k1 k2 ht, k1⟩
     ·exact .inl ⟨6, by decide, by simp only; rw [if_neg ht]⟩
 ·exact .inl ⟨_, h0, by rw [if_pos h0]⟩
end Go.Proofs.YtpnghcaccfnngaaGreatDoor.AM
namespace Go.Proofs.YtpnghcaccfnngaaGreatDoor.AM
variable [Dr]
open Go
abbrev vs16 : List Nat := [0, 1, 2, 3, 6, 7, 8, 9, 10, 11, 19, 38, 46]
def ic16 : IC := (.seq (.region [jb 3 0, jw 4 .mv [jB false]])
 (.seq (.region [jN 2 3, jv 1, jk 38 [.t 0, .t 1], jt 2, jx 0 3, jx 1 3, jm 5 4, jm 6 5])
 (.seq (.seq (.region [jv 6, jw 10 (.bin .eql .int) [.t 0, jn 0]])
 (.cond 10 (.seq (.region [jN 2 3, jv 5, jk 40 [.t 0, .t 1], jt 2, jx 0 3, jx 1 3, jm 7 4, jm 8 5])
 (.seq (.region [jv 8, jq (.bin .neq .int) [.t 0, jn 0], jt 1, jh 2 false 1, jh 2 false 7, jf 2 false 33 [.t 3, .t 4], jg 2 false .not [.t 5], jq .pick [.t 2, jB true, .t 6], jt 7, jh 8 false 5, jg 8 false (.len true) [.t 9], jg 8 false (.bin .gtr .int) [.t 10, jn 7000], jw 11 .pick [.t 8, jB true, .t 11]])
 (.cond 11 (.seq (.region [jw 4 .mv [jB false]])
 .ret)
 .skip)))
 .skip))
 (.seq (.region [jN 2 3, jv 2, jk 40 [.t 0, .t 1], jt 2, jx 0 3, jx 1 3, jm 9 4, jm 6 5])
 (.seq (.seq (.region [jv 6, jw 12 (.bin .neq .int) [.t 0, jn 0]])
 (.cond 12 (.seq (.region [jv 9, je 0, jq (.bin .eql .int) [.t 1, jn 0], jt 2, jf 3 true 28 [], jq .pick [.t 3, .t 4, jB false], jm 4 5])
 .ret)
 .skip))
 (.seq (.region [jN 2 3, jv 9, jk 38 [.t 0, .t 1], jt 2, jx 0 3, jx 1 3, jm 5 4, jm 6 5])
 (.seq (.region [jv 6, jq (.bin .eql .int) [.t 0, jn 0], jt 1, jh 2 true 5, jh 2 true 2, jg 2 true (.bin .eql .str) [.t 3, .t 4], jq .pick [.t 2, .t 5, jB false], jt 6, jf 7 true 28 [], jq .pick [.t 7, .t 8, jB false], jm 4 9])
 .ret)))))))
abbrev rs16 : List RC := [(.v 4)]
theorem fok16 (p : Bool) : FnOk Tryz.prog 16 ⟨ic16, vs16, 69, rs16, p⟩ := .mk2 Tryz.func16 (by kernel_rfl) (by kernel_rfl) (by kernel_rfl) (by kernel_rfl) (by kernel_rfl)
end Go.Proofs.YtpnghcaccfnngaaGreatDoor.AM
namespace Go.Proofs.YtpnghcaccfnngaaGreatDoor.AM
open Go Pl
theorem lc16 (s : Sys) (hs : SSz s) (l : List Rt) (hl : l.length < 2 ^ 63) (hw : ∀ r ∈ l, RgW r) (x : ByteArray) (hx : x.size < 2 ^ 63) : AC Tryz.prog 16 [sysV s, rgL l, .cv (.str x)] [] fun r _ => r = .b true := by
 refine AC_FE (fok16 true) (Nat.le_of_ble_eq_true rfl) ?_
 have a1 := c38 s hs l hl
 have a3 := c40 s hs x hx
 have h33 := c33 l l hl hl hw hw
 rw [decide_eq_true rfl] at h33
 simp only [ic16, f_box, cellsOf, evA, if_true, if_false, beq_false, simprocAttr]
 rcases wrt_round s l with ⟨e, he, hd⟩ | ⟨t, hd, hr, ht, _⟩
 all_goals
  rw [hd] at a1
  refine a1.call frz ?_
 ·have he0 : (e == 0) = false := by simpa using he
  simp only [he0, evA, if_true, if_false, beq_false, simprocAttr]
  refine a3.call frz ?_
  rcases rd_round s x with ⟨e2, he2, hd2⟩ | ⟨m, hd2, hw2, hm⟩
  all_goals rw [hd2]
  ·have he20 : (e2 != 0) = true := by simpa using he2
   simp only [he20, evA, if_true, if_false, beq_false, simprocAttr]
   refine awake.call .nil ?_
   simp only [evA, if_true, if_false, beq_false, simprocAttr]
  ·have a4 := c38 s hs m (by omega)
   rw [hw2] at a4
   simp only [evA, if_true, if_false, beq_false, simprocAttr]
   refine a4.call frz ?_
   have n3 : binS .eql x x = some (.b true) := by simp [binS, str_eq]
   simp only [n3, evA, if_true, if_false, beq_false, simprocAttr]
   refine awake.call .nil ?_
   simp only [evA, if_true, if_false, beq_false, simprocAttr]
 ·have a2 := c40 s hs t (by omega)
  rw [hr] at a2
  have h7 : ¬ (t.size : Int) > 7000 := by omega
  simp only [evA, if_true, if_false, beq_false, simprocAttr]
  refine a2.call frz ?_
  simp only [evA, if_true, if_false, beq_false, simprocAttr]
  refine h33.call frz ?_
  simp only [h7, evA, if_true, if_false, beq_false, simprocAttr]
  refine a3.call frz ?_
  rcases rd_round s x with ⟨e2, he2, hd2⟩ | ⟨m, hd2, hw2, hm⟩
  all_goals rw [hd2]
  ·have he20 : (e2 != 0) = true := by simpa using he2
   simp only [he20, evA, if_true, if_false, beq_false, simprocAttr]
   refine awake.call .nil ?_
   simp only [evA, if_true, if_false, beq_false, simprocAttr]
  ·have a4 := c38 s hs m (by omega)
   rw [hw2] at a4
   simp only [evA, if_true, if_false, beq_false, simprocAttr]
   refine a4.call frz ?_
   have n3 : binS .eql x x = some (.b true) := by simp [binS, str_eq]
   simp only [n3, evA, if_true, if_false, beq_false, simprocAttr]
   refine awake.call .nil ?_
   simp only [evA, if_true, if_false, beq_false, simprocAttr]
theorem law_ClassRound (avs : List AV) (h : Args Tryz.prog Tryz.f16.params.toList avs) : AC Tryz.prog 16 avs [] fun r _ => r = .b true := by
 have h : Args Tryz.prog [38, 39, 9] avs := h
 obtain ⟨cs1, avs, rfl, h1, h⟩ := args_cons h
 obtain ⟨cs2, avs, rfl, h2, h⟩ := args_cons h
 obtain ⟨cs3, avs, rfl, h3, h⟩ := args_cons h
 cases args_nil h
 obtain ⟨s, e1, hs⟩ := typed_sys h1
 obtain ⟨l, e2, hl, hw⟩ := typed_rgs h2
 obtain ⟨x, e3, hx⟩ := typed_s h3
 rw [e1, e2, e3]
 exact lc16 s hs l hl hw x hx
end Go.Proofs.YtpnghcaccfnngaaGreatDoor.AM

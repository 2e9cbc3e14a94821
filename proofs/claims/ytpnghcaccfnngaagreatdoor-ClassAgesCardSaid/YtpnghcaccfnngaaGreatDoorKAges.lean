/- Parts of the proof of Ages. -/
import Derived.Test.YtpnghcaccfnngaaGreatDoorRows
import Derived.WalkKit
import Derived.ProofKit
import Derived.OpenShut
import Derived.Carry
import Derived.Test.YtpnghcaccfnngaaGreatDoorZ17
set_option linter.unusedVariables false
set_option linter.unusedSimpArgs false
set_option linter.unusedSectionVars false
namespace Go.Proofs.YtpnghcaccfnngaaGreatDoor.AM
variable [Dr]
open Go Go.ChangeShapes Go.WideShapes Go.ChangeAt Go.RowKit
abbrev noO : Nat → Prop := Own (fun _ => none) (fun _ => False)
theorem not_noO (b : Nat) : ¬ noO b := by rintro (h | ⟨l, hl⟩); exact h; cases hl
theorem fin_choice {α : Type} {Q : Nat → α → Prop} : ∀ (n : Nat), (∀ i, i < n → ∃ l, Q i l) → ∃ L : List α, L.length = n ∧ ∀ (i : Nat) (l : α), L[i]? = some l → Q i l
 | 0, _ => ⟨[], rfl, by simp⟩
 | n + 1, h => by
  obtain ⟨L, h1, h2⟩ := fin_choice n (fun i hi => h i (by omega))
  obtain ⟨l, hl⟩ := h n (by omega)
  refine ⟨L ++ [l], by simp [h1], fun i l' hi => ?_⟩
  rcases Nat.lt_or_ge i n with hlt | hge
  ·rw [List.getElem?_append_left (by omega)] at hi; exact h2 i l' hi
  ·rw [List.getElem?_append_right (by omega), h1] at hi
   have : i = n := by
    rcases Nat.lt_or_ge n i with h' | h'
    ·rw [List.getElem?_eq_none (by simp; omega)] at hi; cases hi
    ·omega
   subst this
   simp at hi; subst hi; exact hl
theorem flat_rel {R : Nat → CV → Prop} {esz : Nat} : ∀ (L : List (List CV)) (n : Nat), (∀ (i : Nat) (l : List CV), L[i]? = some l → l.length = esz ∧ ∀ (j : Nat) (c : CV), l[j]? = some c → R (n + i * esz + j) c) →
  L.flatten.length = L.length * esz ∧ ∀ (k : Nat) (c : CV), L.flatten[k]? = some c → R (n + k) c
 | [], n, _ => by simp
 | l :: L, n, h => by
  obtain ⟨h1, h2⟩ := h 0 l (by simp)
  have ih := flat_rel L (n + esz) (fun i l' hi => by
   obtain ⟨g1, g2⟩ := h (i + 1) l' (by simpa using hi)
   refine ⟨g1, fun j c hj => ?_⟩
   have := g2 j c hj
   rwa [Nat.add_mul, Nat.one_mul, ← Nat.add_assoc, Nat.add_right_comm n] at this)
  refine ⟨by simp [h1, ih.1, Nat.add_mul, Nat.add_comm], fun k c hk => ?_⟩
  rw [List.flatten_cons] at hk
  rcases Nat.lt_or_ge k l.length with hlt | hge
  ·rw [List.getElem?_append_left hlt] at hk
   have := h2 k c hk
   simpa using this
  ·rw [List.getElem?_append_right hge] at hk
   have := ih.2 (k - l.length) c hk
   rwa [show n + esz + (k - l.length) = n + k by omega] at this
theorem flat_relF {P : Program} {R : Nat → CV → Prop} {N : Nat} : ∀ (fs : List Field) (L : List (List CV)) (n : Nat), fieldsEnd P fs n = some N → L.length = fs.length →
  (∀ (i : Nat) (f : Field) (l : List CV), fs[i]? = some f → L[i]? = some l → l.length = P.cellsOf f.type ∧ ∀ (j : Nat) (c : CV), l[j]? = some c → R (f.offset + j) c) →
  n + L.flatten.length = N ∧ ∀ (k : Nat) (c : CV), L.flatten[k]? = some c → R (n + k) c
 | [], L, n, he, hl, _ => by
  have : L = [] := List.eq_nil_of_length_eq_zero (by simpa using hl)
  subst this
  simp only [fieldsEnd, Option.some.injEq] at he
  simp [he]
 | f :: fs, [], n, _, hl, _ => by simp at hl
 | f :: fs, l :: L, n, he, hl, h => by
  simp only [fieldsEnd] at he
  split at he
  ·rename_i hoff
   obtain ⟨h1, h2⟩ := h 0 f l (by simp) (by simp)
   have ih := flat_relF fs L (n + P.cellsOf f.type) he (by simpa using hl) (fun i f' l' hf hl' => h (i + 1) f' l' (by simpa using hf) (by simpa using hl'))
   refine ⟨by rw [← ih.1]; simp [h1]; omega, fun k c hk => ?_⟩
   rw [List.flatten_cons] at hk
   rcases Nat.lt_or_ge k l.length with hlt | hge
   ·rw [List.getElem?_append_left hlt] at hk
    have := h2 k c hk
    rwa [hoff] at this
   ·rw [List.getElem?_append_right hge] at hk
    have := ih.2 (k - l.length) c hk
    rwa [show n + P.cellsOf f.type + (k - l.length) = n + k by omega] at this
  ·cases he
theorem reps_of_all {W : World} {a : Addr} : ∀ (cs : List CV) (i : Nat), (∀ (j : Nat) (c : CV), cs[j]? = some c → ∃ v, W.cell? (a.add (i + j)) = some v ∧ c.rep W noO v) → CV.reps W noO cs a i
 | [], _, _ => by simp [CV.reps]
 | c :: cs, i, h => by
  simp only [CV.reps]
  refine ⟨not_noO _, by simpa using h 0 c (by simp), reps_of_all cs (i + 1) fun j c' hj => ?_⟩
  have := h (j + 1) c' (by simpa using hj)
  rwa [show i + (j + 1) = i + 1 + j by omega] at this
section
variable {H : Type} {enc : TypeId × Value → H} {P : Program} {W : World}
theorem trod_typed : ∀ (n : Nat) (t : TypeId) (cs : List Value) (x : DataW H × List MemPlace) (fuel : Nat), openT P n t = true → DataW.trod enc P W 0 (fun _ => true) true fuel t cs = some x →
  ∃ cvs : List CV, Typed P t cvs ∧ cvs.length = cs.length ∧ ∀ (i : Nat) (c : CV) (v : Value), cvs[i]? = some c → cs[i]? = some v → c.rep W noO v
 | 0, t, cs, x, fuel, ho, _ => by simp [openT] at ho
 | n + 1, t, cs, x, fuel, ho, h => by
  simp only [openT] at ho
  split at ho
  ·rename_i ht
   obtain ⟨b, rfl, _⟩ := DataW.trod_bool ht h
   refine ⟨[.bool b], .bool ht b, rfl, fun i c v h1 h2 => ?_⟩
   cases i with
   | zero => simp at h1 h2; subst h1 h2; simp [CV.rep]
   | succ i => simp at h1
  ·rename_i k ht
   obtain ⟨b, rfl, _, hw⟩ := DataW.trod_int ht h
   refine ⟨[.int k b], .int ht b hw, rfl, fun i c v h1 h2 => ?_⟩
   cases i with
   | zero => simp at h1 h2; subst h1 h2; simp [CV.rep]
   | succ i => simp at h1
  ·rename_i ht
   obtain ⟨s, rfl, _, hw⟩ := DataW.trod_string ht h
   refine ⟨[.str s], .str ht s hw, rfl, fun i c v h1 h2 => ?_⟩
   cases i with
   | zero => simp at h1 h2; subst h1 h2; simp [CV.rep]
   | succ i => simp at h1
  ·rename_i e ht
   rcases DataW.trod_slice ht h with ⟨rfl, _⟩ | ⟨a, len, cap, elems, rest, m, _, rfl, _, _, hlc, hcm, hel, hget, _⟩
   ·refine ⟨[.rsl [] 0], by simpa using Typed.slc ht [] (by simp) (by simp) (by simp), rfl, fun i c v h1 h2 => ?_⟩
    cases i with
    | zero => simp at h1 h2; subst h1 h2; simp [CV.rep]
    | succ i => simp at h1
   ·obtain ⟨L, hL, hQ⟩ := fin_choice (Q := fun i l => Typed P e l ∧ l.length = P.cellsOf e ∧ ∀ (j : Nat) (c : CV), l[j]? = some c → ∃ v, W.cell? (a.add (i * P.cellsOf e + j)) = some v ∧ c.rep W noO v) len (fun i hi => by
     have hg := hget i hi
     rw [List.getElem?_eq_getElem (by omega)] at hg
     obtain ⟨ci, h1, h2⟩ := Option.bind_eq_some_iff.1 hg
     obtain ⟨_, hlen, hcell⟩ := World.cells?_some h1
     obtain ⟨cvs, g1, g2, g3⟩ := trod_typed n e ci _ _ ho h2
     refine ⟨cvs, g1, by omega, fun j c hj => ?_⟩
     have hjl : j < cvs.length := (List.getElem?_eq_some_iff.1 hj).1
     have hc := hcell j (by omega)
     rw [List.getElem?_eq_getElem (by omega)] at hc
     exact ⟨_, by rw [← Addr.add_add]; exact hc, g3 j c _ hj (List.getElem?_eq_getElem _)⟩)
    have hmem : ∀ l ∈ L, ∃ i : Nat, L[i]? = some l := fun l hl => List.mem_iff_getElem?.1 hl
    have hfl := flat_rel (R := fun k c => ∃ v, W.cell? (a.add k) = some v ∧ c.rep W noO v) (esz := P.cellsOf e) L 0 (fun i l hi => ⟨(hQ i l hi).2.1, fun j c hj => by simpa using (hQ i l hi).2.2 j c hj⟩)
    refine ⟨[.rsl L.flatten L.length], Typed.slc ht L (by omega) (fun l hl => let ⟨i, hi⟩ := hmem l hl; (hQ i l hi).2.1) (fun l hl => let ⟨i, hi⟩ := hmem l hl; (hQ i l hi).1), rfl, fun i c v h1 h2 => ?_⟩
    cases i with
    | zero =>
     simp at h1 h2; subst h1 h2
     simp only [CV.rep]
     exact .inr ⟨a, cap, by rw [hL], by omega, reps_of_all _ 0 (fun j c hj => hfl.2 j c hj)⟩
    | succ i => simp at h1
  ·rename_i k e ht
   simp only [Bool.and_eq_true, decide_eq_true_eq] at ho
   obtain ⟨xs, m, _, _, hlen, hxs, hget⟩ := DataW.trod_array ht h
   obtain ⟨L, hL, hQ⟩ := fin_choice (Q := fun i l => Typed P e l ∧ l.length = P.cellsOf e ∧ ∀ (j : Nat) (c : CV), l[j]? = some c → ∀ v, cs[i * P.cellsOf e + j]? = some v → c.rep W noO v) k (fun i hi => by
     have hg := hget i hi
     rw [List.getElem?_eq_getElem (by omega)] at hg
     obtain ⟨cvs, g1, g2, g3⟩ := trod_typed n e _ _ _ ho.1 hg
     have hik : i * P.cellsOf e + P.cellsOf e ≤ k * P.cellsOf e := by
      have := Nat.mul_le_mul_right (P.cellsOf e) (show i + 1 ≤ k by omega)
      rwa [Nat.add_mul, Nat.one_mul] at this
     have hl2 : cvs.length = P.cellsOf e := by rw [g2]; simp; omega
     refine ⟨cvs, g1, hl2, fun j c hj v hv => ?_⟩
     have hjl : j < cvs.length := (List.getElem?_eq_some_iff.1 hj).1
     exact g3 j c v hj (by rw [List.getElem?_take, if_pos (by omega), List.getElem?_drop]; exact hv))
   have hmem : ∀ l ∈ L, ∃ i : Nat, L[i]? = some l := fun l hl => List.mem_iff_getElem?.1 hl
   have hfl := flat_rel (R := fun k c => ∀ v, cs[k]? = some v → c.rep W noO v) (esz := P.cellsOf e) L 0 (fun i l hi => ⟨(hQ i l hi).2.1, fun j c hj => by simpa using (hQ i l hi).2.2 j c hj⟩)
   exact ⟨L.flatten, Typed.arr ht L hL (fun l hl => let ⟨i, hi⟩ := hmem l hl; (hQ i l hi).2.1) (fun l hl => let ⟨i, hi⟩ := hmem l hl; (hQ i l hi).1), by rw [hfl.1, hlen, ho.2, hL], fun i c v h1 h2 => hfl.2 i c h1 v (by simpa using h2)⟩
  ·rename_i fs ht
   simp only [Bool.and_eq_true, decide_eq_true_eq, List.all_eq_true] at ho
   obtain ⟨xs, m, _, _, hlen, hxs, hget⟩ := DataW.trod_struct ht h
   obtain ⟨L, hL, hQ⟩ := fin_choice (Q := fun i l => ∀ f, fs[i]? = some f → Typed P f.type l ∧ l.length = min (P.cellsOf f.type) (cs.length - f.offset) ∧ ∀ (j : Nat) (c : CV), l[j]? = some c → ∀ v, cs[f.offset + j]? = some v → c.rep W noO v) fs.size (fun i hi => by
     have hfi : fs[i]? = some fs[i] := Array.getElem?_eq_getElem hi
     have hg := hget i fs[i] hfi
     rw [List.getElem?_eq_getElem (by omega)] at hg
     obtain ⟨cvs, g1, g2, g3⟩ := trod_typed n _ _ _ _ (ho.1 fs[i] (by simp)) hg
     have hl2 : cvs.length = min (P.cellsOf fs[i].type) (cs.length - fs[i].offset) := by rw [g2]; simp
     refine ⟨cvs, fun f hf => ?_⟩
     rw [hfi] at hf; cases hf
     refine ⟨g1, hl2, fun j c hj v hv => ?_⟩
     have hjl : j < cvs.length := (List.getElem?_eq_some_iff.1 hj).1
     exact g3 j c v hj (by rw [List.getElem?_take, if_pos (by omega), List.getElem?_drop]; exact hv))
   have hoff : ∀ (fs : List Field) (n N : Nat), fieldsEnd P fs n = some N → n ≤ N ∧ ∀ (i : Nat) (f : Field), fs[i]? = some f → f.offset + P.cellsOf f.type ≤ N := by
    intro fs
    induction fs with
    | nil => intro n N h; simp only [fieldsEnd, Option.some.injEq] at h; simp [h]
    | cons f fs ih =>
     intro n N h
     simp only [fieldsEnd] at h
     split at h
     ·rename_i ho
      obtain ⟨h1, h2⟩ := ih _ _ h
      refine ⟨by omega, fun i f' hi => ?_⟩
      cases i with
      | zero => simp at hi; subst hi; omega
      | succ i => exact h2 i f' (by simpa using hi)
     ·cases h
   have hin := (hoff _ _ _ ho.2).2
   have hl : ∀ (i : Nat) (f : Field) (l : List CV), fs[i]? = some f → L[i]? = some l → l.length = P.cellsOf f.type := by
    intro i f l hf hl
    obtain ⟨_, h2, _⟩ := hQ i l hl f hf
    have := hin i f (by simpa using hf)
    omega
   have hfl := flat_relF (P := P) (R := fun k c => ∀ v, cs[k]? = some v → c.rep W noO v) fs.toList L 0 ho.2 (by simpa using hL) (fun i f l hf hl' =>
    ⟨hl i f l (by simpa using hf) hl', fun j c hj => (hQ i l hl' f (by simpa using hf)).2.2 j c hj⟩)
   exact ⟨L.flatten, Typed.struct ht L hL hl (fun i f l hf hl' => (hQ i l hl' f hf).1), by have := hfl.1; omega, fun i c v h1 h2 => hfl.2 i c h1 v (by simpa using h2)⟩
  ·cases ho
abbrev noX : Nat → Prop := fun _ => False
theorem VRels_of_all : ∀ (cvs : List CV) (vs : List Value), cvs.length = vs.length → (∀ (i : Nat) (c : CV) (v : Value), cvs[i]? = some c → vs[i]? = some v → c.rep W noO v) → VRels nom noX W (cvs.map .cv) vs
 | [], [], _, _ => by simp [VRels]
 | c :: cvs, v :: vs, hl, h => by
  simp only [List.map_cons, VRels, VRel]
  exact ⟨h 0 c v rfl rfl, VRels_of_all cvs vs (by simpa using hl) fun i c v h1 h2 => h (i + 1) c v (by simpa using h1) (by simpa using h2)⟩
 | [], _ :: _, hl, _ => by simp at hl
 | _ :: _, [], hl, _ => by simp at hl
theorem arg_typed {n : Nat} {t : TypeId} {v : Value} {d : DataW H} {ps : List MemPlace} {r : Reach} {base : Nat} (ho : openT P n t = true) (hval : Value.okWide P W r base t v) (h : DataW.Trod enc P W 0 (fun _ => true) true t v d ps) :
  ∃ cs, Typed P t cs ∧ VRel nom noX W (avOf P t cs) v := by
 obtain ⟨fuel, h⟩ := h
 obtain ⟨cvs, h1, h2, h3⟩ := trod_typed n t _ _ _ ho h
 refine ⟨cvs, h1, ?_⟩
 unfold avOf
 have one : (v.cells.toList = [v]) → VRel nom noX W (.cv (cvs.headD .nilp)) v := by
  intro hv
  rw [hv] at h2 h3
  match cvs, h2 with
  | [c], _ => simp only [List.headD_cons, VRel]; exact h3 0 c v rfl rfl
 cases n with
 | zero => simp [openT] at ho
 | succ n =>
  simp only [openT] at ho
  split at ho
  ·rename_i ht; rw [ht]; obtain ⟨b, rfl⟩ := okWide_bool ht hval; exact one rfl
  ·rename_i ht; rw [ht]; obtain ⟨b, rfl⟩ := okWide_int ht hval; exact one rfl
  ·rename_i ht; rw [ht]; obtain ⟨b, rfl⟩ := okWide_string ht hval; exact one rfl
  ·rename_i ht; rw [ht]; obtain ⟨_, _, _, rfl⟩ := okWide_slice ht hval; exact one rfl
  ·rename_i ht; rw [ht]
   simp only [Value.okWide, ht] at hval
   obtain ⟨arr, rfl, _⟩ := hval
   simp only [VRel]
   exact ⟨arr.toList, by simp, VRels_of_all _ _ h2 h3⟩
  ·rename_i ht; rw [ht]
   simp only [Value.okWide, ht] at hval
   obtain ⟨arr, rfl, _⟩ := hval
   simp only [VRel]
   exact ⟨arr.toList, by simp, VRels_of_all _ _ h2 h3⟩
  ·cases ho
theorem args_typed {n : Nat} {r : Reach} {base : Nat} : ∀ {ts : List TypeId} {vs : List Value} {ds : List (DataW H)} {ps : List MemPlace}, (ts.all (openT P n)) = true →
  (∀ (j : Nat) (t : TypeId) (v : Value), ts[j]? = some t → vs[j]? = some v → Value.okWide P W r base t v) → DataW.TrodAll enc P W 0 (fun _ => true) true ts vs ds ps →
  ds.length = ts.length ∧ ∃ avs, Args P ts avs ∧ VRels nom noX W avs vs
 | [], _, _, _, _, _, h => by
  obtain ⟨rfl, rfl, rfl⟩ := trodAll_nil h
  exact ⟨rfl, [], .nil, by simp [VRels]⟩
 | t :: ts, _, _, _, ho, hval, h => by
  obtain ⟨v, vs1, d, ds1, a, b, rfl, rfl, rfl, h1, h2⟩ := trodAll_cons h
  simp only [List.all_cons, Bool.and_eq_true] at ho
  obtain ⟨cs, g1, g2⟩ := arg_typed ho.1 (hval 0 t v rfl rfl) h1
  obtain ⟨hl, avs, g3, g4⟩ := args_typed ho.2 (fun j t v h1 h2 => hval (j + 1) t v (by simpa using h1) (by simpa using h2)) h2
  exact ⟨by simp [hl], _, .cons g1 g3, by simp only [VRels]; exact ⟨g2, g4⟩⟩
theorem trodAll_below (hl : laidOutB P = true) {W' : World} (hb : Below W.heap.size W W') : ∀ {ts : List TypeId} {vs : List Value} {ds : List (DataW H)} {ps : List MemPlace}, (ts.all fun t => P.readableRec t && decide (t < P.types.size)) = true →
  DataW.TrodAll enc P W 0 (fun _ => true) true ts vs ds ps → (∀ x ∈ ps, x.block < W.heap.size) → DataW.TrodAll enc P W' 0 (fun b => decide (b < W.heap.size)) true ts vs ds ps
 | [], _, _, _, _, h, _ => by
  obtain ⟨rfl, rfl, rfl⟩ := trodAll_nil h
  exact trodAll_mk0
 | t :: ts, _, _, _, ho, h, hlt => by
  obtain ⟨v, vs1, d, ds1, a, b, rfl, rfl, rfl, h1, h2⟩ := trodAll_cons h
  simp only [List.all_cons, Bool.and_eq_true, decide_eq_true_eq] at ho
  refine trodAll_cons_mk (Below.trod hl ho.1.1 ho.1.2 h1 hb fun x hx => hlt x (by simp [hx])) (trodAll_below hl hb ?_ h2 fun x hx => hlt x (by simp [hx]))
  simpa using ho.2
theorem law_of_AC {f : FuncId} {fn : Func} {s : ChangeSpec} {n : Nat} {t : TypeId} {base : Nat} {args : Array Value} {ds gs : List (DataW H)} {before : List MemPlace}
  (hl : laidOutB P = true) (hpar : (fn.params.toList.all fun t => P.readableRec t && decide (t < P.types.size)) = true) (ho : fn.params.toList.all (openT P n) = true)
  (hres : fn.resultTypes = #[t]) (htb : P.underlying t = some .bool) (hsv : s.vars = []) (hs : ∀ ds : List (DataW H), ds.length = fn.params.toList.length → s.fn H ds = { results := [.lit (.bool true)], args := ds })
  (hAC : ∀ avs, Args P fn.params.toList avs → AC P f avs [] fun r _ => r = .b true)
  (hval : ∀ (j : Nat) t v, fn.params[j]? = some t → args[j]? = some v → Value.okWide P W .any base t v)
  (hW : DataW.Whole enc P fn.params.toList s.vars false W args.toList ds gs before) :
  Calls P f args W fun e W' => ∃ v, e = .returned v ∧ s.post enc P fn false true false false W args v W' := by
 have hW' := hW
 obtain ⟨p, q, hA, hV, rfl, hfz, hnd⟩ := hW
 rw [hsv] at hV
 obtain ⟨rfl, rfl⟩ := trodVars_none hV
 have hlt : ∀ x ∈ p, x.block < W.heap.size := fun x hx => hW'.lt x (by simp [hx])
 obtain ⟨hlen, avs, hav, hrel⟩ := args_typed ho (fun j t v h1 h2 => hval j t v (by simpa using h1) (by simpa using h2)) hA
 have hcall := (hAC avs hav).2 nom noX W args.toList hrel ⟨by simp, by simp, by simp, by simp, by simp⟩
 have hcall := callsIn_wide.1 hcall
 simp only [Array.toArray_toList] at hcall
 refine hcall.mono fun e W' ⟨c, r, σ', m', he, hq, hr, _, hst, _⟩ => ?_
 subst he hq
 simp only [VRel, CV.rep] at hr
 subst hr
 have hb : Below W.heap.size W W' := ⟨hst.os, hst.tape, hst.output, hst.size, fun k hk => hst.fr k hk (.inr (by simp))⟩
 have hsf : s.fn H (ds ++ []) = { results := [.lit (.bool true)], args := ds } := by rw [List.append_nil]; exact hs ds hlen
 refine ⟨_, rfl, ds, [], p ++ [], [], p, [], hW', ?_, ?_, ?_, hb.frame _, fun h => by simp at h⟩
 ·rw [hsf, hres]
  exact trodAll_mk1 (shut_bool htb true)
 ·rw [hsf]
  exact trodAll_below hl hb hpar hA hlt
 ·rw [hsf, hsv]
  rfl
end
end Go.Proofs.YtpnghcaccfnngaaGreatDoor.AM
namespace Go.Proofs.YtpnghcaccfnngaaGreatDoor.AM
variable [Dr]
open Go
theorem SameSite.trans {a b c : ALoop} (h : SameSite a b) (k : SameSite b c) : SameSite a c :=
 ⟨k.1.trans h.1, k.2.1.trans h.2.1, k.2.2.1.trans h.2.2.1, k.2.2.2.1.trans h.2.2.2.1, k.2.2.2.2.trans h.2.2.2.2⟩
theorem LoopKeep.trans {a b c : List AObj} (h : LoopKeep a b) (k : LoopKeep b c) : LoopKeep a c := fun l r hr =>
 let ⟨r1, h1, h2⟩ := h l r hr
 let ⟨r2, h3, h4⟩ := k l r1 h1
 ⟨r2, h3, h2.trans h4⟩
abbrev vs46 : List Nat := [0, 1, 2, 3, 4, 9, 19]
def ic46 : IC := (.seq (.region [jb 2 0, jb 3 1, jw 4 .mv [jB false]])
 (.seq (.seq (.region [jF 0 2, jl 0, jF 0 3, jl 2, jw 5 (.bin .neq .int) [.t 1, .t 3]])
 (.cond 5 (.seq (.region [jF 0 2, jl 0, jF 0 3, jl 2, jq (.bin .lss .int) [.t 1, .t 3], jm 4 4])
 .ret)
 .skip))
 (.seq (.seq (.region [jF 1 2, jl 0, jF 1 3, jl 2, jw 6 (.bin .neq .int) [.t 1, .t 3]])
 (.cond 6 (.seq (.region [jF 1 2, jl 0, jF 1 3, jl 2, jq (.bin .lss .int) [.t 1, .t 3], jm 4 4])
 .ret)
 .skip))
 (.seq (.region [jF 2 2, jl 0, jF 2 3, jl 2, jq (.bin .lss .int) [.t 1, .t 3], jm 4 4])
 .ret))))
abbrev rs46 : List RC := [(.v 4)]
theorem fok46 (p : Bool) : FnOk Tryz.prog 46 ⟨ic46, vs46, 30, rs46, p⟩ := .mk2 Tryz.func46 (by kernel_rfl) (by kernel_rfl) (by kernel_rfl) (by kernel_rfl) (by kernel_rfl)
theorem befM_sum (y : Int) (j : Nat) : ∀ k, k ≤ 12 → befM y ((j : Int) + 1) k = sumL y (min j k)
 | 0, _ => by simp [befM, sumL]
 | k + 1, h => by
  rw [befM, befM_sum y j k (by omega)]
  by_cases hk : k < j
  ·rw [if_pos (by omega), long_len y k (by omega), Nat.min_eq_right (by omega), Nat.min_eq_right (by omega)]
   rfl
  ·rw [if_neg (by omega), Int.add_zero, Nat.min_eq_left (by omega), Nat.min_eq_left (by omega)]
theorem bday_ran {D : Int} {j k : Nat} (h : IsDate D j k) (n : Nat) : begF (j + n) ≤ bday D j k n ∧ bday D j k n < begF (j + n + 1) := by
 have h1 := h.dd
 have hl := longF_ran (2000 + ((j + n : Nat) : Int)) ((k : Int) + 1)
 have hs := sumL_ran (2000 + ((j + n : Nat) : Int)) k
 have hb := begF_sum (j + n)
 have hm := sumL_mono (2000 + ((j + n : Nat) : Int)) (show k + 1 ≤ 12 from h.k12)
 rw [sumL] at hm
 unfold bday
 omega
theorem ageN_iff {D E : Int} {j k j2 k2 : Nat} (h : IsDate D j k) (h2 : IsDate E j2 k2) (hle : D ≤ E) {n : Nat} (hn : 1 ≤ n) : bday D j k n ≤ E ↔ n ≤ ageN D E j k j2 := by
 have hj := h.le h2 hle
 have y2 := h2.year
 have r := bday_ran h n
 unfold ageN
 rcases Nat.lt_trichotomy n (j2 - j) with hl | he | hg
 ·have := begF_mono (show j + n + 1 ≤ j2 by omega)
  split <;> constructor <;> intro _ <;> omega
 ·subst he
  split <;> constructor <;> intro _ <;> omega
 ·have := begF_mono (show j2 + 1 ≤ j + n by omega)
  split <;> constructor <;> intro _ <;> omega
theorem dayT_eq (j k : Nat) (hj : j < 401) (hk : k ≤ 12) (d : Int) : dayT (2000 + (j : Int)) ((k : Int) + 1) d = begF j + sumL (2000 + (j : Int)) k + d - 1 := by
 unfold dayT
 rw [befM_sum _ k 12 (Nat.le_refl _), Nat.min_eq_left hk, begF_eq j hj, show 2000 + (j : Int) - 2000 = (j : Int) by omega]
 omega
end Go.Proofs.YtpnghcaccfnngaaGreatDoor.AM
namespace Go.Proofs.YtpnghcaccfnngaaGreatDoor.AM
variable [Dr]
open Go Pl
def befB (a b : Int × Int × Int) : Bool := if a.1 != b.1 then decide (a.1 < b.1) else if a.2.1 != b.2.1 then decide (a.2.1 < b.2.1) else decide (a.2.2 < b.2.2)
theorem c46 (y m d y' m' d' : Int) : PC Tryz.prog 46 [.agg [.i y, .i m, .i d], .agg [.i y', .i m', .i d']] (.b (befB (y, m, d) (y', m', d'))) := by
 refine ⟨AC_FE (fok46 true) (Nat.le_of_ble_eq_true rfl) ?_, rfl⟩
 unfold befB
 simp only [ic46, f_box, cellsOf, evA, if_true, if_false, beq_false, simprocAttr]
 cases h1 : (y != y') with
 | true =>
  simp only [evA, if_true, if_false, beq_false, simprocAttr]
  exact frz
 | false =>
  simp only [evA, if_true, if_false, beq_false, simprocAttr]
  cases h2 : (m != m') with
  | true =>
   simp only [evA, if_true, if_false, beq_false, simprocAttr]
   exact frz
  | false =>
   simp only [evA, if_true, if_false, beq_false, simprocAttr]
   exact frz
end Go.Proofs.YtpnghcaccfnngaaGreatDoor.AM
namespace Go.Proofs.YtpnghcaccfnngaaGreatDoor.AM
variable [Dr]
open Go
theorem typed_int {P : Program} {t : TypeId} {k : IntKind} {cs : List CV} (ht : P.underlying t = some (.int k)) (h : Typed P t cs) : ∃ n, cs = [.int k n] ∧ (Lit.int k n).wf = true := by
 cases h with
 | int ht' n hw => rw [ht] at ht'; cases ht'; exact ⟨n, rfl, hw⟩
 | bool ht' => rw [ht] at ht'; cases ht'
 | str ht' => rw [ht] at ht'; cases ht'
 | slc ht' => rw [ht] at ht'; cases ht'
 | arr ht' => rw [ht] at ht'; cases ht'
 | struct ht' => rw [ht] at ht'; cases ht'
theorem typed_arr {P : Program} {t e : TypeId} {n : Nat} {cs : List CV} (ht : P.underlying t = some (.array n e)) (h : Typed P t cs) : ∃ L : List (List CV), cs = L.flatten ∧ L.length = n ∧ (∀ l ∈ L, l.length = P.cellsOf e) ∧ ∀ l ∈ L, Typed P e l := by
 cases h with
 | arr ht' L hn hl h => rw [ht] at ht'; cases ht'; exact ⟨L, rfl, hn, hl, h⟩
 | bool ht' => rw [ht] at ht'; cases ht'
 | int ht' => rw [ht] at ht'; cases ht'
 | str ht' => rw [ht] at ht'; cases ht'
 | slc ht' => rw [ht] at ht'; cases ht'
 | struct ht' => rw [ht] at ht'; cases ht'
theorem typed_struct {P : Program} {t : TypeId} {fs : Array Field} {cs : List CV} (ht : P.underlying t = some (.struct fs)) (h : Typed P t cs) : ∃ L : List (List CV), cs = L.flatten ∧ L.length = fs.size ∧ ∀ (i : Nat) (f : Field) (l : List CV), fs[i]? = some f → L[i]? = some l → Typed P f.type l := by
 cases h with
 | struct ht' L hn hl h => rw [ht] at ht'; cases ht'; exact ⟨L, rfl, hn, h⟩
 | bool ht' => rw [ht] at ht'; cases ht'
 | int ht' => rw [ht] at ht'; cases ht'
 | str ht' => rw [ht] at ht'; cases ht'
 | slc ht' => rw [ht] at ht'; cases ht'
 | arr ht' => rw [ht] at ht'; cases ht'
theorem ints_of {P : Program} {e : TypeId} {k : IntKind} (he : P.underlying e = some (.int k)) : ∀ L : List (List CV), (∀ l ∈ L, Typed P e l) → ∃ zs : List Int, L.flatten = zs.map (.int k) ∧ L.length = zs.length ∧ ∀ z ∈ zs, (Lit.int k z).wf = true
 | [], _ => ⟨[], rfl, rfl, by simp⟩
 | l :: L, h => by
  obtain ⟨n, rfl, hn⟩ := typed_int he (h l (by simp))
  obtain ⟨zs, h1, h2, h3⟩ := ints_of he L fun l hl => h l (by simp [hl])
  exact ⟨n :: zs, by simp [h1], by simp [h2], by simpa using ⟨hn, h3⟩⟩
theorem wf_i64 {n : Int} (h : (Lit.int .i64 n).wf = true) : -9223372036854775808 ≤ n ∧ n ≤ 9223372036854775807 := by
 simp only [Lit.wf, Bool.and_eq_true, decide_eq_true_eq, IntKind.min, IntKind.max, IntKind.bits, IntKind.signed] at h
 simp at h; omega
theorem wf_u8 {n : Int} (h : (Lit.int .u8 n).wf = true) : 0 ≤ n ∧ n ≤ 255 := by
 simp only [Lit.wf, Bool.and_eq_true, decide_eq_true_eq, IntKind.min, IntKind.max, IntKind.bits, IntKind.signed] at h
 simp at h; omega
theorem args_cons {P : Program} {t : TypeId} {ts : List TypeId} {avs : List AV} (h : Args P (t :: ts) avs) : ∃ cs avs', avs = avOf P t cs :: avs' ∧ Typed P t cs ∧ Args P ts avs' := by
 generalize hts : t :: ts = u at h
 cases h with
 | nil => cases hts
 | cons h1 h2 => cases hts; exact ⟨_, _, rfl, h1, h2⟩
theorem args_nil {P : Program} {avs : List AV} (h : Args P [] avs) : avs = [] := by
 generalize hts : ([] : List TypeId) = u at h
 cases h with
 | nil => rfl
 | cons h1 h2 => cases hts
end Go.Proofs.YtpnghcaccfnngaaGreatDoor.AM
namespace Go.Proofs.YtpnghcaccfnngaaGreatDoor.AM
open Go Pl
def W64 (n : Int) : Prop := -9223372036854775808 ≤ n ∧ n ≤ 9223372036854775807
abbrev K3 : Bool × List KK := (true, [.int .i64, .int .i64, .int .i64])
theorem d_eq {a b c a' b' c' : Int} (h1 : W64 a) (h2 : W64 b) (h3 : W64 c) (h4 : W64 a') (h5 : W64 b') (h6 : W64 c') : keyEqK K3 (.agg [.i a, .i b, .i c]) (.agg [.i a', .i b', .i c']) = some (decide (a = a' ∧ b = b' ∧ c = c')) := by
 simp [keyEqK, keyCells, kksOk, kkOk, wf_int h1, wf_int h2, wf_int h3, wf_int h4, wf_int h5, wf_int h6, cellsEq, cellEq]
theorem typed_date {cs : List CV} (h : Typed Tryz.prog 23 cs) : ∃ y m d : Int, avOf Tryz.prog 23 cs = .agg [.i y, .i m, .i d] ∧ W64 y ∧ W64 m ∧ W64 d := by
 obtain ⟨L, rfl, hn, hf⟩ := typed_struct Tryz.underlying23 h
 match L, hn with
 | [a, b, c], _ =>
  obtain ⟨n1, rfl, w1⟩ := typed_int Tryz.underlying3 (hf 0 _ a rfl rfl)
  obtain ⟨n2, rfl, w2⟩ := typed_int Tryz.underlying3 (hf 1 _ b rfl rfl)
  obtain ⟨n3, rfl, w3⟩ := typed_int Tryz.underlying3 (hf 2 _ c rfl rfl)
  exact ⟨n1, n2, n3, by simp [avOf, Tryz.underlying23], wf_i64 w1, wf_i64 w2, wf_i64 w3⟩
end Go.Proofs.YtpnghcaccfnngaaGreatDoor.AM
namespace Go.Proofs.YtpnghcaccfnngaaGreatDoor.AM
variable [Dr]
open Go
abbrev vs8 : List Nat := [0, 1, 2, 3, 4, 5, 6, 7, 8, 9, 10, 11, 12, 13, 46, 58, 65]
def ic8 : IC := (.seq (.region [jb 2 0, jb 3 1, jw 4 .mv [jB false]])
 (.seq (.dr [[], [0], [1], [2], [], [4], [5], [6], [3, 0, 1, 2, 3], [7, 8, 0, 1, 2, 3, 4, 5, 6, 7, 8]] [jq (.iaA 2 1) [.v 2, jn 0], jl 0, jq (.conv .i64) [.t 1], jq (.bin .rem .int) [.t 2, jn 40001], jq (.iaA 2 1) [.v 2, jn 1], jl 4, jq (.conv .i64) [.t 5], jq (.bin .rem .int) [.t 6, jn 40001], jm 5 3, jm 6 7])
 (.seq (.region [jv 5, jk 22 [.t 0], jt 1, jx 0 2, jx 1 2, jw 7 (.alloc [(.cv (.int .i64 0)), (.cv (.int .i64 0)), (.cv (.int .i64 0))]) [], jq (.store 3) [.v 7, .t 3], jm 8 4])
 (.seq (.region [jv 6, jk 22 [.t 0], jt 1, jx 0 2, jx 1 2, jw 9 (.alloc [(.cv (.int .i64 0)), (.cv (.int .i64 0)), (.cv (.int .i64 0))]) [], jq (.store 3) [.v 9, .t 3], jm 10 4])
 (.seq (.seq (.region [jv 8, jq (.bin .neq .int) [.t 0, jn 0], jt 1, jh 2 false 10, jg 2 false (.bin .neq .int) [.t 3, jn 0], jq .pick [.t 2, jB true, .t 4], jt 5, jh 6 false 5, jh 6 false 6, jg 6 false (.bin .lss .int) [.t 7, .t 8], jg 6 false (.loadN 3) [.v 7], jg 6 false (.loadN 3) [.v 9], jf 6 false 46 [.t 10, .t 11], jg 6 false (.bin .neq .bool) [.t 9, .t 12], jw 14 .pick [.t 6, jB true, .t 13]])
 (.cond 14 (.seq (.region [jw 4 .mv [jB false]])
 .ret)
 .skip))
 (.seq (.region [jN 3 7, jk 18 [.t 0], jt 1, jx 0 2, jx 1 2, jm 11 3, jm 8 4])
 (.seq (.seq (.region [jv 8, jq (.bin .neq .int) [.t 0, jn 0], jt 1, jh 2 false 11, jh 2 false 5, jg 2 false (.bin .neq .int) [.t 3, .t 4], jw 15 .pick [.t 2, jB true, .t 5]])
 (.cond 15 (.seq (.region [jw 4 .mv [jB false]])
 .ret)
 .skip))
 (.seq (.region [jN 3 3, jk 18 [.t 0], jt 1, jx 0 2, jx 1 2, jm 12 3, jm 8 4])
 (.seq (.seq (.region [jv 8, jw 16 (.bin .neq .int) [.t 0, jn 0]])
 (.cond 16 (.seq (.region [jv 12, jq (.bin .eql .int) [.t 0, jn 0], jt 1, jf 2 true 28 [], jq .pick [.t 2, .t 3, jB false], jm 4 4])
 .ret)
 .skip))
 (.seq (.region [jv 12, jk 22 [.t 0], jt 1, jx 0 2, jx 1 2, jw 13 (.alloc [(.cv (.int .i64 0)), (.cv (.int .i64 0)), (.cv (.int .i64 0))]) [], jq (.store 3) [.v 13, .t 3], jm 8 4])
 (.seq (.region [jv 8, jq (.bin .eql .int) [.t 0, jn 0], jt 1, jg 2 true (.loadN 3) [.v 13], jg 2 true (.loadN 3) [.v 3], jg 2 true (.eqS false (true, [(.int .i64), (.int .i64), (.int .i64)])) [.t 3, .t 4], jq .pick [.t 2, .t 5, jB false], jt 6, jf 7 true 28 [], jq .pick [.t 7, .t 8, jB false], jm 4 9])
 .ret)))))))))))
abbrev rs8 : List RC := [(.v 4)]
theorem fok8 (p : Bool) : FnOk Tryz.prog 8 ⟨ic8, vs8, 86, rs8, p⟩ := .mk2 Tryz.func8 (by kernel_rfl) (by kernel_rfl) (by kernel_rfl) (by kernel_rfl) (by kernel_rfl)
def dtOf (D : Int) (j k : Nat) : Int × Int × Int := (2000 + (j : Int), (k : Int) + 1, D - begF j - sumL (2000 + (j : Int)) k + 1)
theorem day_date {D : Int} {j k : Nat} (h : IsDate D j k) : dayV (2000 + (j : Int)) ((k : Int) + 1) (D - begF j - sumL (2000 + (j : Int)) k + 1) = .tup [.i D, .i 0] := by
 obtain ⟨hy1, hy2, hj⟩ := h.year
 have h1 := h.k12; have h2 := h.lo; have h3 := h.top; have h4 := h.hi
 rw [sumL] at h4
 rw [dayV_ok (by omega) (by omega), dayT_eq j k (by omega) (by omega), inB_iff.2 (by omega)]
 have e : begF j + sumL (2000 + (j : Int)) k + (D - begF j - sumL (2000 + (j : Int)) k + 1) - 1 = D := by omega
 rw [e]
 simp [show ¬ D > 40000 by omega]
theorem date_before {a b : Int} {j k j' k' : Nat} (ha : IsDate a j k) (hb : IsDate b j' k') : befB (dtOf a j k) (dtOf b j' k') = decide (a < b) := by
 obtain ⟨a1, a2, _⟩ := ha.year
 obtain ⟨b1, b2, _⟩ := hb.year
 have a3 := ha.lo; have a4 := ha.hi; have b3 := hb.lo; have b4 := hb.hi
 unfold befB dtOf
 simp only
 rcases Nat.lt_trichotomy j j' with hlt | rfl | hlt
 ·have := begF_mono (show j + 1 ≤ j' from hlt)
  rw [if_pos (by simp; omega), decide_eq_true (show a < b by omega), decide_eq_true (by omega)]
 ·rw [if_neg (by simp)]
  rcases Nat.lt_trichotomy k k' with hk | rfl | hk
  ·have := sumL_mono (2000 + (j : Int)) (show k + 1 ≤ k' from hk)
   rw [if_pos (by simp; omega), decide_eq_true (show a < b by omega), decide_eq_true (by omega)]
  ·rw [if_neg (by simp)]
   rw [Bool.eq_iff_iff, decide_eq_true_eq, decide_eq_true_eq]; omega
  ·have := sumL_mono (2000 + (j : Int)) (show k' + 1 ≤ k from hk)
   rw [if_pos (by simp; omega), decide_eq_false (show ¬ a < b by omega), decide_eq_false (by omega)]
 ·have := begF_mono (show j' + 1 ≤ j from hlt)
  rw [if_pos (by simp; omega), decide_eq_false (show ¬ a < b by omega), decide_eq_false (by omega)]
theorem day_cases (y m d : Int) : (∃ e : Int, e ≠ 0 ∧ dayV y m d = .tup [.i 0, .i e]) ∨ ∃ D j k, IsDate D j k ∧ dayV y m d = .tup [.i D, .i 0] ∧ dtOf D j k = (y, m, d) := by
 unfold dayV
 split
 ·exact .inl ⟨6, by decide, rfl⟩
 rename_i h1
 split
 ·exact .inl ⟨6, by decide, rfl⟩
 rename_i h2
 split
 ·exact .inl ⟨7, by decide, rfl⟩
 rename_i h3
 split
 ·exact .inl ⟨7, by decide, rfl⟩
 rename_i h4
 right
 obtain ⟨m1, m2⟩ := inB_iff.1 (Bool.not_eq_false _ ▸ h1)
 obtain ⟨y1, y2⟩ := inB_iff.1 (Bool.not_eq_false _ ▸ h3)
 obtain ⟨k, hk⟩ : ∃ k : Nat, m = (k : Int) + 1 := ⟨(m - 1).toNat, by omega⟩
 obtain ⟨j, hj⟩ : ∃ j : Nat, y = 2000 + (j : Int) := ⟨(y - 2000).toNat, by omega⟩
 obtain ⟨d1, d2⟩ := inB_iff.1 (Bool.not_eq_false _ ▸ h2)
 subst hk; subst hj
 rw [show (k : Int) + 1 - 1 = k by omega, Int.toNat_natCast, long_len _ k (by omega)] at d2
 have ht := dayT_eq j k (by omega) (by omega) d
 refine ⟨_, j, k, ⟨by omega, ?_, ?_, by omega⟩, rfl, ?_⟩
 ·omega
 ·rw [sumL]; omega
 ·unfold dtOf
  rw [ht, show begF j + sumL (2000 + (j : Int)) k + d - 1 - begF j - sumL (2000 + (j : Int)) k + 1 = d by omega]
end Go.Proofs.YtpnghcaccfnngaaGreatDoor.AM
namespace Go.Proofs.YtpnghcaccfnngaaGreatDoor.AM
open Go Pl
theorem wf_u16 {n : Int} (h : (Lit.int .u16 n).wf = true) : 0 ≤ n ∧ n ≤ 65535 := by
 simp only [Lit.wf, Bool.and_eq_true, decide_eq_true_eq, IntKind.min, IntKind.max, IntKind.bits, IntKind.signed] at h
 simp at h; omega
theorem typed_u2 {cs : List CV} (h : Typed Tryz.prog 65 cs) : ∃ x y : Int, avOf Tryz.prog 65 cs = .agg [.cv (.int .u16 x), .cv (.int .u16 y)] ∧ (0 ≤ x ∧ x ≤ 65535) ∧ 0 ≤ y ∧ y ≤ 65535 := by
 obtain ⟨L, rfl, hl, hl2, hl3⟩ := typed_arr Tryz.underlying65 h
 obtain ⟨xs, hx1, hx2, hx3⟩ := ints_of Tryz.underlying64 L hl3
 rw [hx1]
 match xs, (hx2.symm.trans hl), hx3 with
 | [a, b], _, hw => exact ⟨a, b, by simp [avOf, Tryz.underlying65], wf_u16 (hw a (by simp)), wf_u16 (hw b (by simp))⟩
theorem lc8 (a b : Int) (ha : 0 ≤ a ∧ a ≤ 65535) (hb : 0 ≤ b ∧ b ≤ 65535) (y m d : Int) (wy : W64 y) (wm : W64 m) (wd : W64 d) : AC Tryz.prog 8 [.agg [.cv (.int .u16 a), .cv (.int .u16 b)], .agg [.i y, .i m, .i d]] [] fun r _ => r = .b true := by
 refine AC_FE (fok8 true) (Nat.le_of_ble_eq_true rfl) ?_
 obtain ⟨A, hA⟩ : ∃ A, A = a.tmod 40001 := ⟨_, rfl⟩
 obtain ⟨B, hB⟩ : ∃ B, B = b.tmod 40001 := ⟨_, rfl⟩
 have hA1 : 0 ≤ A ∧ A ≤ 40000 := by rw [hA, Int.tmod_eq_emod_of_nonneg ha.1]; omega
 have hB1 : 0 ≤ B ∧ B ≤ 40000 := by rw [hB, Int.tmod_eq_emod_of_nonneg hb.1]; omega
 obtain ⟨j, k, h1⟩ := isDate_of hA1.1 hA1.2
 obtain ⟨j', k', h2⟩ := isDate_of hB1.1 hB1.2
 have wa : IntKind.i64.wrap a = a := wrap_in (by omega)
 have wb : IntKind.i64.wrap b = b := wrap_in (by omega)
 have c1 := c22 h1
 have c2 := c22 h2
 have c3 := c46 (2000 + (j : Int)) ((k : Int) + 1) (A - begF j - sumL (2000 + (j : Int)) k + 1) (2000 + (j' : Int)) ((k' : Int) + 1) (B - begF j' - sumL (2000 + (j' : Int)) k' + 1)
 have e3 := date_before h1 h2
 simp only [dtOf] at e3
 rw [e3] at c3
 have c4 := c18 (2000 + (j : Int)) ((k : Int) + 1) (A - begF j - sumL (2000 + (j : Int)) k + 1)
 rw [day_date h1] at c4
 have q1 : (decide (A < B) != decide (A < B)) = false := by simp
 simp only [ic8, f_box, cellsOf, f_iaA, evA, if_true, if_false, beq_false, simprocAttr]
 refine DW_s [] [] hmix (by kernel_rfl) rfl ?_
 simp only [f_iaA, wa, wb, ← hA, ← hB, evA, if_true, if_false, beq_false, simprocAttr]
 refine c1.call frz ?_
 simp only [f_iaA, evA, if_true, if_false, beq_false, simprocAttr]
 refine c2.call frz ?_
 simp only [f_iaA, evA, if_true, if_false, beq_false, simprocAttr]
 refine c3.call frz ?_
 simp only [q1, f_iaA, evA, if_true, if_false, beq_false, simprocAttr]
 refine c4.call frz ?_
 have q2 : (A != A) = false := by simp
 simp only [q2, f_iaA, evA, if_true, if_false, beq_false, simprocAttr]
 rcases day_cases y m d with ⟨e, he, hd⟩ | ⟨D, j2, k2, h3, hd, ed⟩
 ·have c5 := c18 y m d
  rw [hd] at c5
  refine c5.call frz ?_
  have q3 : (e != 0) = true := by simpa using he
  simp only [q3, evA, if_true, if_false, beq_false, simprocAttr]
  refine awake.call .nil ?_
  simp only [evA, if_true, if_false, beq_false, simprocAttr]
 ·have c5 := c18 y m d
  rw [hd] at c5
  refine c5.call frz ?_
  simp only [evA, if_true, if_false, beq_false, simprocAttr]
  have c6 := c22 h3
  have e1 := congrArg Prod.fst ed
  have e2 := congrArg (fun x => x.2.1) ed
  have e3 := congrArg (fun x => x.2.2) ed
  simp only [dtOf] at e1 e2 e3
  unfold dateA at c6
  rw [e1, e2, ← e1, e3, e1] at c6
  refine c6.call frz ?_
  have q9 := d_eq wy wm wd wy wm wd
  rw [decide_eq_true ⟨rfl, rfl, rfl⟩] at q9
  simp only [q9, Option.map_some, evA, if_true, if_false, beq_false, simprocAttr]
  refine awake.call .nil ?_
  simp only [evA, if_true, if_false, beq_false, simprocAttr]
theorem law_ClassInverse (avs : List AV) (h : Args Tryz.prog Tryz.f8.params.toList avs) : AC Tryz.prog 8 avs [] fun r _ => r = .b true := by
 have h : Args Tryz.prog [65, 23] avs := h
 obtain ⟨cs1, avs, rfl, h1, h⟩ := args_cons h
 obtain ⟨cs2, avs, rfl, h2, h⟩ := args_cons h
 cases args_nil h
 obtain ⟨x, y, e1, b1, b2⟩ := typed_u2 h1
 obtain ⟨y, m, d, e2, w1, w2, w3⟩ := typed_date h2
 rw [e1, e2]
 exact lc8 _ _ b1 b2 y m d w1 w2 w3
end Go.Proofs.YtpnghcaccfnngaaGreatDoor.AM
namespace Go.Proofs.YtpnghcaccfnngaaGreatDoor.AM
variable [Dr]
open Go
abbrev vs9 : List Nat := [0, 1, 2, 3, 6, 7, 8, 9, 10, 11, 12, 13, 14, 15, 16, 17, 18, 19, 20, 21, 74, 82, 95, 98, 113, 125, 127, 147]
def ic9 : IC := (.seq (.region [jb 3 0, jw 4 .mv [jB false]])
 (.seq (.dr [[], [0], [1], [2], [], [4], [5], [6], [3, 0, 1, 2, 3], [7, 8, 0, 1, 2, 3, 4, 5, 6, 7, 8]] [jq (.iaA 2 1) [.v 3, jn 0], jl 0, jq (.conv .i64) [.t 1], jq (.bin .rem .int) [.t 2, jn 40001], jq (.iaA 2 1) [.v 3, jn 1], jl 4, jq (.conv .i64) [.t 5], jq (.bin .rem .int) [.t 6, jn 40001], jm 5 3, jm 6 7])
 (.seq (.region [jv 5, jv 6, jq .min2 [.t 0, .t 1], jv 5, jv 6, jq .max2 [.t 3, .t 4], jm 5 2, jm 6 5])
 (.seq (.region [jv 1, jq (.conv .i64) [.t 0], jq (.bin .rem .int) [.t 1, jn 101], jv 2, jq (.conv .i64) [.t 3], jm 7 2, jm 8 4])
 (.seq (.region [jv 5, jv 7, jv 8, jk 24 [.t 0, .t 1, .t 2], jt 3, jx 0 4, jx 1 4, jm 9 5, jm 10 6])
 (.seq (.region [jv 6, jv 7, jv 8, jk 24 [.t 0, .t 1, .t 2], jt 3, jx 0 4, jx 1 4, jm 11 5, jm 12 6])
 (.seq (.seq (.region [jv 12, jq (.bin .eql .int) [.t 0, jn 0], jt 1, jh 2 true 10, jg 2 true (.bin .neq .int) [.t 3, jn 0], jg 2 true .mv [.t 4], jh 5 false 9, jh 5 false 11, jg 5 false (.bin .gtr .int) [.t 6, .t 7], jg 2 true .pick [.t 5, jB true, .t 8], jq .pick [.t 2, .t 9, jB false], jt 10, jh 11 false 10, jg 11 false (.bin .eql .int) [.t 12, jn 0], jg 11 false .mv [.t 13], jh 14 true 9, jh 14 true 5, jg 14 true (.bin .lss .int) [.t 15, .t 16], jg 11 false .pick [.t 14, .t 17, jB false], jw 20 .pick [.t 11, jB true, .t 18]])
 (.cond 20 (.seq (.region [jw 4 .mv [jB false]])
 .ret)
 .skip))
 (.seq (.region [jv 5, jv 7, jk 24 [.t 0, .t 1, jn 0], jt 2, jx 0 3, jx 1 3, jm 13 4, jm 14 5])
 (.seq (.seq (.region [jv 14, jw 21 (.bin .eql .int) [.t 0, jn 0]])
 (.cond 21 (.seq (.region [jv 5, jv 13, jk 26 [.t 0, .t 1], jt 2, jx 0 3, jx 1 3, jm 15 4, jm 16 5])
 (.seq (.seq (.region [jv 16, jq (.bin .neq .int) [.t 0, jn 0], jt 1, jh 2 false 15, jh 2 false 7, jg 2 false (.bin .neq .int) [.t 3, .t 4], jw 22 .pick [.t 2, jB true, .t 5]])
 (.cond 22 (.seq (.region [jw 4 .mv [jB false]])
 .ret)
 .skip))
 (.seq (.region [jv 13, jv 5, jw 23 (.bin .gtr .int) [.t 0, .t 1]])
 (.cond 23 (.seq (.region [jv 5, jv 13, jq (.bin .sub .int) [.t 1, jn 1], jk 26 [.t 0, .t 2], jt 3, jx 0 4, jx 1 4, jm 15 5, jm 16 6])
 (.seq (.region [jv 16, jq (.bin .neq .int) [.t 0, jn 0], jt 1, jh 2 false 15, jh 2 false 7, jg 2 false (.bin .sub .int) [.t 4, jn 1], jg 2 false (.bin .neq .int) [.t 3, .t 5], jw 24 .pick [.t 2, jB true, .t 6]])
 (.cond 24 (.seq (.region [jw 4 .mv [jB false]])
 .ret)
 .skip)))
 .skip))))
 .skip))
 (.seq (.region [jv 5, jv 6, jk 26 [.t 0, .t 1], jt 2, jx 0 3, jx 1 3, jm 17 4, jm 14 5])
 (.seq (.seq (.region [jv 14, jq (.bin .neq .int) [.t 0, jn 0], jt 1, jh 2 false 17, jg 2 false (.bin .lss .int) [.t 3, jn 0], jw 25 .pick [.t 2, jB true, .t 4]])
 (.cond 25 (.seq (.region [jw 4 .mv [jB false]])
 .ret)
 .skip))
 (.seq (.seq (.region [jv 6, jw 26 (.bin .lss .int) [.t 0, jn 40000]])
 (.cond 26 (.seq (.region [jv 5, jv 6, jq (.bin .add .int) [.t 1, jn 1], jk 26 [.t 0, .t 2], jt 3, jx 0 4, jx 1 4, jm 18 5, jm 19 6])
 (.seq (.region [jv 19, jq (.bin .neq .int) [.t 0, jn 0], jt 1, jh 2 false 18, jh 2 false 17, jg 2 false (.bin .lss .int) [.t 3, .t 4], jq .pick [.t 2, jB true, .t 5], jt 6, jh 7 false 18, jh 7 false 17, jg 7 false (.bin .add .int) [.t 9, jn 1], jg 7 false (.bin .gtr .int) [.t 8, .t 10], jw 27 .pick [.t 7, jB true, .t 11]])
 (.cond 27 (.seq (.region [jw 4 .mv [jB false]])
 .ret)
 .skip)))
 .skip))
 (.seq (.region [jk 28 [], jm 4 0])
 .ret)))))))))))))
abbrev rs9 : List RC := [(.v 4)]
theorem fok9 (p : Bool) : FnOk Tryz.prog 9 ⟨ic9, vs9, 149, rs9, p⟩ := .mk2 Tryz.func9 (by kernel_rfl) (by kernel_rfl) (by kernel_rfl) (by kernel_rfl) (by kernel_rfl)
def stM (n : Nat) : Int := begF (n / 12) + sumL (2000 + ((n / 12 : Nat) : Int)) (n % 12)
def lnM (n : Nat) : Int := longF (2000 + ((n / 12 : Nat) : Int)) (((n % 12 : Nat) : Int) + 1)
theorem stM_succ (n : Nat) : stM (n + 1) = stM n + lnM n := by
 unfold stM lnM
 by_cases h : n % 12 = 11
 ·have h1 : (n + 1) / 12 = n / 12 + 1 := by omega
  have h2 : (n + 1) % 12 = 0 := by omega
  rw [h1, h2, h, begF_sum]
  simp only [sumL]
  omega
 ·have h1 : (n + 1) / 12 = n / 12 := by omega
  have h2 : (n + 1) % 12 = n % 12 + 1 := by omega
  rw [h1, h2, sumL]
  omega
theorem lnM_ran (n : Nat) : 28 ≤ lnM n ∧ lnM n ≤ 31 := longF_ran _ _
theorem stM_lt {a b : Nat} (h : a < b) : stM a + lnM a ≤ stM b := by
 induction h with
 | refl => rw [stM_succ]; exact Int.le_refl _
 | step h ih => rw [stM_succ]; have := lnM_ran ‹Nat›; omega
def tgt (d : Int) (n : Nat) : Int := stM n + min d (lnM n) - 1
theorem tgt_mono {d d' : Int} {n n' : Nat} (hd : 1 ≤ d) (hd' : 1 ≤ d') (h : n < n' ∨ n = n' ∧ d ≤ d') : tgt d n ≤ tgt d' n' := by
 unfold tgt
 rcases h with h | ⟨rfl, h⟩
 ·have := stM_lt h
  have := lnM_ran n; have := lnM_ran n'
  omega
 ·omega
theorem monN {j k : Nat} (hk : k < 12) : (12 * j + k) / 12 = j ∧ (12 * j + k) % 12 = k := by omega
theorem IsDate.st {D : Int} {j k : Nat} (h : IsDate D j k) : stM (12 * j + k) ≤ D ∧ D < stM (12 * j + k) + lnM (12 * j + k) ∧ dOf D j k = D - stM (12 * j + k) + 1 ∧ tgt (dOf D j k) (12 * j + k) = D := by
 obtain ⟨h1, h2⟩ := monN (j := j) h.k12
 have h3 := h.lo; have h4 := h.hi
 rw [sumL] at h4
 unfold tgt stM lnM dOf
 rw [h1, h2]
 omega
theorem IsDate.cmp {D D' : Int} {j k j' k' : Nat} (h : IsDate D j k) (h' : IsDate D' j' k') (hle : D ≤ D') : 12 * j + k < 12 * j' + k' ∨ 12 * j + k = 12 * j' + k' ∧ dOf D j k ≤ dOf D' j' k' := by
 have h1 := h.st; have h2 := h'.st
 rcases Nat.lt_trichotomy (12 * j + k) (12 * j' + k') with hl | he | hg
 ·exact .inl hl
 ·exact .inr ⟨he, by rw [h1.2.2.1, h2.2.2.1, he]; omega⟩
 ·have := stM_lt hg; omega
def plusN (D : Int) (j k ys ms : Nat) : Int := tgt (dOf D j k) (12 * j + k + (12 * ys + ms))
theorem plusN_mono {D D' : Int} {j k j' k' : Nat} (h : IsDate D j k) (h' : IsDate D' j' k') (hle : D ≤ D') (ys ms : Nat) : plusN D j k ys ms ≤ plusN D' j' k' ys ms := by
 have h1 := h.dd; have h2 := h'.dd
 exact tgt_mono h1.1 h2.1 (by rcases h.cmp h' hle with h3 | ⟨h3, h4⟩ <;> omega)
theorem plusN_ge {D : Int} {j k : Nat} (h : IsDate D j k) (ys ms : Nat) : D ≤ plusN D j k ys ms := by
 have h1 := h.st; have h2 := h.dd
 rw (occs := .pos [1]) [← h1.2.2.2]
 unfold plusN
 refine tgt_mono h2.1 h2.1 ?_
 rcases Nat.eq_zero_or_pos (12 * ys + ms) with h3 | h3
 ·rw [h3]; exact .inr ⟨rfl, Int.le_refl _⟩
 ·exact .inl (by omega)
theorem plusN_bday {D : Int} {j k : Nat} (h : IsDate D j k) (ys : Nat) : plusN D j k ys 0 = bday D j k ys := by
 have e : 12 * j + k + (12 * ys + 0) = 12 * (j + ys) + k := by omega
 obtain ⟨h1, h2⟩ := monN (j := j + ys) h.k12
 unfold plusN bday tgt stM lnM
 rw [e, h1, h2]
theorem plus_val {D : Int} {j k : Nat} (h : IsDate D j k) {ys ms : Nat} (hy : ys ≤ 100) (hm : ms ≤ 1200) : plusV D j k ys ms = if plusN D j k ys ms ≤ 40000 then .tup [.i (plusN D j k ys ms), .i 0] else .tup [.i 0, .i 7] := by
 obtain ⟨_, _, hj⟩ := h.year
 have hk := h.k12
 have hd := h.dd
 obtain ⟨J, hJ⟩ : ∃ J, J = (12 * j + k + (12 * ys + ms)) / 12 := ⟨_, rfl⟩
 obtain ⟨K, hK⟩ : ∃ K, K = (12 * j + k + (12 * ys + ms)) % 12 := ⟨_, rfl⟩
 have ey : yPl j k (ys : Int) (ms : Int) = 2000 + (J : Int) := by unfold yPl; omega
 have em : mPl k (ms : Int) = (K : Int) + 1 := by unfold mPl; omega
 have hl := longF_ran (2000 + (J : Int)) ((K : Int) + 1)
 have ep : plusN D j k ys ms = begF J + sumL (2000 + (J : Int)) K + min (dOf D j k) (longF (2000 + (J : Int)) ((K : Int) + 1)) - 1 := by unfold plusN tgt stM lnM; rw [← hJ, ← hK]
 have hb := begF_ge J
 have hs := sumL_ran (2000 + (J : Int)) K
 unfold plusV
 rw [ey, em, dayV_ok (by omega) (by omega), dayT_eq J K (by omega) (by omega), ← ep]
 by_cases h1 : inB (2000 + (J : Int)) 2000 2200 = true
 ·rw [h1]
  by_cases h2 : plusN D j k ys ms ≤ 40000
  ·simp [h2, show ¬ plusN D j k ys ms > 40000 by omega]
  ·simp [h2, show plusN D j k ys ms > 40000 by omega]
 ·have h3 : ¬ (2000 ≤ 2000 + (J : Int) ∧ 2000 + (J : Int) ≤ 2200) := fun h => h1 (inB_iff.2 h)
  rw [if_pos (by simpa using h1), if_neg (by omega)]
theorem bday_lt {D : Int} {j k : Nat} (h : IsDate D j k) {a b : Nat} (hab : a < b) : bday D j k a < bday D j k b := by
 have h1 := bday_ran h a; have h2 := bday_ran h b
 have := begF_mono (show j + a + 1 ≤ j + b by omega)
 omega
theorem bday_zero {D : Int} {j k : Nat} (h : IsDate D j k) : bday D j k 0 = D := by
 rw [← plusN_bday h, plusN, show 12 * j + k + (12 * 0 + 0) = 12 * j + k by omega, h.st.2.2.2]
theorem age_of {D E : Int} {j k j2 k2 : Nat} (h : IsDate D j k) (h2 : IsDate E j2 k2) (hle : D ≤ E) {n : Nat} (h3 : bday D j k n ≤ E) (h4 : E < bday D j k (n + 1)) : ageN D E j k j2 = n := by
 have i1 := ageN_iff h h2 hle (n := n + 1) (by omega)
 have h5 : ¬ n + 1 ≤ ageN D E j k j2 := fun h => by have := i1.2 h; omega
 rcases Nat.eq_zero_or_pos n with rfl | hp
 ·omega
 ·have := (ageN_iff h h2 hle hp).1 h3; omega
theorem age_ran {D E : Int} {j k j2 k2 : Nat} (h : IsDate D j k) (h2 : IsDate E j2 k2) (hle : D ≤ E) : bday D j k (ageN D E j k j2) ≤ E ∧ E < bday D j k (ageN D E j k j2 + 1) := by
 constructor
 ·rcases Nat.eq_zero_or_pos (ageN D E j k j2) with h0 | hp
  ·rw [h0, bday_zero h]; exact hle
  ·exact (ageN_iff h h2 hle hp).2 (Nat.le_refl _)
 ·refine Int.not_le.1 fun hc => ?_
  have := (ageN_iff h h2 hle (n := ageN D E j k j2 + 1) (by omega)).1 hc
  omega
theorem age_next {D E : Int} {j k j2 k2 j3 k3 : Nat} (h : IsDate D j k) (h2 : IsDate E j2 k2) (h3 : IsDate (E + 1) j3 k3) (hle : D ≤ E) : ageN D E j k j2 ≤ ageN D (E + 1) j k j3 ∧ ageN D (E + 1) j k j3 ≤ ageN D E j k j2 + 1 := by
 have a1 := age_ran h h2 hle
 have a2 := age_ran h h3 (by omega)
 generalize ageN D E j k j2 = A at *
 generalize ageN D (E + 1) j k j3 = B at *
 constructor
 ·rcases Nat.lt_or_ge B A with hl | hg
  ·rcases Nat.lt_or_eq_of_le (show B + 1 ≤ A from hl) with h5 | h5
   ·have := bday_lt h h5; omega
   ·rw [h5] at a2; omega
  ·exact hg
 ·rcases Nat.lt_or_ge (A + 1) B with hl | hg
  ·have := bday_lt h hl; omega
  ·exact hg
end Go.Proofs.YtpnghcaccfnngaaGreatDoor.AM
namespace Go.Proofs.YtpnghcaccfnngaaGreatDoor.AM
open Go Pl
set_option maxHeartbeats 4000000 in
theorem lc9 (a b y m : Int) (ha : 0 ≤ a ∧ a ≤ 65535) (hb : 0 ≤ b ∧ b ≤ 65535) (hy : 0 ≤ y ∧ y ≤ 255) (hm : 0 ≤ m ∧ m ≤ 255) : AC Tryz.prog 9 [.agg [.cv (.int .u16 a), .cv (.int .u16 b)], .cv (.int .u8 y), .cv (.int .u8 m)] [] fun r _ => r = .b true := by
 refine AC_FE (fok9 true) (Nat.le_of_ble_eq_true rfl) ?_
 obtain ⟨A, hA⟩ : ∃ A, A = a.tmod 40001 := ⟨_, rfl⟩
 obtain ⟨B, hB⟩ : ∃ B, B = b.tmod 40001 := ⟨_, rfl⟩
 have hA1 : 0 ≤ A ∧ A ≤ 40000 := by rw [hA, Int.tmod_eq_emod_of_nonneg ha.1]; omega
 have hB1 : 0 ≤ B ∧ B ≤ 40000 := by rw [hB, Int.tmod_eq_emod_of_nonneg hb.1]; omega
 have wa : IntKind.i64.wrap a = a := wrap_in (by omega)
 have wb : IntKind.i64.wrap b = b := wrap_in (by omega)
 have wy : IntKind.i64.wrap y = y := wrap_in (by omega)
 have wm : IntKind.i64.wrap m = m := wrap_in (by omega)
 obtain ⟨Y, hY⟩ : ∃ Y : Nat, y.tmod 101 = Y := ⟨(y.tmod 101).toNat, by rw [Int.tmod_eq_emod_of_nonneg hy.1]; omega⟩
 have hY1 : Y ≤ 100 := by rw [Int.tmod_eq_emod_of_nonneg hy.1] at hY; omega
 obtain ⟨M, rfl⟩ : ∃ M : Nat, m = M := ⟨m.toNat, by omega⟩
 obtain ⟨L, hL⟩ : ∃ L, (if B < A then B else A) = L := ⟨_, rfl⟩
 obtain ⟨H, hH⟩ : ∃ H, (if B > A then B else A) = H := ⟨_, rfl⟩
 have hLH : 0 ≤ L ∧ L ≤ H ∧ H ≤ 40000 := by
  rw [← hL, ← hH]; split <;> split <;> omega
 obtain ⟨j, k, dl⟩ := isDate_of hLH.1 (by omega)
 obtain ⟨j', k', dh⟩ := isDate_of (show 0 ≤ H by omega) hLH.2.2
 have hy0 : (0 : Int) ≤ (Y : Int) ∧ (Y : Int) ≤ 100 := by omega
 have hm0 : (0 : Int) ≤ (M : Int) ∧ (M : Int) ≤ 1200 := by omega
 have p1 := c24 dl hy0 hm0
 have p2 := c24 dh hy0 hm0
 have p3 := c24 dl hy0 (show (0 : Int) ≤ ((0 : Nat) : Int) ∧ ((0 : Nat) : Int) ≤ 1200 by omega)
 rw [plus_val dl hY1 (by omega)] at p1
 rw [plus_val dh hY1 (by omega)] at p2
 rw [plus_val dl hY1 (by omega), plusN_bday dl] at p3
 have hmono := plusN_mono dl dh hLH.2.1 Y M
 have hge := plusN_ge dl Y M
 have hgeb := plusN_ge dl Y 0
 rw [plusN_bday dl] at hgeb
 generalize plusN L j k Y M = P at *
 generalize plusN H j' k' Y M = Q at *
 have g1 := c26 dl dh hLH.2.1
 have e0 : (0 : Int) = ((0 : Nat) : Int) := rfl
 simp only [ic9, f_box, cellsOf, f_iaA, evA, if_true, if_false, beq_false, simprocAttr]
 refine DW_s [] [] hmix (by kernel_rfl) rfl ?_
 simp only [f_iaA, wa, wb, ← hA, ← hB, f_min2, f_max2, hL, hH, wy, wm, hY, evA, if_true, if_false, beq_false, simprocAttr]
 refine p1.call frz ?_
 have three : (Q ≤ 40000 ∧ P ≤ 40000) ∨ (¬ Q ≤ 40000 ∧ P ≤ 40000) ∨ (¬ Q ≤ 40000 ∧ ¬ P ≤ 40000) := by omega
 have hng : ¬ P > Q := by omega
 have hnl : ¬ P < L := by omega
 have g2 : H < 40000 → ∃ n : Int, PC Tryz.prog 26 [.i L, .i (H + 1)] (.tup [.i n, .i 0]) ∧ ¬ n < ((ageN L H j k j' : Nat) : Int) ∧ ¬ n > ((ageN L H j k j' : Nat) : Int) + 1 := fun h => by
  obtain ⟨j3, k3, d3⟩ := isDate_of (show 0 ≤ H + 1 by omega) (show H + 1 ≤ 40000 by omega)
  have := age_next dl dh d3 hLH.2.1
  exact ⟨_, c26 dl d3 (by omega), by omega, by omega⟩
 have hnr := age_ran dl dh hLH.2.1
 generalize ageN L H j k j' = n at *
 have g3 : ∀ t, bday L j k Y = t → t ≤ 40000 → PC Tryz.prog 26 [.i L, .i t] (.tup [.i Y, .i 0]) := fun t ht h => by
  obtain ⟨j3, k3, d3⟩ := isDate_of (show 0 ≤ t by omega) h
  have := bday_lt dl (show Y < Y + 1 by omega)
  have := c26 dl d3 (by omega)
  rwa [age_of dl d3 (by omega) (n := Y) (by omega) (by omega)] at this
 have g4 : ∀ t, bday L j k Y = t → t ≤ 40000 → L < t → PC Tryz.prog 26 [.i L, .i (t - 1)] (.tup [.i ((Y : Int) - 1), .i 0]) := fun t ht h hl => by
  obtain ⟨j3, k3, d3⟩ := isDate_of (show 0 ≤ t - 1 by omega) (show t - 1 ≤ 40000 by omega)
  have hY0 : Y ≠ 0 := fun h0 => by rw [h0, bday_zero dl] at ht; omega
  obtain ⟨y', rfl⟩ : ∃ y', Y = y' + 1 := ⟨Y - 1, by omega⟩
  have := bday_lt dl (show y' < y' + 1 by omega)
  have := c26 dl d3 (by omega)
  rw [age_of dl d3 (by omega) (n := y') (by omega) (by omega)] at this
  rwa [show ((y' + 1 : Nat) : Int) - 1 = y' by omega]
 generalize bday L j k Y = T at *
 have g3 := g3 T rfl
 have g4 := g4 T rfl
 have wT : L < T → T ≤ 40000 → IntKind.i64.wrap (T - 1) = T - 1 := fun _ _ => wrap_in (by omega)
 have wH : IntKind.i64.wrap (H + 1) = H + 1 := wrap_in (by omega)
 have wY : IntKind.i64.wrap ((Y : Int) - 1) = (Y : Int) - 1 := wrap_in (by omega)
 have wn : IntKind.i64.wrap ((n : Int) + 1) = (n : Int) + 1 := wrap_in (by have := bday_ran dl n; have := begF_ge (j + n); omega)
 have q0 : ((Y : Int) != (Y : Int)) = false := by simp
 have q1 : ((Y : Int) - 1 != (Y : Int) - 1) = false := by simp
 have q2 : ¬ (n : Int) < 0 := by omega
 rcases three with ⟨hq, hp⟩ | ⟨hq, hp⟩ | ⟨hq, hp⟩
 all_goals
  simp only [hp, evA, if_true, if_false, beq_false, simprocAttr]
  refine p2.call frz ?_
  simp only [hq, hng, hnl, evA, if_true, if_false, beq_false, simprocAttr]
  refine p3.call frz ?_
  by_cases ht : T ≤ 40000
  ·simp only [ht, evA, if_true, if_false, beq_false, simprocAttr]
   refine (g3 ht).call frz ?_
   by_cases hl : L < T
   ·have hg : T > L := hl
    simp only [q0, hg, wT hl ht, evA, if_true, if_false, beq_false, simprocAttr]
    refine (g4 ht hl).call frz ?_
    simp only [wY, q1, evA, if_true, if_false, beq_false, simprocAttr]
    refine g1.call frz ?_
    by_cases hH4 : H < 40000
    ·obtain ⟨n', g5, g6, g7⟩ := g2 hH4
     simp only [q2, hH4, wH, evA, if_true, if_false, beq_false, simprocAttr]
     refine g5.call frz ?_
     simp only [g6, g7, wn, evA, if_true, if_false, beq_false, simprocAttr]
     refine awake.call .nil ?_
     simp only [evA, if_true, if_false, beq_false, simprocAttr]
    ·simp only [q2, hH4, evA, if_true, if_false, beq_false, simprocAttr]
     refine awake.call .nil ?_
     simp only [evA, if_true, if_false, beq_false, simprocAttr]
   ·have hg : ¬ T > L := hl
    simp only [q0, hg, evA, if_true, if_false, beq_false, simprocAttr]
    refine g1.call frz ?_
    by_cases hH4 : H < 40000
    ·obtain ⟨n', g5, g6, g7⟩ := g2 hH4
     simp only [q2, hH4, wH, evA, if_true, if_false, beq_false, simprocAttr]
     refine g5.call frz ?_
     simp only [g6, g7, wn, evA, if_true, if_false, beq_false, simprocAttr]
     refine awake.call .nil ?_
     simp only [evA, if_true, if_false, beq_false, simprocAttr]
    ·simp only [q2, hH4, evA, if_true, if_false, beq_false, simprocAttr]
     refine awake.call .nil ?_
     simp only [evA, if_true, if_false, beq_false, simprocAttr]
  ·simp only [ht, evA, if_true, if_false, beq_false, simprocAttr]
   refine g1.call frz ?_
   by_cases hH4 : H < 40000
   ·obtain ⟨n', g5, g6, g7⟩ := g2 hH4
    simp only [q2, hH4, wH, evA, if_true, if_false, beq_false, simprocAttr]
    refine g5.call frz ?_
    simp only [g6, g7, wn, evA, if_true, if_false, beq_false, simprocAttr]
    refine awake.call .nil ?_
    simp only [evA, if_true, if_false, beq_false, simprocAttr]
   ·simp only [q2, hH4, evA, if_true, if_false, beq_false, simprocAttr]
    refine awake.call .nil ?_
    simp only [evA, if_true, if_false, beq_false, simprocAttr]
theorem law_ClassAges (avs : List AV) (h : Args Tryz.prog Tryz.f9.params.toList avs) : AC Tryz.prog 9 avs [] fun r _ => r = .b true := by
 have h : Args Tryz.prog [65, 5, 5] avs := h
 obtain ⟨cs1, avs, rfl, h1, h⟩ := args_cons h
 obtain ⟨cs2, avs, rfl, h2, h⟩ := args_cons h
 obtain ⟨cs3, avs, rfl, h3, h⟩ := args_cons h
 cases args_nil h
 obtain ⟨x, y, e1, b1, b2⟩ := typed_u2 h1
 obtain ⟨n1, rfl, w1⟩ := typed_int Tryz.underlying5 h2
 obtain ⟨n2, rfl, w2⟩ := typed_int Tryz.underlying5 h3
 have e2 : ∀ n, avOf Tryz.prog 5 [.int .u8 n] = .cv (.int .u8 n) := fun n => by simp [avOf, Tryz.underlying5]
 rw [e1, e2, e2]
 exact lc9 _ _ _ _ b1 b2 (wf_u8 w1) (wf_u8 w2)
end Go.Proofs.YtpnghcaccfnngaaGreatDoor.AM

/- Parts of the proof of Checks. -/
import Derived.Test.YtpnghcaccfnngaaGreatDoorRows
import Derived.WalkKit
import Derived.ProofKit
import Derived.OpenShut
import Derived.Carry
import Derived.Test.YtpnghcaccfnngaaGreatDoorZ17
set_option linter.unusedVariables false
set_option linter.unusedSimpArgs false
set_option linter.unusedSectionVars false
namespace Go.Proofs.YtpnghcaccfnngaaGreatDoor.AM
variable [Dr]
open Go Go.ChangeShapes Go.WideShapes Go.ChangeAt Go.RowKit
abbrev noO : Nat → Prop := Own (fun _ => none) (fun _ => False)
theorem not_noO (b : Nat) : ¬ noO b := by rintro (h | ⟨l, hl⟩); exact h; cases hl
theorem fin_choice {α : Type} {Q : Nat → α → Prop} : ∀ (n : Nat), (∀ i, i < n → ∃ l, Q i l) → ∃ L : List α, L.length = n ∧ ∀ (i : Nat) (l : α), L[i]? = some l → Q i l
 | 0, _ => ⟨[], rfl, by simp⟩
 | n + 1, h => by
  obtain ⟨L, h1, h2⟩ := fin_choice n (fun i hi => h i (by omega))
  obtain ⟨l, hl⟩ := h n (by omega)
  refine ⟨L ++ [l], by simp [h1], fun i l' hi => ?_⟩
  rcases Nat.lt_or_ge i n with hlt | hge
  ·rw [List.getElem?_append_left (by omega)] at hi; exact h2 i l' hi
  ·rw [List.getElem?_append_right (by omega), h1] at hi
   have : i = n := by
    rcases Nat.lt_or_ge n i with h' | h'
    ·rw [List.getElem?_eq_none (by simp; omega)] at hi; cases hi
    ·omega
   subst this
   simp at hi; subst hi; exact hl
theorem flat_rel {R : Nat → CV → Prop} {esz : Nat} : ∀ (L : List (List CV)) (n : Nat), (∀ (i : Nat) (l : List CV), L[i]? = some l → l.length = esz ∧ ∀ (j : Nat) (c : CV), l[j]? = some c → R (n + i * esz + j) c) →
  L.flatten.length = L.length * esz ∧ ∀ (k : Nat) (c : CV), L.flatten[k]? = some c → R (n + k) c
 | [], n, _ => by simp
 | l :: L, n, h => by
  obtain ⟨h1, h2⟩ := h 0 l (by simp)
  have ih := flat_rel L (n + esz) (fun i l' hi => by
   obtain ⟨g1, g2⟩ := h (i + 1) l' (by simpa using hi)
   refine ⟨g1, fun j c hj => ?_⟩
   have := g2 j c hj
   rwa [Nat.add_mul, Nat.one_mul, ← Nat.add_assoc, Nat.add_right_comm n] at this)
  refine ⟨by simp [h1, ih.1, Nat.add_mul, Nat.add_comm], fun k c hk => ?_⟩
  rw [List.flatten_cons] at hk
  rcases Nat.lt_or_ge k l.length with hlt | hge
  ·rw [List.getElem?_append_left hlt] at hk
   have := h2 k c hk
   simpa using this
  ·rw [List.getElem?_append_right hge] at hk
   have := ih.2 (k - l.length) c hk
   rwa [show n + esz + (k - l.length) = n + k by omega] at this
theorem flat_relF {P : Program} {R : Nat → CV → Prop} {N : Nat} : ∀ (fs : List Field) (L : List (List CV)) (n : Nat), fieldsEnd P fs n = some N → L.length = fs.length →
  (∀ (i : Nat) (f : Field) (l : List CV), fs[i]? = some f → L[i]? = some l → l.length = P.cellsOf f.type ∧ ∀ (j : Nat) (c : CV), l[j]? = some c → R (f.offset + j) c) →
  n + L.flatten.length = N ∧ ∀ (k : Nat) (c : CV), L.flatten[k]? = some c → R (n + k) c
 | [], L, n, he, hl, _ => by
  have : L = [] := List.eq_nil_of_length_eq_zero (by simpa using hl)
  subst this
  simp only [fieldsEnd, Option.some.injEq] at he
  simp [he]
 | f :: fs, [], n, _, hl, _ => by simp at hl
 | f :: fs, l :: L, n, he, hl, h => by
  simp only [fieldsEnd] at he
  split at he
  ·rename_i hoff
   obtain ⟨h1, h2⟩ := h 0 f l (by simp) (by simp)
   have ih := flat_relF fs L (n + P.cellsOf f.type) he (by simpa using hl) (fun i f' l' hf hl' => h (i + 1) f' l' (by simpa using hf) (by simpa using hl'))
   refine ⟨by rw [← ih.1]; simp [h1]; omega, fun k c hk => ?_⟩
   rw [List.flatten_cons] at hk
   rcases Nat.lt_or_ge k l.length with hlt | hge
   ·rw [List.getElem?_append_left hlt] at hk
    have := h2 k c hk
    rwa [hoff] at this
   ·rw [List.getElem?_append_right hge] at hk
    have := ih.2 (k - l.length) c hk
    rwa [show n + P.cellsOf f.type + (k - l.length) = n + k by omega] at this
  ·cases he
theorem reps_of_all {W : World} {a : Addr} : ∀ (cs : List CV) (i : Nat), (∀ (j : Nat) (c : CV), cs[j]? = some c → ∃ v, W.cell? (a.add (i + j)) = some v ∧ c.rep W noO v) → CV.reps W noO cs a i
 | [], _, _ => by simp [CV.reps]
 | c :: cs, i, h => by
  simp only [CV.reps]
  refine ⟨not_noO _, by simpa using h 0 c (by simp), reps_of_all cs (i + 1) fun j c' hj => ?_⟩
  have := h (j + 1) c' (by simpa using hj)
  rwa [show i + (j + 1) = i + 1 + j by omega] at this
section
variable {H : Type} {enc : TypeId × Value → H} {P : Program} {W : World}
theorem trod_typed : ∀ (n : Nat) (t : TypeId) (cs : List Value) (x : DataW H × List MemPlace) (fuel : Nat), openT P n t = true → DataW.trod enc P W 0 (fun _ => true) true fuel t cs = some x →
  ∃ cvs : List CV, Typed P t cvs ∧ cvs.length = cs.length ∧ ∀ (i : Nat) (c : CV) (v : Value), cvs[i]? = some c → cs[i]? = some v → c.rep W noO v
 | 0, t, cs, x, fuel, ho, _ => by simp [openT] at ho
 | n + 1, t, cs, x, fuel, ho, h => by
  simp only [openT] at ho
  split at ho
  ·rename_i ht
   obtain ⟨b, rfl, _⟩ := DataW.trod_bool ht h
   refine ⟨[.bool b], .bool ht b, rfl, fun i c v h1 h2 => ?_⟩
   cases i with
   | zero => simp at h1 h2; subst h1 h2; simp [CV.rep]
   | succ i => simp at h1
  ·rename_i k ht
   obtain ⟨b, rfl, _, hw⟩ := DataW.trod_int ht h
   refine ⟨[.int k b], .int ht b hw, rfl, fun i c v h1 h2 => ?_⟩
   cases i with
   | zero => simp at h1 h2; subst h1 h2; simp [CV.rep]
   | succ i => simp at h1
  ·rename_i ht
   obtain ⟨s, rfl, _, hw⟩ := DataW.trod_string ht h
   refine ⟨[.str s], .str ht s hw, rfl, fun i c v h1 h2 => ?_⟩
   cases i with
   | zero => simp at h1 h2; subst h1 h2; simp [CV.rep]
   | succ i => simp at h1
  ·rename_i e ht
   rcases DataW.trod_slice ht h with ⟨rfl, _⟩ | ⟨a, len, cap, elems, rest, m, _, rfl, _, _, hlc, hcm, hel, hget, _⟩
   ·refine ⟨[.rsl [] 0], by simpa using Typed.slc ht [] (by simp) (by simp) (by simp), rfl, fun i c v h1 h2 => ?_⟩
    cases i with
    | zero => simp at h1 h2; subst h1 h2; simp [CV.rep]
    | succ i => simp at h1
   ·obtain ⟨L, hL, hQ⟩ := fin_choice (Q := fun i l => Typed P e l ∧ l.length = P.cellsOf e ∧ ∀ (j : Nat) (c : CV), l[j]? = some c → ∃ v, W.cell? (a.add (i * P.cellsOf e + j)) = some v ∧ c.rep W noO v) len (fun i hi => by
     have hg := hget i hi
     rw [List.getElem?_eq_getElem (by omega)] at hg
     obtain ⟨ci, h1, h2⟩ := Option.bind_eq_some_iff.1 hg
     obtain ⟨_, hlen, hcell⟩ := World.cells?_some h1
     obtain ⟨cvs, g1, g2, g3⟩ := trod_typed n e ci _ _ ho h2
     refine ⟨cvs, g1, by omega, fun j c hj => ?_⟩
     have hjl : j < cvs.length := (List.getElem?_eq_some_iff.1 hj).1
     have hc := hcell j (by omega)
     rw [List.getElem?_eq_getElem (by omega)] at hc
     exact ⟨_, by rw [← Addr.add_add]; exact hc, g3 j c _ hj (List.getElem?_eq_getElem _)⟩)
    have hmem : ∀ l ∈ L, ∃ i : Nat, L[i]? = some l := fun l hl => List.mem_iff_getElem?.1 hl
    have hfl := flat_rel (R := fun k c => ∃ v, W.cell? (a.add k) = some v ∧ c.rep W noO v) (esz := P.cellsOf e) L 0 (fun i l hi => ⟨(hQ i l hi).2.1, fun j c hj => by simpa using (hQ i l hi).2.2 j c hj⟩)
    refine ⟨[.rsl L.flatten L.length], Typed.slc ht L (by omega) (fun l hl => let ⟨i, hi⟩ := hmem l hl; (hQ i l hi).2.1) (fun l hl => let ⟨i, hi⟩ := hmem l hl; (hQ i l hi).1), rfl, fun i c v h1 h2 => ?_⟩
    cases i with
    | zero =>
     simp at h1 h2; subst h1 h2
     simp only [CV.rep]
     exact .inr ⟨a, cap, by rw [hL], by omega, reps_of_all _ 0 (fun j c hj => hfl.2 j c hj)⟩
    | succ i => simp at h1
  ·rename_i k e ht
   simp only [Bool.and_eq_true, decide_eq_true_eq] at ho
   obtain ⟨xs, m, _, _, hlen, hxs, hget⟩ := DataW.trod_array ht h
   obtain ⟨L, hL, hQ⟩ := fin_choice (Q := fun i l => Typed P e l ∧ l.length = P.cellsOf e ∧ ∀ (j : Nat) (c : CV), l[j]? = some c → ∀ v, cs[i * P.cellsOf e + j]? = some v → c.rep W noO v) k (fun i hi => by
     have hg := hget i hi
     rw [List.getElem?_eq_getElem (by omega)] at hg
     obtain ⟨cvs, g1, g2, g3⟩ := trod_typed n e _ _ _ ho.1 hg
     have hik : i * P.cellsOf e + P.cellsOf e ≤ k * P.cellsOf e := by
      have := Nat.mul_le_mul_right (P.cellsOf e) (show i + 1 ≤ k by omega)
      rwa [Nat.add_mul, Nat.one_mul] at this
     have hl2 : cvs.length = P.cellsOf e := by rw [g2]; simp; omega
     refine ⟨cvs, g1, hl2, fun j c hj v hv => ?_⟩
     have hjl : j < cvs.length := (List.getElem?_eq_some_iff.1 hj).1
     exact g3 j c v hj (by rw [List.getElem?_take, if_pos (by omega), List.getElem?_drop]; exact hv))
   have hmem : ∀ l ∈ L, ∃ i : Nat, L[i]? = some l := fun l hl => List.mem_iff_getElem?.1 hl
   have hfl := flat_rel (R := fun k c => ∀ v, cs[k]? = some v → c.rep W noO v) (esz := P.cellsOf e) L 0 (fun i l hi => ⟨(hQ i l hi).2.1, fun j c hj => by simpa using (hQ i l hi).2.2 j c hj⟩)
   exact ⟨L.flatten, Typed.arr ht L hL (fun l hl => let ⟨i, hi⟩ := hmem l hl; (hQ i l hi).2.1) (fun l hl => let ⟨i, hi⟩ := hmem l hl; (hQ i l hi).1), by rw [hfl.1, hlen, ho.2, hL], fun i c v h1 h2 => hfl.2 i c h1 v (by simpa using h2)⟩
  ·rename_i fs ht
   simp only [Bool.and_eq_true, decide_eq_true_eq, List.all_eq_true] at ho
   obtain ⟨xs, m, _, _, hlen, hxs, hget⟩ := DataW.trod_struct ht h
   obtain ⟨L, hL, hQ⟩ := fin_choice (Q := fun i l => ∀ f, fs[i]? = some f → Typed P f.type l ∧ l.length = min (P.cellsOf f.type) (cs.length - f.offset) ∧ ∀ (j : Nat) (c : CV), l[j]? = some c → ∀ v, cs[f.offset + j]? = some v → c.rep W noO v) fs.size (fun i hi => by
     have hfi : fs[i]? = some fs[i] := Array.getElem?_eq_getElem hi
     have hg := hget i fs[i] hfi
     rw [List.getElem?_eq_getElem (by omega)] at hg
     obtain ⟨cvs, g1, g2, g3⟩ := trod_typed n _ _ _ _ (ho.1 fs[i] (by simp)) hg
     have hl2 : cvs.length = min (P.cellsOf fs[i].type) (cs.length - fs[i].offset) := by rw [g2]; simp
     refine ⟨cvs, fun f hf => ?_⟩
     rw [hfi] at hf; cases hf
     refine ⟨g1, hl2, fun j c hj v hv => ?_⟩
     have hjl : j < cvs.length := (List.getElem?_eq_some_iff.1 hj).1
     exact g3 j c v hj (by rw [List.getElem?_take, if_pos (by omega), List.getElem?_drop]; exact hv))
   have hoff : ∀ (fs : List Field) (n N : Nat), fieldsEnd P fs n = some N → n ≤ N ∧ ∀ (i : Nat) (f : Field), fs[i]? = some f → f.offset + P.cellsOf f.type ≤ N := by
    intro fs
    induction fs with
    | nil => intro n N h; simp only [fieldsEnd, Option.some.injEq] at h; simp [h]
    | cons f fs ih =>
     intro n N h
     simp only [fieldsEnd] at h
     split at h
     ·rename_i ho
      obtain ⟨h1, h2⟩ := ih _ _ h
      refine ⟨by omega, fun i f' hi => ?_⟩
      cases i with
      | zero => simp at hi; subst hi; omega
      | succ i => exact h2 i f' (by simpa using hi)
     ·cases h
   have hin := (hoff _ _ _ ho.2).2
   have hl : ∀ (i : Nat) (f : Field) (l : List CV), fs[i]? = some f → L[i]? = some l → l.length = P.cellsOf f.type := by
    intro i f l hf hl
    obtain ⟨_, h2, _⟩ := hQ i l hl f hf
    have := hin i f (by simpa using hf)
    omega
   have hfl := flat_relF (P := P) (R := fun k c => ∀ v, cs[k]? = some v → c.rep W noO v) fs.toList L 0 ho.2 (by simpa using hL) (fun i f l hf hl' =>
    ⟨hl i f l (by simpa using hf) hl', fun j c hj => (hQ i l hl' f (by simpa using hf)).2.2 j c hj⟩)
   exact ⟨L.flatten, Typed.struct ht L hL hl (fun i f l hf hl' => (hQ i l hl' f hf).1), by have := hfl.1; omega, fun i c v h1 h2 => hfl.2 i c h1 v (by simpa using h2)⟩
  ·cases ho
abbrev noX : Nat → Prop := fun _ => False
theorem VRels_of_all : ∀ (cvs : List CV) (vs : List Value), cvs.length = vs.length → (∀ (i : Nat) (c : CV) (v : Value), cvs[i]? = some c → vs[i]? = some v → c.rep W noO v) → VRels nom noX W (cvs.map .cv) vs
 | [], [], _, _ => by simp [VRels]
 | c :: cvs, v :: vs, hl, h => by
  simp only [List.map_cons, VRels, VRel]
  exact ⟨h 0 c v rfl rfl, VRels_of_all cvs vs (by simpa using hl) fun i c v h1 h2 => h (i + 1) c v (by simpa using h1) (by simpa using h2)⟩
 | [], _ :: _, hl, _ => by simp at hl
 | _ :: _, [], hl, _ => by simp at hl
theorem arg_typed {n : Nat} {t : TypeId} {v : Value} {d : DataW H} {ps : List MemPlace} {r : Reach} {base : Nat} (ho : openT P n t = true) (hval : Value.okWide P W r base t v) (h : DataW.Trod enc P W 0 (fun _ => true) true t v d ps) :
  ∃ cs, Typed P t cs ∧ VRel nom noX W (avOf P t cs) v := by
 obtain ⟨fuel, h⟩ := h
 obtain ⟨cvs, h1, h2, h3⟩ := trod_typed n t _ _ _ ho h
 refine ⟨cvs, h1, ?_⟩
 unfold avOf
 have one : (v.cells.toList = [v]) → VRel nom noX W (.cv (cvs.headD .nilp)) v := by
  intro hv
  rw [hv] at h2 h3
  match cvs, h2 with
  | [c], _ => simp only [List.headD_cons, VRel]; exact h3 0 c v rfl rfl
 cases n with
 | zero => simp [openT] at ho
 | succ n =>
  simp only [openT] at ho
  split at ho
  ·rename_i ht; rw [ht]; obtain ⟨b, rfl⟩ := okWide_bool ht hval; exact one rfl
  ·rename_i ht; rw [ht]; obtain ⟨b, rfl⟩ := okWide_int ht hval; exact one rfl
  ·rename_i ht; rw [ht]; obtain ⟨b, rfl⟩ := okWide_string ht hval; exact one rfl
  ·rename_i ht; rw [ht]; obtain ⟨_, _, _, rfl⟩ := okWide_slice ht hval; exact one rfl
  ·rename_i ht; rw [ht]
   simp only [Value.okWide, ht] at hval
   obtain ⟨arr, rfl, _⟩ := hval
   simp only [VRel]
   exact ⟨arr.toList, by simp, VRels_of_all _ _ h2 h3⟩
  ·rename_i ht; rw [ht]
   simp only [Value.okWide, ht] at hval
   obtain ⟨arr, rfl, _⟩ := hval
   simp only [VRel]
   exact ⟨arr.toList, by simp, VRels_of_all _ _ h2 h3⟩
  ·cases ho
theorem args_typed {n : Nat} {r : Reach} {base : Nat} : ∀ {ts : List TypeId} {vs : List Value} {ds : List (DataW H)} {ps : List MemPlace}, (ts.all (openT P n)) = true →
  (∀ (j : Nat) (t : TypeId) (v : Value), ts[j]? = some t → vs[j]? = some v → Value.okWide P W r base t v) → DataW.TrodAll enc P W 0 (fun _ => true) true ts vs ds ps →
  ds.length = ts.length ∧ ∃ avs, Args P ts avs ∧ VRels nom noX W avs vs
 | [], _, _, _, _, _, h => by
  obtain ⟨rfl, rfl, rfl⟩ := trodAll_nil h
  exact ⟨rfl, [], .nil, by simp [VRels]⟩
 | t :: ts, _, _, _, ho, hval, h => by
  obtain ⟨v, vs1, d, ds1, a, b, rfl, rfl, rfl, h1, h2⟩ := trodAll_cons h
  simp only [List.all_cons, Bool.and_eq_true] at ho
  obtain ⟨cs, g1, g2⟩ := arg_typed ho.1 (hval 0 t v rfl rfl) h1
  obtain ⟨hl, avs, g3, g4⟩ := args_typed ho.2 (fun j t v h1 h2 => hval (j + 1) t v (by simpa using h1) (by simpa using h2)) h2
  exact ⟨by simp [hl], _, .cons g1 g3, by simp only [VRels]; exact ⟨g2, g4⟩⟩
theorem trodAll_below (hl : laidOutB P = true) {W' : World} (hb : Below W.heap.size W W') : ∀ {ts : List TypeId} {vs : List Value} {ds : List (DataW H)} {ps : List MemPlace}, (ts.all fun t => P.readableRec t && decide (t < P.types.size)) = true →
  DataW.TrodAll enc P W 0 (fun _ => true) true ts vs ds ps → (∀ x ∈ ps, x.block < W.heap.size) → DataW.TrodAll enc P W' 0 (fun b => decide (b < W.heap.size)) true ts vs ds ps
 | [], _, _, _, _, h, _ => by
  obtain ⟨rfl, rfl, rfl⟩ := trodAll_nil h
  exact trodAll_mk0
 | t :: ts, _, _, _, ho, h, hlt => by
  obtain ⟨v, vs1, d, ds1, a, b, rfl, rfl, rfl, h1, h2⟩ := trodAll_cons h
  simp only [List.all_cons, Bool.and_eq_true, decide_eq_true_eq] at ho
  refine trodAll_cons_mk (Below.trod hl ho.1.1 ho.1.2 h1 hb fun x hx => hlt x (by simp [hx])) (trodAll_below hl hb ?_ h2 fun x hx => hlt x (by simp [hx]))
  simpa using ho.2
theorem law_of_AC {f : FuncId} {fn : Func} {s : ChangeSpec} {n : Nat} {t : TypeId} {base : Nat} {args : Array Value} {ds gs : List (DataW H)} {before : List MemPlace}
  (hl : laidOutB P = true) (hpar : (fn.params.toList.all fun t => P.readableRec t && decide (t < P.types.size)) = true) (ho : fn.params.toList.all (openT P n) = true)
  (hres : fn.resultTypes = #[t]) (htb : P.underlying t = some .bool) (hsv : s.vars = []) (hs : ∀ ds : List (DataW H), ds.length = fn.params.toList.length → s.fn H ds = { results := [.lit (.bool true)], args := ds })
  (hAC : ∀ avs, Args P fn.params.toList avs → AC P f avs [] fun r _ => r = .b true)
  (hval : ∀ (j : Nat) t v, fn.params[j]? = some t → args[j]? = some v → Value.okWide P W .any base t v)
  (hW : DataW.Whole enc P fn.params.toList s.vars false W args.toList ds gs before) :
  Calls P f args W fun e W' => ∃ v, e = .returned v ∧ s.post enc P fn false true false false W args v W' := by
 have hW' := hW
 obtain ⟨p, q, hA, hV, rfl, hfz, hnd⟩ := hW
 rw [hsv] at hV
 obtain ⟨rfl, rfl⟩ := trodVars_none hV
 have hlt : ∀ x ∈ p, x.block < W.heap.size := fun x hx => hW'.lt x (by simp [hx])
 obtain ⟨hlen, avs, hav, hrel⟩ := args_typed ho (fun j t v h1 h2 => hval j t v (by simpa using h1) (by simpa using h2)) hA
 have hcall := (hAC avs hav).2 nom noX W args.toList hrel ⟨by simp, by simp, by simp, by simp, by simp⟩
 have hcall := callsIn_wide.1 hcall
 simp only [Array.toArray_toList] at hcall
 refine hcall.mono fun e W' ⟨c, r, σ', m', he, hq, hr, _, hst, _⟩ => ?_
 subst he hq
 simp only [VRel, CV.rep] at hr
 subst hr
 have hb : Below W.heap.size W W' := ⟨hst.os, hst.tape, hst.output, hst.size, fun k hk => hst.fr k hk (.inr (by simp))⟩
 have hsf : s.fn H (ds ++ []) = { results := [.lit (.bool true)], args := ds } := by rw [List.append_nil]; exact hs ds hlen
 refine ⟨_, rfl, ds, [], p ++ [], [], p, [], hW', ?_, ?_, ?_, hb.frame _, fun h => by simp at h⟩
 ·rw [hsf, hres]
  exact trodAll_mk1 (shut_bool htb true)
 ·rw [hsf]
  exact trodAll_below hl hb hpar hA hlt
 ·rw [hsf, hsv]
  rfl
end
end Go.Proofs.YtpnghcaccfnngaaGreatDoor.AM
namespace Go.Proofs.YtpnghcaccfnngaaGreatDoor.AM
variable [Dr]
open Go
theorem SameSite.trans {a b c : ALoop} (h : SameSite a b) (k : SameSite b c) : SameSite a c :=
 ⟨k.1.trans h.1, k.2.1.trans h.2.1, k.2.2.1.trans h.2.2.1, k.2.2.2.1.trans h.2.2.2.1, k.2.2.2.2.trans h.2.2.2.2⟩
theorem LoopKeep.trans {a b c : List AObj} (h : LoopKeep a b) (k : LoopKeep b c) : LoopKeep a c := fun l r hr =>
 let ⟨r1, h1, h2⟩ := h l r hr
 let ⟨r2, h3, h4⟩ := k l r1 h1
 ⟨r2, h3, h2.trans h4⟩
abbrev vs55 : List Nat := [0, 1, 2, 4, 5, 8, 9, 10, 11, 28, 30, 38, 44]
def ic55l0 : IC := (.seq (.seq (.region [jv 8, jv 6, je 1, jw 11 (.bin .lss .int) [.t 0, .t 2]])
 (.cond 11 .skip
 (.exit 0)))
 (.seq (.block 1 (.seq (.region [jv 6, jv 8, ja 1 0 1, jw 12 .load1 [.t 2]])
 (.cond 12 (.region [jv 7, jv 8, jq (.bslice 1 1 [(.cv (.int .i64 0))] [(0, 1)]) [.t 1], jq (.append 1 8) [.t 0, .t 2], jm 7 3])
 .skip)))
 (.region [jv 8, jq (.bin .add .int) [.t 0, jn 1], jm 8 1])))
def ic55 : IC := (.seq (.region [jb 2 0, jw 3 .mv [jS], jz 4 0])
 (.seq (.region [jN 2 2, jk 54 [.t 0], jt 1, jx 0 2, jx 1 2, jx 2 2, jt 3, jt 4, jm 5 5])
 (.seq (.seq (.region [jv 5, jq (.bin .eql .int) [.t 0, jn 0], jt 1, jh 2 true 1, jg 2 true (.fadd 0) [.v 2], ji 2 true 4, jg 2 true (.len false) [.t 5], jg 2 true (.bin .sub .int) [.t 6, jn 1], jf 2 true 59 [.t 3, jn 0, .t 7], jg 2 true .not [.t 8], jw 9 .pick [.t 2, .t 9, jB false]])
 (.cond 9 (.region [jz 5 4])
 .skip))
 (.seq (.seq (.region [jv 5, jw 10 (.bin .neq .int) [.t 0, jn 0]])
 (.cond 10 (.seq (.region [jv 5, jw 3 .mv [jS], jm 4 0])
 .ret)
 .skip))
 (.seq (.region [jN 2 2, jv 1, jk 51 [.t 0, .t 1], jm 6 2])
 (.seq (.region [jw 7 .mv [jS]])
 (.seq (.seq (.region [jz 8 0])
 (.block 0 (.loop ic55l0)))
 (.seq (.region [jv 7, jm 3 0, jz 4 0])
 .ret))))))))
abbrev rs55 : List RC := [(.v 3), (.v 4)]
theorem fok55 (p : Bool) : FnOk Tryz.prog 55 ⟨ic55, vs55, 50, rs55, p⟩ := .mk2 Tryz.func55 (by kernel_rfl) (by kernel_rfl) (by kernel_rfl) (by kernel_rfl) (by kernel_rfl)
end Go.Proofs.YtpnghcaccfnngaaGreatDoor.AM
namespace Go.Proofs.YtpnghcaccfnngaaGreatDoor.AM
variable [Dr]
open Go Pl
theorem c55 (s : Sys) (hs : SSz s) (c : Int) : PC Tryz.prog 55 [sysV s, .i c] (cvsV s c) := by
 refine ⟨AC_FE (fok55 true) (Nat.le_of_ble_eq_true rfl) ?_, by unfold cvsV; repeat (split <;> try rfl)⟩
 have hcl := hs.cl
 have hn0 := sysE_n (s := s)
 have h54 := c54 s hs
 unfold chkV at h54
 unfold cvsV
 generalize sysE s = e at hn0 h54
 obtain ⟨e1, e2, e3⟩ := e
 have hw : IntKind.i64.wrap ((s.cl.length : Int) - 1) = (s.cl.length : Int) - 1 := wrap_in (by omega)
 by_cases he : e3 = 0
 rotate_left
 ·have hb : (e3 != 0) = true := by simpa using he
  have hb2 : (e3 == 0) = false := by simpa using he
  rw [if_pos he]
  simp only [ic55, f_box, cellsOf, evA, if_true, if_false, beq_false, simprocAttr]
  refine h54.call frz ?_
  simp only [hb, hb2, evA, if_true, if_false, beq_false, simprocAttr]
  exact frz
 obtain ⟨⟨hn1, hn12⟩, _, hok⟩ := hn0 he
 have hb : (e3 == 0) = true := by simpa using he
 have hb2 : (e3 != 0) = false := by simpa using he
 rw [if_neg (show ¬ (e3 ≠ 0) from fun h => h he)]
 have h59 := c59i c 0 ((s.cl.length : Int) - 1)
 simp only [ic55, f_box, cellsOf, evA, if_true, if_false, beq_false, simprocAttr]
 refine h54.call frz ?_
 simp only [hb, hw, evA, if_true, if_false, beq_false, simprocAttr]
 refine h59.call frz ?_
 cases hc : inB c 0 ((s.cl.length : Int) - 1) with
 | false =>
  have hb4 : ((4 : Int) != 0) = true := by decide
  rw [if_pos rfl]
  simp only [hb4, evA, if_true, if_false, beq_false, simprocAttr]
  exact frz
 | true =>
 rw [if_neg (by decide)]
 rw [inB_iff] at hc
 obtain ⟨k, rfl⟩ : ∃ k : Nat, c = (k : Int) := ⟨c.toNat, by omega⟩
 have hk : k < s.cl.length := by omega
 have e40 : (2 : Nat) ^ 40 = 1099511627776 := by decide
 rw [Int.toNat_natCast]
 simp only [hb2, evA, if_true, if_false, beq_false, simprocAttr]
 refine (c51 s hs (by omega) hok k hk).call frz ?_
 simp only [evA, if_true, if_false, beq_false, simprocAttr]
 refine IL_for s.cl.length (fun i s' => ∃ v7 v11 v12 σ, AccAt σ v7 (idxB (covB s k) i) ∧ s' = ⟨[sysV s, .i k, .ptr 0 0, .cv .nils, .i 0, .i e3, .cv (boolR (cov s k)), v7, .i i, .b false, .b false, v11, v12], σ⟩) ?_ 0 (Nat.zero_le _) ⟨_, _, _, _, AccAt.nil _, rfl⟩
 rintro i s' hi ⟨v7, v11, v12, σ, hA, rfl⟩
 by_cases hin : i < s.cl.length
 ·simp only [ic55l0, Int.ofNat_lt, cov_len, hin, ia_cov hin, Nat.mul_one, cov_get hin, evA, if_true, if_false, beq_false, simprocAttr]
  cases hcv : covB s k i with
  | false =>
   have hst : idxB (covB s k) (i + 1) = idxB (covB s k) i := by rw [idxB, hcv]; simp
   simp only [wrap_succ (show i + 1 < 2 ^ 63 by omega), evA, if_true, if_false, beq_false, simprocAttr]
   exact kFor_go (by first | trivial | omega) ⟨_, _, _, _, by rw [hst]; exact hA, rfl⟩
  | true =>
   have hlen := idxB_len (covB s k) i
   obtain ⟨v', σ', happ, hA'⟩ := acc_append (i : Int) hA (by omega)
   have hst : idxB (covB s k) (i + 1) = idxB (covB s k) i ++ [(i : Int)] := by rw [idxB, hcv]; rfl
   simp only [happ, wrap_succ (show i + 1 < 2 ^ 63 by omega), evA, if_true, if_false, beq_false, simprocAttr]
   exact kFor_go (by first | trivial | omega) ⟨_, _, _, _, by rw [hst]; exact hA', rfl⟩
 ·have hin' : i = s.cl.length := by omega
  subst hin'
  have hvu : v7.isUndef = false := by rcases hA with ⟨rfl, _⟩ | ⟨l, rfl, _⟩ <;> rfl
  simp only [ic55l0, Int.ofNat_lt, cov_len, hin, hvu, evA, if_true, if_false, beq_false, simprocAttr]
  exact .tup (.cons (acc_frz (fun _ => trivial) hA) (.cons (.c (.c _ trivial)) .nil))
end Go.Proofs.YtpnghcaccfnngaaGreatDoor.AM
namespace Go.Proofs.YtpnghcaccfnngaaGreatDoor.AM
variable [Dr]
open Go
theorem typed_int {P : Program} {t : TypeId} {k : IntKind} {cs : List CV} (ht : P.underlying t = some (.int k)) (h : Typed P t cs) : ∃ n, cs = [.int k n] ∧ (Lit.int k n).wf = true := by
 cases h with
 | int ht' n hw => rw [ht] at ht'; cases ht'; exact ⟨n, rfl, hw⟩
 | bool ht' => rw [ht] at ht'; cases ht'
 | str ht' => rw [ht] at ht'; cases ht'
 | slc ht' => rw [ht] at ht'; cases ht'
 | arr ht' => rw [ht] at ht'; cases ht'
 | struct ht' => rw [ht] at ht'; cases ht'
theorem typed_str {P : Program} {t : TypeId} {cs : List CV} (ht : P.underlying t = some .string) (h : Typed P t cs) : ∃ s : ByteArray, cs = [.str s] ∧ s.size ≤ maxLen := by
 cases h with
 | str ht' s hs => exact ⟨s, rfl, hs⟩
 | bool ht' => rw [ht] at ht'; cases ht'
 | int ht' => rw [ht] at ht'; cases ht'
 | slc ht' => rw [ht] at ht'; cases ht'
 | arr ht' => rw [ht] at ht'; cases ht'
 | struct ht' => rw [ht] at ht'; cases ht'
theorem typed_slc {P : Program} {t e : TypeId} {cs : List CV} (ht : P.underlying t = some (.slice e)) (h : Typed P t cs) : ∃ L : List (List CV), cs = [.rsl L.flatten L.length] ∧ L.length ≤ maxLen ∧ (∀ l ∈ L, l.length = P.cellsOf e) ∧ ∀ l ∈ L, Typed P e l := by
 cases h with
 | slc ht' L hn hl h => rw [ht] at ht'; cases ht'; exact ⟨L, rfl, hn, hl, h⟩
 | bool ht' => rw [ht] at ht'; cases ht'
 | int ht' => rw [ht] at ht'; cases ht'
 | str ht' => rw [ht] at ht'; cases ht'
 | arr ht' => rw [ht] at ht'; cases ht'
 | struct ht' => rw [ht] at ht'; cases ht'
theorem typed_struct {P : Program} {t : TypeId} {fs : Array Field} {cs : List CV} (ht : P.underlying t = some (.struct fs)) (h : Typed P t cs) : ∃ L : List (List CV), cs = L.flatten ∧ L.length = fs.size ∧ ∀ (i : Nat) (f : Field) (l : List CV), fs[i]? = some f → L[i]? = some l → Typed P f.type l := by
 cases h with
 | struct ht' L hn hl h => rw [ht] at ht'; cases ht'; exact ⟨L, rfl, hn, h⟩
 | bool ht' => rw [ht] at ht'; cases ht'
 | int ht' => rw [ht] at ht'; cases ht'
 | str ht' => rw [ht] at ht'; cases ht'
 | slc ht' => rw [ht] at ht'; cases ht'
 | arr ht' => rw [ht] at ht'; cases ht'
theorem ints_of {P : Program} {e : TypeId} {k : IntKind} (he : P.underlying e = some (.int k)) : ∀ L : List (List CV), (∀ l ∈ L, Typed P e l) → ∃ zs : List Int, L.flatten = zs.map (.int k) ∧ L.length = zs.length ∧ ∀ z ∈ zs, (Lit.int k z).wf = true
 | [], _ => ⟨[], rfl, rfl, by simp⟩
 | l :: L, h => by
  obtain ⟨n, rfl, hn⟩ := typed_int he (h l (by simp))
  obtain ⟨zs, h1, h2, h3⟩ := ints_of he L fun l hl => h l (by simp [hl])
  exact ⟨n :: zs, by simp [h1], by simp [h2], by simpa using ⟨hn, h3⟩⟩
theorem args_cons {P : Program} {t : TypeId} {ts : List TypeId} {avs : List AV} (h : Args P (t :: ts) avs) : ∃ cs avs', avs = avOf P t cs :: avs' ∧ Typed P t cs ∧ Args P ts avs' := by
 generalize hts : t :: ts = u at h
 cases h with
 | nil => cases hts
 | cons h1 h2 => cases hts; exact ⟨_, _, rfl, h1, h2⟩
theorem args_nil {P : Program} {avs : List AV} (h : Args P [] avs) : avs = [] := by
 generalize hts : ([] : List TypeId) = u at h
 cases h with
 | nil => rfl
 | cons h1 h2 => cases hts
end Go.Proofs.YtpnghcaccfnngaaGreatDoor.AM
namespace Go.Proofs.YtpnghcaccfnngaaGreatDoor.AM
open Go Pl
theorem typed_list {α : Type} {f : α → List CV} {p : α → Prop} {t : TypeId} (h : ∀ cs, Typed Tryz.prog t cs → ∃ x, cs = f x ∧ p x) : ∀ L : List (List CV), (∀ l ∈ L, Typed Tryz.prog t l) → ∃ xs : List α, L.flatten = xs.flatMap f ∧ L.length = xs.length ∧ ∀ x ∈ xs, p x
 | [], _ => ⟨[], rfl, rfl, by simp⟩
 | l :: L, hl => by
  obtain ⟨x, h1, h2⟩ := h l (hl l (by simp))
  obtain ⟨xs, g1, g2, g3⟩ := typed_list h L fun l hh => hl l (by simp [hh])
  exact ⟨x :: xs, by simp [h1, g1], by simp [g2], by simpa using ⟨h2, g3⟩⟩
theorem typed_cls {cs : List CV} (h : Typed Tryz.prog 109 cs) : ∃ c : Cls, cs = clsC c ∧ c.nm.size ≤ maxLen ∧ c.inc.length ≤ maxLen := by
 obtain ⟨L, rfl, hn, hf⟩ := typed_struct Tryz.underlying109 h
 match L, hn with
 | [a, b, c, d, e], _ =>
  obtain ⟨s, rfl, h1⟩ := typed_str Tryz.underlying9 (hf 0 _ a rfl rfl)
  obtain ⟨L2, rfl, hn2, _, hl2⟩ := typed_slc Tryz.underlying54 (hf 1 _ b rfl rfl)
  obtain ⟨zs, g1, g2, g3⟩ := ints_of Tryz.underlying3 L2 hl2
  obtain ⟨n1, rfl, _⟩ := typed_int Tryz.underlying3 (hf 2 _ c rfl rfl)
  obtain ⟨n2, rfl, _⟩ := typed_int Tryz.underlying3 (hf 3 _ d rfl rfl)
  obtain ⟨n3, rfl, _⟩ := typed_int Tryz.underlying3 (hf 4 _ e rfl rfl)
  exact ⟨⟨s, zs, n1, n2, n3⟩, by simp [clsC, g1, g2], h1, by show zs.length ≤ maxLen; omega⟩
theorem typed_sys {cs : List CV} (h : Typed Tryz.prog 38 cs) : ∃ s : Sys, avOf Tryz.prog 38 cs = sysV s ∧ SSz s := by
 obtain ⟨L, rfl, hn, hf⟩ := typed_struct Tryz.underlying38 h
 match L, hn with
 | [a, b], _ =>
  obtain ⟨L1, rfl, n1, _, h1⟩ := typed_slc Tryz.underlying35 (hf 0 _ a rfl rfl)
  obtain ⟨L2, rfl, n2, _, h2⟩ := typed_slc Tryz.underlying36 (hf 1 _ b rfl rfl)
  obtain ⟨cs, a1, a2, a3⟩ := typed_list (fun cs h => typed_cls h) L1 h1
  obtain ⟨co, b1, b2, b3⟩ := typed_list (f := fun x : ByteArray => [CV.str x]) (p := fun x => x.size ≤ maxLen) (fun cs h => by
   obtain ⟨x, rfl, hx⟩ := typed_str Tryz.underlying9 h
   exact ⟨x, rfl, hx⟩) L2 h2
  have hm : maxLen < 2 ^ 63 := by decide
  have b1' : L2.flatten = co.map CV.str := by rw [b1, List.map_eq_flatMap]
  refine ⟨⟨cs, co⟩, ?_, ⟨by show cs.length < _; omega, by show co.length < _; omega, fun i hi => ?_, fun i hi => ?_, fun i hi => ?_⟩⟩
  ·simp only [avOf, Tryz.underlying38, a1, b1', a2, b2]
   rfl
  ·have hi : i < cs.length := hi
   show (cs[i]!).nm.size < _
   rw [getElem!_pos cs i hi]
   have := (a3 _ (List.getElem_mem hi)).1
   omega
  ·have hi : i < cs.length := hi
   show (cs[i]!).inc.length < _
   rw [getElem!_pos cs i hi]
   have := (a3 _ (List.getElem_mem hi)).2
   omega
  ·have hi : i < co.length := hi
   show (co[i]!).size < _
   rw [getElem!_pos co i hi]
   have := b3 _ (List.getElem_mem hi)
   omega
theorem typed_i {cs : List CV} (h : Typed Tryz.prog 3 cs) : ∃ x : Int, avOf Tryz.prog 3 cs = .i x ∧ (Lit.int .i64 x).wf = true := by
 obtain ⟨n, rfl, hw⟩ := typed_int Tryz.underlying3 h
 exact ⟨n, by simp [avOf, Tryz.underlying3], hw⟩
theorem cvs_form {s : Sys} (hs : SSz s) (c : Int) : ∃ L e, cvsV s c = .tup [ints L, .i e] ∧ L.length < 2 ^ 63 := by
 unfold cvsV
 split
 ·exact ⟨[], _, rfl, by decide⟩
 ·split
  ·exact ⟨[], _, rfl, by decide⟩
  ·have := idxB_len (covB s c.toNat) s.cl.length
   have := hs.cl
   exact ⟨_, _, rfl, by omega⟩
end Go.Proofs.YtpnghcaccfnngaaGreatDoor.AM
namespace Go.Proofs.YtpnghcaccfnngaaGreatDoor.AM
variable [Dr]
open Go
abbrev vs17 : List Nat := [0, 1, 2, 4, 5, 6, 7, 8, 9, 10, 11, 12, 37]
def ic17 : IC := (.seq (.region [jb 2 0, jw 3 .mv [jB false]])
 (.seq (.region [jN 2 2, jk 53 [.t 0], jt 1, jx 0 2, jx 1 2, jx 2 2, jm 4 3, jm 5 4, jm 6 5])
 (.seq (.region [jN 2 2, jk 54 [.t 0], jt 1, jx 0 2, jx 1 2, jx 2 2, jm 7 3, jm 8 4, jm 9 5])
 (.seq (.seq (.region [jv 4, jv 7, jq (.bin .neq .int) [.t 0, .t 1], jt 2, jh 3 false 5, jh 3 false 8, jg 3 false (.bin .neq .int) [.t 4, .t 5], jq .pick [.t 3, jB true, .t 6], jt 7, jh 8 false 6, jh 8 false 9, jg 8 false (.bin .neq .int) [.t 9, .t 10], jw 12 .pick [.t 8, jB true, .t 11]])
 (.cond 12 (.seq (.region [jw 3 .mv [jB false]])
 .ret)
 .skip))
 (.seq (.region [jN 2 2, jv 1, jk 42 [.t 0, .t 1], jt 2, jx 0 3, jx 1 3, jm 10 4, jm 6 5])
 (.seq (.region [jN 2 2, jv 1, jk 55 [.t 0, .t 1], jt 2, jx 0 3, jx 1 3, jm 11 4, jm 9 5])
 (.seq (.region [jv 10, jv 11, jk 45 [.t 0, .t 1], jt 2, jh 3 true 6, jh 3 true 9, jg 3 true (.bin .eql .int) [.t 4, .t 5], jq .pick [.t 3, .t 6, jB false], jt 7, jf 8 true 28 [], jq .pick [.t 8, .t 9, jB false], jm 3 10])
 .ret)))))))
abbrev rs17 : List RC := [(.v 3)]
theorem fok17 (p : Bool) : FnOk Tryz.prog 17 ⟨ic17, vs17, 61, rs17, p⟩ := .mk2 Tryz.func17 (by kernel_rfl) (by kernel_rfl) (by kernel_rfl) (by kernel_rfl) (by kernel_rfl)
end Go.Proofs.YtpnghcaccfnngaaGreatDoor.AM
namespace Go.Proofs.YtpnghcaccfnngaaGreatDoor.AM
open Go Pl
theorem lc17 (s : Sys) (hs : SSz s) (c : Int) : AC Tryz.prog 17 [sysV s, .i c] [] fun r _ => r = .b true := by
 refine AC_FE (fok17 true) (Nat.le_of_ble_eq_true rfl) ?_
 have h53 := c53 s hs
 have h54 := c54 s hs
 have h42 := c42 s hs c
 have h55 := c55 s hs c
 unfold chkV at h53 h54
 obtain ⟨L, e, h, hL⟩ := cvs_form hs c
 rw [h] at h42 h55
 have h45 := c45 L L hL hL
 rw [decide_eq_true rfl] at h45
 generalize sysE s = z at *
 obtain ⟨z1, z2, z3⟩ := z
 have n1 : (z1 != z1) = false := by simp
 have n2 : (z2 != z2) = false := by simp
 have n3 : (z3 != z3) = false := by simp
 have n4 : (e == e) = true := by simp
 simp only [ic17, f_box, cellsOf, evA, if_true, if_false, beq_false, simprocAttr]
 refine h53.call frz ?_
 simp only [evA, if_true, if_false, beq_false, simprocAttr]
 refine h54.call frz ?_
 simp only [n1, n2, n3, evA, if_true, if_false, beq_false, simprocAttr]
 refine h42.call frz ?_
 simp only [evA, if_true, if_false, beq_false, simprocAttr]
 refine h55.call frz ?_
 simp only [evA, if_true, if_false, beq_false, simprocAttr]
 refine h45.call frz ?_
 simp only [n4, evA, if_true, if_false, beq_false, simprocAttr]
 refine awake.call .nil ?_
 simp only [evA, if_true, if_false, beq_false, simprocAttr]
theorem law_ClassChecks (avs : List AV) (h : Args Tryz.prog Tryz.f17.params.toList avs) : AC Tryz.prog 17 avs [] fun r _ => r = .b true := by
 have h : Args Tryz.prog [38, 3] avs := h
 obtain ⟨cs1, avs, rfl, h1, h⟩ := args_cons h
 obtain ⟨cs2, avs, rfl, h2, h⟩ := args_cons h
 cases args_nil h
 obtain ⟨s, e1, hs⟩ := typed_sys h1
 obtain ⟨c, e2, _⟩ := typed_i h2
 rw [e1, e2]
 exact lc17 s hs c
end Go.Proofs.YtpnghcaccfnngaaGreatDoor.AM

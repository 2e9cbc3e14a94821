/- Parts of the proof of Days. -/
import Derived.Test.YtpnghcaccfnngaaGreatDoorRows
import Derived.WalkKit
import Derived.ProofKit
import Derived.OpenShut
import Derived.Carry
import Derived.Test.YtpnghcaccfnngaaGreatDoorZ17
set_option linter.unusedVariables false
set_option linter.unusedSimpArgs false
set_option linter.unusedSectionVars false
namespace Go.Proofs.YtpnghcaccfnngaaGreatDoor.AM
variable [Dr]
open Go Go.ChangeShapes Go.WideShapes Go.ChangeAt Go.RowKit
abbrev noO : Nat → Prop := Own (fun _ => none) (fun _ => False)
theorem not_noO (b : Nat) : ¬ noO b := by rintro (h | ⟨l, hl⟩); exact h; cases hl
theorem fin_choice {α : Type} {Q : Nat → α → Prop} : ∀ (n : Nat), (∀ i, i < n → ∃ l, Q i l) → ∃ L : List α, L.length = n ∧ ∀ (i : Nat) (l : α), L[i]? = some l → Q i l
 | 0, _ => ⟨[], rfl, by simp⟩
 | n + 1, h => by
  obtain ⟨L, h1, h2⟩ := fin_choice n (fun i hi => h i (by omega))
  obtain ⟨l, hl⟩ := h n (by omega)
  refine ⟨L ++ [l], by simp [h1], fun i l' hi => ?_⟩
  rcases Nat.lt_or_ge i n with hlt | hge
  ·rw [List.getElem?_append_left (by omega)] at hi; exact h2 i l' hi
  ·rw [List.getElem?_append_right (by omega), h1] at hi
   have : i = n := by
    rcases Nat.lt_or_ge n i with h' | h'
    ·rw [List.getElem?_eq_none (by simp; omega)] at hi; cases hi
    ·omega
   subst this
   simp at hi; subst hi; exact hl
theorem flat_rel {R : Nat → CV → Prop} {esz : Nat} : ∀ (L : List (List CV)) (n : Nat), (∀ (i : Nat) (l : List CV), L[i]? = some l → l.length = esz ∧ ∀ (j : Nat) (c : CV), l[j]? = some c → R (n + i * esz + j) c) →
  L.flatten.length = L.length * esz ∧ ∀ (k : Nat) (c : CV), L.flatten[k]? = some c → R (n + k) c
 | [], n, _ => by simp
 | l :: L, n, h => by
  obtain ⟨h1, h2⟩ := h 0 l (by simp)
  have ih := flat_rel L (n + esz) (fun i l' hi => by
   obtain ⟨g1, g2⟩ := h (i + 1) l' (by simpa using hi)
   refine ⟨g1, fun j c hj => ?_⟩
   have := g2 j c hj
   rwa [Nat.add_mul, Nat.one_mul, ← Nat.add_assoc, Nat.add_right_comm n] at this)
  refine ⟨by simp [h1, ih.1, Nat.add_mul, Nat.add_comm], fun k c hk => ?_⟩
  rw [List.flatten_cons] at hk
  rcases Nat.lt_or_ge k l.length with hlt | hge
  ·rw [List.getElem?_append_left hlt] at hk
   have := h2 k c hk
   simpa using this
  ·rw [List.getElem?_append_right hge] at hk
   have := ih.2 (k - l.length) c hk
   rwa [show n + esz + (k - l.length) = n + k by omega] at this
theorem flat_relF {P : Program} {R : Nat → CV → Prop} {N : Nat} : ∀ (fs : List Field) (L : List (List CV)) (n : Nat), fieldsEnd P fs n = some N → L.length = fs.length →
  (∀ (i : Nat) (f : Field) (l : List CV), fs[i]? = some f → L[i]? = some l → l.length = P.cellsOf f.type ∧ ∀ (j : Nat) (c : CV), l[j]? = some c → R (f.offset + j) c) →
  n + L.flatten.length = N ∧ ∀ (k : Nat) (c : CV), L.flatten[k]? = some c → R (n + k) c
 | [], L, n, he, hl, _ => by
  have : L = [] := List.eq_nil_of_length_eq_zero (by simpa using hl)
  subst this
  simp only [fieldsEnd, Option.some.injEq] at he
  simp [he]
 | f :: fs, [], n, _, hl, _ => by simp at hl
 | f :: fs, l :: L, n, he, hl, h => by
  simp only [fieldsEnd] at he
  split at he
  ·rename_i hoff
   obtain ⟨h1, h2⟩ := h 0 f l (by simp) (by simp)
   have ih := flat_relF fs L (n + P.cellsOf f.type) he (by simpa using hl) (fun i f' l' hf hl' => h (i + 1) f' l' (by simpa using hf) (by simpa using hl'))
   refine ⟨by rw [← ih.1]; simp [h1]; omega, fun k c hk => ?_⟩
   rw [List.flatten_cons] at hk
   rcases Nat.lt_or_ge k l.length with hlt | hge
   ·rw [List.getElem?_append_left hlt] at hk
    have := h2 k c hk
    rwa [hoff] at this
   ·rw [List.getElem?_append_right hge] at hk
    have := ih.2 (k - l.length) c hk
    rwa [show n + P.cellsOf f.type + (k - l.length) = n + k by omega] at this
  ·cases he
theorem reps_of_all {W : World} {a : Addr} : ∀ (cs : List CV) (i : Nat), (∀ (j : Nat) (c : CV), cs[j]? = some c → ∃ v, W.cell? (a.add (i + j)) = some v ∧ c.rep W noO v) → CV.reps W noO cs a i
 | [], _, _ => by simp [CV.reps]
 | c :: cs, i, h => by
  simp only [CV.reps]
  refine ⟨not_noO _, by simpa using h 0 c (by simp), reps_of_all cs (i + 1) fun j c' hj => ?_⟩
  have := h (j + 1) c' (by simpa using hj)
  rwa [show i + (j + 1) = i + 1 + j by omega] at this
section
variable {H : Type} {enc : TypeId × Value → H} {P : Program} {W : World}
theorem trod_typed : ∀ (n : Nat) (t : TypeId) (cs : List Value) (x : DataW H × List MemPlace) (fuel : Nat), openT P n t = true → DataW.trod enc P W 0 (fun _ => true) true fuel t cs = some x →
  ∃ cvs : List CV, Typed P t cvs ∧ cvs.length = cs.length ∧ ∀ (i : Nat) (c : CV) (v : Value), cvs[i]? = some c → cs[i]? = some v → c.rep W noO v
 | 0, t, cs, x, fuel, ho, _ => by simp [openT] at ho
 | n + 1, t, cs, x, fuel, ho, h => by
  simp only [openT] at ho
  split at ho
  ·rename_i ht
   obtain ⟨b, rfl, _⟩ := DataW.trod_bool ht h
   refine ⟨[.bool b], .bool ht b, rfl, fun i c v h1 h2 => ?_⟩
   cases i with
   | zero => simp at h1 h2; subst h1 h2; simp [CV.rep]
   | succ i => simp at h1
  ·rename_i k ht
   obtain ⟨b, rfl, _, hw⟩ := DataW.trod_int ht h
   refine ⟨[.int k b], .int ht b hw, rfl, fun i c v h1 h2 => ?_⟩
   cases i with
   | zero => simp at h1 h2; subst h1 h2; simp [CV.rep]
   | succ i => simp at h1
  ·rename_i ht
   obtain ⟨s, rfl, _, hw⟩ := DataW.trod_string ht h
   refine ⟨[.str s], .str ht s hw, rfl, fun i c v h1 h2 => ?_⟩
   cases i with
   | zero => simp at h1 h2; subst h1 h2; simp [CV.rep]
   | succ i => simp at h1
  ·rename_i e ht
   rcases DataW.trod_slice ht h with ⟨rfl, _⟩ | ⟨a, len, cap, elems, rest, m, _, rfl, _, _, hlc, hcm, hel, hget, _⟩
   ·refine ⟨[.rsl [] 0], by simpa using Typed.slc ht [] (by simp) (by simp) (by simp), rfl, fun i c v h1 h2 => ?_⟩
    cases i with
    | zero => simp at h1 h2; subst h1 h2; simp [CV.rep]
    | succ i => simp at h1
   ·obtain ⟨L, hL, hQ⟩ := fin_choice (Q := fun i l => Typed P e l ∧ l.length = P.cellsOf e ∧ ∀ (j : Nat) (c : CV), l[j]? = some c → ∃ v, W.cell? (a.add (i * P.cellsOf e + j)) = some v ∧ c.rep W noO v) len (fun i hi => by
     have hg := hget i hi
     rw [List.getElem?_eq_getElem (by omega)] at hg
     obtain ⟨ci, h1, h2⟩ := Option.bind_eq_some_iff.1 hg
     obtain ⟨_, hlen, hcell⟩ := World.cells?_some h1
     obtain ⟨cvs, g1, g2, g3⟩ := trod_typed n e ci _ _ ho h2
     refine ⟨cvs, g1, by omega, fun j c hj => ?_⟩
     have hjl : j < cvs.length := (List.getElem?_eq_some_iff.1 hj).1
     have hc := hcell j (by omega)
     rw [List.getElem?_eq_getElem (by omega)] at hc
     exact ⟨_, by rw [← Addr.add_add]; exact hc, g3 j c _ hj (List.getElem?_eq_getElem _)⟩)
    have hmem : ∀ l ∈ L, ∃ i : Nat, L[i]? = some l := fun l hl => List.mem_iff_getElem?.1 hl
    have hfl := flat_rel (R := fun k c => ∃ v, W.cell? (a.add k) = some v ∧ c.rep W noO v) (esz := P.cellsOf e) L 0 (fun i l hi => ⟨(hQ i l hi).2.1, fun j c hj => by simpa using (hQ i l hi).2.2 j c hj⟩)
    refine ⟨[.rsl L.flatten L.length], Typed.slc ht L (by omega) (fun l hl => let ⟨i, hi⟩ := hmem l hl; (hQ i l hi).2.1) (fun l hl => let ⟨i, hi⟩ := hmem l hl; (hQ i l hi).1), rfl, fun i c v h1 h2 => ?_⟩
    cases i with
    | zero =>
     simp at h1 h2; subst h1 h2
     simp only [CV.rep]
     exact .inr ⟨a, cap, by rw [hL], by omega, reps_of_all _ 0 (fun j c hj => hfl.2 j c hj)⟩
    | succ i => simp at h1
  ·rename_i k e ht
   simp only [Bool.and_eq_true, decide_eq_true_eq] at ho
   obtain ⟨xs, m, _, _, hlen, hxs, hget⟩ := DataW.trod_array ht h
   obtain ⟨L, hL, hQ⟩ := fin_choice (Q := fun i l => Typed P e l ∧ l.length = P.cellsOf e ∧ ∀ (j : Nat) (c : CV), l[j]? = some c → ∀ v, cs[i * P.cellsOf e + j]? = some v → c.rep W noO v) k (fun i hi => by
     have hg := hget i hi
     rw [List.getElem?_eq_getElem (by omega)] at hg
     obtain ⟨cvs, g1, g2, g3⟩ := trod_typed n e _ _ _ ho.1 hg
     have hik : i * P.cellsOf e + P.cellsOf e ≤ k * P.cellsOf e := by
      have := Nat.mul_le_mul_right (P.cellsOf e) (show i + 1 ≤ k by omega)
      rwa [Nat.add_mul, Nat.one_mul] at this
     have hl2 : cvs.length = P.cellsOf e := by rw [g2]; simp; omega
     refine ⟨cvs, g1, hl2, fun j c hj v hv => ?_⟩
     have hjl : j < cvs.length := (List.getElem?_eq_some_iff.1 hj).1
     exact g3 j c v hj (by rw [List.getElem?_take, if_pos (by omega), List.getElem?_drop]; exact hv))
   have hmem : ∀ l ∈ L, ∃ i : Nat, L[i]? = some l := fun l hl => List.mem_iff_getElem?.1 hl
   have hfl := flat_rel (R := fun k c => ∀ v, cs[k]? = some v → c.rep W noO v) (esz := P.cellsOf e) L 0 (fun i l hi => ⟨(hQ i l hi).2.1, fun j c hj => by simpa using (hQ i l hi).2.2 j c hj⟩)
   exact ⟨L.flatten, Typed.arr ht L hL (fun l hl => let ⟨i, hi⟩ := hmem l hl; (hQ i l hi).2.1) (fun l hl => let ⟨i, hi⟩ := hmem l hl; (hQ i l hi).1), by rw [hfl.1, hlen, ho.2, hL], fun i c v h1 h2 => hfl.2 i c h1 v (by simpa using h2)⟩
  ·rename_i fs ht
   simp only [Bool.and_eq_true, decide_eq_true_eq, List.all_eq_true] at ho
   obtain ⟨xs, m, _, _, hlen, hxs, hget⟩ := DataW.trod_struct ht h
   obtain ⟨L, hL, hQ⟩ := fin_choice (Q := fun i l => ∀ f, fs[i]? = some f → Typed P f.type l ∧ l.length = min (P.cellsOf f.type) (cs.length - f.offset) ∧ ∀ (j : Nat) (c : CV), l[j]? = some c → ∀ v, cs[f.offset + j]? = some v → c.rep W noO v) fs.size (fun i hi => by
     have hfi : fs[i]? = some fs[i] := Array.getElem?_eq_getElem hi
     have hg := hget i fs[i] hfi
     rw [List.getElem?_eq_getElem (by omega)] at hg
     obtain ⟨cvs, g1, g2, g3⟩ := trod_typed n _ _ _ _ (ho.1 fs[i] (by simp)) hg
     have hl2 : cvs.length = min (P.cellsOf fs[i].type) (cs.length - fs[i].offset) := by rw [g2]; simp
     refine ⟨cvs, fun f hf => ?_⟩
     rw [hfi] at hf; cases hf
     refine ⟨g1, hl2, fun j c hj v hv => ?_⟩
     have hjl : j < cvs.length := (List.getElem?_eq_some_iff.1 hj).1
     exact g3 j c v hj (by rw [List.getElem?_take, if_pos (by omega), List.getElem?_drop]; exact hv))
   have hoff : ∀ (fs : List Field) (n N : Nat), fieldsEnd P fs n = some N → n ≤ N ∧ ∀ (i : Nat) (f : Field), fs[i]? = some f → f.offset + P.cellsOf f.type ≤ N := by
    intro fs
    induction fs with
    | nil => intro n N h; simp only [fieldsEnd, Option.some.injEq] at h; simp [h]
    | cons f fs ih =>
     intro n N h
     simp only [fieldsEnd] at h
     split at h
     ·rename_i ho
      obtain ⟨h1, h2⟩ := ih _ _ h
      refine ⟨by omega, fun i f' hi => ?_⟩
      cases i with
      | zero => simp at hi; subst hi; omega
      | succ i => exact h2 i f' (by simpa using hi)
     ·cases h
   have hin := (hoff _ _ _ ho.2).2
   have hl : ∀ (i : Nat) (f : Field) (l : List CV), fs[i]? = some f → L[i]? = some l → l.length = P.cellsOf f.type := by
    intro i f l hf hl
    obtain ⟨_, h2, _⟩ := hQ i l hl f hf
    have := hin i f (by simpa using hf)
    omega
   have hfl := flat_relF (P := P) (R := fun k c => ∀ v, cs[k]? = some v → c.rep W noO v) fs.toList L 0 ho.2 (by simpa using hL) (fun i f l hf hl' =>
    ⟨hl i f l (by simpa using hf) hl', fun j c hj => (hQ i l hl' f (by simpa using hf)).2.2 j c hj⟩)
   exact ⟨L.flatten, Typed.struct ht L hL hl (fun i f l hf hl' => (hQ i l hl' f hf).1), by have := hfl.1; omega, fun i c v h1 h2 => hfl.2 i c h1 v (by simpa using h2)⟩
  ·cases ho
abbrev noX : Nat → Prop := fun _ => False
theorem VRels_of_all : ∀ (cvs : List CV) (vs : List Value), cvs.length = vs.length → (∀ (i : Nat) (c : CV) (v : Value), cvs[i]? = some c → vs[i]? = some v → c.rep W noO v) → VRels nom noX W (cvs.map .cv) vs
 | [], [], _, _ => by simp [VRels]
 | c :: cvs, v :: vs, hl, h => by
  simp only [List.map_cons, VRels, VRel]
  exact ⟨h 0 c v rfl rfl, VRels_of_all cvs vs (by simpa using hl) fun i c v h1 h2 => h (i + 1) c v (by simpa using h1) (by simpa using h2)⟩
 | [], _ :: _, hl, _ => by simp at hl
 | _ :: _, [], hl, _ => by simp at hl
theorem arg_typed {n : Nat} {t : TypeId} {v : Value} {d : DataW H} {ps : List MemPlace} {r : Reach} {base : Nat} (ho : openT P n t = true) (hval : Value.okWide P W r base t v) (h : DataW.Trod enc P W 0 (fun _ => true) true t v d ps) :
  ∃ cs, Typed P t cs ∧ VRel nom noX W (avOf P t cs) v := by
 obtain ⟨fuel, h⟩ := h
 obtain ⟨cvs, h1, h2, h3⟩ := trod_typed n t _ _ _ ho h
 refine ⟨cvs, h1, ?_⟩
 unfold avOf
 have one : (v.cells.toList = [v]) → VRel nom noX W (.cv (cvs.headD .nilp)) v := by
  intro hv
  rw [hv] at h2 h3
  match cvs, h2 with
  | [c], _ => simp only [List.headD_cons, VRel]; exact h3 0 c v rfl rfl
 cases n with
 | zero => simp [openT] at ho
 | succ n =>
  simp only [openT] at ho
  split at ho
  ·rename_i ht; rw [ht]; obtain ⟨b, rfl⟩ := okWide_bool ht hval; exact one rfl
  ·rename_i ht; rw [ht]; obtain ⟨b, rfl⟩ := okWide_int ht hval; exact one rfl
  ·rename_i ht; rw [ht]; obtain ⟨b, rfl⟩ := okWide_string ht hval; exact one rfl
  ·rename_i ht; rw [ht]; obtain ⟨_, _, _, rfl⟩ := okWide_slice ht hval; exact one rfl
  ·rename_i ht; rw [ht]
   simp only [Value.okWide, ht] at hval
   obtain ⟨arr, rfl, _⟩ := hval
   simp only [VRel]
   exact ⟨arr.toList, by simp, VRels_of_all _ _ h2 h3⟩
  ·rename_i ht; rw [ht]
   simp only [Value.okWide, ht] at hval
   obtain ⟨arr, rfl, _⟩ := hval
   simp only [VRel]
   exact ⟨arr.toList, by simp, VRels_of_all _ _ h2 h3⟩
  ·cases ho
theorem args_typed {n : Nat} {r : Reach} {base : Nat} : ∀ {ts : List TypeId} {vs : List Value} {ds : List (DataW H)} {ps : List MemPlace}, (ts.all (openT P n)) = true →
  (∀ (j : Nat) (t : TypeId) (v : Value), ts[j]? = some t → vs[j]? = some v → Value.okWide P W r base t v) → DataW.TrodAll enc P W 0 (fun _ => true) true ts vs ds ps →
  ds.length = ts.length ∧ ∃ avs, Args P ts avs ∧ VRels nom noX W avs vs
 | [], _, _, _, _, _, h => by
  obtain ⟨rfl, rfl, rfl⟩ := trodAll_nil h
  exact ⟨rfl, [], .nil, by simp [VRels]⟩
 | t :: ts, _, _, _, ho, hval, h => by
  obtain ⟨v, vs1, d, ds1, a, b, rfl, rfl, rfl, h1, h2⟩ := trodAll_cons h
  simp only [List.all_cons, Bool.and_eq_true] at ho
  obtain ⟨cs, g1, g2⟩ := arg_typed ho.1 (hval 0 t v rfl rfl) h1
  obtain ⟨hl, avs, g3, g4⟩ := args_typed ho.2 (fun j t v h1 h2 => hval (j + 1) t v (by simpa using h1) (by simpa using h2)) h2
  exact ⟨by simp [hl], _, .cons g1 g3, by simp only [VRels]; exact ⟨g2, g4⟩⟩
theorem trodAll_below (hl : laidOutB P = true) {W' : World} (hb : Below W.heap.size W W') : ∀ {ts : List TypeId} {vs : List Value} {ds : List (DataW H)} {ps : List MemPlace}, (ts.all fun t => P.readableRec t && decide (t < P.types.size)) = true →
  DataW.TrodAll enc P W 0 (fun _ => true) true ts vs ds ps → (∀ x ∈ ps, x.block < W.heap.size) → DataW.TrodAll enc P W' 0 (fun b => decide (b < W.heap.size)) true ts vs ds ps
 | [], _, _, _, _, h, _ => by
  obtain ⟨rfl, rfl, rfl⟩ := trodAll_nil h
  exact trodAll_mk0
 | t :: ts, _, _, _, ho, h, hlt => by
  obtain ⟨v, vs1, d, ds1, a, b, rfl, rfl, rfl, h1, h2⟩ := trodAll_cons h
  simp only [List.all_cons, Bool.and_eq_true, decide_eq_true_eq] at ho
  refine trodAll_cons_mk (Below.trod hl ho.1.1 ho.1.2 h1 hb fun x hx => hlt x (by simp [hx])) (trodAll_below hl hb ?_ h2 fun x hx => hlt x (by simp [hx]))
  simpa using ho.2
theorem law_of_AC {f : FuncId} {fn : Func} {s : ChangeSpec} {n : Nat} {t : TypeId} {base : Nat} {args : Array Value} {ds gs : List (DataW H)} {before : List MemPlace}
  (hl : laidOutB P = true) (hpar : (fn.params.toList.all fun t => P.readableRec t && decide (t < P.types.size)) = true) (ho : fn.params.toList.all (openT P n) = true)
  (hres : fn.resultTypes = #[t]) (htb : P.underlying t = some .bool) (hsv : s.vars = []) (hs : ∀ ds : List (DataW H), ds.length = fn.params.toList.length → s.fn H ds = { results := [.lit (.bool true)], args := ds })
  (hAC : ∀ avs, Args P fn.params.toList avs → AC P f avs [] fun r _ => r = .b true)
  (hval : ∀ (j : Nat) t v, fn.params[j]? = some t → args[j]? = some v → Value.okWide P W .any base t v)
  (hW : DataW.Whole enc P fn.params.toList s.vars false W args.toList ds gs before) :
  Calls P f args W fun e W' => ∃ v, e = .returned v ∧ s.post enc P fn false true false false W args v W' := by
 have hW' := hW
 obtain ⟨p, q, hA, hV, rfl, hfz, hnd⟩ := hW
 rw [hsv] at hV
 obtain ⟨rfl, rfl⟩ := trodVars_none hV
 have hlt : ∀ x ∈ p, x.block < W.heap.size := fun x hx => hW'.lt x (by simp [hx])
 obtain ⟨hlen, avs, hav, hrel⟩ := args_typed ho (fun j t v h1 h2 => hval j t v (by simpa using h1) (by simpa using h2)) hA
 have hcall := (hAC avs hav).2 nom noX W args.toList hrel ⟨by simp, by simp, by simp, by simp, by simp⟩
 have hcall := callsIn_wide.1 hcall
 simp only [Array.toArray_toList] at hcall
 refine hcall.mono fun e W' ⟨c, r, σ', m', he, hq, hr, _, hst, _⟩ => ?_
 subst he hq
 simp only [VRel, CV.rep] at hr
 subst hr
 have hb : Below W.heap.size W W' := ⟨hst.os, hst.tape, hst.output, hst.size, fun k hk => hst.fr k hk (.inr (by simp))⟩
 have hsf : s.fn H (ds ++ []) = { results := [.lit (.bool true)], args := ds } := by rw [List.append_nil]; exact hs ds hlen
 refine ⟨_, rfl, ds, [], p ++ [], [], p, [], hW', ?_, ?_, ?_, hb.frame _, fun h => by simp at h⟩
 ·rw [hsf, hres]
  exact trodAll_mk1 (shut_bool htb true)
 ·rw [hsf]
  exact trodAll_below hl hb hpar hA hlt
 ·rw [hsf, hsv]
  rfl
end
end Go.Proofs.YtpnghcaccfnngaaGreatDoor.AM
namespace Go.Proofs.YtpnghcaccfnngaaGreatDoor.AM
variable [Dr]
open Go
theorem SameSite.trans {a b c : ALoop} (h : SameSite a b) (k : SameSite b c) : SameSite a c :=
 ⟨k.1.trans h.1, k.2.1.trans h.2.1, k.2.2.1.trans h.2.2.1, k.2.2.2.1.trans h.2.2.2.1, k.2.2.2.2.trans h.2.2.2.2⟩
theorem LoopKeep.trans {a b c : List AObj} (h : LoopKeep a b) (k : LoopKeep b c) : LoopKeep a c := fun l r hr =>
 let ⟨r1, h1, h2⟩ := h l r hr
 let ⟨r2, h3, h4⟩ := k l r1 h1
 ⟨r2, h3, h2.trans h4⟩
abbrev vs19 : List Nat := [0, 1, 2, 3, 4, 5, 6, 20, 25, 34, 38, 49, 59]
def ic19l0 : IC := (.seq (.seq (.region [jv 6, jF 1 1, jl 1, jw 11 (.bin .lss .int) [.t 0, .t 2]])
 (.cond 11 .skip
 (.exit 0)))
 (.seq (.block 1 (.region [jv 5, jF 0 1, jl 1, jv 6, jk 60 [.t 2, .t 3], jq (.bin .add .int) [.t 0, .t 4], jm 5 5]))
 (.region [jv 6, jq (.bin .add .int) [.t 0, jn 1], jm 6 1])))
def ic19 : IC := (.seq (.region [jb 1 0, jz 2 0, jz 3 0])
 (.seq (.seq (.region [jF 1 1, jl 0, jk 59 [.t 1, jn 1, jn 12], jq .not [.t 2], jt 3, jg 4 false (.fadd 2) [.v 1], ji 4 false 5, jg 4 false (.bin .lss .int) [.t 6, jn 1], jq .pick [.t 4, jB true, .t 7], jt 8, jg 9 false (.fadd 2) [.v 1], ji 9 false 10, jg 9 false (.bin .gtr .int) [.t 11, jn 31], jw 7 .pick [.t 9, jB true, .t 12]])
 (.cond 7 (.seq (.region [jz 2 0, jz 3 6])
 .ret)
 .skip))
 (.seq (.region [jF 0 1, jl 0, jq (.bin .rem .int) [.t 1, jn 400], jm 4 2])
 (.seq (.seq (.region [jv 4, jw 8 (.bin .lss .int) [.t 0, jn 0]])
 (.cond 8 (.region [jv 4, jq (.bin .add .int) [.t 0, jn 400], jm 4 1])
 .skip))
 (.seq (.seq (.dr [[], [0], [], [], [3], [2, 4], [1, 5]] [jF 2 1, jl 0, jv 4, jF 1 1, jl 3, jk 60 [.t 2, .t 4], jw 9 (.bin .gtr .int) [.t 1, .t 5]])
 (.cond 9 (.seq (.region [jz 2 0, jz 3 6])
 .ret)
 .skip))
 (.seq (.seq (.region [jF 0 1, jl 0, jk 59 [.t 1, jn 2000, jn 2200], jw 10 .not [.t 2]])
 (.cond 10 (.seq (.region [jz 2 0, jz 3 7])
 .ret)
 .skip))
 (.seq (.dr [[], [0], [1], [], [3], [2, 4], [5], [6, 2, 0, 1, 2, 3, 4, 5, 6]] [jF 0 1, jl 0, jk 61 [.t 1], jF 2 1, jl 3, jq (.bin .add .int) [.t 2, .t 4], jq (.bin .sub .int) [.t 5, jn 1], jm 5 6])
 (.seq (.seq (.region [jz 6 1])
 (.block 0 (.loop ic19l0)))
 (.seq (.seq (.region [jv 5, jw 12 (.bin .gtr .int) [.t 0, jn 40000]])
 (.cond 12 (.seq (.region [jz 2 0, jz 3 7])
 .ret)
 .skip))
 (.seq (.region [jv 5, jm 2 0, jz 3 0])
 .ret))))))))))
abbrev rs19 : List RC := [(.v 2), (.v 3)]
theorem fok19 (p : Bool) : FnOk Tryz.prog 19 ⟨ic19, vs19, 61, rs19, p⟩ := .mk2 Tryz.func19 (by kernel_rfl) (by kernel_rfl) (by kernel_rfl) (by kernel_rfl) (by kernel_rfl)
abbrev vs23 : List Nat := [0, 2, 3, 6]
def ic23 : IC := (.seq (.region [jw 1 (.alloc [(.cv (.int .i64 0)), (.cv (.int .i64 0)), (.cv (.int .i64 0))]) [], jz 2 0])
 (.seq (.seq (.region [jv 0, jk 59 [.t 0, jn 0, jn 40000], jw 3 .not [.t 1]])
 (.cond 3 (.seq (.region [jq (.build [(.cv (.int .i64 0)), (.cv (.int .i64 0)), (.cv (.int .i64 0))] []) [], jq (.store 3) [.v 1, .t 0], jz 2 7])
 .ret)
 .skip))
 (.seq (.region [jv 0, jk 62 [.t 0], jq (.store 3) [.v 1, .t 1], jz 2 0])
 .ret)))
abbrev rs23 : List RC := [(.lN 1 3), (.v 2)]
theorem fok23 (p : Bool) : FnOk Tryz.prog 23 ⟨ic23, vs23, 10, rs23, p⟩ := .mk2 Tryz.func23 (by kernel_rfl) (by kernel_rfl) (by kernel_rfl) (by kernel_rfl) (by kernel_rfl)
abbrev vs25 : List Nat := [0, 1, 2, 6, 7, 8, 9, 10, 23, 58]
def ic25 : IC := (.seq (.region [jz 3 0, jz 4 0])
 (.seq (.seq (.region [jv 0, jk 59 [.t 0, jn 0, jn 40000], jq .not [.t 1], jt 2, jh 3 false 1, jf 3 false 59 [.t 4, jn 0, jn 100], jg 3 false .not [.t 5], jq .pick [.t 3, jB true, .t 6], jt 7, jh 8 false 2, jf 8 false 59 [.t 9, jn 0, jn 1200], jg 8 false .not [.t 10], jw 8 .pick [.t 8, jB true, .t 11]])
 (.cond 8 (.seq (.region [jz 3 0, jz 4 7])
 .ret)
 .skip))
 (.seq (.region [jv 0, jk 62 [.t 0], jw 5 (.alloc [(.cv (.int .i64 0)), (.cv (.int .i64 0)), (.cv (.int .i64 0))]) [], jq (.store 3) [.v 5, .t 1]])
 (.seq (.region [jv 2, jF 1 5, jl 1, jq (.bin .add .int) [.t 0, .t 2], jq (.bin .sub .int) [.t 3, jn 1], jm 2 4])
 (.seq (.region [jF 0 5, jl 0, jv 1, jq (.bin .add .int) [.t 1, .t 2], jv 2, jq (.bin .quo .int) [.t 4, jn 12], jq (.bin .add .int) [.t 3, .t 5], jv 2, jq (.bin .rem .int) [.t 7, jn 12], jq (.bin .add .int) [.t 8, jn 1], jF 0 5, jq (.store 1) [.t 10, .t 6], jF 1 5, jq (.store 1) [.t 12, .t 9]])
 (.seq (.dr [[], [0], [], [2], [], [4], [3, 5], [1, 6], [0, 1, 2, 3, 4, 5, 6, 7], [8, 7, 6, 0, 1, 2, 3, 4, 5, 6, 7]] [jF 2 5, jl 0, jF 0 5, jl 2, jF 1 5, jl 4, jk 60 [.t 3, .t 5], jq .min2 [.t 1, .t 6], jF 2 5, jq (.store 1) [.t 8, .t 7]])
 (.seq (.region [jN 3 5, jk 19 [.t 0], jt 1, jx 0 2, jx 1 2, jm 6 3, jm 7 4])
 (.seq (.seq (.region [jv 7, jw 9 (.bin .neq .int) [.t 0, jn 0]])
 (.cond 9 (.seq (.region [jz 3 0, jz 4 7])
 .ret)
 .skip))
 (.seq (.region [jv 6, jm 3 0, jz 4 0])
 .ret)))))))))
abbrev rs25 : List RC := [(.v 3), (.v 4)]
theorem fok25 (p : Bool) : FnOk Tryz.prog 25 ⟨ic25, vs25, 60, rs25, p⟩ := .mk2 Tryz.func25 (by kernel_rfl) (by kernel_rfl) (by kernel_rfl) (by kernel_rfl) (by kernel_rfl)
abbrev vs27 : List Nat := [0, 1, 4, 5, 6, 7, 8, 9, 10, 18, 21, 23, 53]
def ic27l0 : IC := (.seq (.seq (.region [jv 5, jw 11 (.bin .leq .int) [.t 0, jn 110]])
 (.cond 11 .skip
 (.exit 0)))
 (.seq (.block 1 (.seq (.region [jv 0, jk 62 [.t 0], jw 6 (.alloc [(.cv (.int .i64 0)), (.cv (.int .i64 0)), (.cv (.int .i64 0))]) [], jq (.store 3) [.v 6, .t 1]])
 (.seq (.region [jF 0 6, jl 0, jv 5, jq (.bin .add .int) [.t 1, .t 2], jF 0 6, jq (.store 1) [.t 4, .t 3]])
 (.seq (.dr [[], [0], [], [2], [], [4], [3, 5], [1, 6], [0, 1, 2, 3, 4, 5, 6, 7], [8, 7, 6, 0, 1, 2, 3, 4, 5, 6, 7]] [jF 2 6, jl 0, jF 0 6, jl 2, jF 1 6, jl 4, jk 60 [.t 3, .t 5], jq .min2 [.t 1, .t 6], jF 2 6, jq (.store 1) [.t 8, .t 7]])
 (.seq (.region [jN 3 6, jk 19 [.t 0], jt 1, jx 0 2, jx 1 2, jm 7 3, jm 8 4])
 (.seq (.region [jv 8, jq (.bin .eql .int) [.t 0, jn 0], jt 1, jh 2 true 7, jh 2 true 1, jg 2 true (.bin .leq .int) [.t 3, .t 4], jw 12 .pick [.t 2, .t 5, jB false]])
 (.cond 12 (.region [jv 5, jm 4 0])
 .skip)))))))
 (.region [jv 5, jq (.bin .add .int) [.t 0, jn 1], jm 5 1])))
def ic27 : IC := (.seq (.region [jz 2 0, jz 3 0])
 (.seq (.seq (.region [jv 0, jk 59 [.t 0, jn 0, jn 40000], jq .not [.t 1], jt 2, jh 3 false 1, jf 3 false 59 [.t 4, jn 0, jn 40000], jg 3 false .not [.t 5], jw 9 .pick [.t 3, jB true, .t 6]])
 (.cond 9 (.seq (.region [jz 2 0, jz 3 7])
 .ret)
 .skip))
 (.seq (.seq (.region [jv 1, jv 0, jw 10 (.bin .lss .int) [.t 0, .t 1]])
 (.cond 10 (.seq (.region [jz 2 0, jz 3 2])
 .ret)
 .skip))
 (.seq (.region [jz 4 0])
 (.seq (.seq (.region [jz 5 1])
 (.block 0 (.loop ic27l0)))
 (.seq (.region [jv 4, jm 2 0, jz 3 0])
 .ret))))))
abbrev rs27 : List RC := [(.v 2), (.v 3)]
theorem fok27 (p : Bool) : FnOk Tryz.prog 27 ⟨ic27, vs27, 56, rs27, p⟩ := .mk2 Tryz.func27 (by kernel_rfl) (by kernel_rfl) (by kernel_rfl) (by kernel_rfl) (by kernel_rfl)
abbrev vs60 : List Nat := [0, 1, 4, 18, 20, 33]
def ic60 : IC := (.seq (.region [jz 2 0])
 (.seq (.seq (.region [jv 1, jq (.bin .eql .int) [.t 0, jn 4], jt 1, jh 2 false 1, jg 2 false (.bin .eql .int) [.t 3, jn 6], jq .pick [.t 2, jB true, .t 4], jt 5, jh 6 false 1, jg 6 false (.bin .eql .int) [.t 7, jn 9], jq .pick [.t 6, jB true, .t 8], jt 9, jh 10 false 1, jg 10 false (.bin .eql .int) [.t 11, jn 11], jw 3 .pick [.t 10, jB true, .t 12]])
 (.cond 3 (.seq (.region [jz 2 30])
 .ret)
 .skip))
 (.seq (.seq (.region [jv 1, jw 4 (.bin .neq .int) [.t 0, jn 2]])
 (.cond 4 (.seq (.region [jz 2 31])
 .ret)
 .skip))
 (.seq (.seq (.region [jv 0, jq (.bin .rem .int) [.t 0, jn 400], jq (.bin .eql .int) [.t 1, jn 0], jt 2, jh 3 false 0, jg 3 false (.bin .rem .int) [.t 4, jn 4], jg 3 false (.bin .eql .int) [.t 5, jn 0], jg 3 false .mv [.t 6], jh 7 true 0, jg 7 true (.bin .rem .int) [.t 8, jn 100], jg 7 true (.bin .neq .int) [.t 9, jn 0], jg 3 false .pick [.t 7, .t 10, jB false], jw 5 .pick [.t 3, jB true, .t 11]])
 (.cond 5 (.seq (.region [jz 2 29])
 .ret)
 .skip))
 (.seq (.region [jz 2 28])
 .ret)))))
abbrev rs60 : List RC := [(.v 2)]
theorem fok60 (p : Bool) : FnOk Tryz.prog 60 ⟨ic60, vs60, 34, rs60, p⟩ := .mk2 Tryz.func60 (by kernel_rfl) (by kernel_rfl) (by kernel_rfl) (by kernel_rfl) (by kernel_rfl)
abbrev vs61 : List Nat := [0, 2, 3, 4, 7]
def ic61l0 : IC := (.seq (.seq (.region [jv 3, jv 0, jw 4 (.bin .lss .int) [.t 0, .t 1]])
 (.cond 4 .skip
 (.exit 0)))
 (.seq (.block 1 (.region [jv 2, jq (.bin .add .int) [.t 0, jn 337], jv 3, jk 60 [.t 2, jn 2], jq (.bin .add .int) [.t 1, .t 3], jm 2 4]))
 (.region [jv 3, jq (.bin .add .int) [.t 0, jn 1], jm 3 1])))
def ic61 : IC := (.seq (.region [jz 1 0])
 (.seq (.region [jz 2 0])
 (.seq (.seq (.region [jz 3 2000])
 (.block 0 (.loop ic61l0)))
 (.seq (.region [jv 2, jm 1 0])
 .ret))))
abbrev rs61 : List RC := [(.v 1)]
theorem fok61 (p : Bool) : FnOk Tryz.prog 61 ⟨ic61, vs61, 16, rs61, p⟩ := .mk2 Tryz.func61 (by kernel_rfl) (by kernel_rfl) (by kernel_rfl) (by kernel_rfl) (by kernel_rfl)
abbrev vs62 : List Nat := [0, 2, 3, 4, 5, 10, 19]
def ic62l0 : IC := (.seq (.seq (.region [jv 4, jv 0, jw 6 (.bin .lss .int) [.t 0, .t 1]])
 (.cond 6 .skip
 (.exit 2)))
 (.seq (.block 3 (.region [jN 3 3, jk 89 [.t 0], jq (.store 3) [.v 3, .t 1]]))
 (.region [jv 4, jq (.bin .add .int) [.t 0, jn 1], jm 4 1])))
def ic62l1 : IC := (.seq (.seq (.region [jv 2, jq (.bin .add .int) [.t 0, jn 1], jk 61 [.t 1], jv 0, jw 5 (.bin .leq .int) [.t 2, .t 3]])
 (.cond 5 .skip
 (.exit 0)))
 (.block 1 (.region [jv 2, jq (.bin .add .int) [.t 0, jn 1], jm 2 1])))
def ic62 : IC := (.seq (.region [jw 1 (.alloc [(.cv (.int .i64 0)), (.cv (.int .i64 0)), (.cv (.int .i64 0))]) []])
 (.seq (.region [jz 2 2000])
 (.seq (.block 0 (.loop ic62l1))
 (.seq (.region [jv 2, jq (.build [(.cv (.int .i64 0)), (.cv (.int .i64 0)), (.cv (.int .i64 0))] [(0, 1), (1, 1), (2, 1)]) [.t 0, jn 1, jn 1], jw 3 (.alloc [(.cv (.int .i64 0)), (.cv (.int .i64 0)), (.cv (.int .i64 0))]) [], jq (.store 3) [.v 3, .t 1]])
 (.seq (.seq (.region [jv 2, jk 61 [.t 0], jm 4 1])
 (.block 2 (.loop ic62l0)))
 (.seq (.region [jN 3 3, jq (.store 3) [.v 1, .t 0]])
 .ret))))))
abbrev rs62 : List RC := [(.lN 1 3)]
theorem fok62 (p : Bool) : FnOk Tryz.prog 62 ⟨ic62, vs62, 25, rs62, p⟩ := .mk2 Tryz.func62 (by kernel_rfl) (by kernel_rfl) (by kernel_rfl) (by kernel_rfl) (by kernel_rfl)
abbrev vs89 : List Nat := [0, 1, 2, 14, 22]
def ic89 : IC := (.seq (.region [jb 1 0, jw 2 (.alloc [(.cv (.int .i64 0)), (.cv (.int .i64 0)), (.cv (.int .i64 0))]) []])
 (.seq (.region [jF 2 1, jl 0, jq (.bin .add .int) [.t 1, jn 1], jF 2 1, jq (.store 1) [.t 3, .t 2]])
 (.seq (.seq (.dr [[], [0], [], [2], [], [4], [3, 5], [1, 6]] [jF 2 1, jl 0, jF 0 1, jl 2, jF 1 1, jl 4, jk 60 [.t 3, .t 5], jw 3 (.bin .gtr .int) [.t 1, .t 6]])
 (.cond 3 (.seq (.region [jF 2 1, jq (.store 1) [.t 0, jn 1]])
 (.region [jF 1 1, jl 0, jq (.bin .add .int) [.t 1, jn 1], jF 1 1, jq (.store 1) [.t 3, .t 2]]))
 .skip))
 (.seq (.seq (.region [jF 1 1, jl 0, jw 4 (.bin .gtr .int) [.t 1, jn 12]])
 (.cond 4 (.seq (.region [jF 1 1, jq (.store 1) [.t 0, jn 1]])
 (.region [jF 0 1, jl 0, jq (.bin .add .int) [.t 1, jn 1], jF 0 1, jq (.store 1) [.t 3, .t 2]]))
 .skip))
 (.seq (.region [jN 3 1, jq (.store 3) [.v 2, .t 0]])
 .ret)))))
abbrev rs89 : List RC := [(.lN 2 3)]
theorem fok89 (p : Bool) : FnOk Tryz.prog 89 ⟨ic89, vs89, 29, rs89, p⟩ := .mk2 Tryz.func89 (by kernel_rfl) (by kernel_rfl) (by kernel_rfl) (by kernel_rfl) (by kernel_rfl)
theorem c60 (y m : Int) : PC Tryz.prog 60 [.i y, .i m] (.i (longF y m)) := by
 refine ⟨AC_FE (fok60 true) (Nat.le_of_ble_eq_true rfl) ?_, rfl⟩
 have fin : ∀ b4 b6 b9 b11 : Bool, (m == 4) = b4 → (m == 6) = b6 → (m == 9) = b9 → (m == 11) = b11 → (m = 4 ∨ m = 6 ∨ m = 9 ∨ m = 11 ↔ (b4 || b6 || b9 || b11) = true) := by
  intro b4 b6 b9 b11 h4 h6 h9 h11
  subst h4 h6 h9 h11
  simp [or_assoc]
 cases h4 : (m == 4) with
 | true =>
  have hv : longF y m = 30 := by unfold longF; rw [if_pos (.inl (by simpa using h4))]
  rw [hv]
  simp only [ic60, h4, evA, if_true, if_false, beq_false, simprocAttr]
  exact frz
 | false =>
 cases h6 : (m == 6) with
 | true =>
  have hv : longF y m = 30 := by unfold longF; rw [if_pos (.inr (.inl (by simpa using h6)))]
  rw [hv]
  simp only [ic60, h4, h6, evA, if_true, if_false, beq_false, simprocAttr]
  exact frz
 | false =>
 cases h9 : (m == 9) with
 | true =>
  have hv : longF y m = 30 := by unfold longF; rw [if_pos (.inr (.inr (.inl (by simpa using h9))))]
  rw [hv]
  simp only [ic60, h4, h6, h9, evA, if_true, if_false, beq_false, simprocAttr]
  exact frz
 | false =>
 cases h11 : (m == 11) with
 | true =>
  have hv : longF y m = 30 := by unfold longF; rw [if_pos (.inr (.inr (.inr (by simpa using h11))))]
  rw [hv]
  simp only [ic60, h4, h6, h9, h11, evA, if_true, if_false, beq_false, simprocAttr]
  exact frz
 | false =>
 have hno : ¬ (m = 4 ∨ m = 6 ∨ m = 9 ∨ m = 11) := by
  rw [fin _ _ _ _ h4 h6 h9 h11]; decide
 cases h2 : (m != 2) with
 | true =>
  have hv : longF y m = 31 := by unfold longF; rw [if_neg hno, if_pos (by simpa using h2)]
  rw [hv]
  simp only [ic60, h4, h6, h9, h11, h2, evA, if_true, if_false, beq_false, simprocAttr]
  exact frz
 | false =>
 have hm2 : ¬ (m ≠ 2) := by simpa using h2
 cases g4 : (y.tmod 400 == 0) with
 | true =>
  have hv : longF y m = 29 := by unfold longF leapD; rw [if_neg hno, if_neg hm2, g4]; rfl
  rw [hv]
  simp only [ic60, h4, h6, h9, h11, h2, g4, evA, if_true, if_false, beq_false, simprocAttr]
  exact frz
 | false =>
 cases g1 : (y.tmod 4 == 0) with
 | false =>
  have hv : longF y m = 28 := by unfold longF leapD; rw [if_neg hno, if_neg hm2, g4, g1]; rfl
  rw [hv]
  simp only [ic60, h4, h6, h9, h11, h2, g4, g1, evA, if_true, if_false, beq_false, simprocAttr]
  exact frz
 | true =>
 cases g0 : (y.tmod 100 != 0) with
 | false =>
  have hv : longF y m = 28 := by unfold longF leapD; rw [if_neg hno, if_neg hm2, g4, g1, g0]; rfl
  rw [hv]
  simp only [ic60, h4, h6, h9, h11, h2, g4, g1, g0, evA, if_true, if_false, beq_false, simprocAttr]
  exact frz
 | true =>
  have hv : longF y m = 29 := by unfold longF leapD; rw [if_neg hno, if_neg hm2, g4, g1, g0]; rfl
  rw [hv]
  simp only [ic60, h4, h6, h9, h11, h2, g4, g1, g0, evA, if_true, if_false, beq_false, simprocAttr]
  exact frz
theorem begF_ran : ∀ k, 0 ≤ begF k ∧ begF k ≤ 400 * (k : Int)
 | 0 => by simp [begF]
 | k + 1 => by
  have := begF_ran k
  have := longF_ran (2000 + (k : Int)) 2
  unfold begF; omega
theorem c61 (k : Nat) (hk : k ≤ 401) : PC Tryz.prog 61 [.i (2000 + (k : Int))] (.i (begF k)) := by
 refine ⟨AC_FE (fok61 true) (Nat.le_of_ble_eq_true rfl) ?_, rfl⟩
 simp only [ic61, evA, if_true, if_false, beq_false, simprocAttr]
 refine IL_for k (fun i s => ∃ v4, s = ⟨[.i (2000 + (k : Int)), .i 0, .i (begF i), .i (2000 + (i : Int)), v4], []⟩) ?_ 0 (Nat.zero_le _) ⟨_, rfl⟩
 rintro i s hi ⟨v4, rfl⟩
 have hb := begF_ran i
 have hl := longF_ran (2000 + (i : Int)) 2
 by_cases h : i < k
 ·have hlt : decide (2000 + (i : Int) < 2000 + (k : Int)) = true := decide_eq_true (by omega)
  have hw1 : IntKind.i64.wrap (begF i + 337) = begF i + 337 := wrap_in (by omega)
  have hw2 : IntKind.i64.wrap (begF i + 337 + longF (2000 + (i : Int)) 2) = begF (i + 1) := by rw [wrap_in (by omega)]; rfl
  have hw3 : IntKind.i64.wrap (2000 + (i : Int) + 1) = 2000 + ((i + 1 : Nat) : Int) := by rw [wrap_in (by omega)]; omega
  simp only [ic61l0, hlt, hw1, evA, if_true, if_false, beq_false, simprocAttr]
  refine (c60 (2000 + (i : Int)) 2).call frz ?_
  simp only [hw2, hw3, evA, if_true, if_false, beq_false, simprocAttr]
  exact kFor_go (by first | trivial | omega) ⟨_, rfl⟩
 ·have : i = k := by omega
  subst this
  have hlt : decide (2000 + (i : Int) < 2000 + (i : Int)) = false := decide_eq_false (by omega)
  simp only [ic61l0, hlt, evA, if_true, if_false, beq_false, simprocAttr]
  exact frz
theorem leap_mod {y z : Int} (h : (400 : Int) ∣ y - z) : leapD y = leapD z := by
 have key : ∀ n : Int, n ∣ 400 → (y.tmod n == 0) = (z.tmod n == 0) := fun n hn => by
  have hd : n ∣ y - z := Int.dvd_trans hn h
  rw [Bool.eq_iff_iff]
  simp only [beq_iff_eq, ← Int.dvd_iff_tmod_eq_zero]
  constructor
  ·intro g
   have : z = y - (y - z) := by omega
   rw [this]; exact Int.dvd_sub g hd
  ·intro g
   have : y = (y - z) + z := by omega
   rw [this]; exact Int.dvd_add hd g
 unfold leapD
 simp only [bne]
 rw [key 400 (by decide), key 4 (by decide), key 100 (by decide)]
theorem long_mod {y z : Int} (h : (400 : Int) ∣ y - z) (m : Int) : longF y m = longF z m := by
 unfold longF
 rw [leap_mod h]
theorem befM_sum (y : Int) (j : Nat) : ∀ k, k ≤ 12 → befM y ((j : Int) + 1) k = sumL y (min j k)
 | 0, _ => by simp [befM, sumL]
 | k + 1, h => by
  rw [befM, befM_sum y j k (by omega)]
  by_cases hk : k < j
  ·rw [if_pos (by omega), long_len y k (by omega), Nat.min_eq_right (by omega), Nat.min_eq_right (by omega)]
   rfl
  ·rw [if_neg (by omega), Int.add_zero, Nat.min_eq_left (by omega), Nat.min_eq_left (by omega)]
theorem c19 (y m d : Int) : PC Tryz.prog 19 [.agg [.i y, .i m, .i d]] (dayV y m d) := by
 refine ⟨AC_FE (fok19 true) (Nat.le_of_ble_eq_true rfl) ?_, by unfold dayV; repeat (split <;> try rfl)⟩
 have h59 := c59 m 1 12
 rw [inD_iff] at h59
 unfold dayV
 cases h1 : inB m 1 12 with
 | false =>
  rw [h1] at h59
  rw [if_pos rfl]
  simp only [ic19, f_box, cellsOf, evA, if_true, if_false, beq_false, simprocAttr]
  refine h59.call frz ?_
  simp only [evA, if_true, if_false, beq_false, simprocAttr]
  exact frz
 | true =>
 rw [h1] at h59
 rw [if_neg (by decide)]
 rw [inB_iff] at h1
 obtain ⟨k, hk⟩ : ∃ k : Nat, m - 1 = (k : Int) := ⟨(m - 1).toNat, by omega⟩
 have hk12 : k < 12 := by omega
 have hm : m = (k : Int) + 1 := by omega
 rw [hk, Int.toNat_natCast, long_len y k hk12, ← hm]
 have hlr := longF_ran y m
 by_cases hd1 : d < 1
 ·have h2 : inB d 1 (longF y m) = false := by
   cases hh : inB d 1 (longF y m) with
   | false => rfl
   | true => rw [inB_iff] at hh; omega
  rw [if_pos h2]
  simp only [ic19, f_box, cellsOf, evA, if_true, if_false, beq_false, simprocAttr]
  refine h59.call frz ?_
  simp only [hd1, evA, if_true, if_false, beq_false, simprocAttr]
  exact frz
 by_cases hd31 : d > 31
 ·have h2 : inB d 1 (longF y m) = false := by
   cases hh : inB d 1 (longF y m) with
   | false => rfl
   | true => rw [inB_iff] at hh; omega
  rw [if_pos h2]
  simp only [ic19, f_box, cellsOf, evA, if_true, if_false, beq_false, simprocAttr]
  refine h59.call frz ?_
  simp only [hd1, hd31, evA, if_true, if_false, beq_false, simprocAttr]
  exact frz
 have hzr : -400 < y.tmod 400 ∧ y.tmod 400 < 400 := ⟨Int.lt_tmod_of_pos y (by decide), Int.tmod_lt_of_pos y (by decide)⟩
 have hzd : (400 : Int) ∣ y - y.tmod 400 := ⟨y.tdiv 400, by have := Int.mul_tdiv_add_tmod y 400; omega⟩
 have hyY : inB y 2000 2200 = true → ∃ j : Nat, y = 2000 + (j : Int) ∧ j ≤ 200 ∧ begF j = (if y - 2000 = 0 then 0 else yearsF (y - 2000)) := fun h => by
  rw [inB_iff] at h
  obtain ⟨j, hj⟩ : ∃ j : Nat, y - 2000 = (j : Int) := ⟨(y - 2000).toNat, by omega⟩
  refine ⟨j, by omega, by omega, ?_⟩
  rw [begF_eq j (by omega), hj]
 have hT : dayT y m d = (if y - 2000 = 0 then 0 else yearsF (y - 2000)) + d - 1 + sumL y k := by
  unfold dayT
  rw [hm, befM_sum y k 12 (Nat.le_refl _), Nat.min_eq_left (by omega)]
 have h59y := c59 y 2000 2200
 rw [inD_iff] at h59y
 obtain ⟨t4, ht4⟩ : ∃ t4, y.tmod 400 = t4 := ⟨_, rfl⟩
 rw [ht4] at hzr hzd
 have hneg : IntKind.i64.wrap (t4 + 400) = t4 + 400 := wrap_in (by omega)
 have e1 : longF (t4 + 400) m = longF y m := (long_mod (by omega) m).symm
 have e2 : longF t4 m = longF y m := (long_mod hzd m).symm
 simp only [ic19, f_box, cellsOf, evA, if_true, if_false, beq_false, simprocAttr]
 refine h59.call frz ?_
 simp only [hd1, hd31, ht4, evA, if_true, if_false, beq_false, simprocAttr]
 by_cases hn : t4 < 0
 all_goals
  simp only [hn, hneg, evA, if_true, if_false, beq_false, simprocAttr]
  refine DW_s [5] [] hmix (by kernel_rfl) rfl ?_
  simp only [evA, if_true, if_false, beq_false, simprocAttr]
  first
   | refine kK_keep ((c60 (t4 + 400) m).call (.cons (.c (.c _ trivial)) (.cons (.c (.c _ trivial)) .nil)) ⟨rfl, rfl⟩) rfl ?_
     rw [e1]
   | refine kK_keep ((c60 t4 m).call (.cons (.c (.c _ trivial)) (.cons (.c (.c _ trivial)) .nil)) ⟨rfl, rfl⟩) rfl ?_
     rw [e2]
  by_cases hg : d > longF y m
  ·have h2 : inB d 1 (longF y m) = false := by
    cases hh : inB d 1 (longF y m) with
    | false => rfl
    | true => rw [inB_iff] at hh; omega
   rw [if_pos h2]
   simp only [hg, evA, if_true, if_false, beq_false, simprocAttr]
   exact frz
  have h2 : inB d 1 (longF y m) = true := inB_iff.2 (by omega)
  rw [if_neg (by rw [h2]; decide)]
  simp only [hg, evA, if_true, if_false, beq_false, simprocAttr]
  refine h59y.call frz ?_
  cases h3 : inB y 2000 2200 with
  | false =>
   rw [if_pos rfl]
   simp only [evA, if_true, if_false, beq_false, simprocAttr]
   exact frz
  | true =>
  rw [if_neg (by decide)]
  obtain ⟨j, hyj, hj, hjb⟩ := hyY h3
  have h61 := c61 j (by omega)
  rw [← hyj, hjb] at h61
  have hbr := begF_ran j
  rw [hjb] at hbr
  rw [hT]
  generalize (if y - 2000 = 0 then 0 else yearsF (y - 2000)) = Y at h61 hbr
  have hw1 : IntKind.i64.wrap (IntKind.i64.wrap (Y + d) - 1) = Y + d - 1 := by rw [wrap_in (n := Y + d) (by omega), wrap_in (by omega)]
  simp only [evA, if_true, if_false, beq_false, simprocAttr]
  refine DW_s [2] [] hmix (by kernel_rfl) rfl ?_
  simp only [evA, if_true, if_false, beq_false, simprocAttr]
  refine kK_keep (h61.call frz ⟨rfl, rfl⟩) rfl ?_
  simp only [hw1, evA, if_true, if_false, beq_false, simprocAttr]
  refine IL_for (k + 1) (fun i s => 1 ≤ i ∧ ∃ v4 v8 v9 v10 v11, s = ⟨[.agg [.i y, .i m, .i d], .ptr 0 0, .i 0, .i 0, v4, .i (Y + d - 1 + sumL y (i - 1)), .i i, .b false, v8, v9, v10, v11, .undef], [.cells [.i y, .i m, .i d]]⟩) ?_ 1 (by omega) ⟨Nat.le_refl _, _, _, _, _, _, by rw [show sumL y (1 - 1) = 0 from rfl, Int.add_zero]; rfl⟩
  rintro i s hi ⟨hi1, v4, v8, v9, v10, v11, rfl⟩
  obtain ⟨i, rfl⟩ : ∃ i', i = i' + 1 := ⟨i - 1, by omega⟩
  rw [Nat.add_sub_cancel]
  have hsr := sumL_ran y i
  have hli := longF_ran y ((i : Int) + 1)
  by_cases h : i + 1 < k + 1
  ·have hlt : decide (((i + 1 : Nat) : Int) < m) = true := decide_eq_true (by omega)
   have hadd : IntKind.i64.wrap (Y + d - 1 + sumL y i + longF y ((i + 1 : Nat) : Int)) = Y + d - 1 + sumL y (i + 1) := by
    rw [show ((i + 1 : Nat) : Int) = (i : Int) + 1 by omega, sumL, wrap_in (by omega)]; omega
   have hws : IntKind.i64.wrap (((i + 1 : Nat) : Int) + 1) = ((i + 1 + 1 : Nat) : Int) := wrap_succ (by omega)
   simp only [ic19l0, hlt, evA, if_true, if_false, beq_false, simprocAttr]
   refine (c60 y ((i + 1 : Nat) : Int)).call frz ?_
   simp only [hadd, hws, evA, if_true, if_false, beq_false, simprocAttr]
   exact kFor_go (by first | trivial | omega) ⟨_, _, _, _, _, rfl⟩
  ·have hik : i = k := by omega
   subst hik
   have hlt : decide (((i + 1 : Nat) : Int) < m) = false := decide_eq_false (by omega)
   generalize Y + d - 1 + sumL y i = T
   by_cases hgT : T > 40000
   ·rw [if_pos hgT]
    simp only [ic19l0, hlt, hgT, evA, if_true, if_false, beq_false, simprocAttr]
    exact frz
   ·rw [if_neg hgT]
    simp only [ic19l0, hlt, hgT, evA, if_true, if_false, beq_false, simprocAttr]
    exact frz
def nextV (y m d : Int) : AV :=
 if d + 1 > longF y m then (if m + 1 > 12 then .agg [.i (y + 1), .i 1, .i 1] else .agg [.i y, .i (m + 1), .i 1])
 else .agg [.i y, .i m, .i (d + 1)]
theorem c89 (y m d : Int) (hy : 0 ≤ y ∧ y ≤ 5000) (hm : 1 ≤ m ∧ m ≤ 12) (hd : 0 ≤ d ∧ d ≤ 31) : PC Tryz.prog 89 [.agg [.i y, .i m, .i d]] (nextV y m d) := by
 refine ⟨AC_FE (fok89 true) (Nat.le_of_ble_eq_true rfl) ?_, by unfold nextV; repeat (split <;> try rfl)⟩
 have hwd : IntKind.i64.wrap (d + 1) = d + 1 := wrap_in (by omega)
 have hwm : IntKind.i64.wrap (m + 1) = m + 1 := wrap_in (by omega)
 have hwy : IntKind.i64.wrap (y + 1) = y + 1 := wrap_in (by omega)
 unfold nextV
 simp only [ic89, f_box, cellsOf, hwd, evA, if_true, if_false, beq_false, simprocAttr]
 refine DW_s [6] [] hmix (by kernel_rfl) rfl ?_
 simp only [evA, if_true, if_false, beq_false, simprocAttr]
 refine kK_keep ((c60 y m).call frz ⟨rfl, rfl⟩) rfl ?_
 by_cases h : d + 1 > longF y m
 ·rw [if_pos h]
  by_cases h2 : m + 1 > 12
  ·rw [if_pos h2]
   simp only [h, h2, hwm, hwy, evA, if_true, if_false, beq_false, simprocAttr]
   exact frz
  ·rw [if_neg h2]
   simp only [h, h2, hwm, hwy, evA, if_true, if_false, beq_false, simprocAttr]
   exact frz
 ·rw [if_neg h]
  have h2 : ¬ m > 12 := by omega
  simp only [h, h2, hwm, hwy, evA, if_true, if_false, beq_false, simprocAttr]
  exact frz
theorem IsDate.next {D : Int} {j k : Nat} (h : IsDate D j k) (hD : D + 1 < begF (j + 1)) (htop : D + 1 ≤ 40000) : ∃ k', IsDate (D + 1) j k' ∧ nextV (2000 + (j : Int)) ((k : Int) + 1) (D - begF j - sumL (2000 + (j : Int)) k + 1) = dateA (D + 1) j k' := by
 have hy := h.year
 have h1 := h.k12; have h2 := h.lo; have h3 := h.hi; have h4 := h.top
 have hb := begF_ge (j + 1)
 have h3' := h3
 rw [sumL] at h3'
 have hbs := begF_sum j
 unfold nextV
 by_cases hc : D - begF j - sumL (2000 + (j : Int)) k + 1 + 1 > longF (2000 + (j : Int)) ((k : Int) + 1)
 ·rw [if_pos hc]
  have hk : k + 1 < 12 := by
   rcases Nat.lt_or_ge (k + 1) 12 with h | h
   ·exact h
   ·have : k + 1 = 12 := by omega
    rw [this] at h3
    have hs : sumL (2000 + (j : Int)) 12 = sumL (2000 + (j : Int)) k + longF (2000 + (j : Int)) ((k : Int) + 1) := by rw [← this, sumL]
    omega
  rw [if_neg (by omega)]
  have hlr := longF_ran (2000 + (j : Int)) (((k + 1 : Nat) : Int) + 1)
  refine ⟨k + 1, ⟨hk, by rw [sumL]; omega, by rw [sumL, sumL]; omega, htop⟩, ?_⟩
  unfold dateA
  rw [sumL]
  have e1 : (k : Int) + 1 + 1 = ((k + 1 : Nat) : Int) + 1 := by omega
  have e2 : D + 1 - begF j - (sumL (2000 + (j : Int)) k + longF (2000 + (j : Int)) ((k : Int) + 1)) + 1 = 1 := by omega
  rw [e1, e2]
 ·rw [if_neg hc]
  refine ⟨k, ⟨h1, by omega, by rw [sumL]; omega, htop⟩, ?_⟩
  unfold dateA
  have e2 : D + 1 - begF j - sumL (2000 + (j : Int)) k + 1 = D - begF j - sumL (2000 + (j : Int)) k + 1 + 1 := by omega
  rw [e2]
theorem c62 {D : Int} {j k : Nat} (h : IsDate D j k) : PC Tryz.prog 62 [.i D] (dateA D j k) := by
 obtain ⟨hy1, hy2, hj⟩ := h.year
 have hb0 := begF_ge j
 have htop := h.top
 refine ⟨AC_FE (fok62 true) (Nat.le_of_ble_eq_true rfl) ?_, rfl⟩
 simp only [ic62, evA, if_true, if_false, beq_false, simprocAttr]
 refine IL_for j (fun i s => ∃ v3 v4 v5 v6, s = ⟨[.i D, .ptr 0 0, .i (2000 + (i : Int)), v3, v4, v5, v6], [.cells [.i 0, .i 0, .i 0]]⟩) ?_ 0 (Nat.zero_le _) ⟨_, _, _, _, rfl⟩
 rintro i s hi ⟨v3, v4, v5, v6, rfl⟩
 have hwi : IntKind.i64.wrap (2000 + (i : Int) + 1) = 2000 + ((i + 1 : Nat) : Int) := by rw [wrap_in (by omega)]; omega
 by_cases hlt : i < j
 ·have hle : decide (begF (i + 1) ≤ D) = true := decide_eq_true (by have := begF_mono (show i + 1 ≤ j from hlt); omega)
  simp only [ic62l1, hwi, evA, if_true, if_false, beq_false, simprocAttr]
  refine (c61 (i + 1) (by omega)).call frz ?_
  simp only [hle, hwi, evA, if_true, if_false, beq_false, simprocAttr]
  exact kFor_go (by first | trivial | omega) ⟨_, _, _, _, rfl⟩
 have hij : i = j := by omega
 subst hij
 have hle : decide (begF (i + 1) ≤ D) = false := decide_eq_false (by omega)
 simp only [ic62l1, hwi, evA, if_true, if_false, beq_false, simprocAttr]
 refine (c61 (i + 1) (by omega)).call frz ?_
 simp only [hle, evA, if_true, if_false, beq_false, simprocAttr]
 refine (c61 i (by omega)).call frz ?_
 simp only [evA, if_true, if_false, beq_false, simprocAttr]
 obtain ⟨n, hn⟩ : ∃ n : Nat, D - begF i = n := ⟨(D - begF i).toNat, by omega⟩
 have h00 : IsDate (begF i) i 0 := ⟨by omega, by simp [sumL], by rw [sumL, sumL]; have := longF_ran (2000 + (i : Int)) (((0 : Nat) : Int) + 1); omega, by omega⟩
 refine IL_for n (fun t s => ∃ k' v5 v6, IsDate (begF i + t) i k' ∧ s = ⟨[.i D, .ptr 0 0, .i (2000 + (i : Int)), .ptr 1 0, .i (begF i + t), v5, v6], [.cells [.i 0, .i 0, .i 0], .cells [.i (2000 + (i : Int)), .i ((k' : Int) + 1), .i (begF i + t - begF i - sumL (2000 + (i : Int)) k' + 1)]]⟩) ?_ 0 (Nat.zero_le _) ⟨0, _, _, by simpa using h00, by simp [sumL]; trivial⟩
 rintro t s ht ⟨k', v5, v6, hd, rfl⟩
 by_cases htn : t < n
 ·obtain ⟨k2, hd2, hv⟩ := hd.next (by omega) (by omega)
  have hl := longF_ran (2000 + (i : Int)) ((k' : Int) + 1)
  have hx1 := hd.lo; have hx2 := hd.hi; have hx3 := hd.k12
  rw [sumL] at hx2
  have hltD : decide (begF i + (t : Int) < D) = true := decide_eq_true (by omega)
  have h89 := c89 (2000 + (i : Int)) ((k' : Int) + 1) (begF i + t - begF i - sumL (2000 + (i : Int)) k' + 1) (by omega) (by omega) (by omega)
  rw [hv] at h89
  have hwt : IntKind.i64.wrap (begF i + (t : Int) + 1) = begF i + ((t + 1 : Nat) : Int) := by rw [wrap_in (by omega)]; omega
  have hcast : begF i + (t : Int) + 1 = begF i + ((t + 1 : Nat) : Int) := by omega
  rw [hcast] at hd2 h89
  simp only [ic62l0, hltD, evA, if_true, if_false, beq_false, simprocAttr]
  refine h89.call frz ?_
  simp only [hwt, evA, if_true, if_false, beq_false, simprocAttr]
  exact kFor_go (by first | trivial | omega) ⟨k2, _, _, hd2, rfl⟩
 have htn' : t = n := by omega
 subst htn'
 have hDe : begF i + (t : Int) = D := by omega
 rw [hDe] at hd
 have hkk : k' = k := by
  have h1 := hd.lo; have h2 := hd.hi; have h3 := h.lo; have h4 := h.hi
  rcases Nat.lt_trichotomy k' k with hl | he | hl
  ·have := sumL_mono (2000 + (i : Int)) (show k' + 1 ≤ k from hl); omega
  ·exact he
  ·have := sumL_mono (2000 + (i : Int)) (show k + 1 ≤ k' from hl); omega
 subst hkk
 have hltD : decide (D < D) = false := decide_eq_false (by omega)
 simp only [ic62l0, hDe, hltD, evA, if_true, if_false, beq_false, simprocAttr]
 exact frz
theorem c23n (D : Int) (h : inB D 0 40000 = false) : PC Tryz.prog 23 [.i D] (.tup [.agg [.i 0, .i 0, .i 0], .i 7]) := by
 have h59 := c59 D 0 40000
 rw [inD_iff, h] at h59
 refine ⟨AC_FE (fok23 true) (Nat.le_of_ble_eq_true rfl) ?_, rfl⟩
 simp only [ic23, evA, if_true, if_false, beq_false, simprocAttr]
 refine h59.call frz ?_
 simp only [evA, if_true, if_false, beq_false, simprocAttr]
 exact frz
theorem c23 {D : Int} {j k : Nat} (hd : IsDate D j k) : PC Tryz.prog 23 [.i D] (.tup [dateA D j k, .i 0]) := by
 obtain ⟨hy1, hy2, hj⟩ := hd.year
 have hb0 := begF_ge j
 have h : inB D 0 40000 = true := inB_iff.2 ⟨by omega, hd.top⟩
 have h59 := c59 D 0 40000
 rw [inD_iff, h] at h59
 refine ⟨AC_FE (fok23 true) (Nat.le_of_ble_eq_true rfl) ?_, rfl⟩
 simp only [ic23, evA, if_true, if_false, beq_false, simprocAttr]
 refine h59.call frz ?_
 simp only [evA, if_true, if_false, beq_false, simprocAttr]
 refine (c62 hd).call frz ?_
 simp only [evA, if_true, if_false, beq_false, simprocAttr]
 exact frz
theorem c25n (D ys ms : Int) (h : (inB D 0 40000 && (inB ys 0 100 && inB ms 0 1200)) = false) : PC Tryz.prog 25 [.i D, .i ys, .i ms] (.tup [.i 0, .i 7]) := by
 have e1 := c59 D 0 40000
 have e2 := c59 ys 0 100
 have e3 := c59 ms 0 1200
 rw [inD_iff] at e1 e2 e3
 refine ⟨AC_FE (fok25 true) (Nat.le_of_ble_eq_true rfl) ?_, rfl⟩
 simp only [ic25, evA, if_true, if_false, beq_false, simprocAttr]
 refine e1.call frz ?_
 cases h1 : inB D 0 40000 with
 | false =>
  simp only [evA, if_true, if_false, beq_false, simprocAttr]
  exact frz
 | true =>
  simp only [evA, if_true, if_false, beq_false, simprocAttr]
  refine e2.call frz ?_
  cases h2 : inB ys 0 100 with
  | false =>
   simp only [evA, if_true, if_false, beq_false, simprocAttr]
   exact frz
  | true =>
   rw [h1, h2] at h
   simp only [Bool.true_and] at h
   rw [h] at e3
   simp only [evA, if_true, if_false, beq_false, simprocAttr]
   refine e3.call frz ?_
   simp only [evA, if_true, if_false, beq_false, simprocAttr]
   exact frz
theorem c25 {D : Int} {j k : Nat} (hd : IsDate D j k) {ys ms : Int} (hy : 0 ≤ ys ∧ ys ≤ 100) (hm : 0 ≤ ms ∧ ms ≤ 1200) : PC Tryz.prog 25 [.i D, .i ys, .i ms] (plusV D j k ys ms) := by
 have hj := hd.year
 have hdd := hd.dd
 have hlr0 := longF_ran (2000 + (j : Int)) ((k : Int) + 1)
 refine ⟨AC_FE (fok25 true) (Nat.le_of_ble_eq_true rfl) ?_, by unfold plusV dayV; repeat (split <;> try rfl)⟩
 have hk := hd.k12
 have hb := begF_ge j
 have e1 := c59 D 0 40000
 have e2 := c59 ys 0 100
 have e3 := c59 ms 0 1200
 rw [inD_iff] at e1 e2 e3
 rw [inB_iff.2 ⟨by omega, hd.top⟩] at e1
 rw [inB_iff.2 hy] at e2
 rw [inB_iff.2 hm] at e3
 have hw1 : IntKind.i64.wrap (IntKind.i64.wrap (ms + ((k : Int) + 1)) - 1) = ms + k := by rw [wrap_in (n := ms + ((k : Int) + 1)) (by omega), wrap_in (by omega)]; omega
 have hq : (ms + k).tdiv 12 = (ms + k) / 12 := Int.tdiv_eq_ediv_of_nonneg (by omega)
 have hr : (ms + k).tmod 12 = (ms + k) % 12 := Int.tmod_eq_emod_of_nonneg (by omega)
 unfold plusV yPl mPl
 unfold dOf at hdd ⊢
 obtain ⟨q, hqe⟩ : ∃ q, (ms + k) / 12 = q := ⟨_, rfl⟩
 obtain ⟨r, hre⟩ : ∃ r : Nat, (ms + k) % 12 = (r : Int) := ⟨((ms + k) % 12).toNat, by omega⟩
 have hq0 : 0 ≤ q ∧ q ≤ 101 := by omega
 have hr0 : r < 12 := by omega
 rw [hqe] at hq
 rw [hre] at hr
 have hw6 : IntKind.i64.wrap q = q := wrap_in (by omega)
 have hw3 : IntKind.i64.wrap (2000 + (j : Int) + ys) = 2000 + (j : Int) + ys := wrap_in (by omega)
 have hw4 : IntKind.i64.wrap (2000 + (j : Int) + ys + q) = 2000 + (j : Int) + (ys + q) := by rw [wrap_in (by omega)]; omega
 have hw5 : IntKind.i64.wrap ((r : Int) + 1) = (r : Int) + 1 := wrap_in (by omega)
 have hw8 : IntKind.i64.wrap (r : Int) = (r : Int) := wrap_in (by omega)
 rw [hqe, hre]
 generalize 2000 + (j : Int) + (ys + q) = Y at hw4
 have hlr := longF_ran Y ((r : Int) + 1)
 have hmin : (if longF Y ((r : Int) + 1) < D - begF j - sumL (2000 + (j : Int)) k + 1 then longF Y ((r : Int) + 1) else D - begF j - sumL (2000 + (j : Int)) k + 1) = min (D - begF j - sumL (2000 + (j : Int)) k + 1) (longF Y ((r : Int) + 1)) := by
  split <;> omega
 simp only [ic25, evA, if_true, if_false, beq_false, simprocAttr]
 refine e1.call frz ?_
 simp only [evA, if_true, if_false, beq_false, simprocAttr]
 refine e2.call frz ?_
 simp only [evA, if_true, if_false, beq_false, simprocAttr]
 refine e3.call frz ?_
 simp only [evA, if_true, if_false, beq_false, simprocAttr]
 refine (c62 hd).call frz ?_
 simp only [hw1, hq, hr, hw3, hw6, hw8, hw4, hw5, evA, if_true, if_false, beq_false, simprocAttr]
 refine DW_s [6] [] hmix (by kernel_rfl) rfl ?_
 simp only [evA, if_true, if_false, beq_false, simprocAttr]
 refine kK_keep ((c60 Y ((r : Int) + 1)).call frz ⟨rfl, rfl⟩) rfl ?_
 simp only [f_min2, hmin, evA, if_true, if_false, beq_false, simprocAttr]
 obtain ⟨dd, hdde⟩ : ∃ dd, dd = min (D - begF j - sumL (2000 + (j : Int)) k + 1) (longF Y ((r : Int) + 1)) := ⟨_, rfl⟩
 have hdd1 : 1 ≤ dd ∧ dd ≤ longF Y ((r : Int) + 1) := by omega
 rw [← hdde]
 refine (c19 Y ((r : Int) + 1) dd).call frz ?_
 rcases dayV_cases (y := Y) (m := (r : Int) + 1) (d := dd) (by omega) hdd1 with h | ⟨n, h⟩ <;> rw [h] <;> simp only [evA, if_true, if_false, beq_false, simprocAttr] <;> exact frz
theorem bday_ran {D : Int} {j k : Nat} (h : IsDate D j k) (n : Nat) : begF (j + n) ≤ bday D j k n ∧ bday D j k n < begF (j + n + 1) := by
 have h1 := h.dd
 have hl := longF_ran (2000 + ((j + n : Nat) : Int)) ((k : Int) + 1)
 have hs := sumL_ran (2000 + ((j + n : Nat) : Int)) k
 have hb := begF_sum (j + n)
 have hm := sumL_mono (2000 + ((j + n : Nat) : Int)) (show k + 1 ≤ 12 from h.k12)
 rw [sumL] at hm
 unfold bday
 omega
theorem ageN_iff {D E : Int} {j k j2 k2 : Nat} (h : IsDate D j k) (h2 : IsDate E j2 k2) (hle : D ≤ E) {n : Nat} (hn : 1 ≤ n) : bday D j k n ≤ E ↔ n ≤ ageN D E j k j2 := by
 have hj := h.le h2 hle
 have y2 := h2.year
 have r := bday_ran h n
 unfold ageN
 rcases Nat.lt_trichotomy n (j2 - j) with hl | he | hg
 ·have := begF_mono (show j + n + 1 ≤ j2 by omega)
  split <;> constructor <;> intro _ <;> omega
 ·subst he
  split <;> constructor <;> intro _ <;> omega
 ·have := begF_mono (show j2 + 1 ≤ j + n by omega)
  split <;> constructor <;> intro _ <;> omega
theorem dayT_eq (j k : Nat) (hj : j < 401) (hk : k ≤ 12) (d : Int) : dayT (2000 + (j : Int)) ((k : Int) + 1) d = begF j + sumL (2000 + (j : Int)) k + d - 1 := by
 unfold dayT
 rw [befM_sum _ k 12 (Nat.le_refl _), Nat.min_eq_left hk, begF_eq j hj, show 2000 + (j : Int) - 2000 = (j : Int) by omega]
 omega
theorem c26b {D E : Int} {j k j2 k2 : Nat} (h : IsDate D j k) (h2 : IsDate E j2 k2) (hlt : E < D) : PC Tryz.prog 26 [.i D, .i E] (.tup [.i 0, .i 2]) := by
 refine ⟨AC_FE (fok26 true) (Nat.le_of_ble_eq_true rfl) ?_, rfl⟩
 simp only [ic26, evA, if_true, if_false, beq_false, simprocAttr]
 refine (c22 h).call frz ?_
 simp only [evA, if_true, if_false, beq_false, simprocAttr]
 refine (c22 h2).call frz ?_
 simp only [hlt, evA, if_true, if_false, beq_false, simprocAttr]
 exact frz
theorem c27n (D E : Int) (h : (inB D 0 40000 && inB E 0 40000) = false) : PC Tryz.prog 27 [.i D, .i E] (.tup [.i 0, .i 7]) := by
 have e1 := c59 D 0 40000
 have e2 := c59 E 0 40000
 rw [inD_iff] at e1 e2
 refine ⟨AC_FE (fok27 true) (Nat.le_of_ble_eq_true rfl) ?_, rfl⟩
 simp only [ic27, evA, if_true, if_false, beq_false, simprocAttr]
 refine e1.call frz ?_
 cases h1 : inB D 0 40000 with
 | false =>
  simp only [evA, if_true, if_false, beq_false, simprocAttr]
  exact frz
 | true =>
  rw [h1, Bool.true_and] at h
  rw [h] at e2
  simp only [evA, if_true, if_false, beq_false, simprocAttr]
  refine e2.call frz ?_
  simp only [evA, if_true, if_false, beq_false, simprocAttr]
  exact frz
theorem c27b {D E : Int} (h1 : inB D 0 40000 = true) (h2 : inB E 0 40000 = true) (hlt : E < D) : PC Tryz.prog 27 [.i D, .i E] (.tup [.i 0, .i 2]) := by
 have e1 := c59 D 0 40000
 have e2 := c59 E 0 40000
 rw [inD_iff, h1] at e1
 rw [inD_iff, h2] at e2
 refine ⟨AC_FE (fok27 true) (Nat.le_of_ble_eq_true rfl) ?_, rfl⟩
 simp only [ic27, evA, if_true, if_false, beq_false, simprocAttr]
 refine e1.call frz ?_
 simp only [evA, if_true, if_false, beq_false, simprocAttr]
 refine e2.call frz ?_
 simp only [hlt, evA, if_true, if_false, beq_false, simprocAttr]
 exact frz
theorem c27 {D E : Int} {j k j2 k2 : Nat} (h : IsDate D j k) (h2 : IsDate E j2 k2) (hle : D ≤ E) : PC Tryz.prog 27 [.i D, .i E] (.tup [.i (ageN D E j k j2), .i 0]) := by
 have hy := h.year; have hy2 := h2.year
 have hb := begF_ge j
 have hb2 := begF_ge j2
 have htop2 := h2.top
 have e1 := c59 D 0 40000
 have e2 := c59 E 0 40000
 rw [inD_iff, inB_iff.2 ⟨by omega, h.top⟩] at e1
 rw [inD_iff, inB_iff.2 ⟨by omega, h2.top⟩] at e2
 have hlt : ¬ (E < D) := by omega
 have hag : ageN D E j k j2 ≤ 110 := by unfold ageN; split <;> omega
 have hiff := fun n hn => ageN_iff h h2 hle (n := n) hn
 have hk := h.k12
 generalize ageN D E j k j2 = A at hag hiff
 have hdd := h.dd
 refine ⟨AC_FE (fok27 true) (Nat.le_of_ble_eq_true rfl) ?_, rfl⟩
 simp only [ic27, evA, if_true, if_false, beq_false, simprocAttr]
 refine e1.call frz ?_
 simp only [evA, if_true, if_false, beq_false, simprocAttr]
 refine e2.call frz ?_
 simp only [hlt, evA, if_true, if_false, beq_false, simprocAttr]
 refine IL_for 111 (fun i s => 1 ≤ i ∧ ∃ v6 v7 v8 v11 v12, s = ⟨[.i D, .i E, .i 0, .i 0, .i ((min (i - 1) A : Nat) : Int), .i i, v6, v7, v8, .b false, .b false, v11, v12], []⟩) ?_ 1 (by omega) ⟨Nat.le_refl _, .undef, .undef, .undef, .undef, .undef, by simp⟩
 rintro i s hi ⟨hi1, v6, v7, v8, v11, v12, rfl⟩
 by_cases hin : i < 111
 ·have hle110 : decide ((i : Int) ≤ 110) = true := decide_eq_true (by omega)
  have hwy : IntKind.i64.wrap (2000 + (j : Int) + (i : Int)) = 2000 + ((j + i : Nat) : Int) := by rw [wrap_in (by omega)]; omega
  have hwi : IntKind.i64.wrap ((i : Int) + 1) = ((i + 1 : Nat) : Int) := wrap_succ (by omega)
  have hlr := longF_ran (2000 + ((j + i : Nat) : Int)) ((k : Int) + 1)
  have hmin : (if longF (2000 + ((j + i : Nat) : Int)) ((k : Int) + 1) < D - begF j - sumL (2000 + (j : Int)) k + 1 then longF (2000 + ((j + i : Nat) : Int)) ((k : Int) + 1) else D - begF j - sumL (2000 + (j : Int)) k + 1) = min (dOf D j k) (longF (2000 + ((j + i : Nat) : Int)) ((k : Int) + 1)) := by
   unfold dOf; split <;> omega
  have hbd : bday D j k i = begF (j + i) + sumL (2000 + ((j + i : Nat) : Int)) k + min (dOf D j k) (longF (2000 + ((j + i : Nat) : Int)) ((k : Int) + 1)) - 1 := rfl
  obtain ⟨dd, hde⟩ : ∃ dd, dd = min (dOf D j k) (longF (2000 + ((j + i : Nat) : Int)) ((k : Int) + 1)) := ⟨_, rfl⟩
  rw [← hde] at hmin hbd
  have hdd1 : 1 ≤ dd ∧ dd ≤ longF (2000 + ((j + i : Nat) : Int)) ((k : Int) + 1) := by omega
  have hv := dayV_ok (y := 2000 + ((j + i : Nat) : Int)) (m := (k : Int) + 1) (d := dd) (by omega) hdd1
  rw [dayT_eq (j + i) k (by omega) (by omega), ← hbd] at hv
  have hbg := begF_ge (j + i)
  have hbr := bday_ran h i
  have hiA := hiff i hi1
  simp only [ic27l0, hle110, evA, if_true, if_false, beq_false, simprocAttr]
  refine (c62 h).call frz ?_
  simp only [hwy, evA, if_true, if_false, beq_false, simprocAttr]
  refine DW_s [6] [] hmix (by kernel_rfl) rfl ?_
  simp only [evA, if_true, if_false, beq_false, simprocAttr]
  refine kK_keep ((c60 (2000 + ((j + i : Nat) : Int)) ((k : Int) + 1)).call frz ⟨rfl, rfl⟩) rfl ?_
  simp only [f_min2, hmin, evA, if_true, if_false, beq_false, simprocAttr]
  refine (c19 (2000 + ((j + i : Nat) : Int)) ((k : Int) + 1) dd).call frz ?_
  rw [hv]
  have none_ : ¬ i ≤ A → min (i - 1) A = min (i + 1 - 1) A := fun h => by omega
  have some_ : i ≤ A → (i : Int) = ((min (i + 1 - 1) A : Nat) : Int) := fun h => by omega
  by_cases hr : inB (2000 + ((j + i : Nat) : Int)) 2000 2200 = false
  ·rw [if_pos hr]
   have hno : ¬ i ≤ A := fun hle => by
    have := hiA.2 hle
    have hr2 : ¬ (inB (2000 + ((j + i : Nat) : Int)) 2000 2200 = true) := by rw [hr]; decide
    rw [inB_iff] at hr2
    omega
   rw [none_ hno]
   simp only [hwi, evA, if_true, if_false, beq_false, simprocAttr]
   exact kFor_clip [] _ rfl (by first | trivial | omega) (Nat.zero_le _) (by simp) ⟨_, _, _, _, _, rfl⟩
  ·rw [if_neg hr]
   by_cases hg : bday D j k i > 40000
   ·rw [if_pos hg]
    have hno : ¬ i ≤ A := fun hle => by
     have := hiA.2 hle
     omega
    rw [none_ hno]
    simp only [hwi, evA, if_true, if_false, beq_false, simprocAttr]
    exact kFor_clip [] _ rfl (by first | trivial | omega) (Nat.zero_le _) (by simp) ⟨_, _, _, _, _, rfl⟩
   ·rw [if_neg hg]
    by_cases hc : bday D j k i ≤ E
    ·simp only [hwi, hc, evA, if_true, if_false, beq_false, simprocAttr]
     have hiA2 : min i A = i := by have := hiA.1 hc; omega
     exact kFor_clip [] _ rfl (by first | trivial | omega) (Nat.zero_le _) (by simp) ⟨_, _, _, _, _, by rw [hiA2]; rfl⟩
    ·rw [none_ (fun h => hc (hiA.2 h))]
     simp only [hwi, hc, evA, if_true, if_false, beq_false, simprocAttr]
     exact kFor_clip [] _ rfl (by first | trivial | omega) (Nat.zero_le _) (by simp) ⟨_, _, _, _, _, rfl⟩
 have : i = 111 := by omega
 subst this
 have hle110 : decide (((111 : Nat) : Int) ≤ 110) = false := by decide
 have hA : min (111 - 1) A = A := by omega
 rw [hA]
 simp only [ic27l0, hle110, evA, if_true, if_false, beq_false, simprocAttr]
 exact frz
theorem typed_int {P : Program} {t : TypeId} {k : IntKind} {cs : List CV} (ht : P.underlying t = some (.int k)) (h : Typed P t cs) : ∃ n, cs = [.int k n] ∧ (Lit.int k n).wf = true := by
 cases h with
 | int ht' n hw => rw [ht] at ht'; cases ht'; exact ⟨n, rfl, hw⟩
 | bool ht' => rw [ht] at ht'; cases ht'
 | str ht' => rw [ht] at ht'; cases ht'
 | slc ht' => rw [ht] at ht'; cases ht'
 | arr ht' => rw [ht] at ht'; cases ht'
 | struct ht' => rw [ht] at ht'; cases ht'
theorem typed_str {P : Program} {t : TypeId} {cs : List CV} (ht : P.underlying t = some .string) (h : Typed P t cs) : ∃ s : ByteArray, cs = [.str s] ∧ s.size ≤ maxLen := by
 cases h with
 | str ht' s hs => exact ⟨s, rfl, hs⟩
 | bool ht' => rw [ht] at ht'; cases ht'
 | int ht' => rw [ht] at ht'; cases ht'
 | slc ht' => rw [ht] at ht'; cases ht'
 | arr ht' => rw [ht] at ht'; cases ht'
 | struct ht' => rw [ht] at ht'; cases ht'
theorem typed_arr {P : Program} {t e : TypeId} {n : Nat} {cs : List CV} (ht : P.underlying t = some (.array n e)) (h : Typed P t cs) : ∃ L : List (List CV), cs = L.flatten ∧ L.length = n ∧ (∀ l ∈ L, l.length = P.cellsOf e) ∧ ∀ l ∈ L, Typed P e l := by
 cases h with
 | arr ht' L hn hl h => rw [ht] at ht'; cases ht'; exact ⟨L, rfl, hn, hl, h⟩
 | bool ht' => rw [ht] at ht'; cases ht'
 | int ht' => rw [ht] at ht'; cases ht'
 | str ht' => rw [ht] at ht'; cases ht'
 | slc ht' => rw [ht] at ht'; cases ht'
 | struct ht' => rw [ht] at ht'; cases ht'
theorem typed_struct {P : Program} {t : TypeId} {fs : Array Field} {cs : List CV} (ht : P.underlying t = some (.struct fs)) (h : Typed P t cs) : ∃ L : List (List CV), cs = L.flatten ∧ L.length = fs.size ∧ ∀ (i : Nat) (f : Field) (l : List CV), fs[i]? = some f → L[i]? = some l → Typed P f.type l := by
 cases h with
 | struct ht' L hn hl h => rw [ht] at ht'; cases ht'; exact ⟨L, rfl, hn, h⟩
 | bool ht' => rw [ht] at ht'; cases ht'
 | int ht' => rw [ht] at ht'; cases ht'
 | str ht' => rw [ht] at ht'; cases ht'
 | slc ht' => rw [ht] at ht'; cases ht'
 | arr ht' => rw [ht] at ht'; cases ht'
theorem ints_of {P : Program} {e : TypeId} {k : IntKind} (he : P.underlying e = some (.int k)) : ∀ L : List (List CV), (∀ l ∈ L, Typed P e l) → ∃ zs : List Int, L.flatten = zs.map (.int k) ∧ L.length = zs.length ∧ ∀ z ∈ zs, (Lit.int k z).wf = true
 | [], _ => ⟨[], rfl, rfl, by simp⟩
 | l :: L, h => by
  obtain ⟨n, rfl, hn⟩ := typed_int he (h l (by simp))
  obtain ⟨zs, h1, h2, h3⟩ := ints_of he L fun l hl => h l (by simp [hl])
  exact ⟨n :: zs, by simp [h1], by simp [h2], by simpa using ⟨hn, h3⟩⟩
theorem wf_i64 {n : Int} (h : (Lit.int .i64 n).wf = true) : -9223372036854775808 ≤ n ∧ n ≤ 9223372036854775807 := by
 simp only [Lit.wf, Bool.and_eq_true, decide_eq_true_eq, IntKind.min, IntKind.max, IntKind.bits, IntKind.signed] at h
 simp at h; omega
theorem args_cons {P : Program} {t : TypeId} {ts : List TypeId} {avs : List AV} (h : Args P (t :: ts) avs) : ∃ cs avs', avs = avOf P t cs :: avs' ∧ Typed P t cs ∧ Args P ts avs' := by
 generalize hts : t :: ts = u at h
 cases h with
 | nil => cases hts
 | cons h1 h2 => cases hts; exact ⟨_, _, rfl, h1, h2⟩
theorem args_nil {P : Program} {avs : List AV} (h : Args P [] avs) : avs = [] := by
 generalize hts : ([] : List TypeId) = u at h
 cases h with
 | nil => rfl
 | cons h1 h2 => cases hts
end Go.Proofs.YtpnghcaccfnngaaGreatDoor.AM
namespace Go.Proofs.YtpnghcaccfnngaaGreatDoor.AM
open Go Pl
theorem typed_s {cs : List CV} (h : Typed Tryz.prog 9 cs) : ∃ x : ByteArray, avOf Tryz.prog 9 cs = .cv (.str x) ∧ x.size < 2 ^ 63 := by
 obtain ⟨n, rfl, hw⟩ := typed_str Tryz.underlying9 h
 have hm : maxLen < 2 ^ 63 := by decide
 exact ⟨n, by simp [avOf, Tryz.underlying9], by omega⟩
end Go.Proofs.YtpnghcaccfnngaaGreatDoor.AM
namespace Go.Proofs.YtpnghcaccfnngaaGreatDoor.AM
variable [Dr]
open Go
abbrev vs3 : List Nat := [0, 1, 2, 4, 5, 6, 7, 8, 9, 10, 11, 12, 37, 57, 85]
def ic3 : IC := (.seq (.region [jb 3 1, jb 4 2, jw 5 .mv [jB false]])
 (.seq (.region [jN 3 3, jk 18 [.t 0], jt 1, jx 0 2, jx 1 2, jm 6 3, jm 7 4])
 (.seq (.region [jN 3 3, jk 19 [.t 0], jt 1, jx 0 2, jx 1 2, jm 8 3, jm 9 4])
 (.seq (.seq (.region [jv 6, jv 8, jq (.bin .neq .int) [.t 0, .t 1], jt 2, jh 3 false 7, jh 3 false 9, jg 3 false (.bin .neq .int) [.t 4, .t 5], jq .pick [.t 3, jB true, .t 6], jt 7, jh 8 false 0, jf 8 false 20 [.t 9], jh 8 false 0, jf 8 false 21 [.t 11], jg 8 false (.bin .neq .bool) [.t 10, .t 12], jw 12 .pick [.t 8, jB true, .t 13]])
 (.cond 12 (.seq (.region [jw 5 .mv [jB false]])
 .ret)
 .skip))
 (.seq (.region [jq (.iaA 4 1) [.v 4, jn 0], jl 0, jk 22 [.t 1], jt 2, jx 0 3, jx 1 3, jw 10 (.alloc [(.cv (.int .i64 0)), (.cv (.int .i64 0)), (.cv (.int .i64 0))]) [], jq (.store 3) [.v 10, .t 4], jm 7 5])
 (.seq (.region [jq (.iaA 4 1) [.v 4, jn 0], jl 0, jk 23 [.t 1], jt 2, jx 0 3, jx 1 3, jw 11 (.alloc [(.cv (.int .i64 0)), (.cv (.int .i64 0)), (.cv (.int .i64 0))]) [], jq (.store 3) [.v 11, .t 4], jm 9 5])
 (.seq (.seq (.region [jN 3 10, jN 3 11, jq (.eqS true (true, [(.int .i64), (.int .i64), (.int .i64)])) [.t 0, .t 1], jt 2, jh 3 false 7, jh 3 false 9, jg 3 false (.bin .neq .int) [.t 4, .t 5], jw 13 .pick [.t 3, jB true, .t 6]])
 (.cond 13 (.seq (.region [jw 5 .mv [jB false]])
 .ret)
 .skip))
 (.seq (.region [jq (.iaA 4 1) [.v 4, jn 0], jl 0, jq (.iaA 4 1) [.v 4, jn 1], jl 2, jq (.iaA 4 1) [.v 4, jn 2], jl 4, jk 24 [.t 1, .t 3, .t 5], jt 6, jx 0 7, jx 1 7, jm 6 8, jm 7 9])
 (.seq (.region [jq (.iaA 4 1) [.v 4, jn 0], jl 0, jq (.iaA 4 1) [.v 4, jn 1], jl 2, jq (.iaA 4 1) [.v 4, jn 2], jl 4, jk 25 [.t 1, .t 3, .t 5], jt 6, jx 0 7, jx 1 7, jm 8 8, jm 9 9])
 (.seq (.seq (.region [jv 6, jv 8, jq (.bin .neq .int) [.t 0, .t 1], jt 2, jh 3 false 7, jh 3 false 9, jg 3 false (.bin .neq .int) [.t 4, .t 5], jw 14 .pick [.t 3, jB true, .t 6]])
 (.cond 14 (.seq (.region [jw 5 .mv [jB false]])
 .ret)
 .skip))
 (.seq (.region [jq (.iaA 4 1) [.v 4, jn 0], jl 0, jq (.iaA 4 1) [.v 4, jn 3], jl 2, jk 26 [.t 1, .t 3], jt 4, jx 0 5, jx 1 5, jm 6 6, jm 7 7])
 (.seq (.region [jq (.iaA 4 1) [.v 4, jn 0], jl 0, jq (.iaA 4 1) [.v 4, jn 3], jl 2, jk 27 [.t 1, .t 3], jt 4, jx 0 5, jx 1 5, jm 8 6, jm 9 7])
 (.seq (.region [jv 6, jv 8, jq (.bin .eql .int) [.t 0, .t 1], jt 2, jh 3 true 7, jh 3 true 9, jg 3 true (.bin .eql .int) [.t 4, .t 5], jq .pick [.t 3, .t 6, jB false], jt 7, jf 8 true 28 [], jq .pick [.t 8, .t 9, jB false], jm 5 10])
 .ret)))))))))))))
abbrev rs3 : List RC := [(.v 5)]
theorem fok3 (p : Bool) : FnOk Tryz.prog 3 ⟨ic3, vs3, 113, rs3, p⟩ := .mk2 Tryz.func3 (by kernel_rfl) (by kernel_rfl) (by kernel_rfl) (by kernel_rfl) (by kernel_rfl)
end Go.Proofs.YtpnghcaccfnngaaGreatDoor.AM
namespace Go.Proofs.YtpnghcaccfnngaaGreatDoor.AM
open Go Pl
def W64 (n : Int) : Prop := -9223372036854775808 ≤ n ∧ n ≤ 9223372036854775807
abbrev K3 : Bool × List KK := (true, [.int .i64, .int .i64, .int .i64])
theorem d_eq {a b c a' b' c' : Int} (h1 : W64 a) (h2 : W64 b) (h3 : W64 c) (h4 : W64 a') (h5 : W64 b') (h6 : W64 c') : keyEqK K3 (.agg [.i a, .i b, .i c]) (.agg [.i a', .i b', .i c']) = some (decide (a = a' ∧ b = b' ∧ c = c')) := by
 simp [keyEqK, keyCells, kksOk, kkOk, wf_int h1, wf_int h2, wf_int h3, wf_int h4, wf_int h5, wf_int h6, cellsEq, cellEq]
theorem day_form (y m d : Int) : ∃ v e, dayV y m d = .tup [.i v, .i e] := by
 unfold dayV
 repeat' split
 all_goals exact ⟨_, _, rfl⟩
theorem isDate_w {D : Int} {j k : Nat} (h : IsDate D j k) : W64 (2000 + (j : Int)) ∧ W64 ((k : Int) + 1) ∧ W64 (D - begF j - sumL (2000 + (j : Int)) k + 1) := by
 obtain ⟨hy1, hy2, hj⟩ := h.year
 have h1 := h.k12; have h2 := h.lo; have h3 := h.top
 have hb := begF_ge j
 have hD0 : 0 ≤ sumL (2000 + (j : Int)) k := (sumL_ran _ _).1
 refine ⟨⟨by omega, by omega⟩, ⟨by omega, by omega⟩, by omega, by omega⟩
theorem date_form (D : Int) : ∃ y m d e, PC Tryz.prog 22 [.i D] (.tup [.agg [.i y, .i m, .i d], .i e]) ∧ PC Tryz.prog 23 [.i D] (.tup [.agg [.i y, .i m, .i d], .i e]) ∧ W64 y ∧ W64 m ∧ W64 d := by
 cases h : inB D 0 40000 with
 | false => exact ⟨0, 0, 0, 7, c22n D h, c23n D h, by unfold W64; decide, by unfold W64; decide, by unfold W64; decide⟩
 | true =>
  obtain ⟨h0, h1⟩ := inB_iff.1 h
  obtain ⟨j, k, hd⟩ := isDate_of h0 h1
  obtain ⟨w1, w2, w3⟩ := isDate_w hd
  exact ⟨_, _, _, _, c22 hd, c23 hd, w1, w2, w3⟩
theorem plus_form (D ys ms : Int) : ∃ v e, PC Tryz.prog 24 [.i D, .i ys, .i ms] (.tup [.i v, .i e]) ∧ PC Tryz.prog 25 [.i D, .i ys, .i ms] (.tup [.i v, .i e]) := by
 cases h : (inB D 0 40000 && (inB ys 0 100 && inB ms 0 1200)) with
 | false => exact ⟨0, 7, c24n D ys ms h, c25n D ys ms h⟩
 | true =>
  simp only [Bool.and_eq_true] at h
  obtain ⟨h0, h1⟩ := inB_iff.1 h.1
  obtain ⟨j, k, hd⟩ := isDate_of h0 h1
  have h24 := c24 hd (inB_iff.1 h.2.1) (inB_iff.1 h.2.2)
  have h25 := c25 hd (inB_iff.1 h.2.1) (inB_iff.1 h.2.2)
  unfold plusV at h24 h25
  obtain ⟨v, e, he⟩ := day_form (yPl j k ys ms) (mPl k ms) (min (dOf D j k) (longF (yPl j k ys ms) (mPl k ms)))
  rw [he] at h24 h25
  exact ⟨v, e, h24, h25⟩
theorem age_form (D E : Int) : ∃ v e, PC Tryz.prog 26 [.i D, .i E] (.tup [.i v, .i e]) ∧ PC Tryz.prog 27 [.i D, .i E] (.tup [.i v, .i e]) := by
 cases h : (inB D 0 40000 && inB E 0 40000) with
 | false => exact ⟨0, 7, c26n D E h, c27n D E h⟩
 | true =>
  simp only [Bool.and_eq_true] at h
  obtain ⟨h0, h1⟩ := inB_iff.1 h.1
  obtain ⟨h2, h3⟩ := inB_iff.1 h.2
  obtain ⟨j, k, hd⟩ := isDate_of h0 h1
  obtain ⟨j2, k2, hd2⟩ := isDate_of h2 h3
  by_cases hlt : E < D
  ·exact ⟨0, 2, c26b hd hd2 hlt, c27b h.1 h.2 hlt⟩
  ·exact ⟨_, _, c26 hd hd2 (by omega), c27 hd hd2 (by omega)⟩
theorem lc3 (x : ByteArray) (hx : x.size < 2 ^ 63) (y m d a b c e : Int) : AC Tryz.prog 3 [.cv (.str x), .agg [.i y, .i m, .i d], .agg [.i a, .i b, .i c, .i e]] [] fun r _ => r = .b true := by
 refine AC_FE (fok3 true) (Nat.le_of_ble_eq_true rfl) ?_
 have h18 := c18 y m d
 have h19 := c19 y m d
 obtain ⟨v1, e1, h⟩ := day_form y m d
 rw [h] at h18 h19
 have h20 := c20 x hx
 have h21 := c21 x hx
 generalize nameOk x = nm at *
 obtain ⟨y2, m2, d2, e2, h22, h23, w1, w2, w3⟩ := date_form a
 obtain ⟨v3, e3, h24, h25⟩ := plus_form a b c
 obtain ⟨v4, e4, h26, h27⟩ := age_form a e
 have q1 : (v1 != v1) = false := by simp
 have q2 : (e1 != e1) = false := by simp
 have q3 : (nm != nm) = false := by simp
 have q4 : (e2 != e2) = false := by simp
 have q5 : (v3 != v3) = false := by simp
 have q6 : (e3 != e3) = false := by simp
 have q7 : (v4 == v4) = true := by simp
 have q8 : (e4 == e4) = true := by simp
 have q10 : (nm == nm) = true := by simp
 have q9 := d_eq w1 w2 w3 w1 w2 w3
 rw [decide_eq_true ⟨rfl, rfl, rfl⟩] at q9
 simp only [ic3, f_box, cellsOf, evA, if_true, if_false, beq_false, simprocAttr]
 refine h18.call frz ?_
 simp only [evA, if_true, if_false, beq_false, simprocAttr]
 refine h19.call frz ?_
 simp only [q1, q2, evA, if_true, if_false, beq_false, simprocAttr]
 refine h20.call frz ?_
 simp only [evA, if_true, if_false, beq_false, simprocAttr]
 refine h21.call frz ?_
 simp only [q3, q10, Bool.not_true, f_iaA, evA, if_true, if_false, beq_false, simprocAttr]
 refine h22.call frz ?_
 simp only [f_iaA, evA, if_true, if_false, beq_false, simprocAttr]
 refine h23.call frz ?_
 simp only [q9, q4, Option.map_some, Bool.not_true, f_iaA, evA, if_true, if_false, beq_false, simprocAttr]
 refine h24.call frz ?_
 simp only [f_iaA, evA, if_true, if_false, beq_false, simprocAttr]
 refine h25.call frz ?_
 simp only [q5, q6, f_iaA, evA, if_true, if_false, beq_false, simprocAttr]
 refine h26.call frz ?_
 simp only [f_iaA, evA, if_true, if_false, beq_false, simprocAttr]
 refine h27.call frz ?_
 simp only [q7, q8, evA, if_true, if_false, beq_false, simprocAttr]
 refine awake.call .nil ?_
 simp only [evA, if_true, if_false, beq_false, simprocAttr]
theorem typed_date {cs : List CV} (h : Typed Tryz.prog 23 cs) : ∃ y m d : Int, avOf Tryz.prog 23 cs = .agg [.i y, .i m, .i d] ∧ W64 y ∧ W64 m ∧ W64 d := by
 obtain ⟨L, rfl, hn, hf⟩ := typed_struct Tryz.underlying23 h
 match L, hn with
 | [a, b, c], _ =>
  obtain ⟨n1, rfl, w1⟩ := typed_int Tryz.underlying3 (hf 0 _ a rfl rfl)
  obtain ⟨n2, rfl, w2⟩ := typed_int Tryz.underlying3 (hf 1 _ b rfl rfl)
  obtain ⟨n3, rfl, w3⟩ := typed_int Tryz.underlying3 (hf 2 _ c rfl rfl)
  exact ⟨n1, n2, n3, by simp [avOf, Tryz.underlying23], wf_i64 w1, wf_i64 w2, wf_i64 w3⟩
theorem typed_four {cs : List CV} (h : Typed Tryz.prog 24 cs) : ∃ a b c d : Int, avOf Tryz.prog 24 cs = .agg [.i a, .i b, .i c, .i d] := by
 obtain ⟨L, rfl, hl, hl2, hl3⟩ := typed_arr Tryz.underlying24 h
 obtain ⟨xs, hx1, hx2, hx3⟩ := ints_of Tryz.underlying3 L hl3
 rw [hx1]
 match xs, (hx2.symm.trans hl), hx3 with
 | [a, b, c, d], _, _ => exact ⟨a, b, c, d, by simp [avOf, Tryz.underlying24]⟩
theorem law_ClassDays (avs : List AV) (h : Args Tryz.prog Tryz.f3.params.toList avs) : AC Tryz.prog 3 avs [] fun r _ => r = .b true := by
 have h : Args Tryz.prog [9, 23, 24] avs := h
 obtain ⟨cs1, avs, rfl, h1, h⟩ := args_cons h
 obtain ⟨cs2, avs, rfl, h2, h⟩ := args_cons h
 obtain ⟨cs3, avs, rfl, h3, h⟩ := args_cons h
 cases args_nil h
 obtain ⟨x, e1, hx⟩ := typed_s h1
 obtain ⟨y, m, d, e2, _⟩ := typed_date h2
 obtain ⟨a, b, c, e, e3⟩ := typed_four h3
 rw [e1, e2, e3]
 exact lc3 x hx y m d a b c e
end Go.Proofs.YtpnghcaccfnngaaGreatDoor.AM

/- Parts of the proof of More. -/
import Derived.Test.YtpnghcaccfnngaaGreatDoorRows
import Derived.WalkKit
import Derived.ProofKit
import Derived.OpenShut
import Derived.Carry
import Derived.Test.YtpnghcaccfnngaaGreatDoorZ17
set_option linter.unusedVariables false
set_option linter.unusedSimpArgs false
set_option linter.unusedSectionVars false
namespace Go.Proofs.YtpnghcaccfnngaaGreatDoor.AM
variable [Dr]
open Go Go.ChangeShapes Go.WideShapes Go.ChangeAt Go.RowKit
abbrev noO : Nat → Prop := Own (fun _ => none) (fun _ => False)
theorem not_noO (b : Nat) : ¬ noO b := by rintro (h | ⟨l, hl⟩); exact h; cases hl
theorem fin_choice {α : Type} {Q : Nat → α → Prop} : ∀ (n : Nat), (∀ i, i < n → ∃ l, Q i l) → ∃ L : List α, L.length = n ∧ ∀ (i : Nat) (l : α), L[i]? = some l → Q i l
 | 0, _ => ⟨[], rfl, by simp⟩
 | n + 1, h => by
  obtain ⟨L, h1, h2⟩ := fin_choice n (fun i hi => h i (by omega))
  obtain ⟨l, hl⟩ := h n (by omega)
  refine ⟨L ++ [l], by simp [h1], fun i l' hi => ?_⟩
  rcases Nat.lt_or_ge i n with hlt | hge
  ·rw [List.getElem?_append_left (by omega)] at hi; exact h2 i l' hi
  ·rw [List.getElem?_append_right (by omega), h1] at hi
   have : i = n := by
    rcases Nat.lt_or_ge n i with h' | h'
    ·rw [List.getElem?_eq_none (by simp; omega)] at hi; cases hi
    ·omega
   subst this
   simp at hi; subst hi; exact hl
theorem flat_rel {R : Nat → CV → Prop} {esz : Nat} : ∀ (L : List (List CV)) (n : Nat), (∀ (i : Nat) (l : List CV), L[i]? = some l → l.length = esz ∧ ∀ (j : Nat) (c : CV), l[j]? = some c → R (n + i * esz + j) c) →
  L.flatten.length = L.length * esz ∧ ∀ (k : Nat) (c : CV), L.flatten[k]? = some c → R (n + k) c
 | [], n, _ => by simp
 | l :: L, n, h => by
  obtain ⟨h1, h2⟩ := h 0 l (by simp)
  have ih := flat_rel L (n + esz) (fun i l' hi => by
   obtain ⟨g1, g2⟩ := h (i + 1) l' (by simpa using hi)
   refine ⟨g1, fun j c hj => ?_⟩
   have := g2 j c hj
   rwa [Nat.add_mul, Nat.one_mul, ← Nat.add_assoc, Nat.add_right_comm n] at this)
  refine ⟨by simp [h1, ih.1, Nat.add_mul, Nat.add_comm], fun k c hk => ?_⟩
  rw [List.flatten_cons] at hk
  rcases Nat.lt_or_ge k l.length with hlt | hge
  ·rw [List.getElem?_append_left hlt] at hk
   have := h2 k c hk
   simpa using this
  ·rw [List.getElem?_append_right hge] at hk
   have := ih.2 (k - l.length) c hk
   rwa [show n + esz + (k - l.length) = n + k by omega] at this
theorem flat_relF {P : Program} {R : Nat → CV → Prop} {N : Nat} : ∀ (fs : List Field) (L : List (List CV)) (n : Nat), fieldsEnd P fs n = some N → L.length = fs.length →
  (∀ (i : Nat) (f : Field) (l : List CV), fs[i]? = some f → L[i]? = some l → l.length = P.cellsOf f.type ∧ ∀ (j : Nat) (c : CV), l[j]? = some c → R (f.offset + j) c) →
  n + L.flatten.length = N ∧ ∀ (k : Nat) (c : CV), L.flatten[k]? = some c → R (n + k) c
 | [], L, n, he, hl, _ => by
  have : L = [] := List.eq_nil_of_length_eq_zero (by simpa using hl)
  subst this
  simp only [fieldsEnd, Option.some.injEq] at he
  simp [he]
 | f :: fs, [], n, _, hl, _ => by simp at hl
 | f :: fs, l :: L, n, he, hl, h => by
  simp only [fieldsEnd] at he
  split at he
  ·rename_i hoff
   obtain ⟨h1, h2⟩ := h 0 f l (by simp) (by simp)
   have ih := flat_relF fs L (n + P.cellsOf f.type) he (by simpa using hl) (fun i f' l' hf hl' => h (i + 1) f' l' (by simpa using hf) (by simpa using hl'))
   refine ⟨by rw [← ih.1]; simp [h1]; omega, fun k c hk => ?_⟩
   rw [List.flatten_cons] at hk
   rcases Nat.lt_or_ge k l.length with hlt | hge
   ·rw [List.getElem?_append_left hlt] at hk
    have := h2 k c hk
    rwa [hoff] at this
   ·rw [List.getElem?_append_right hge] at hk
    have := ih.2 (k - l.length) c hk
    rwa [show n + P.cellsOf f.type + (k - l.length) = n + k by omega] at this
  ·cases he
theorem reps_of_all {W : World} {a : Addr} : ∀ (cs : List CV) (i : Nat), (∀ (j : Nat) (c : CV), cs[j]? = some c → ∃ v, W.cell? (a.add (i + j)) = some v ∧ c.rep W noO v) → CV.reps W noO cs a i
 | [], _, _ => by simp [CV.reps]
 | c :: cs, i, h => by
  simp only [CV.reps]
  refine ⟨not_noO _, by simpa using h 0 c (by simp), reps_of_all cs (i + 1) fun j c' hj => ?_⟩
  have := h (j + 1) c' (by simpa using hj)
  rwa [show i + (j + 1) = i + 1 + j by omega] at this
section
variable {H : Type} {enc : TypeId × Value → H} {P : Program} {W : World}
theorem trod_typed : ∀ (n : Nat) (t : TypeId) (cs : List Value) (x : DataW H × List MemPlace) (fuel : Nat), openT P n t = true → DataW.trod enc P W 0 (fun _ => true) true fuel t cs = some x →
  ∃ cvs : List CV, Typed P t cvs ∧ cvs.length = cs.length ∧ ∀ (i : Nat) (c : CV) (v : Value), cvs[i]? = some c → cs[i]? = some v → c.rep W noO v
 | 0, t, cs, x, fuel, ho, _ => by simp [openT] at ho
 | n + 1, t, cs, x, fuel, ho, h => by
  simp only [openT] at ho
  split at ho
  ·rename_i ht
   obtain ⟨b, rfl, _⟩ := DataW.trod_bool ht h
   refine ⟨[.bool b], .bool ht b, rfl, fun i c v h1 h2 => ?_⟩
   cases i with
   | zero => simp at h1 h2; subst h1 h2; simp [CV.rep]
   | succ i => simp at h1
  ·rename_i k ht
   obtain ⟨b, rfl, _, hw⟩ := DataW.trod_int ht h
   refine ⟨[.int k b], .int ht b hw, rfl, fun i c v h1 h2 => ?_⟩
   cases i with
   | zero => simp at h1 h2; subst h1 h2; simp [CV.rep]
   | succ i => simp at h1
  ·rename_i ht
   obtain ⟨s, rfl, _, hw⟩ := DataW.trod_string ht h
   refine ⟨[.str s], .str ht s hw, rfl, fun i c v h1 h2 => ?_⟩
   cases i with
   | zero => simp at h1 h2; subst h1 h2; simp [CV.rep]
   | succ i => simp at h1
  ·rename_i e ht
   rcases DataW.trod_slice ht h with ⟨rfl, _⟩ | ⟨a, len, cap, elems, rest, m, _, rfl, _, _, hlc, hcm, hel, hget, _⟩
   ·refine ⟨[.rsl [] 0], by simpa using Typed.slc ht [] (by simp) (by simp) (by simp), rfl, fun i c v h1 h2 => ?_⟩
    cases i with
    | zero => simp at h1 h2; subst h1 h2; simp [CV.rep]
    | succ i => simp at h1
   ·obtain ⟨L, hL, hQ⟩ := fin_choice (Q := fun i l => Typed P e l ∧ l.length = P.cellsOf e ∧ ∀ (j : Nat) (c : CV), l[j]? = some c → ∃ v, W.cell? (a.add (i * P.cellsOf e + j)) = some v ∧ c.rep W noO v) len (fun i hi => by
     have hg := hget i hi
     rw [List.getElem?_eq_getElem (by omega)] at hg
     obtain ⟨ci, h1, h2⟩ := Option.bind_eq_some_iff.1 hg
     obtain ⟨_, hlen, hcell⟩ := World.cells?_some h1
     obtain ⟨cvs, g1, g2, g3⟩ := trod_typed n e ci _ _ ho h2
     refine ⟨cvs, g1, by omega, fun j c hj => ?_⟩
     have hjl : j < cvs.length := (List.getElem?_eq_some_iff.1 hj).1
     have hc := hcell j (by omega)
     rw [List.getElem?_eq_getElem (by omega)] at hc
     exact ⟨_, by rw [← Addr.add_add]; exact hc, g3 j c _ hj (List.getElem?_eq_getElem _)⟩)
    have hmem : ∀ l ∈ L, ∃ i : Nat, L[i]? = some l := fun l hl => List.mem_iff_getElem?.1 hl
    have hfl := flat_rel (R := fun k c => ∃ v, W.cell? (a.add k) = some v ∧ c.rep W noO v) (esz := P.cellsOf e) L 0 (fun i l hi => ⟨(hQ i l hi).2.1, fun j c hj => by simpa using (hQ i l hi).2.2 j c hj⟩)
    refine ⟨[.rsl L.flatten L.length], Typed.slc ht L (by omega) (fun l hl => let ⟨i, hi⟩ := hmem l hl; (hQ i l hi).2.1) (fun l hl => let ⟨i, hi⟩ := hmem l hl; (hQ i l hi).1), rfl, fun i c v h1 h2 => ?_⟩
    cases i with
    | zero =>
     simp at h1 h2; subst h1 h2
     simp only [CV.rep]
     exact .inr ⟨a, cap, by rw [hL], by omega, reps_of_all _ 0 (fun j c hj => hfl.2 j c hj)⟩
    | succ i => simp at h1
  ·rename_i k e ht
   simp only [Bool.and_eq_true, decide_eq_true_eq] at ho
   obtain ⟨xs, m, _, _, hlen, hxs, hget⟩ := DataW.trod_array ht h
   obtain ⟨L, hL, hQ⟩ := fin_choice (Q := fun i l => Typed P e l ∧ l.length = P.cellsOf e ∧ ∀ (j : Nat) (c : CV), l[j]? = some c → ∀ v, cs[i * P.cellsOf e + j]? = some v → c.rep W noO v) k (fun i hi => by
     have hg := hget i hi
     rw [List.getElem?_eq_getElem (by omega)] at hg
     obtain ⟨cvs, g1, g2, g3⟩ := trod_typed n e _ _ _ ho.1 hg
     have hik : i * P.cellsOf e + P.cellsOf e ≤ k * P.cellsOf e := by
      have := Nat.mul_le_mul_right (P.cellsOf e) (show i + 1 ≤ k by omega)
      rwa [Nat.add_mul, Nat.one_mul] at this
     have hl2 : cvs.length = P.cellsOf e := by rw [g2]; simp; omega
     refine ⟨cvs, g1, hl2, fun j c hj v hv => ?_⟩
     have hjl : j < cvs.length := (List.getElem?_eq_some_iff.1 hj).1
     exact g3 j c v hj (by rw [List.getElem?_take, if_pos (by omega), List.getElem?_drop]; exact hv))
   have hmem : ∀ l ∈ L, ∃ i : Nat, L[i]? = some l := fun l hl => List.mem_iff_getElem?.1 hl
   have hfl := flat_rel (R := fun k c => ∀ v, cs[k]? = some v → c.rep W noO v) (esz := P.cellsOf e) L 0 (fun i l hi => ⟨(hQ i l hi).2.1, fun j c hj => by simpa using (hQ i l hi).2.2 j c hj⟩)
   exact ⟨L.flatten, Typed.arr ht L hL (fun l hl => let ⟨i, hi⟩ := hmem l hl; (hQ i l hi).2.1) (fun l hl => let ⟨i, hi⟩ := hmem l hl; (hQ i l hi).1), by rw [hfl.1, hlen, ho.2, hL], fun i c v h1 h2 => hfl.2 i c h1 v (by simpa using h2)⟩
  ·rename_i fs ht
   simp only [Bool.and_eq_true, decide_eq_true_eq, List.all_eq_true] at ho
   obtain ⟨xs, m, _, _, hlen, hxs, hget⟩ := DataW.trod_struct ht h
   obtain ⟨L, hL, hQ⟩ := fin_choice (Q := fun i l => ∀ f, fs[i]? = some f → Typed P f.type l ∧ l.length = min (P.cellsOf f.type) (cs.length - f.offset) ∧ ∀ (j : Nat) (c : CV), l[j]? = some c → ∀ v, cs[f.offset + j]? = some v → c.rep W noO v) fs.size (fun i hi => by
     have hfi : fs[i]? = some fs[i] := Array.getElem?_eq_getElem hi
     have hg := hget i fs[i] hfi
     rw [List.getElem?_eq_getElem (by omega)] at hg
     obtain ⟨cvs, g1, g2, g3⟩ := trod_typed n _ _ _ _ (ho.1 fs[i] (by simp)) hg
     have hl2 : cvs.length = min (P.cellsOf fs[i].type) (cs.length - fs[i].offset) := by rw [g2]; simp
     refine ⟨cvs, fun f hf => ?_⟩
     rw [hfi] at hf; cases hf
     refine ⟨g1, hl2, fun j c hj v hv => ?_⟩
     have hjl : j < cvs.length := (List.getElem?_eq_some_iff.1 hj).1
     exact g3 j c v hj (by rw [List.getElem?_take, if_pos (by omega), List.getElem?_drop]; exact hv))
   have hoff : ∀ (fs : List Field) (n N : Nat), fieldsEnd P fs n = some N → n ≤ N ∧ ∀ (i : Nat) (f : Field), fs[i]? = some f → f.offset + P.cellsOf f.type ≤ N := by
    intro fs
    induction fs with
    | nil => intro n N h; simp only [fieldsEnd, Option.some.injEq] at h; simp [h]
    | cons f fs ih =>
     intro n N h
     simp only [fieldsEnd] at h
     split at h
     ·rename_i ho
      obtain ⟨h1, h2⟩ := ih _ _ h
      refine ⟨by omega, fun i f' hi => ?_⟩
      cases i with
      | zero => simp at hi; subst hi; omega
      | succ i => exact h2 i f' (by simpa using hi)
     ·cases h
   have hin := (hoff _ _ _ ho.2).2
   have hl : ∀ (i : Nat) (f : Field) (l : List CV), fs[i]? = some f → L[i]? = some l → l.length = P.cellsOf f.type := by
    intro i f l hf hl
    obtain ⟨_, h2, _⟩ := hQ i l hl f hf
    have := hin i f (by simpa using hf)
    omega
   have hfl := flat_relF (P := P) (R := fun k c => ∀ v, cs[k]? = some v → c.rep W noO v) fs.toList L 0 ho.2 (by simpa using hL) (fun i f l hf hl' =>
    ⟨hl i f l (by simpa using hf) hl', fun j c hj => (hQ i l hl' f (by simpa using hf)).2.2 j c hj⟩)
   exact ⟨L.flatten, Typed.struct ht L hL hl (fun i f l hf hl' => (hQ i l hl' f hf).1), by have := hfl.1; omega, fun i c v h1 h2 => hfl.2 i c h1 v (by simpa using h2)⟩
  ·cases ho
abbrev noX : Nat → Prop := fun _ => False
theorem VRels_of_all : ∀ (cvs : List CV) (vs : List Value), cvs.length = vs.length → (∀ (i : Nat) (c : CV) (v : Value), cvs[i]? = some c → vs[i]? = some v → c.rep W noO v) → VRels nom noX W (cvs.map .cv) vs
 | [], [], _, _ => by simp [VRels]
 | c :: cvs, v :: vs, hl, h => by
  simp only [List.map_cons, VRels, VRel]
  exact ⟨h 0 c v rfl rfl, VRels_of_all cvs vs (by simpa using hl) fun i c v h1 h2 => h (i + 1) c v (by simpa using h1) (by simpa using h2)⟩
 | [], _ :: _, hl, _ => by simp at hl
 | _ :: _, [], hl, _ => by simp at hl
theorem arg_typed {n : Nat} {t : TypeId} {v : Value} {d : DataW H} {ps : List MemPlace} {r : Reach} {base : Nat} (ho : openT P n t = true) (hval : Value.okWide P W r base t v) (h : DataW.Trod enc P W 0 (fun _ => true) true t v d ps) :
  ∃ cs, Typed P t cs ∧ VRel nom noX W (avOf P t cs) v := by
 obtain ⟨fuel, h⟩ := h
 obtain ⟨cvs, h1, h2, h3⟩ := trod_typed n t _ _ _ ho h
 refine ⟨cvs, h1, ?_⟩
 unfold avOf
 have one : (v.cells.toList = [v]) → VRel nom noX W (.cv (cvs.headD .nilp)) v := by
  intro hv
  rw [hv] at h2 h3
  match cvs, h2 with
  | [c], _ => simp only [List.headD_cons, VRel]; exact h3 0 c v rfl rfl
 cases n with
 | zero => simp [openT] at ho
 | succ n =>
  simp only [openT] at ho
  split at ho
  ·rename_i ht; rw [ht]; obtain ⟨b, rfl⟩ := okWide_bool ht hval; exact one rfl
  ·rename_i ht; rw [ht]; obtain ⟨b, rfl⟩ := okWide_int ht hval; exact one rfl
  ·rename_i ht; rw [ht]; obtain ⟨b, rfl⟩ := okWide_string ht hval; exact one rfl
  ·rename_i ht; rw [ht]; obtain ⟨_, _, _, rfl⟩ := okWide_slice ht hval; exact one rfl
  ·rename_i ht; rw [ht]
   simp only [Value.okWide, ht] at hval
   obtain ⟨arr, rfl, _⟩ := hval
   simp only [VRel]
   exact ⟨arr.toList, by simp, VRels_of_all _ _ h2 h3⟩
  ·rename_i ht; rw [ht]
   simp only [Value.okWide, ht] at hval
   obtain ⟨arr, rfl, _⟩ := hval
   simp only [VRel]
   exact ⟨arr.toList, by simp, VRels_of_all _ _ h2 h3⟩
  ·cases ho
theorem args_typed {n : Nat} {r : Reach} {base : Nat} : ∀ {ts : List TypeId} {vs : List Value} {ds : List (DataW H)} {ps : List MemPlace}, (ts.all (openT P n)) = true →
  (∀ (j : Nat) (t : TypeId) (v : Value), ts[j]? = some t → vs[j]? = some v → Value.okWide P W r base t v) → DataW.TrodAll enc P W 0 (fun _ => true) true ts vs ds ps →
  ds.length = ts.length ∧ ∃ avs, Args P ts avs ∧ VRels nom noX W avs vs
 | [], _, _, _, _, _, h => by
  obtain ⟨rfl, rfl, rfl⟩ := trodAll_nil h
  exact ⟨rfl, [], .nil, by simp [VRels]⟩
 | t :: ts, _, _, _, ho, hval, h => by
  obtain ⟨v, vs1, d, ds1, a, b, rfl, rfl, rfl, h1, h2⟩ := trodAll_cons h
  simp only [List.all_cons, Bool.and_eq_true] at ho
  obtain ⟨cs, g1, g2⟩ := arg_typed ho.1 (hval 0 t v rfl rfl) h1
  obtain ⟨hl, avs, g3, g4⟩ := args_typed ho.2 (fun j t v h1 h2 => hval (j + 1) t v (by simpa using h1) (by simpa using h2)) h2
  exact ⟨by simp [hl], _, .cons g1 g3, by simp only [VRels]; exact ⟨g2, g4⟩⟩
theorem trodAll_below (hl : laidOutB P = true) {W' : World} (hb : Below W.heap.size W W') : ∀ {ts : List TypeId} {vs : List Value} {ds : List (DataW H)} {ps : List MemPlace}, (ts.all fun t => P.readableRec t && decide (t < P.types.size)) = true →
  DataW.TrodAll enc P W 0 (fun _ => true) true ts vs ds ps → (∀ x ∈ ps, x.block < W.heap.size) → DataW.TrodAll enc P W' 0 (fun b => decide (b < W.heap.size)) true ts vs ds ps
 | [], _, _, _, _, h, _ => by
  obtain ⟨rfl, rfl, rfl⟩ := trodAll_nil h
  exact trodAll_mk0
 | t :: ts, _, _, _, ho, h, hlt => by
  obtain ⟨v, vs1, d, ds1, a, b, rfl, rfl, rfl, h1, h2⟩ := trodAll_cons h
  simp only [List.all_cons, Bool.and_eq_true, decide_eq_true_eq] at ho
  refine trodAll_cons_mk (Below.trod hl ho.1.1 ho.1.2 h1 hb fun x hx => hlt x (by simp [hx])) (trodAll_below hl hb ?_ h2 fun x hx => hlt x (by simp [hx]))
  simpa using ho.2
theorem law_of_AC {f : FuncId} {fn : Func} {s : ChangeSpec} {n : Nat} {t : TypeId} {base : Nat} {args : Array Value} {ds gs : List (DataW H)} {before : List MemPlace}
  (hl : laidOutB P = true) (hpar : (fn.params.toList.all fun t => P.readableRec t && decide (t < P.types.size)) = true) (ho : fn.params.toList.all (openT P n) = true)
  (hres : fn.resultTypes = #[t]) (htb : P.underlying t = some .bool) (hsv : s.vars = []) (hs : ∀ ds : List (DataW H), ds.length = fn.params.toList.length → s.fn H ds = { results := [.lit (.bool true)], args := ds })
  (hAC : ∀ avs, Args P fn.params.toList avs → AC P f avs [] fun r _ => r = .b true)
  (hval : ∀ (j : Nat) t v, fn.params[j]? = some t → args[j]? = some v → Value.okWide P W .any base t v)
  (hW : DataW.Whole enc P fn.params.toList s.vars false W args.toList ds gs before) :
  Calls P f args W fun e W' => ∃ v, e = .returned v ∧ s.post enc P fn false true false false W args v W' := by
 have hW' := hW
 obtain ⟨p, q, hA, hV, rfl, hfz, hnd⟩ := hW
 rw [hsv] at hV
 obtain ⟨rfl, rfl⟩ := trodVars_none hV
 have hlt : ∀ x ∈ p, x.block < W.heap.size := fun x hx => hW'.lt x (by simp [hx])
 obtain ⟨hlen, avs, hav, hrel⟩ := args_typed ho (fun j t v h1 h2 => hval j t v (by simpa using h1) (by simpa using h2)) hA
 have hcall := (hAC avs hav).2 nom noX W args.toList hrel ⟨by simp, by simp, by simp, by simp, by simp⟩
 have hcall := callsIn_wide.1 hcall
 simp only [Array.toArray_toList] at hcall
 refine hcall.mono fun e W' ⟨c, r, σ', m', he, hq, hr, _, hst, _⟩ => ?_
 subst he hq
 simp only [VRel, CV.rep] at hr
 subst hr
 have hb : Below W.heap.size W W' := ⟨hst.os, hst.tape, hst.output, hst.size, fun k hk => hst.fr k hk (.inr (by simp))⟩
 have hsf : s.fn H (ds ++ []) = { results := [.lit (.bool true)], args := ds } := by rw [List.append_nil]; exact hs ds hlen
 refine ⟨_, rfl, ds, [], p ++ [], [], p, [], hW', ?_, ?_, ?_, hb.frame _, fun h => by simp at h⟩
 ·rw [hsf, hres]
  exact trodAll_mk1 (shut_bool htb true)
 ·rw [hsf]
  exact trodAll_below hl hb hpar hA hlt
 ·rw [hsf, hsv]
  rfl
end
end Go.Proofs.YtpnghcaccfnngaaGreatDoor.AM
namespace Go.Proofs.YtpnghcaccfnngaaGreatDoor.AM
variable [Dr]
open Go
theorem SameSite.trans {a b c : ALoop} (h : SameSite a b) (k : SameSite b c) : SameSite a c :=
 ⟨k.1.trans h.1, k.2.1.trans h.2.1, k.2.2.1.trans h.2.2.1, k.2.2.2.1.trans h.2.2.2.1, k.2.2.2.2.trans h.2.2.2.2⟩
theorem LoopKeep.trans {a b c : List AObj} (h : LoopKeep a b) (k : LoopKeep b c) : LoopKeep a c := fun l r hr =>
 let ⟨r1, h1, h2⟩ := h l r hr
 let ⟨r2, h3, h4⟩ := k l r1 h1
 ⟨r2, h3, h2.trans h4⟩
abbrev vs47 : List Nat := [0, 1, 2, 4, 7, 8, 22]
def ic47l0 : IC := (.seq (.seq (.region [jv 5, jv 1, je 1, jq (.bin .lss .int) [.t 0, .t 2], jt 3, jh 4 true 4, jg 4 true (.bin .eql .int) [.t 5, jn 0], jw 6 .pick [.t 4, .t 6, jB false]])
 (.cond 6 .skip
 (.exit 0)))
 (.seq (.block 1 (.dr [[], [], [], [1, 2], [3], [0, 4], [5, 5, 0, 1, 2, 3, 4, 5]] [jN 2 2, jv 1, jv 5, ja 1 1 2, jl 3, jk 48 [.t 0, .t 4], jm 4 5]))
 (.region [jv 5, jq (.bin .add .int) [.t 0, jn 1], jm 5 1])))
def ic47 : IC := (.seq (.region [jb 2 0, jw 3 .mv [jB false]])
 (.seq (.region [jN 2 2, jk 54 [.t 0], jt 1, jx 0 2, jx 1 2, jx 2 2, jt 3, jt 4, jm 4 5])
 (.seq (.seq (.region [jz 5 0])
 (.block 0 (.loop ic47l0)))
 (.seq (.region [jv 4, jq (.bin .eql .int) [.t 0, jn 0], jm 3 1])
 .ret))))
abbrev rs47 : List RC := [(.v 3)]
theorem fok47 (p : Bool) : FnOk Tryz.prog 47 ⟨ic47, vs47, 33, rs47, p⟩ := .mk2 Tryz.func47 (by kernel_rfl) (by kernel_rfl) (by kernel_rfl) (by kernel_rfl) (by kernel_rfl)
end Go.Proofs.YtpnghcaccfnngaaGreatDoor.AM
namespace Go.Proofs.YtpnghcaccfnngaaGreatDoor.Pl
theorem subI_zero {a b : Int} (ha : a < 2 ^ 63) : subI a b = 0 ↔ ∀ k, bit a k = true → bit b k = true := by
 constructor
 ·intro h k h1
  have := bit_sub (b := b) ha k
  rw [h, h1, bit_zero] at this
  cases h2 : bit b k
  ·rw [h2] at this; cases this
  ·rfl
 ·intro h
  refine bit_ext (subI_nn _ _) (Int.le_refl _) fun k => ?_
  rw [bit_sub ha, bit_zero]
  have := h k
  cases h1 : bit a k <;> simp_all
end Go.Proofs.YtpnghcaccfnngaaGreatDoor.Pl
namespace Go.Proofs.YtpnghcaccfnngaaGreatDoor.AM
variable [Dr]
open Go Pl
theorem rgsE_of {s : Sys} {l : List Rt} (h1 : l.length ≤ 40) (h2 : ∀ r ∈ l, RgOk s r) : rgsE s l = 0 := by
 unfold rgsE
 rw [if_neg (by omega), findE_none]
 intro j _ hj
 show rgErr s l[j]! = 0
 rw [getElem!_pos l j (by omega)]
 exact rgErr_iff.2 (h2 _ (List.getElem_mem _))
theorem covB_iff {s : Sys} (hok : OkI s) {c k : Nat} (hc : c < s.cl.length) : covB s c k = true ↔ Rch (nx s) c k := covG_iff hok.inN hc
theorem covB_refl {s : Sys} (hok : OkI s) {c : Nat} (hc : c < s.cl.length) : covB s c c = true := (covB_iff hok hc).2 .refl
theorem covB_trans {s : Sys} (hok : OkI s) {a b c : Nat} (ha : a < s.cl.length) (hb : b < s.cl.length) (h1 : covB s a b = true) (h2 : covB s b c = true) : covB s a c = true :=
 (covB_iff hok ha).2 (((covB_iff hok ha).1 h1).trans ((covB_iff hok hb).1 h2))
theorem alwB_iff {s : Sys} {l : List Rt} {c f : Int} : alwB s l c f = true ↔ ∃ r ∈ l, covB s r.1.toNat c.toNat = true ∧ ∀ k, ¬ (bit r.2 k = true ∧ bit f k = true) := by
 unfold alwB
 rw [List.any_eq_true]
 constructor
 ·rintro ⟨r, hr, h⟩
  unfold alw1 at h
  rw [Bool.and_eq_true, beq_iff_eq, andI_zero] at h
  exact ⟨r, hr, h⟩
 ·rintro ⟨r, hr, h1, h2⟩
  refine ⟨r, hr, ?_⟩
  unfold alw1
  rw [Bool.and_eq_true, beq_iff_eq, andI_zero]
  exact ⟨h1, h2⟩
theorem bit_last {m k : Nat} : bit ((2 : Int) ^ m - 1) k = decide (k < m) := by
 unfold bit
 have : ((2 : Int) ^ m - 1).toNat = 2 ^ m - 1 := by
  have h1 : ((2 : Int) ^ m) = ((2 ^ m : Nat) : Int) := by push_cast; rfl
  have h2 := Nat.two_pow_pos m
  rw [h1]; omega
 rw [this, Nat.testBit_two_pow_sub_one]
theorem bit_hard {s : Sys} (hm : s.co.length ≤ 8) (n : Int) (k : Nat) : bit (subI (setN s - 1) n) k = (decide (k < s.co.length) && !bit n k) := by
 have hb := pow_bd hm
 rw [bit_sub (by unfold setN; omega)]
 unfold setN
 rw [bit_last]
theorem allB_iff {s : Sys} (hm : s.co.length ≤ 8) (hok : OkI s) {a b : List Rt} (ha : ∀ r ∈ a, RgOk s r) (hb : ∀ r ∈ b, RgOk s r) :
  allB s a b = true ↔ ∀ c f : Nat, c < s.cl.length → (f : Int) < setN s → alwB s b c f = true → alwB s a c f = true := by
 have hpw := pow_bd hm
 have hsl : ∀ n, subI (setN s - 1) n < setN s := fun n => subI_lt (by unfold setN; omega) (show setN s - 1 < 2 ^ s.co.length by unfold setN; omega)
 constructor
 ·intro h c f hc hf hbf
  unfold allB at h
  rw [Bool.not_eq_true', List.any_eq_false] at h
  obtain ⟨r, hr, h1, h2⟩ := alwB_iff.1 hbf
  have h3 := h r hr
  rw [Bool.not_eq_true, Bool.not_eq_false'] at h3
  obtain ⟨q, hq, h4, h5⟩ := alwB_iff.1 h3
  refine alwB_iff.2 ⟨q, hq, covB_trans hok (ha q hq).nat (hb r hr).nat h4 h1, fun k ⟨g1, g2⟩ => h5 k ⟨g1, ?_⟩⟩
  rw [bit_hard hm]
  have g3 : bit r.2 k = false := by
   cases hh : bit r.2 k with
   | false => rfl
   | true => exact absurd ⟨hh, g2⟩ (h2 k)
  have g4 : k < s.co.length := by
   rcases Nat.lt_or_ge k s.co.length with h | h
   ·exact h
   ·rw [bit_hi (m := s.co.length) hf h] at g2; cases g2
  rw [g3, decide_eq_true g4]; rfl
 ·intro h
  unfold allB
  rw [Bool.not_eq_true', List.any_eq_false]
  intro r hr
  rw [Bool.not_eq_true, Bool.not_eq_false']
  obtain ⟨⟨r1, r2⟩, r3, r4⟩ := hb r hr
  have h0 := subI_nn (setN s - 1) r.2
  have := h r.1.toNat (subI (setN s - 1) r.2).toNat (by omega) (by have := hsl r.2; omega)
  rw [Int.toNat_of_nonneg r1, Int.toNat_of_nonneg h0] at this
  refine this (alwB_iff.2 ⟨r, hr, covB_refl hok (by omega), fun k ⟨g1, g2⟩ => ?_⟩)
  rw [bit_hard hm, g1] at g2
  simp at g2
theorem rdE_two (s : Sys) (E : Int) (a b : List Rt) : rdE s E [a, b] = if rdE s E [a] = 0 then rdE s E [b] else rdE s E [a] := by
 have h1 : rdE s E [a, b] = if rdE s E [a] = 0 then rgsE s b else rdE s E [a] := rfl
 rw [h1]
 by_cases h : rdE s E [a] = 0
 ·rw [if_pos h, if_pos h]
  have hE : E = 0 := Decidable.byContradiction fun hne => by rw [rdE_ne s _ _ hne] at h; exact hne h
  rw [hE]; rfl
 ·rw [if_neg h, if_neg h]
theorem leastF_mem {s : Sys} {l : List Rt} {x : Rt} : x ∈ leastF s l ↔ x ∈ l ∧ ∀ r ∈ l, wkB s x r = false := by
 unfold leastF
 rw [List.mem_filter, mem_sortR, ddR_mem, Bool.not_eq_true', List.any_eq_false]
 constructor
 ·rintro ⟨h1, h2⟩
  exact ⟨h1, fun r hr => by have := h2 r (ddR_mem.2 hr); simpa using this⟩
 ·rintro ⟨h1, h2⟩
  exact ⟨h1, fun r hr => by rw [h2 r (ddR_mem.1 hr)]; decide⟩
theorem leastF_nodup (s : Sys) (l : List Rt) : (leastF s l).Nodup := ((sortR_perm _).nodup_iff.2 (esN_nodup l l.length)).filter _
theorem leastF_sorted (s : Sys) (l : List Rt) : (leastF s l).Pairwise fun a b => leR a b = true := (sortR_sorted _).filter _
theorem leastF_ext {s : Sys} {l m : List Rt} (h : ∀ x, x ∈ leastF s l ↔ x ∈ leastF s m) : leastF s l = leastF s m := by
 have hp := nodup_perm (leastF_nodup s l) (leastF_nodup s m) h
 rw [sortR_eq hp (leastF_sorted s l)]
 exact (sortR_eq (List.Perm.refl _) (leastF_sorted s m)).symm
theorem bit_last_sub {m : Nat} {n k : Nat} (h : (n : Int) < 2 ^ m) : bit ((2 : Int) ^ m - 1 - n) k = (decide (k < m) && !bit (n : Int) k) := by
 have h1 : ((2 : Int) ^ m) = ((2 ^ m : Nat) : Int) := by push_cast; rfl
 have h2 : n < 2 ^ m := by rw [h1] at h; omega
 have h3 : ((2 : Int) ^ m - 1 - n).toNat = 2 ^ m - (n + 1) := by rw [h1]; omega
 unfold bit
 rw [h3, Nat.testBit_two_pow_sub_succ h2, Int.toNat_natCast]
theorem comL_mem {s : Sys} {a b : List Rt} {x : Rt} : x ∈ comL s a b ↔ ∃ p ∈ a, ∃ q ∈ b, ∃ i : Nat, i < s.cl.length ∧ covB s p.1.toNat i = true ∧ covB s q.1.toNat i = true ∧ x = ((i : Int), orI p.2 q.2) := by
 unfold comL comT
 rw [List.take_length, List.mem_flatMap]
 constructor
 ·rintro ⟨p, hp, h⟩
  unfold comX at h
  rw [List.take_length, List.mem_flatMap] at h
  obtain ⟨q, hq, h⟩ := h
  unfold comXY at h
  rw [List.mem_flatMap] at h
  obtain ⟨i, hi, h⟩ := h
  unfold comI at h
  split at h
  ·rename_i hc
   rw [Bool.and_eq_true] at hc
   exact ⟨p, hp, q, hq, i, List.mem_range.1 hi, hc.1, hc.2, List.mem_singleton.1 h⟩
  ·simp at h
 ·rintro ⟨p, hp, q, hq, i, hi, h1, h2, rfl⟩
  refine ⟨p, hp, ?_⟩
  unfold comX
  rw [List.take_length, List.mem_flatMap]
  refine ⟨q, hq, ?_⟩
  unfold comXY
  rw [List.mem_flatMap]
  refine ⟨i, List.mem_range.2 hi, ?_⟩
  unfold comI
  rw [h1, h2]; simp
theorem wkB_iff {s : Sys} {x r : Rt} (hr : r.2 < 2 ^ 63) : wkB s x r = true ↔ x ≠ r ∧ covB s r.1.toNat x.1.toNat = true ∧ ∀ k, bit r.2 k = true → bit x.2 k = true := by
 unfold wkB
 rw [Bool.and_eq_true, Bool.and_eq_true, beq_iff_eq, subI_zero hr]
 simp
theorem rdE_append (s : Sys) (E : Int) (a b : List (List Rt)) : rdE s E (a ++ b) = rdE s (rdE s E a) b := by unfold rdE; rw [List.foldl_append]
theorem c47 (s : Sys) (hs : SSz s) (ls : List (List Rt)) (hls : ∀ l ∈ ls, l.length < 2 ^ 63) (hn : ls.length < 2 ^ 60) (σ : List AObj) (l0 : Nat) (h0 : rowOf σ l0 = some (ls.map fun l => rgL l)) :
  AC Tryz.prog 47 [sysV s, .sl l0 0 ls.length 1] σ fun r τ => r = .b (rdE s (sysE s).2.2 ls == 0) ∧ τ = σ := by
 refine AC.cutF ?_ rfl
 refine AC_FE (fok47 true) (Nat.le_of_ble_eq_true rfl) ?_
 have h54 := c54 s hs
 unfold chkV at h54
 have hn0 := sysE_n (s := s)
 generalize sysE s = e at *
 obtain ⟨e1, e2, e3⟩ := e
 have g0 := fun J => rowOf_low h0 J
 have k0 := fun J => get_low h0 J
 have hld : ∀ k, k < ls.length → (ls.map fun l => rgL l)[k]? = some (rgL ls[k]!) := fun k hk => by
  rw [List.getElem?_map, List.getElem?_eq_getElem hk, getElem!_pos ls k hk]; rfl
 simp only [ic47, f_box, cellsOf, rowOf_az, evA, if_true, if_false, beq_false, simprocAttr]
 refine h54.call frz ?_
 simp only [evA, if_true, if_false, beq_false, simprocAttr]
 refine IL_for ls.length (fun i s' => ∃ v6, s' = ⟨[sysV s, .sl l0 0 ls.length 1, .ptr σ.length 0, .b false, .i (rdE s e3 (ls.take i)), .i i, v6], σ ++ [.cells [.cv (clsR s.cl), .cv (strR s.co)]]⟩) ?_ 0 (Nat.zero_le _) ⟨_, rfl⟩
 rintro i s' hi ⟨v6, rfl⟩
 have hE0 : rdE s e3 (ls.take i) = 0 → e3 = 0 := fun h => Decidable.byContradiction fun hne => by rw [rdE_ne s _ _ hne] at h; exact hne h
 have hap : rdE s e3 ls = rdE s (rdE s e3 (ls.take i)) (ls.drop i) := by rw [← rdE_append, List.take_append_drop]
 by_cases hin : i < ls.length
 ·have hsl : ∀ σ', f_iaS 1 [.sl l0 0 ls.length 1, .cv (.int .i64 i)] σ' = some (.ptr l0 (0 + i), σ') := sl_addr hin
  have hst : rdE s e3 (ls.take (i + 1)) = if rdE s e3 (ls.take i) = 0 then rgsE s ls[i]! else rdE s e3 (ls.take i) := by
   rw [List.take_add_one, List.getElem?_eq_getElem hin, getElem!_pos ls i hin]
   unfold rdE
   rw [List.foldl_append]; rfl
  have hlsi := hls ls[i]! (by rw [getElem!_pos ls i hin]; exact List.getElem_mem hin)
  generalize rdE s e3 (ls.take i) = E at *
  by_cases hE : E = 0
  ·have hb : (E == 0) = true := by simpa using hE
   obtain ⟨_, hm, _⟩ := hn0 (hE0 hE)
   rw [if_pos hE] at hst
   simp only [ic47l0, Int.ofNat_lt, hin, hb, evA, if_true, if_false, beq_false, simprocAttr]
   refine DW_s [5] [] hmix (by kernel_rfl) rfl ?_
   simp only [hsl, Nat.zero_add, g0, rowOf_az, hld i hin, evA, if_true, if_false, beq_false, simprocAttr]
   refine kK_keep ((c48 s hs hm ls[i]! hlsi).call frz ⟨rfl, rfl⟩) rfl ?_
   simp only [wrap_succ (show i + 1 < 2 ^ 63 by omega), evA, if_true, if_false, beq_false, simprocAttr]
   exact kFor_go (by first | trivial | omega) ⟨_, by rw [hst]⟩
  ·have hb : (E == 0) = false := by simpa using hE
   rw [rdE_ne s _ _ hE] at hap
   rw [hap]
   simp only [ic47l0, Int.ofNat_lt, hin, hb, evA, if_true, if_false, beq_false, simprocAttr]
   exact ⟨_, rfl⟩
 ·have hin' : i = ls.length := by omega
  subst hin'
  rw [List.drop_length] at hap
  have hap' : rdE s e3 ls = rdE s e3 (ls.take ls.length) := hap
  rw [hap']
  simp only [ic47l0, Int.ofNat_lt, hin, evA, if_true, if_false, beq_false, simprocAttr]
  exact ⟨_, rfl⟩
end Go.Proofs.YtpnghcaccfnngaaGreatDoor.AM
namespace Go.Proofs.YtpnghcaccfnngaaGreatDoor.AM
variable [Dr]
open Go
theorem typed_int {P : Program} {t : TypeId} {k : IntKind} {cs : List CV} (ht : P.underlying t = some (.int k)) (h : Typed P t cs) : ∃ n, cs = [.int k n] ∧ (Lit.int k n).wf = true := by
 cases h with
 | int ht' n hw => rw [ht] at ht'; cases ht'; exact ⟨n, rfl, hw⟩
 | bool ht' => rw [ht] at ht'; cases ht'
 | str ht' => rw [ht] at ht'; cases ht'
 | slc ht' => rw [ht] at ht'; cases ht'
 | arr ht' => rw [ht] at ht'; cases ht'
 | struct ht' => rw [ht] at ht'; cases ht'
theorem typed_str {P : Program} {t : TypeId} {cs : List CV} (ht : P.underlying t = some .string) (h : Typed P t cs) : ∃ s : ByteArray, cs = [.str s] ∧ s.size ≤ maxLen := by
 cases h with
 | str ht' s hs => exact ⟨s, rfl, hs⟩
 | bool ht' => rw [ht] at ht'; cases ht'
 | int ht' => rw [ht] at ht'; cases ht'
 | slc ht' => rw [ht] at ht'; cases ht'
 | arr ht' => rw [ht] at ht'; cases ht'
 | struct ht' => rw [ht] at ht'; cases ht'
theorem typed_slc {P : Program} {t e : TypeId} {cs : List CV} (ht : P.underlying t = some (.slice e)) (h : Typed P t cs) : ∃ L : List (List CV), cs = [.rsl L.flatten L.length] ∧ L.length ≤ maxLen ∧ (∀ l ∈ L, l.length = P.cellsOf e) ∧ ∀ l ∈ L, Typed P e l := by
 cases h with
 | slc ht' L hn hl h => rw [ht] at ht'; cases ht'; exact ⟨L, rfl, hn, hl, h⟩
 | bool ht' => rw [ht] at ht'; cases ht'
 | int ht' => rw [ht] at ht'; cases ht'
 | str ht' => rw [ht] at ht'; cases ht'
 | arr ht' => rw [ht] at ht'; cases ht'
 | struct ht' => rw [ht] at ht'; cases ht'
theorem typed_arr {P : Program} {t e : TypeId} {n : Nat} {cs : List CV} (ht : P.underlying t = some (.array n e)) (h : Typed P t cs) : ∃ L : List (List CV), cs = L.flatten ∧ L.length = n ∧ (∀ l ∈ L, l.length = P.cellsOf e) ∧ ∀ l ∈ L, Typed P e l := by
 cases h with
 | arr ht' L hn hl h => rw [ht] at ht'; cases ht'; exact ⟨L, rfl, hn, hl, h⟩
 | bool ht' => rw [ht] at ht'; cases ht'
 | int ht' => rw [ht] at ht'; cases ht'
 | str ht' => rw [ht] at ht'; cases ht'
 | slc ht' => rw [ht] at ht'; cases ht'
 | struct ht' => rw [ht] at ht'; cases ht'
theorem typed_struct {P : Program} {t : TypeId} {fs : Array Field} {cs : List CV} (ht : P.underlying t = some (.struct fs)) (h : Typed P t cs) : ∃ L : List (List CV), cs = L.flatten ∧ L.length = fs.size ∧ ∀ (i : Nat) (f : Field) (l : List CV), fs[i]? = some f → L[i]? = some l → Typed P f.type l := by
 cases h with
 | struct ht' L hn hl h => rw [ht] at ht'; cases ht'; exact ⟨L, rfl, hn, h⟩
 | bool ht' => rw [ht] at ht'; cases ht'
 | int ht' => rw [ht] at ht'; cases ht'
 | str ht' => rw [ht] at ht'; cases ht'
 | slc ht' => rw [ht] at ht'; cases ht'
 | arr ht' => rw [ht] at ht'; cases ht'
theorem ints_of {P : Program} {e : TypeId} {k : IntKind} (he : P.underlying e = some (.int k)) : ∀ L : List (List CV), (∀ l ∈ L, Typed P e l) → ∃ zs : List Int, L.flatten = zs.map (.int k) ∧ L.length = zs.length ∧ ∀ z ∈ zs, (Lit.int k z).wf = true
 | [], _ => ⟨[], rfl, rfl, by simp⟩
 | l :: L, h => by
  obtain ⟨n, rfl, hn⟩ := typed_int he (h l (by simp))
  obtain ⟨zs, h1, h2, h3⟩ := ints_of he L fun l hl => h l (by simp [hl])
  exact ⟨n :: zs, by simp [h1], by simp [h2], by simpa using ⟨hn, h3⟩⟩
theorem wf_i64 {n : Int} (h : (Lit.int .i64 n).wf = true) : -9223372036854775808 ≤ n ∧ n ≤ 9223372036854775807 := by
 simp only [Lit.wf, Bool.and_eq_true, decide_eq_true_eq, IntKind.min, IntKind.max, IntKind.bits, IntKind.signed] at h
 simp at h; omega
theorem args_cons {P : Program} {t : TypeId} {ts : List TypeId} {avs : List AV} (h : Args P (t :: ts) avs) : ∃ cs avs', avs = avOf P t cs :: avs' ∧ Typed P t cs ∧ Args P ts avs' := by
 generalize hts : t :: ts = u at h
 cases h with
 | nil => cases hts
 | cons h1 h2 => cases hts; exact ⟨_, _, rfl, h1, h2⟩
theorem args_nil {P : Program} {avs : List AV} (h : Args P [] avs) : avs = [] := by
 generalize hts : ([] : List TypeId) = u at h
 cases h with
 | nil => rfl
 | cons h1 h2 => cases hts
end Go.Proofs.YtpnghcaccfnngaaGreatDoor.AM
namespace Go.Proofs.YtpnghcaccfnngaaGreatDoor.AM
open Go Pl
theorem typed_list {α : Type} {f : α → List CV} {p : α → Prop} {t : TypeId} (h : ∀ cs, Typed Tryz.prog t cs → ∃ x, cs = f x ∧ p x) : ∀ L : List (List CV), (∀ l ∈ L, Typed Tryz.prog t l) → ∃ xs : List α, L.flatten = xs.flatMap f ∧ L.length = xs.length ∧ ∀ x ∈ xs, p x
 | [], _ => ⟨[], rfl, rfl, by simp⟩
 | l :: L, hl => by
  obtain ⟨x, h1, h2⟩ := h l (hl l (by simp))
  obtain ⟨xs, g1, g2, g3⟩ := typed_list h L fun l hh => hl l (by simp [hh])
  exact ⟨x :: xs, by simp [h1, g1], by simp [g2], by simpa using ⟨h2, g3⟩⟩
theorem typed_cls {cs : List CV} (h : Typed Tryz.prog 109 cs) : ∃ c : Cls, cs = clsC c ∧ c.nm.size ≤ maxLen ∧ c.inc.length ≤ maxLen := by
 obtain ⟨L, rfl, hn, hf⟩ := typed_struct Tryz.underlying109 h
 match L, hn with
 | [a, b, c, d, e], _ =>
  obtain ⟨s, rfl, h1⟩ := typed_str Tryz.underlying9 (hf 0 _ a rfl rfl)
  obtain ⟨L2, rfl, hn2, _, hl2⟩ := typed_slc Tryz.underlying54 (hf 1 _ b rfl rfl)
  obtain ⟨zs, g1, g2, g3⟩ := ints_of Tryz.underlying3 L2 hl2
  obtain ⟨n1, rfl, _⟩ := typed_int Tryz.underlying3 (hf 2 _ c rfl rfl)
  obtain ⟨n2, rfl, _⟩ := typed_int Tryz.underlying3 (hf 3 _ d rfl rfl)
  obtain ⟨n3, rfl, _⟩ := typed_int Tryz.underlying3 (hf 4 _ e rfl rfl)
  exact ⟨⟨s, zs, n1, n2, n3⟩, by simp [clsC, g1, g2], h1, by show zs.length ≤ maxLen; omega⟩
theorem typed_rg {cs : List CV} (h : Typed Tryz.prog 60 cs) : ∃ r : Rt, cs = rgC r ∧ RgW r := by
 obtain ⟨L, rfl, hn, hf⟩ := typed_struct Tryz.underlying60 h
 match L, hn with
 | [a, b], _ =>
  obtain ⟨n1, rfl, w1⟩ := typed_int Tryz.underlying3 (hf 0 _ a rfl rfl)
  obtain ⟨n2, rfl, w2⟩ := typed_int Tryz.underlying3 (hf 1 _ b rfl rfl)
  exact ⟨(n1, n2), by simp [rgC], ⟨wf_i64 w1, wf_i64 w2⟩⟩
theorem typed_sys {cs : List CV} (h : Typed Tryz.prog 38 cs) : ∃ s : Sys, avOf Tryz.prog 38 cs = sysV s ∧ SSz s := by
 obtain ⟨L, rfl, hn, hf⟩ := typed_struct Tryz.underlying38 h
 match L, hn with
 | [a, b], _ =>
  obtain ⟨L1, rfl, n1, _, h1⟩ := typed_slc Tryz.underlying35 (hf 0 _ a rfl rfl)
  obtain ⟨L2, rfl, n2, _, h2⟩ := typed_slc Tryz.underlying36 (hf 1 _ b rfl rfl)
  obtain ⟨cs, a1, a2, a3⟩ := typed_list (fun cs h => typed_cls h) L1 h1
  obtain ⟨co, b1, b2, b3⟩ := typed_list (f := fun x : ByteArray => [CV.str x]) (p := fun x => x.size ≤ maxLen) (fun cs h => by
   obtain ⟨x, rfl, hx⟩ := typed_str Tryz.underlying9 h
   exact ⟨x, rfl, hx⟩) L2 h2
  have hm : maxLen < 2 ^ 63 := by decide
  have b1' : L2.flatten = co.map CV.str := by rw [b1, List.map_eq_flatMap]
  refine ⟨⟨cs, co⟩, ?_, ⟨by show cs.length < _; omega, by show co.length < _; omega, fun i hi => ?_, fun i hi => ?_, fun i hi => ?_⟩⟩
  ·simp only [avOf, Tryz.underlying38, a1, b1', a2, b2]
   rfl
  ·have hi : i < cs.length := hi
   show (cs[i]!).nm.size < _
   rw [getElem!_pos cs i hi]
   have := (a3 _ (List.getElem_mem hi)).1
   omega
  ·have hi : i < cs.length := hi
   show (cs[i]!).inc.length < _
   rw [getElem!_pos cs i hi]
   have := (a3 _ (List.getElem_mem hi)).2
   omega
  ·have hi : i < co.length := hi
   show (co[i]!).size < _
   rw [getElem!_pos co i hi]
   have := b3 _ (List.getElem_mem hi)
   omega
theorem rights_of {L : List (List CV)} (h : ∀ l ∈ L, Typed Tryz.prog 60 l) : ∃ xs : List Rt, L.flatten = xs.flatMap rgC ∧ L.length = xs.length ∧ ∀ x ∈ xs, RgW x := typed_list (fun cs h => typed_rg h) L h
theorem typed_rgs {cs : List CV} (h : Typed Tryz.prog 39 cs) : ∃ l : List Rt, avOf Tryz.prog 39 cs = rgL l ∧ l.length < 2 ^ 63 ∧ ∀ r ∈ l, RgW r := by
 obtain ⟨L1, rfl, n1, _, h1⟩ := typed_slc Tryz.underlying39 h
 obtain ⟨l, a1, a2, a3⟩ := rights_of h1
 have hm : maxLen < 2 ^ 63 := by decide
 refine ⟨l, by simp only [avOf, Tryz.underlying39, List.headD_cons, a1, a2], by omega, a3⟩
theorem leastF_len (s : Sys) (l : List Rt) : (leastF s l).length ≤ l.length := by
 unfold leastF
 have h1 := List.length_filter_le (fun x => !(ddR l).any fun r => wkB s x r) (sortR (ddR l))
 rw [sortR_len] at h1
 have h2 := esN_len l l.length
 unfold ddR keysE at h1
 rw [List.length_map] at h1
 unfold ddR keysE
 omega
theorem leastF_ok {s : Sys} {l : List Rt} (h : ∀ r ∈ l, RgOk s r) : ∀ r ∈ leastF s l, RgOk s r := fun r hr => h r (leastF_mem.1 hr).1
theorem comL_ok {s : Sys} {a b : List Rt} (ha : ∀ r ∈ a, RgOk s r) (hb : ∀ r ∈ b, RgOk s r) : ∀ r ∈ comL s a b, RgOk s r := fun r hr => by
 obtain ⟨p, hp, q, hq, i, hi, _, _, rfl⟩ := comL_mem.1 hr
 have h1 := ha p hp
 have h2 := hb q hq
 exact ⟨⟨by simp only; omega, by simp only; omega⟩, orI_nn _ _, orI_lt h1.2.2 h2.2.2⟩
theorem lst_form {s : Sys} (l : List Rt) : ∃ L e, lstV s l = .tup [rgL L, .i e] ∧ L.length < 2 ^ 63 ∧ ∀ r ∈ L, RgW r := by
 unfold lstV
 by_cases he : rdE s (sysE s).2.2 [l] = 0
 ·rw [if_neg (fun h => h he)]
  obtain ⟨k1, k2⟩ := rdE_ok he
  obtain ⟨⟨hn1, hn12⟩, hm, hok⟩ := sysE_n k1
  obtain ⟨hl40, hr⟩ := rgsE_ok k2
  have := leastF_len s l
  exact ⟨_, _, rfl, by omega, fun r h => (leastF_ok hr r h).w hn12 hm⟩
 ·rw [if_pos he]
  exact ⟨[], _, rfl, by decide, by simp⟩
end Go.Proofs.YtpnghcaccfnngaaGreatDoor.AM
namespace Go.Proofs.YtpnghcaccfnngaaGreatDoor.AM
variable [Dr]
open Go Pl
theorem filt_lt {α : Type} {p q : α → Bool} {r : α} : ∀ {l : List α}, r ∈ l → q r = true → p r = false → (∀ x ∈ l, p x = true → q x = true) → (l.filter p).length < (l.filter q).length
 | [], hr, _, _, _ => by cases hr
 | y :: l, hr, hq, hp, h => by
  have hle : (l.filter p).length ≤ (l.filter q).length := by
   have : ∀ l : List α, (∀ x ∈ l, p x = true → q x = true) → (l.filter p).length ≤ (l.filter q).length := by
    intro l
    induction l with
    | nil => intro _; exact Nat.le_refl _
    | cons z l ih =>
     intro h
     have ih := ih fun x hx => h x (by simp [hx])
     rw [List.filter_cons, List.filter_cons]
     cases h1 : p z with
     | true => rw [h z (by simp) h1]; simpa using ih
     | false =>
      cases h2 : q z with
      | true => simp; omega
      | false => simpa using ih
   exact this l fun x hx => h x (by simp [hx])
  rcases List.mem_cons.1 hr with rfl | hr
  ·rw [List.filter_cons, List.filter_cons, hp, hq]
   simp; omega
  ·have ih := filt_lt hr hq hp fun x hx => h x (by simp [hx])
   rw [List.filter_cons, List.filter_cons]
   cases h1 : p y with
   | true => rw [h y (by simp) h1]; simpa using ih
   | false =>
    cases h2 : q y with
    | true => simp; omega
    | false => simpa using ih
def GE (s : Sys) (r x : Rt) : Prop := covB s r.1.toNat x.1.toNat = true ∧ ∀ k, bit r.2 k = true → bit x.2 k = true
structure Gd (s : Sys) : Prop where
 n1 : 1 ≤ s.cl.length
 n12 : s.cl.length ≤ 12
 m8 : s.co.length ≤ 8
 ok : OkI s
 dn : ∀ i, i < s.cl.length → dnB s i = false
theorem gd_of {s : Sys} (h : (sysE s).2.2 = 0) : Gd s := by
 obtain ⟨⟨h1, h2⟩, h3, h4⟩ := sysE_n (s := s) h
 refine ⟨h1, h2, h3, h4, fun i hi => ?_⟩
 unfold sysE at h
 split at h
 ·simp at h
 ·split at h
  ·rename_i hne; exact absurd h hne
  ·split at h
   ·rename_i hne; exact absurd h hne
   ·split at h
    ·rename_i hne; exact absurd h hne
    ·rename_i hz
     have := findE_all s.cl.length 0 (Decidable.not_not.1 hz) i (Nat.zero_le _) (by omega)
     unfold dnE at this
     cases hd : dnB s i with
     | false => rfl
     | true => rw [hd] at this; simp at this
theorem Gd.rch {s : Sys} (h : Gd s) {a b : Nat} (ha : a < s.cl.length) (hr : Rch (nx s) a b) : b < s.cl.length := by
 induction hr with
 | refl => exact ha
 | step _ hz ih => exact h.ok.inN _ ih _ hz
theorem Gd.anti {s : Sys} (h : Gd s) {a b : Nat} (ha : a < s.cl.length) (hb : b < s.cl.length) (h1 : covB s a b = true) (h2 : covB s b a = true) : a = b := by
 have r1 := (covB_iff h.ok ha).1 h1
 have r2 := (covB_iff h.ok hb).1 h2
 cases r1 with
 | refl => rfl
 | @step y _ hy hz =>
  exfalso
  have hyl := h.rch ha hy
  have hc : covB s b y = true := (covB_iff h.ok hb).2 (r2.trans hy)
  have hd := h.dn y hyl
  have : dnB s y = true := by
   unfold dnB
   obtain ⟨z, hz1, hz2⟩ := List.mem_map.1 hz
   obtain ⟨k, hk, hk2⟩ := List.mem_iff_getElem.1 hz1
   refine anyN_true.2 ⟨k, hk, ?_⟩
   rw [List.getElem?_eq_getElem hk, hk2, Option.getD_some, hz2]; exact hc
  rw [this] at hd; cases hd
theorem GE.refl {s : Sys} (h : Gd s) {x : Rt} (hx : RgOk s x) : GE s x x := ⟨covB_refl h.ok hx.nat, fun _ h => h⟩
theorem GE.trans {s : Sys} (h : Gd s) {a b c : Rt} (ha : RgOk s a) (hb : RgOk s b) (h1 : GE s a b) (h2 : GE s b c) : GE s a c := ⟨covB_trans h.ok ha.nat hb.nat h1.1 h2.1, fun k hk => h2.2 k (h1.2 k hk)⟩
theorem GE.anti {s : Sys} (h : Gd s) {a b : Rt} (ha : RgOk s a) (hb : RgOk s b) (h1 : GE s a b) (h2 : GE s b a) : a = b := by
 have e1 := h.anti ha.nat hb.nat h1.1 h2.1
 have e2 := bit_ext ha.2.1 hb.2.1 fun k => by
  rw [Bool.eq_iff_iff]; exact ⟨h1.2 k, h2.2 k⟩
 have := ha.1; have := hb.1
 exact Prod.ext (by omega) e2
theorem RgOk.lt63 {s : Sys} (h : Gd s) {r : Rt} (hr : RgOk s r) : r.2 < 2 ^ 63 := by
 have := pow_bd h.m8; have := hr.2.2; unfold setN at this; omega
theorem wkB_ge {s : Sys} (h : Gd s) {x r : Rt} (hr : RgOk s r) : wkB s x r = true ↔ x ≠ r ∧ GE s r x := wkB_iff (hr.lt63 h)
theorem dom_least {s : Sys} (h : Gd s) {l : List Rt} (hl : ∀ r ∈ l, RgOk s r) : ∀ n, ∀ x ∈ l, (l.filter (wkB s x)).length ≤ n → ∃ r ∈ leastF s l, GE s r x := by
 have one : ∀ x ∈ l, (∀ r ∈ l, wkB s x r = false) ∨ ∃ r ∈ l, wkB s x r = true := fun x hx => by
  by_cases hh : ∃ r ∈ l, wkB s x r = true
  ·exact .inr hh
  ·exact .inl fun r hr => by
    cases hw : wkB s x r with
    | false => rfl
    | true => exact absurd ⟨r, hr, hw⟩ hh
 intro n
 induction n with
 | zero =>
  intro x hx hn
  rcases one x hx with h0 | ⟨r, hr, hw⟩
  ·exact ⟨x, leastF_mem.2 ⟨hx, h0⟩, .refl h (hl x hx)⟩
  ·have : r ∈ l.filter (wkB s x) := List.mem_filter.2 ⟨hr, hw⟩
   have hn : (l.filter (wkB s x)).length = 0 := by omega
   rw [List.eq_nil_of_length_eq_zero hn] at this
   cases this
 | succ n ih =>
  intro x hx hn
  rcases one x hx with h0 | ⟨r, hr, hw⟩
  ·exact ⟨x, leastF_mem.2 ⟨hx, h0⟩, .refl h (hl x hx)⟩
  ·have w1 := (wkB_ge h (hl r hr)).1 hw
   have hlt : (l.filter (wkB s r)).length < (l.filter (wkB s x)).length := by
    refine filt_lt hr hw ?_ ?_
    ·cases hrr : wkB s r r with
     | false => rfl
     | true => exact absurd rfl ((wkB_ge h (hl r hr)).1 hrr).1
    ·intro t ht hrt
     have w2 := (wkB_ge h (hl t ht)).1 hrt
     refine (wkB_ge h (hl t ht)).2 ⟨fun he => ?_, w2.2.trans h (hl t ht) (hl r hr) w1.2⟩
     subst he
     exact w1.1 (GE.anti h (hl x hx) (hl r hr) w2.2 w1.2)
   obtain ⟨t, ht, hg⟩ := ih r hr (by omega)
   exact ⟨t, ht, hg.trans h (hl t (leastF_mem.1 ht).1) (hl r hr) w1.2⟩
def Dom (s : Sys) (a b : List Rt) : Prop := ∀ r ∈ b, ∃ x ∈ a, GE s x r
theorem Dom.least {s : Sys} (h : Gd s) {l : List Rt} (hl : ∀ r ∈ l, RgOk s r) : Dom s (leastF s l) l := fun r hr => dom_least h hl _ r hr (Nat.le_refl _)
theorem Dom.sub {s : Sys} (h : Gd s) {a b : List Rt} (hb : ∀ r ∈ b, RgOk s r) (hs : ∀ r ∈ b, r ∈ a) : Dom s a b := fun r hr => ⟨r, hs r hr, .refl h (hb r hr)⟩
theorem Dom.of_least {s : Sys} (h : Gd s) {l : List Rt} (hl : ∀ r ∈ l, RgOk s r) : Dom s l (leastF s l) := .sub h (fun r hr => hl r (leastF_mem.1 hr).1) fun r hr => (leastF_mem.1 hr).1
theorem Dom.trans {s : Sys} (h : Gd s) {a b c : List Rt} (ha : ∀ r ∈ a, RgOk s r) (hb : ∀ r ∈ b, RgOk s r) (h1 : Dom s a b) (h2 : Dom s b c) : Dom s a c := fun r hr => by
 obtain ⟨y, hy, g1⟩ := h2 r hr
 obtain ⟨x, hx, g2⟩ := h1 y hy
 exact ⟨x, hx, g2.trans h (ha x hx) (hb y hy) g1⟩
theorem Dom.eq {s : Sys} (h : Gd s) {a b : List Rt} (ha : ∀ r ∈ a, RgOk s r) (hb : ∀ r ∈ b, RgOk s r) (h1 : Dom s a b) (h2 : Dom s b a) : leastF s a = leastF s b := by
 have half : ∀ {a b : List Rt}, (∀ r ∈ a, RgOk s r) → (∀ r ∈ b, RgOk s r) → Dom s a b → Dom s b a → ∀ x ∈ leastF s a, x ∈ leastF s b := by
  intro a b ha hb h1 h2 x hx
  obtain ⟨hxa, hmax⟩ := leastF_mem.1 hx
  have top : ∀ y ∈ b, GE s y x → y = x := fun y hy hyx => by
   obtain ⟨z, hz, hzy⟩ := h1 y hy
   have hzx := hzy.trans h (ha z hz) (hb y hy) hyx
   have : z = x := by
    refine Decidable.byContradiction fun hne => ?_
    have := hmax z hz
    rw [(wkB_ge h (ha z hz)).2 ⟨fun he => hne he.symm, hzx⟩] at this; cases this
   subst this
   exact GE.anti h (hb y hy) (ha z hz) hyx hzy
  obtain ⟨r, hr, hrx⟩ := h2 x hxa
  have := top r hr hrx
  subst this
  refine leastF_mem.2 ⟨hr, fun t ht => ?_⟩
  cases hw : wkB s r t with
  | false => rfl
  | true =>
   have w := (wkB_ge h (hb t ht)).1 hw
   exact absurd (top t ht w.2).symm w.1
 exact leastF_ext fun x => ⟨half ha hb h1 h2 x, half hb ha h2 h1 x⟩
theorem alwB_full {s : Sys} (h : Gd s) {l : List Rt} (hl : ∀ r ∈ l, RgOk s r) {x : Rt} (hx : RgOk s x) : alwB s l x.1 (setN s - 1 - x.2) = true ↔ ∃ r ∈ l, GE s r x := by
 obtain ⟨n, hn⟩ : ∃ n : Nat, x.2 = n := ⟨x.2.toNat, by have := hx.2.1; omega⟩
 have hb : ∀ k, bit (setN s - 1 - x.2) k = (decide (k < s.co.length) && !bit x.2 k) := fun k => by
  rw [hn]; unfold setN; exact bit_last_sub (by have := hx.2.2; unfold setN at this; omega)
 rw [alwB_iff]
 constructor
 ·rintro ⟨r, hr, h1, h2⟩
  refine ⟨r, hr, h1, fun k hk => ?_⟩
  have hkm : k < s.co.length := by
   rcases Nat.lt_or_ge k s.co.length with h | h
   ·exact h
   ·rw [bit_hi (m := s.co.length) (hl r hr).2.2 h] at hk; cases hk
  cases hh : bit x.2 k with
  | true => rfl
  | false => exact absurd ⟨hk, by rw [hb, hh, decide_eq_true hkm]; rfl⟩ (h2 k)
 ·rintro ⟨r, hr, h1, h2⟩
  refine ⟨r, hr, h1, fun k ⟨g1, g2⟩ => ?_⟩
  rw [hb, h2 k g1] at g2
  simp at g2
theorem Dom.alw {s : Sys} (h : Gd s) {a b : List Rt} (ha : ∀ r ∈ a, RgOk s r) (hb : ∀ r ∈ b, RgOk s r) (hd : Dom s a b) {c f : Int} (hal : alwB s b c f = true) : alwB s a c f = true := by
 obtain ⟨r, hr, h1, h2⟩ := alwB_iff.1 hal
 obtain ⟨x, hx, g1, g2⟩ := hd r hr
 exact alwB_iff.2 ⟨x, hx, covB_trans h.ok (ha x hx).nat (hb r hr).nat g1 h1, fun k ⟨k1, k2⟩ => h2 k ⟨g2 k k1, k2⟩⟩
theorem Dom.of_alw {s : Sys} (h : Gd s) {a b : List Rt} (ha : ∀ r ∈ a, RgOk s r) (hb : ∀ r ∈ b, RgOk s r) (hd : ∀ c f : Nat, c < s.cl.length → (f : Int) < setN s → alwB s b c f = true → alwB s a c f = true) : Dom s a b := fun r hr => by
 have hr' := hb r hr
 have h1 := hr'.1; have h2 := hr'.2
 have e1 : ((r.1.toNat : Nat) : Int) = r.1 := by omega
 have e2 : (((setN s - 1 - r.2).toNat : Nat) : Int) = setN s - 1 - r.2 := by omega
 have := hd r.1.toNat (setN s - 1 - r.2).toNat (by omega) (by omega)
 rw [e1, e2] at this
 exact (alwB_full h ha hr').1 (this ((alwB_full h hb hr').2 ⟨r, hr, .refl h hr'⟩))
theorem alw_least {s : Sys} (h : Gd s) {l : List Rt} (hl : ∀ r ∈ l, RgOk s r) (c f : Int) : alwB s (leastF s l) c f = alwB s l c f := by
 have hl' : ∀ r ∈ leastF s l, RgOk s r := fun r hr => hl r (leastF_mem.1 hr).1
 rw [Bool.eq_iff_iff]
 exact ⟨fun hh => Dom.alw h hl hl' (.of_least h hl) hh, fun hh => Dom.alw h hl' hl (.least h hl) hh⟩
theorem alw_com {s : Sys} (h : Gd s) {a b : List Rt} (ha : ∀ r ∈ a, RgOk s r) (hb : ∀ r ∈ b, RgOk s r) (c : Nat) (hc : c < s.cl.length) (f : Int) : alwB s (comL s a b) c f = (alwB s a c f && alwB s b c f) := by
 rw [Bool.eq_iff_iff, Bool.and_eq_true, alwB_iff, alwB_iff, alwB_iff]
 constructor
 ·rintro ⟨r, hr, h1, h2⟩
  obtain ⟨p, hp, q, hq, i, hi, g1, g2, rfl⟩ := comL_mem.1 hr
  have hin : ((i : Int)).toNat = i := Int.toNat_natCast i
  simp only [hin] at h1
  exact ⟨⟨p, hp, covB_trans h.ok (ha p hp).nat hi g1 h1, fun k ⟨k1, k2⟩ => h2 k ⟨by rw [bit_or, k1]; rfl, k2⟩⟩, q, hq, covB_trans h.ok (hb q hq).nat hi g2 h1, fun k ⟨k1, k2⟩ => h2 k ⟨by rw [bit_or, k1]; simp, k2⟩⟩
 ·rintro ⟨⟨p, hp, g1, k1⟩, q, hq, g2, k2⟩
  refine ⟨((c : Int), orI p.2 q.2), comL_mem.2 ⟨p, hp, q, hq, c, hc, by simpa using g1, by simpa using g2, rfl⟩, covB_refl h.ok (by simpa using hc), fun k ⟨j1, j2⟩ => ?_⟩
  rw [bit_or, Bool.or_eq_true] at j1
  rcases j1 with j1 | j1
  ·exact k1 k ⟨j1, j2⟩
  ·exact k2 k ⟨j1, j2⟩
theorem orI_self {a : Int} (h : 0 ≤ a) : orI a a = a := bit_ext (orI_nn _ _) h fun k => by rw [bit_or]; simp
theorem orI_comm (a b : Int) : orI a b = orI b a := bit_ext (orI_nn _ _) (orI_nn _ _) fun k => by rw [bit_or, bit_or, Bool.or_comm]
theorem com_comm (s : Sys) (a b : List Rt) : leastF s (comL s a b) = leastF s (comL s b a) := leastF_congr fun x => by
 rw [comL_mem, comL_mem]
 constructor
 ·rintro ⟨p, hp, q, hq, i, hi, g1, g2, e⟩; exact ⟨q, hq, p, hp, i, hi, g2, g1, by rw [orI_comm]; exact e⟩
 ·rintro ⟨p, hp, q, hq, i, hi, g1, g2, e⟩; exact ⟨q, hq, p, hp, i, hi, g2, g1, by rw [orI_comm]; exact e⟩
theorem com_self {s : Sys} (h : Gd s) {a : List Rt} (ha : ∀ r ∈ a, RgOk s r) : leastF s (comL s a a) = leastF s a := by
 have hc : ∀ r ∈ comL s a a, RgOk s r := fun r hr => by
  obtain ⟨p, hp, q, hq, i, hi, _, _, rfl⟩ := comL_mem.1 hr
  exact ⟨⟨Int.natCast_nonneg _, by show (i : Int) < _; omega⟩, orI_nn _ _, orI_lt (ha p hp).2.2 (ha q hq).2.2⟩
 refine Dom.eq h hc ha (fun r hr => ?_) (fun r hr => ?_)
 ·have hr' := ha r hr
  have h1 := hr'.1
  refine ⟨r, comL_mem.2 ⟨r, hr, r, hr, r.1.toNat, hr'.nat, covB_refl h.ok hr'.nat, covB_refl h.ok hr'.nat, ?_⟩, .refl h hr'⟩
  rw [orI_self hr'.2.1]
  exact Prod.ext (by show r.1 = _; omega) rfl
 ·obtain ⟨p, hp, q, hq, i, hi, g1, g2, rfl⟩ := comL_mem.1 hr
  exact ⟨p, hp, by simpa using g1, fun k hk => by rw [bit_or, hk]; rfl⟩
theorem least_lost {s : Sys} (h : Gd s) {l : List Rt} (hl : ∀ r ∈ l, RgOk s r) {d : Rt} (hd : d ∈ leastF s l) {m : List Rt} (hm : ∀ x ∈ m, x ∈ leastF s l ∧ x ≠ d) : alwB s m d.1 (setN s - 1 - d.2) = false := by
 have hl' : ∀ r ∈ leastF s l, RgOk s r := fun r hr => hl r (leastF_mem.1 hr).1
 cases hal : alwB s m d.1 (setN s - 1 - d.2) with
 | false => rfl
 | true =>
  obtain ⟨x, hx, hg⟩ := (alwB_full h (fun r hr => hl' r (hm r hr).1) (hl' d hd)).1 hal
  have := (leastF_mem.1 hd).2 x (leastF_mem.1 (hm x hx).1).1
  rw [(wkB_ge h (hl' x (hm x hx).1)).2 ⟨fun he => (hm x hx).2 he.symm, hg⟩] at this
  cases this
end Go.Proofs.YtpnghcaccfnngaaGreatDoor.AM
namespace Go.Proofs.YtpnghcaccfnngaaGreatDoor.AM
variable [Dr]
open Go
abbrev vs11 : List Nat := [0, 1, 2, 3, 6, 7, 8, 9, 10, 11, 12, 13, 14, 15, 16, 17, 35, 49, 57, 81]
def ic11l0 : IC := (.seq (.seq (.region [jv 11, jF 1 3, jl 1, je 2, jk 49 [.t 3], jw 18 (.bin .lss .int) [.t 0, .t 4]])
 (.cond 18 .skip
 (.exit 2)))
 (.seq (.block 3 (.seq (.region [jN 2 3, jv 1, jv 10, jv 11, jk 29 [.t 0, .t 1, .t 2, .t 3], jt 4, jx 0 5, jx 1 5, jm 12 6, jm 13 7])
 (.seq (.region [jN 2 3, jv 2, jv 10, jv 11, jk 29 [.t 0, .t 1, .t 2, .t 3], jt 4, jx 0 5, jx 1 5, jm 14 6, jm 15 7])
 (.seq (.seq (.region [jv 13, jq (.bin .neq .int) [.t 0, jn 0], jt 1, jh 2 false 15, jg 2 false (.bin .neq .int) [.t 3, jn 0], jw 19 .pick [.t 2, jB true, .t 4]])
 (.cond 19 (.seq (.region [jw 4 .mv [jB false]])
 .ret)
 .skip))
 (.region [jv 9, jt 0, jh 1 true 12, jh 1 true 14, jg 1 true (.bin .eql .bool) [.t 2, .t 3], jq .pick [.t 1, .t 4, jB false], jm 9 5])))))
 (.region [jv 11, jq (.bin .add .int) [.t 0, jn 1], jm 11 1])))
def ic11l1 : IC := (.seq (.seq (.region [jv 10, jF 0 3, jl 1, je 2, jw 17 (.bin .lss .int) [.t 0, .t 3]])
 (.cond 17 .skip
 (.exit 0)))
 (.seq (.block 1 (.seq (.region [jz 11 0])
 (.block 2 (.loop ic11l0))))
 (.region [jv 10, jq (.bin .add .int) [.t 0, jn 1], jm 10 1])))
def ic11 : IC := (.seq (.region [jb 3 0, jw 4 .mv [jB false]])
 (.seq (.region [jN 2 3, jv 1, jk 31 [.t 0, .t 1], jt 2, jx 0 3, jx 1 3, jm 5 4, jm 6 5])
 (.seq (.region [jN 2 3, jv 2, jk 31 [.t 0, .t 1], jt 2, jx 0 3, jx 1 3, jm 7 4, jm 8 5])
 (.seq (.seq (.region [jN 2 3, jv 1, jv 2, jq (.bslice 1 2 [(.cv .nils), (.cv .nils)] [(0, 1), (1, 1)]) [.t 1, .t 2], jk 47 [.t 0, .t 3], jw 16 .not [.t 4]])
 (.cond 16 (.seq (.region [jv 6, jq (.bin .neq .int) [.t 0, jn 0], jt 1, jh 2 false 8, jg 2 false (.bin .neq .int) [.t 3, jn 0], jq .pick [.t 2, jB true, .t 4], jt 5, jf 6 true 28 [], jq .pick [.t 6, .t 7, jB false], jm 4 8])
 .ret)
 .skip))
 (.seq (.region [jw 9 .mv [jB true]])
 (.seq (.seq (.region [jz 10 0])
 (.block 0 (.loop ic11l1)))
 (.seq (.region [jv 6, jq (.bin .eql .int) [.t 0, jn 0], jt 1, jh 2 true 8, jg 2 true (.bin .eql .int) [.t 3, jn 0], jq .pick [.t 2, .t 4, jB false], jt 5, jh 6 true 9, jh 6 true 5, jh 6 true 7, jf 6 true 33 [.t 8, .t 9], jg 6 true (.bin .eql .bool) [.t 7, .t 10], jq .pick [.t 6, .t 11, jB false], jt 12, jh 13 true 9, jg 13 true .not [.t 14], jg 13 true .mv [.t 15], jh 16 false 5, jg 16 false (.len false) [.t 17], jh 16 false 2, jg 16 false (.len false) [.t 19], jg 16 false (.bin .leq .int) [.t 18, .t 20], jg 16 false .mv [.t 21], jh 22 true 7, jg 22 true (.len false) [.t 23], jh 22 true 1, jg 22 true (.len false) [.t 25], jg 22 true (.bin .leq .int) [.t 24, .t 26], jg 16 false .pick [.t 22, .t 27, jB false], jg 13 true .pick [.t 16, jB true, .t 28], jq .pick [.t 13, .t 29, jB false], jt 30, jf 31 true 28 [], jq .pick [.t 31, .t 32, jB false], jm 4 33])
 .ret)))))))
abbrev rs11 : List RC := [(.v 4)]
theorem fok11 (p : Bool) : FnOk Tryz.prog 11 ⟨ic11, vs11, 122, rs11, p⟩ := .mk2 Tryz.func11 (by kernel_rfl) (by kernel_rfl) (by kernel_rfl) (by kernel_rfl) (by kernel_rfl)
end Go.Proofs.YtpnghcaccfnngaaGreatDoor.AM
namespace Go.Proofs.YtpnghcaccfnngaaGreatDoor.AM
open Go Pl
theorem lst_cases (s : Sys) (l : List Rt) : (∃ e : Int, e ≠ 0 ∧ rdE s (sysE s).2.2 [l] = e ∧ lstV s l = .tup [rgL [], .i e]) ∨ (rdE s (sysE s).2.2 [l] = 0 ∧ (sysE s).2.2 = 0 ∧ l.length ≤ 40 ∧ (∀ r ∈ l, RgOk s r) ∧ lstV s l = .tup [rgL (leastF s l), .i 0]) := by
 unfold lstV
 by_cases h : rdE s (sysE s).2.2 [l] = 0
 ·obtain ⟨h0, h1⟩ := rdE_ok h
  obtain ⟨h40, hr⟩ := rgsE_ok h1
  exact .inr ⟨h, h0, h40, hr, by rw [if_neg (fun hh => hh h)]⟩
 ·exact .inl ⟨_, h, rfl, by rw [if_pos h]⟩
theorem lc11 (s : Sys) (hs : SSz s) (a b : List Rt) (ha : a.length < 2 ^ 63) (hb : b.length < 2 ^ 63) : AC Tryz.prog 11 [sysV s, rgL a, rgL b] [] fun r _ => r = .b true := by
 refine AC_FE (fok11 true) (Nat.le_of_ble_eq_true rfl) ?_
 have p1 := p31 s hs a ha
 have p2 := p31 s hs b hb
 have hv := rdE_two s (sysE s).2.2 a b
 have h47 := fun σ l0 h0 => c47 s hs [a, b] (by simpa using ⟨ha, hb⟩) (by simp) σ l0 h0
 rw [hv] at h47
 simp only [ic11, f_box, cellsOf, evA, if_true, if_false, beq_false, simprocAttr]
 rcases lst_cases s a with ⟨e, he, hre, hd⟩ | ⟨hre, h0, ha40, hra, hd⟩
 all_goals
  rw [hd] at p1
  rw [hre] at h47
  refine p1.call frz ?_
  simp only [evA, if_true, if_false, beq_false, simprocAttr]
  refine p2.call frz ?_
 ·have he0 : (e != 0) = true := by simpa using he
  have he1 : (e == 0) = false := by simpa using he
  rw [if_neg he, he1] at h47
  obtain ⟨L, e', h, hL, hw⟩ := lst_form (s := s) b
  rw [h]
  simp only [evA, if_true, if_false, beq_false, simprocAttr]
  refine (h47 _ 1 rfl).run ?_
  simp only [he0, evA, if_true, if_false, beq_false, simprocAttr]
  refine awake.call .nil ?_
  simp only [evA, if_true, if_false, beq_false, simprocAttr]
 rw [if_pos rfl] at h47
 rcases lst_cases s b with ⟨e, he, hre2, hd2⟩ | ⟨hre2, _, hb40, hrb, hd2⟩
 all_goals
  rw [hd2]
  rw [hre2] at h47
 ·have he0 : (e != 0) = true := by simpa using he
  have he1 : (e == 0) = false := by simpa using he
  rw [he1] at h47
  simp only [evA, if_true, if_false, beq_false, simprocAttr]
  refine (h47 _ 1 rfl).run ?_
  simp only [he0, evA, if_true, if_false, beq_false, simprocAttr]
  refine awake.call .nil ?_
  simp only [evA, if_true, if_false, beq_false, simprocAttr]
 have hz : ((0 : Int) == 0) = true := rfl
 rw [hz] at h47
 simp only [evA, if_true, if_false, beq_false, simprocAttr]
 refine (h47 _ 1 rfl).run ?_
 simp only [evA, if_true, if_false, beq_false, simprocAttr]
 have hg := gd_of h0
 have hbp := pow_bd hg.m8
 obtain ⟨N, hN⟩ : ∃ N : Nat, setN s = (N : Int) := ⟨(setN s).toNat, by unfold setN; omega⟩
 have hN' : (2 : Int) ^ s.co.length = (N : Int) := hN
 have hNr : 1 ≤ N ∧ N ≤ 256 := by rw [hN'] at hbp; omega
 have h49 := c49 s.co.length hg.m8
 rw [hN'] at h49
 have hmay : ∀ l : List Rt, l.length < 2 ^ 63 → rdE s (sysE s).2.2 [l] = 0 → ∀ c k : Nat, c < s.cl.length → k < N → PC Tryz.prog 29 [sysV s, rgL l, .i c, .i k] (.tup [.b (alwB s l c k), .i 0]) := fun l hl hre c k hc hk => by
  have := c29 s hs l hl c k
  unfold mayV at this
  rwa [if_neg (fun h => h hre), if_neg (by rw [inB_iff.2 (by omega)]; decide), if_neg (by rw [inB_iff.2 (by omega)]; decide)] at this
 have n12 := hg.n12
 refine IL_for s.cl.length (fun c s' => ∃ b' v11 v12 v13 v14 v15 v17 v18 v19, (b' = true ↔ ∀ i k, i < c → k < N → alwB s a i k = alwB s b i k) ∧ s' = ⟨[sysV s, rgL a, rgL b, .ptr 0 0, .b false, rgL (leastF s a), .i 0, rgL (leastF s b), .i 0, .b b', .i c, v11, v12, v13, v14, v15, .b false, v17, v18, v19], [.cells [.cv (clsR s.cl), .cv (strR s.co)], .cells [rgL a, rgL b]]⟩) ?_ 0 (Nat.zero_le _) ⟨true, _, _, _, _, _, _, _, _, by simp, rfl⟩
 rintro c s' hc ⟨b', v11, v12, v13, v14, v15, v17, v18, v19, hb', rfl⟩
 by_cases hcn : c < s.cl.length
 ·simp only [ic11l1, Int.ofNat_lt, hcn, evA, if_true, if_false, beq_false, simprocAttr]
  refine IL_for N (fun n s' => ∃ b' v12 v13 v14 v15 v18 v19, (b' = true ↔ (∀ i k, i < c → k < N → alwB s a i k = alwB s b i k) ∧ ∀ k, k < n → alwB s a c k = alwB s b c k) ∧ s' = ⟨[sysV s, rgL a, rgL b, .ptr 0 0, .b false, rgL (leastF s a), .i 0, rgL (leastF s b), .i 0, .b b', .i c, .i n, v12, v13, v14, v15, .b false, .b true, v18, v19], [.cells [.cv (clsR s.cl), .cv (strR s.co)], .cells [rgL a, rgL b]]⟩) ?_ 0 (Nat.zero_le _) ⟨b', _, _, _, _, _, _, by rw [hb']; simp, rfl⟩
  rintro n s' hn ⟨b2, v12, v13, v14, v15, v18, v19, hb2, rfl⟩
  by_cases hnN : n < N
  ·simp only [ic11l0, evA, if_true, if_false, beq_false, simprocAttr]
   refine h49.call frz ?_
   simp only [Int.ofNat_lt, hnN, evA, if_true, if_false, beq_false, simprocAttr]
   refine (hmay a ha hre c n hcn hnN).call frz ?_
   simp only [evA, if_true, if_false, beq_false, simprocAttr]
   refine (hmay b hb hre2 c n hcn hnN).call frz ?_
   simp only [evA, if_true, if_false, beq_false, simprocAttr]
   have hstep : ∀ b3, (b3 = true ↔ b2 = true ∧ alwB s a c n = alwB s b c n) → (b3 = true ↔ (∀ i k, i < c → k < N → alwB s a i k = alwB s b i k) ∧ ∀ k, k < n + 1 → alwB s a c k = alwB s b c k) := fun b3 h3 => by
    rw [h3, hb2]
    constructor
    ·rintro ⟨⟨h1, h2⟩, h4⟩
     refine ⟨h1, fun k hk => ?_⟩
     rcases Nat.lt_succ_iff_lt_or_eq.1 hk with h | rfl
     ·exact h2 k h
     ·exact h4
    ·rintro ⟨h1, h2⟩
     exact ⟨⟨h1, fun k hk => h2 k (by omega)⟩, h2 n (by omega)⟩
   cases b2 with
   | false =>
    simp only [wrap_succ (show n + 1 < 2 ^ 63 by omega), evA, if_true, if_false, beq_false, simprocAttr]
    exact kFor_go (by first | trivial | omega) ⟨false, _, _, _, _, _, _, hstep false (by simp), rfl⟩
   | true =>
    simp only [wrap_succ (show n + 1 < 2 ^ 63 by omega), evA, if_true, if_false, beq_false, simprocAttr]
    exact kFor_go (by first | trivial | omega) ⟨_, _, _, _, _, _, _, hstep (alwB s a c n == alwB s b c n) (by simp), rfl⟩
  ·have hnN' : n = N := by omega
   subst hnN'
   simp only [ic11l0, evA, if_true, if_false, beq_false, simprocAttr]
   refine h49.call frz ?_
   simp only [Int.ofNat_lt, hnN, wrap_succ (show c + 1 < 2 ^ 63 by omega), evA, if_true, if_false, beq_false, simprocAttr]
   refine kFor_go (by first | trivial | omega) ⟨b2, _, _, _, _, _, _, _, _, ?_, rfl⟩
   rw [hb2]
   constructor
   ·rintro ⟨h1, h2⟩ i k hi hk
    rcases Nat.lt_succ_iff_lt_or_eq.1 hi with h | rfl
    ·exact h1 i k h hk
    ·exact h2 k hk
   ·intro h
    exact ⟨fun i k hi hk => h i k (by omega) hk, fun k hk => h c k (by omega) hk⟩
 ·have hcn' : c = s.cl.length := by omega
  subst hcn'
  have la := leastF_len s a
  have lb := leastF_len s b
  have hra' := leastF_ok hra
  have hrb' := leastF_ok hrb
  have h33 := c33 (leastF s a) (leastF s b) (by omega) (by omega) (fun r hr => (hra' r hr).w hg.n12 hg.m8) (fun r hr => (hrb' r hr).w hg.n12 hg.m8)
  have hiff : b' = true ↔ leastF s a = leastF s b := by
   rw [hb']
   constructor
   ·intro h
    refine Dom.eq hg hra hrb (.of_alw hg hra hrb fun c f hc hf hh => ?_) (.of_alw hg hrb hra fun c f hc hf hh => ?_)
    ·rw [h c f hc (by omega)]; exact hh
    ·rw [← h c f hc (by omega)]; exact hh
   ·intro h i k hi hk
    rw [← alw_least hg hra, ← alw_least hg hrb, h]
  simp only [ic11l1, Int.ofNat_lt, hcn, evA, if_true, if_false, beq_false, simprocAttr]
  refine h33.call frz ?_
  cases b' with
  | false =>
   have : ¬ leastF s a = leastF s b := fun h => by have := hiff.2 h; cases this
   rw [decide_eq_false this]
   simp only [evA, if_true, if_false, beq_false, simprocAttr]
   refine awake.call .nil ?_
   simp only [evA, if_true, if_false, beq_false, simprocAttr]
  | true =>
   have he := hiff.1 rfl
   rw [decide_eq_true he]
   have l1 : decide (((leastF s a).length : Int) ≤ b.length) = true := decide_eq_true (by rw [he]; omega)
   have l2 : decide (((leastF s b).length : Int) ≤ a.length) = true := decide_eq_true (by rw [← he]; omega)
   simp only [l1, l2, evA, if_true, if_false, beq_false, simprocAttr]
   refine awake.call .nil ?_
   simp only [evA, if_true, if_false, beq_false, simprocAttr]
theorem law_ClassSame (avs : List AV) (h : Args Tryz.prog Tryz.f11.params.toList avs) : AC Tryz.prog 11 avs [] fun r _ => r = .b true := by
 have h : Args Tryz.prog [38, 39, 39] avs := h
 obtain ⟨cs1, avs, rfl, h1, h⟩ := args_cons h
 obtain ⟨cs2, avs, rfl, h2, h⟩ := args_cons h
 obtain ⟨cs3, avs, rfl, h3, h⟩ := args_cons h
 cases args_nil h
 obtain ⟨s, e1, hs⟩ := typed_sys h1
 obtain ⟨a, e2, ha, _⟩ := typed_rgs h2
 obtain ⟨b, e3, hb, _⟩ := typed_rgs h3
 rw [e1, e2, e3]
 exact lc11 s hs a b ha hb
end Go.Proofs.YtpnghcaccfnngaaGreatDoor.AM
namespace Go.Proofs.YtpnghcaccfnngaaGreatDoor.AM
variable [Dr]
open Go
abbrev vs15 : List Nat := [0, 1, 2, 3, 6, 7, 8, 9, 10, 11, 12, 13, 14, 34, 68, 70, 74, 79, 87, 107]
def ic15l0 : IC := (.seq (.seq (.region [jv 10, jF 1 3, jl 1, je 2, jk 49 [.t 3], jw 18 (.bin .lss .int) [.t 0, .t 4]])
 (.cond 18 .skip
 (.exit 2)))
 (.seq (.block 3 (.seq (.dr [[], [], [], [], [0, 1, 2, 3], [], [], [], [], [5, 6, 7, 8, 4], [9, 9], [10], [10], [10], [10], [11, 12, 13, 14, 10, 10], [10, 15], [4, 16]] [jN 2 3, jv 5, jv 9, jv 10, jk 50 [.t 0, .t 1, .t 2, .t 3], jN 2 3, jv 1, jv 9, jv 10, jk 50 [.t 5, .t 6, .t 7, .t 8], jt 9, jg 10 true (.loadN 2) [.v 3], jh 10 true 2, jh 10 true 9, jh 10 true 10, jf 10 true 50 [.t 11, .t 12, .t 13, .t 14], jq .pick [.t 10, .t 15, jB false], jw 19 (.bin .neq .bool) [.t 4, .t 16]])
 (.cond 19 (.seq (.region [jw 4 .mv [jB false]])
 .ret)
 .skip)))
 (.region [jv 10, jq (.bin .add .int) [.t 0, jn 1], jm 10 1])))
def ic15l1 : IC := (.seq (.seq (.region [jv 9, jF 0 3, jl 1, je 2, jw 17 (.bin .lss .int) [.t 0, .t 3]])
 (.cond 17 .skip
 (.exit 0)))
 (.seq (.block 1 (.seq (.region [jz 10 0])
 (.block 2 (.loop ic15l0))))
 (.region [jv 9, jq (.bin .add .int) [.t 0, jn 1], jm 9 1])))
def ic15 : IC := (.seq (.region [jb 3 0, jw 4 .mv [jB false]])
 (.seq (.region [jN 2 3, jv 1, jv 2, jk 36 [.t 0, .t 1, .t 2], jt 3, jx 0 4, jx 1 4, jm 5 5, jm 6 6])
 (.seq (.region [jN 2 3, jv 2, jv 1, jk 36 [.t 0, .t 1, .t 2], jt 3, jx 0 4, jx 1 4, jm 7 5, jm 8 6])
 (.seq (.seq (.region [jN 2 3, jv 1, jv 2, jq (.bslice 1 2 [(.cv .nils), (.cv .nils)] [(0, 1), (1, 1)]) [.t 1, .t 2], jk 47 [.t 0, .t 3], jw 13 .not [.t 4]])
 (.cond 13 (.seq (.region [jv 6, jq (.bin .neq .int) [.t 0, jn 0], jt 1, jh 2 true 8, jg 2 true (.bin .neq .int) [.t 3, jn 0], jq .pick [.t 2, .t 4, jB false], jt 5, jh 6 true 5, jg 6 true (.len false) [.t 7], jh 6 true 7, jg 6 true (.len false) [.t 9], jg 6 true (.bin .add .int) [.t 8, .t 10], jg 6 true (.bin .eql .int) [.t 11, jn 0], jq .pick [.t 6, .t 12, jB false], jt 13, jf 14 true 28 [], jq .pick [.t 14, .t 15, jB false], jm 4 16])
 .ret)
 .skip))
 (.seq (.seq (.region [jv 6, jv 8, jq (.bin .neq .int) [.t 0, .t 1], jt 2, jh 3 false 5, jh 3 false 7, jf 3 false 33 [.t 4, .t 5], jg 3 false .not [.t 6], jq .pick [.t 3, jB true, .t 7], jt 8, jh 9 false 6, jg 9 false (.bin .neq .int) [.t 10, jn 0], jg 9 false .mv [.t 11], jh 12 true 6, jg 12 true (.bin .neq .int) [.t 13, jn 3], jg 9 false .pick [.t 12, .t 14, jB false], jw 14 .pick [.t 9, jB true, .t 15]])
 (.cond 14 (.seq (.region [jw 4 .mv [jB false]])
 .ret)
 .skip))
 (.seq (.seq (.region [jv 6, jw 15 (.bin .eql .int) [.t 0, jn 0]])
 (.cond 15 (.seq (.seq (.region [jN 2 3, jv 5, jk 48 [.t 0, .t 1], jw 16 (.bin .neq .int) [.t 2, jn 0]])
 (.cond 16 (.seq (.region [jw 4 .mv [jB false]])
 .ret)
 .skip))
 (.seq (.region [jz 9 0])
 (.block 0 (.loop ic15l1))))
 .skip))
 (.seq (.region [jN 2 3, jv 1, jv 1, jk 36 [.t 0, .t 1, .t 2], jt 3, jx 0 4, jx 1 4, jm 11 5, jm 6 6])
 (.seq (.region [jN 2 3, jv 1, jk 31 [.t 0, .t 1], jt 2, jx 0 3, jx 1 3, jm 12 4, jm 8 5])
 (.seq (.region [jv 6, jq (.bin .eql .int) [.t 0, jn 0], jt 1, jh 2 true 8, jg 2 true (.bin .eql .int) [.t 3, jn 0], jq .pick [.t 2, .t 4, jB false], jt 5, jh 6 true 11, jh 6 true 12, jf 6 true 33 [.t 7, .t 8], jq .pick [.t 6, .t 9, jB false], jt 10, jf 11 true 28 [], jq .pick [.t 11, .t 12, jB false], jm 4 13])
 .ret)))))))))
abbrev rs15 : List RC := [(.v 4)]
theorem fok15 (p : Bool) : FnOk Tryz.prog 15 ⟨ic15, vs15, 135, rs15, p⟩ := .mk2 Tryz.func15 (by kernel_rfl) (by kernel_rfl) (by kernel_rfl) (by kernel_rfl) (by kernel_rfl)
end Go.Proofs.YtpnghcaccfnngaaGreatDoor.AM
namespace Go.Proofs.YtpnghcaccfnngaaGreatDoor.AM
open Go Pl
theorem bth_cases (s : Sys) (a b : List Rt) : (∃ e : Int, e ≠ 0 ∧ rdE s (sysE s).2.2 [a, b] = e ∧ bthV s a b = .tup [rgL [], .i e]) ∨ (rdE s (sysE s).2.2 [a, b] = 0 ∧ (sysE s).2.2 = 0 ∧ rgsE s a = 0 ∧ rgsE s b = 0 ∧ ((¬ (leastF s (comL s a b)).length ≤ 40 ∧ bthV s a b = .tup [rgL [], .i 3]) ∨ (leastF s (comL s a b)).length ≤ 40 ∧ bthV s a b = .tup [rgL (leastF s (comL s a b)), .i 0])) := by
 unfold bthV
 by_cases h : rdE s (sysE s).2.2 [a, b] = 0
 ·obtain ⟨h0, h1, h2⟩ := rdE_ok2 h
  refine .inr ⟨h, h0, h1, h2, ?_⟩
  rw [if_neg (fun hh => hh h)]
  by_cases h40 : (leastF s (comL s a b)).length ≤ 40
  ·exact .inr ⟨h40, by rw [if_neg (by omega)]⟩
  ·exact .inl ⟨h40, by rw [if_pos (by omega)]⟩
 ·exact .inl ⟨_, h, rfl, by rw [if_pos h]⟩
theorem rdE_of {s : Sys} {ls : List (List Rt)} (h0 : (sysE s).2.2 = 0) (h : ∀ l ∈ ls, rgsE s l = 0) : rdE s (sysE s).2.2 ls = 0 := by
 rw [h0]
 unfold rdE
 induction ls with
 | nil => rfl
 | cons l ls ih =>
  rw [List.foldl_cons, if_pos rfl, h l (by simp)]
  exact ih fun l hl => h l (by simp [hl])
theorem lc15 (s : Sys) (hs : SSz s) (a b : List Rt) (ha : a.length < 2 ^ 63) (hb : b.length < 2 ^ 63) : AC Tryz.prog 15 [sysV s, rgL a, rgL b] [] fun r _ => r = .b true := by
 refine AC_FE (fok15 true) (Nat.le_of_ble_eq_true rfl) ?_
 have p1 := p36 s hs a b ha hb
 have p2 := p36 s hs b a hb ha
 have p3 := p36 s hs a a ha ha
 have p4 := p31 s hs a ha
 have h47 := fun σ l0 h0 => c47 s hs [a, b] (by simpa using ⟨ha, hb⟩) (by simp) σ l0 h0
 simp only [ic15, f_box, cellsOf, evA, if_true, if_false, beq_false, simprocAttr]
 rcases bth_cases s a b with ⟨e, he, hre, hd⟩ | ⟨hre, h0, h1, h2, hd⟩
 ·rw [hd] at p1
  rw [hre] at h47
  have he0 : (e != 0) = true := by simpa using he
  have he1 : (e == 0) = false := by simpa using he
  rw [he1] at h47
  refine p1.call frz ?_
  simp only [evA, if_true, if_false, beq_false, simprocAttr]
  refine p2.call frz ?_
  rcases bth_cases s b a with ⟨e', he', hre', hd'⟩ | ⟨hre', h0, h1, h2, hd'⟩
  ·rw [hd']
   have he0' : (e' != 0) = true := by simpa using he'
   simp only [evA, if_true, if_false, beq_false, simprocAttr]
   refine (h47 _ 1 rfl).run ?_
   simp only [he0, he0', evA, if_true, if_false, beq_false, simprocAttr]
   refine awake.call .nil ?_
   simp only [evA, if_true, if_false, beq_false, simprocAttr]
  ·have : rdE s (sysE s).2.2 [a, b] = 0 := rdE_of h0 (by simp [h1, h2])
   exact absurd this (by rw [hre]; exact he)
 have hz : ((0 : Int) == 0) = true := rfl
 rw [hre, hz] at h47
 have hg := gd_of h0
 have hn12 := hg.n12
 have hbp := pow_bd hg.m8
 obtain ⟨ha40, hra⟩ := rgsE_ok h1
 obtain ⟨hb40, hrb⟩ := rgsE_ok h2
 have hba : rdE s (sysE s).2.2 [b, a] = 0 := rdE_of h0 (by simp [h1, h2])
 have haa : rdE s (sysE s).2.2 [a, a] = 0 := rdE_of h0 (by simp [h1])
 have ha1 : rdE s (sysE s).2.2 [a] = 0 := rdE_of h0 (by simp [h1])
 have la := leastF_len s a
 have hra' := leastF_ok hra
 unfold bthV at p2 p3
 unfold lstV at p4
 rw [if_neg (fun hh => hh hba), ← com_comm s a b] at p2
 rw [if_neg (fun hh => hh haa), com_self hg hra, if_neg (by omega)] at p3
 rw [if_neg (fun hh => hh ha1)] at p4
 have h33 := c33 (leastF s a) (leastF s a) (by omega) (by omega) (fun r hr => (hra' r hr).w hg.n12 hg.m8) (fun r hr => (hra' r hr).w hg.n12 hg.m8)
 rw [decide_eq_true rfl] at h33
 rcases hd with ⟨hlen, hd⟩ | ⟨hlen, hd⟩
 ·have h330 := c33 [] [] (by simp) (by simp) (by simp) (by simp)
  rw [decide_eq_true rfl] at h330
  rw [if_pos (by omega)] at p2
  rw [hd] at p1
  refine p1.call frz ?_
  simp only [evA, if_true, if_false, beq_false, simprocAttr]
  refine p2.call frz ?_
  simp only [evA, if_true, if_false, beq_false, simprocAttr]
  refine (h47 _ 1 rfl).run ?_
  simp only [evA, if_true, if_false, beq_false, simprocAttr]
  refine h330.call frz ?_
  simp only [evA, if_true, if_false, beq_false, simprocAttr]
  refine p3.call frz ?_
  simp only [evA, if_true, if_false, beq_false, simprocAttr]
  refine p4.call frz ?_
  simp only [evA, if_true, if_false, beq_false, simprocAttr]
  refine h33.call frz ?_
  simp only [evA, if_true, if_false, beq_false, simprocAttr]
  refine awake.call .nil ?_
  simp only [evA, if_true, if_false, beq_false, simprocAttr]
 ·rw [if_neg (by omega)] at p2
  rw [hd] at p1
  have hrc' := leastF_ok (comL_ok hra hrb)
  have halw : ∀ c k : Nat, c < s.cl.length → alwB s (leastF s (comL s a b)) c k = (alwB s a c k && alwB s b c k) := fun c k hc => by rw [alw_least hg (comL_ok hra hrb), alw_com hg hra hrb c hc]
  generalize leastF s (comL s a b) = L at *
  have h33L := c33 L L (by omega) (by omega) (fun r hr => (hrc' r hr).w hg.n12 hg.m8) (fun r hr => (hrc' r hr).w hg.n12 hg.m8)
  rw [decide_eq_true rfl] at h33L
  have h48 := c48 s hs hg.m8 L (by omega)
  rw [rgsE_of hlen hrc'] at h48
  obtain ⟨N, hN⟩ : ∃ N : Nat, setN s = (N : Int) := ⟨(setN s).toNat, by unfold setN; omega⟩
  have hN' : (2 : Int) ^ s.co.length = (N : Int) := hN
  have hNr : 1 ≤ N ∧ N ≤ 256 := by rw [hN'] at hbp; omega
  have h49 := c49 s.co.length hg.m8
  rw [hN'] at h49
  refine p1.call frz ?_
  simp only [evA, if_true, if_false, beq_false, simprocAttr]
  refine p2.call frz ?_
  simp only [evA, if_true, if_false, beq_false, simprocAttr]
  refine (h47 _ 1 rfl).run ?_
  simp only [evA, if_true, if_false, beq_false, simprocAttr]
  refine h33L.call frz ?_
  simp only [evA, if_true, if_false, beq_false, simprocAttr]
  refine h48.call frz ?_
  simp only [evA, if_true, if_false, beq_false, simprocAttr]
  refine IL_for s.cl.length (fun c s' => ∃ v10 v11 v12 v17 v18 v19, s' = ⟨[sysV s, rgL a, rgL b, .ptr 0 0, .b false, rgL L, .i 0, rgL L, .i 0, .i c, v10, v11, v12, .b false, .b false, .b true, .b false, v17, v18, v19], [.cells [.cv (clsR s.cl), .cv (strR s.co)], .cells [rgL a, rgL b]]⟩) ?_ 0 (Nat.zero_le _) ⟨_, _, _, _, _, _, rfl⟩
  rintro c s' hc ⟨v10, v11, v12, v17, v18, v19, rfl⟩
  by_cases hcn : c < s.cl.length
  ·simp only [ic15l1, Int.ofNat_lt, hcn, evA, if_true, if_false, beq_false, simprocAttr]
   refine IL_for N (fun n s' => ∃ v11 v12 v18 v19, s' = ⟨[sysV s, rgL a, rgL b, .ptr 0 0, .b false, rgL L, .i 0, rgL L, .i 0, .i c, .i n, v11, v12, .b false, .b false, .b true, .b false, .b true, v18, v19], [.cells [.cv (clsR s.cl), .cv (strR s.co)], .cells [rgL a, rgL b]]⟩) ?_ 0 (Nat.zero_le _) ⟨_, _, _, _, rfl⟩
   rintro n s' hn ⟨v11, v12, v18, v19, rfl⟩
   by_cases hnN : n < N
   ·have k1 := c50 s hs hn12 hg.ok L hg.m8 (by omega) hrc' c (by omega) n (by omega)
    have k2 := c50 s hs hn12 hg.ok a hg.m8 ha hra c (by omega) n (by omega)
    have k3 := c50 s hs hn12 hg.ok b hg.m8 hb hrb c (by omega) n (by omega)
    rw [halw c n hcn] at k1
    simp only [ic15l0, evA, if_true, if_false, beq_false, simprocAttr]
    refine h49.call frz ?_
    simp only [Int.ofNat_lt, hnN, evA, if_true, if_false, beq_false, simprocAttr]
    refine DW_s [4, 9, 15] [] hmix (by kernel_rfl) rfl ?_
    simp only [evA, if_true, if_false, beq_false, simprocAttr]
    refine kK_keep (k1.call frz ⟨rfl, rfl⟩) rfl ?_
    simp only [evA, if_true, if_false, beq_false, simprocAttr]
    refine kK_keep (k2.call frz ⟨rfl, rfl⟩) rfl ?_
    cases alwB s a c n with
    | false =>
     simp only [Bool.false_and, wrap_succ (show n + 1 < 2 ^ 63 by omega), evA, if_true, if_false, beq_false, simprocAttr]
     exact kFor_go (by first | trivial | omega) ⟨_, _, _, _, rfl⟩
    | true =>
     simp only [evA, if_true, if_false, beq_false, simprocAttr]
     refine kK_keep (k3.call frz ⟨rfl, rfl⟩) rfl ?_
     have hbb : ∀ x : Bool, ((true && x) != x) = false := by decide
     simp only [hbb, wrap_succ (show n + 1 < 2 ^ 63 by omega), evA, if_true, if_false, beq_false, simprocAttr]
     exact kFor_go (by first | trivial | omega) ⟨_, _, _, _, rfl⟩
   ·have hnN' : n = N := by omega
    subst hnN'
    simp only [ic15l0, evA, if_true, if_false, beq_false, simprocAttr]
    refine h49.call frz ?_
    simp only [Int.ofNat_lt, hnN, wrap_succ (show c + 1 < 2 ^ 63 by omega), evA, if_true, if_false, beq_false, simprocAttr]
    exact kFor_go (by first | trivial | omega) ⟨_, _, _, _, _, _, rfl⟩
  ·have hcn' : c = s.cl.length := by omega
   subst hcn'
   simp only [ic15l1, Int.ofNat_lt, hcn, evA, if_true, if_false, beq_false, simprocAttr]
   refine p3.call frz ?_
   simp only [evA, if_true, if_false, beq_false, simprocAttr]
   refine p4.call frz ?_
   simp only [evA, if_true, if_false, beq_false, simprocAttr]
   refine h33.call frz ?_
   simp only [evA, if_true, if_false, beq_false, simprocAttr]
   refine awake.call .nil ?_
   simp only [evA, if_true, if_false, beq_false, simprocAttr]
theorem law_ClassBoth (avs : List AV) (h : Args Tryz.prog Tryz.f15.params.toList avs) : AC Tryz.prog 15 avs [] fun r _ => r = .b true := by
 have h : Args Tryz.prog [38, 39, 39] avs := h
 obtain ⟨cs1, avs, rfl, h1, h⟩ := args_cons h
 obtain ⟨cs2, avs, rfl, h2, h⟩ := args_cons h
 obtain ⟨cs3, avs, rfl, h3, h⟩ := args_cons h
 cases args_nil h
 obtain ⟨s, e1, hs⟩ := typed_sys h1
 obtain ⟨a, e2, ha, _⟩ := typed_rgs h2
 obtain ⟨b, e3, hb, _⟩ := typed_rgs h3
 rw [e1, e2, e3]
 exact lc15 s hs a b ha hb
end Go.Proofs.YtpnghcaccfnngaaGreatDoor.AM
namespace Go.Proofs.YtpnghcaccfnngaaGreatDoor.AM
variable [Dr]
open Go
abbrev vs14 : List Nat := [0, 1, 2, 3, 5, 6, 7, 8, 9, 10, 11, 12, 13, 14, 15, 16, 17, 18, 19, 30, 87, 95]
def ic14 : IC := (.seq (.region [jb 3 0, jb 4 2, jw 5 .mv [jB false]])
 (.seq (.dr [[], [0], [], [2], [1, 0, 1], [3, 4, 0, 1, 2, 3, 4]] [jq (.iaA 2 1) [.v 4, jn 0], jl 0, jq (.iaA 2 1) [.v 4, jn 1], jl 2, jm 6 1, jm 7 3])
 (.seq (.seq (.region [jN 2 3, jv 1, jv 6, jv 7, jq (.bslice 1 3 [(.cv .nils), (.cv .nils), (.cv .nils)] [(0, 1), (1, 1), (2, 1)]) [.t 1, .t 2, .t 3], jk 47 [.t 0, .t 4], jw 19 .not [.t 5]])
 (.cond 19 (.seq (.region [jk 28 [], jm 5 0])
 .ret)
 .skip))
 (.seq (.region [jN 2 3, jv 1, jv 6, jk 34 [.t 0, .t 1, .t 2], jt 3, jx 0 4, jx 1 4, jm 8 5, jm 9 6])
 (.seq (.region [jN 2 3, jv 6, jv 7, jk 34 [.t 0, .t 1, .t 2], jt 3, jx 0 4, jx 1 4, jm 10 5, jm 11 6])
 (.seq (.region [jN 2 3, jv 1, jv 7, jk 34 [.t 0, .t 1, .t 2], jt 3, jx 0 4, jx 1 4, jm 12 5, jm 13 6])
 (.seq (.region [jN 2 3, jv 1, jv 1, jk 34 [.t 0, .t 1, .t 2], jt 3, jx 0 4, jx 1 4, jm 14 5, jm 15 6])
 (.seq (.seq (.region [jv 9, jq (.bin .neq .int) [.t 0, jn 0], jt 1, jh 2 false 11, jg 2 false (.bin .neq .int) [.t 3, jn 0], jq .pick [.t 2, jB true, .t 4], jt 5, jh 6 false 13, jg 6 false (.bin .neq .int) [.t 7, jn 0], jq .pick [.t 6, jB true, .t 8], jt 9, jh 10 false 15, jg 10 false (.bin .neq .int) [.t 11, jn 0], jq .pick [.t 10, jB true, .t 12], jt 13, jh 14 false 14, jg 14 false .not [.t 15], jq .pick [.t 14, jB true, .t 16], jt 17, jh 18 false 8, jg 18 false .mv [.t 19], jh 20 true 10, jg 18 false .pick [.t 20, .t 21, jB false], jg 18 false .mv [.t 22], jh 23 true 12, jg 23 true .not [.t 24], jg 18 false .pick [.t 23, .t 25, jB false], jw 20 .pick [.t 18, jB true, .t 26]])
 (.cond 20 (.seq (.region [jw 5 .mv [jB false]])
 .ret)
 .skip))
 (.seq (.region [jq (.bslice 2 0 [] []) [], jv 1, jq (.append 2 16) [.t 0, .t 1], jv 6, jq (.append 2 16) [.t 2, .t 3], jm 16 4])
 (.seq (.seq (.region [jv 16, je 0, jw 21 (.bin .gtr .int) [.t 1, jn 40]])
 (.cond 21 (.seq (.region [jk 28 [], jm 5 0])
 .ret)
 .skip))
 (.seq (.region [jN 2 3, jv 16, jk 31 [.t 0, .t 1], jt 2, jx 0 3, jx 1 3, jm 17 4, jm 9 5])
 (.seq (.region [jN 2 3, jv 1, jk 31 [.t 0, .t 1], jt 2, jx 0 3, jx 1 3, jm 18 4, jm 11 5])
 (.seq (.region [jv 9, jq (.bin .eql .int) [.t 0, jn 0], jt 1, jh 2 true 11, jg 2 true (.bin .eql .int) [.t 3, jn 0], jq .pick [.t 2, .t 4, jB false], jt 5, jh 6 true 8, jh 6 true 17, jh 6 true 18, jf 6 true 33 [.t 8, .t 9], jg 6 true (.bin .eql .bool) [.t 7, .t 10], jq .pick [.t 6, .t 11, jB false], jt 12, jf 13 true 28 [], jq .pick [.t 13, .t 14, jB false], jm 5 15])
 .ret)))))))))))))
abbrev rs14 : List RC := [(.v 5)]
theorem fok14 (p : Bool) : FnOk Tryz.prog 14 ⟨ic14, vs14, 125, rs14, p⟩ := .mk2 Tryz.func14 (by kernel_rfl) (by kernel_rfl) (by kernel_rfl) (by kernel_rfl) (by kernel_rfl)
end Go.Proofs.YtpnghcaccfnngaaGreatDoor.AM
namespace Go.Proofs.YtpnghcaccfnngaaGreatDoor.AM
open Go Pl
theorem app_rg {l0 len : Nat} {cs : List AV} {b : List Rt} {σ : List AObj} (h : rowOf σ l0 = some cs) (hl : cs.length = len * 2) (hb : b.length ≤ 1000) (hn : len ≤ 1000) :
  f_append 2 16 [.sl l0 0 len 2, rgL b] σ = some (.sl σ.length 0 (len + b.length) 2, σ.set l0 .dead ++ [.cells (cs ++ (b.flatMap rgC).map .cv)]) := by
 have hf : b.length * 2 = ((b.flatMap rgC).map AV.cv).length := by rw [List.length_map, flat_len rgC_len]
 have hs : ((b.flatMap rgC).map AV.cv).all AV.isSc = true := sc_cv _
 have hsrc : srcCells σ 2 (rgL b) = some ((b.flatMap rgC).map .cv) := by
  simp only [srcCells]
  rw [if_pos (by rw [flat_len rgC_len])]
 simp only [f_append, h, hsrc, lenF, Option.bind_some]
 rw [if_pos ⟨trivial, by omega, hf, by omega, by omega, hs⟩, List.take_of_length_le (by omega)]
theorem rdE_all {s : Sys} {ls : List (List Rt)} (h : rdE s (sysE s).2.2 ls = 0) : (sysE s).2.2 = 0 ∧ ∀ l ∈ ls, rgsE s l = 0 := by
 have h0 : (sysE s).2.2 = 0 := Decidable.byContradiction fun hne => by rw [rdE_ne s _ _ hne] at h; exact hne h
 refine ⟨h0, ?_⟩
 rw [h0] at h
 induction ls with
 | nil => simp
 | cons l ls ih =>
  have e : rdE s 0 (l :: ls) = rdE s (rgsE s l) ls := by unfold rdE; rw [List.foldl_cons, if_pos rfl]
  rw [e] at h
  have h1 : rgsE s l = 0 := Decidable.byContradiction fun hne => by rw [rdE_ne s _ _ hne] at h; exact hne h
  rw [h1] at h
  intro x hx
  rcases List.mem_cons.1 hx with rfl | hx
  ·exact h1
  ·exact ih h x hx
theorem allB_dom {s : Sys} (h : Gd s) {a b : List Rt} (ha : ∀ r ∈ a, RgOk s r) (hb : ∀ r ∈ b, RgOk s r) : allB s a b = true ↔ Dom s a b := by
 rw [allB_iff h.m8 h.ok ha hb]
 exact ⟨fun hh => .of_alw h ha hb hh, fun hh c f _ _ hal => hh.alw h ha hb hal⟩
theorem allB_least {s : Sys} (h : Gd s) {a b : List Rt} (ha : ∀ r ∈ a, RgOk s r) (hb : ∀ r ∈ b, RgOk s r) : allB s a b = decide (leastF s (a ++ b) = leastF s a) := by
 have hab : ∀ r ∈ a ++ b, RgOk s r := fun r hr => (List.mem_append.1 hr).elim (ha r) (hb r)
 rw [Bool.eq_iff_iff, decide_eq_true_eq, allB_dom h ha hb]
 constructor
 ·intro hd
  refine Dom.eq h hab ha (.sub h ha fun r hr => List.mem_append.2 (.inl hr)) fun r hr => ?_
  rcases List.mem_append.1 hr with hr | hr
  ·exact ⟨r, hr, .refl h (ha r hr)⟩
  ·exact hd r hr
 ·intro he r hr
  obtain ⟨x, hx, hge⟩ := Dom.least h hab r (List.mem_append.2 (.inr hr))
  rw [he] at hx
  exact ⟨x, (leastF_mem.1 hx).1, hge⟩
set_option maxHeartbeats 400000 in
theorem lc14 (s : Sys) (hs : SSz s) (a b c : List Rt) (ha : a.length < 2 ^ 63) (hb : b.length < 2 ^ 63) (hc : c.length < 2 ^ 63) : AC Tryz.prog 14 [sysV s, rgL a, .agg [rgL b, rgL c]] [] fun r _ => r = .b true := by
 refine AC_FE (fok14 true) (Nat.le_of_ble_eq_true rfl) ?_
 have h47 := fun σ l0 h0 => c47 s hs [a, b, c] (by simpa using ⟨ha, hb, hc⟩) (by simp) σ l0 h0
 have p1 := c34 s hs a b ha hb
 have p2 := c34 s hs b c hb hc
 have p3 := c34 s hs a c ha hc
 have p4 := c34 s hs a a ha ha
 have p5 := p31 s hs a ha
 simp only [ic14, f_box, cellsOf, f_iaA, evA, if_true, if_false, beq_false, simprocAttr]
 refine DW_s [] [] hmix (by kernel_rfl) rfl ?_
 simp only [f_iaA, evA, if_true, if_false, beq_false, simprocAttr]
 refine (h47 _ 2 rfl).run ?_
 by_cases hre : rdE s (sysE s).2.2 [a, b, c] = 0
 rotate_left
 ·have he : (rdE s (sysE s).2.2 [a, b, c] == 0) = false := by simpa using hre
  rw [he]
  simp only [evA, if_true, if_false, beq_false, simprocAttr]
  refine awake.call .nil ?_
  simp only [evA, if_true, if_false, beq_false, simprocAttr]
 have he : (rdE s (sysE s).2.2 [a, b, c] == 0) = true := by simpa using hre
 rw [he]
 obtain ⟨h0, hall⟩ := rdE_all hre
 have h1 := hall a (by simp)
 have h2 := hall b (by simp)
 have h3 := hall c (by simp)
 have hg := gd_of h0
 obtain ⟨ha40, hra⟩ := rgsE_ok h1
 obtain ⟨hb40, hrb⟩ := rgsE_ok h2
 obtain ⟨hc40, hrc⟩ := rgsE_ok h3
 have r2 : ∀ x y : List Rt, rgsE s x = 0 → rgsE s y = 0 → rdE s (sysE s).2.2 [x, y] = 0 := fun x y hx hy => rdE_of h0 (by simp [hx, hy])
 have r1 : rdE s (sysE s).2.2 [a] = 0 := rdE_of h0 (by simp [h1])
 unfold alsV at p1 p2 p3 p4
 unfold lstV at p5
 rw [if_neg (fun hh => hh (r2 a b h1 h2))] at p1
 rw [if_neg (fun hh => hh (r2 b c h2 h3))] at p2
 rw [if_neg (fun hh => hh (r2 a c h1 h3))] at p3
 rw [if_neg (fun hh => hh (r2 a a h1 h1)), (allB_dom hg hra hra).2 (.sub hg hra fun _ h => h)] at p4
 rw [if_neg (fun hh => hh r1)] at p5
 have htr : allB s a b = true → allB s b c = true → allB s a c = true := fun g1 g2 => by
  rw [allB_dom hg hra hrb] at g1
  rw [allB_dom hg hrb hrc] at g2
  rw [allB_dom hg hra hrc]
  exact g1.trans hg hra hrb g2
 have hlaw := allB_least hg hra hrb
 have hab : ∀ r ∈ a ++ b, RgOk s r := fun r hr => (List.mem_append.1 hr).elim (hra r) (hrb r)
 have la := leastF_len s a
 have lab := leastF_len s (a ++ b)
 rw [List.length_append] at lab
 have h33 := c33 (leastF s (a ++ b)) (leastF s a) (by omega) (by omega) (fun r hr => (leastF_ok hab r hr).w hg.n12 hg.m8) (fun r hr => (leastF_ok hra r hr).w hg.n12 hg.m8)
 rw [← hlaw] at h33
 have p6 := p31 s hs (a ++ b) (by rw [List.length_append]; omega)
 unfold lstV at p6
 generalize allB s a b = ab at *
 generalize allB s b c = bc at *
 generalize allB s a c = ac at *
 have a1 := fun σ h => app_rg (l0 := 3) (len := 0) (cs := []) (b := a) (σ := σ) h rfl (by omega) (by omega)
 have a2 := fun σ h => app_rg (l0 := 4) (len := a.length) (cs := (a.flatMap rgC).map .cv) (b := b) (σ := σ) h (by rw [List.length_map, flat_len rgC_len]) (by omega) (by omega)
 have hlen : a.length + b.length = (a ++ b).length := (List.length_append).symm
 have hfl : (a ++ b).flatMap rgC = a.flatMap rgC ++ b.flatMap rgC := List.flatMap_append
 have hA : ∀ x0 x1 x2 x3 x4 : AObj, AccS 2 [x0, x1, x2, x3, x4, .cells ((a.flatMap rgC).map .cv ++ (b.flatMap rgC).map .cv)] (.sl 5 0 (a.length + b.length) 2) (a ++ b).length ((a ++ b).flatMap rgC) := fun x0 x1 x2 x3 x4 => .inr ⟨5, by rw [hlen], flat_len rgC_len _, by rw [hfl, List.map_append]; rfl⟩
 have p6' : ¬ (a.length + b.length : Nat) > 40 → PC Tryz.prog 31 [sysV s, rgL (a ++ b)] (.tup [rgL (leastF s (a ++ b)), .i 0]) := fun h => by
  rwa [if_neg (fun hh => hh (rdE_of h0 (ls := [a ++ b]) (by simp only [List.mem_singleton, forall_eq]; exact rgsE_of (by omega) hab)))] at p6
 rcases (show ab = false ∨ (ab = true ∧ bc = false) ∨ (ab = true ∧ bc = true ∧ ac = true) by
  cases ab <;> cases bc <;> first | (simp; done) | exact .inr (.inr ⟨rfl, rfl, htr rfl rfl⟩)) with rfl | ⟨rfl, rfl⟩ | ⟨rfl, rfl, rfl⟩
 all_goals
  simp only [evA, if_true, if_false, beq_false, simprocAttr]
  refine p1.call frz ?_
  simp only [evA, if_true, if_false, beq_false, simprocAttr]
  refine p2.call frz ?_
  simp only [evA, if_true, if_false, beq_false, simprocAttr]
  refine p3.call frz ?_
  simp only [evA, if_true, if_false, beq_false, simprocAttr]
  refine p4.call frz ?_
  simp only [evA, if_true, if_false, beq_false, simprocAttr]
  rw [a1 _ rfl]
  simp only [Nat.zero_add, List.nil_append, evA, if_true, if_false, beq_false, simprocAttr]
  rw [a2 _ rfl]
  by_cases h40 : a.length + b.length > 40
  ·have hd : ((a.length + b.length : Nat) : Int) > 40 := by omega
   simp only [hd, evA, if_true, if_false, beq_false, simprocAttr]
   refine awake.call .nil ?_
   simp only [evA, if_true, if_false, beq_false, simprocAttr]
  ·have hd : ¬ ((a.length + b.length : Nat) : Int) > 40 := by omega
   simp only [hd, evA, if_true, if_false, beq_false, simprocAttr]
   refine (p6' h40).call (.cons (.agg (.cons (.c (.c _ trivial)) (.cons (.c (.c _ trivial)) .nil))) (.cons (accS_frz (hA _ _ _ _ _) (fun _ _ => trivial)) .nil)) ?_
   simp only [evA, if_true, if_false, beq_false, simprocAttr]
   refine p5.call frz ?_
   simp only [evA, if_true, if_false, beq_false, simprocAttr]
   refine h33.call frz ?_
   simp only [evA, if_true, if_false, beq_false, simprocAttr]
   refine awake.call .nil ?_
   simp only [evA, if_true, if_false, beq_false, simprocAttr]
theorem typed_rgs2 {cs : List CV} (h : Typed Tryz.prog 80 cs) : ∃ b c : List Rt, avOf Tryz.prog 80 cs = .agg [rgL b, rgL c] ∧ b.length < 2 ^ 63 ∧ c.length < 2 ^ 63 := by
 obtain ⟨L, rfl, hl, hl2, hl3⟩ := typed_arr Tryz.underlying80 h
 have hm : maxLen < 2 ^ 63 := by decide
 match L, hl with
 | [x, y], _ =>
  obtain ⟨L1, rfl, n1, _, h1⟩ := typed_slc Tryz.underlying39 (hl3 x (by simp))
  obtain ⟨b, a1, a2, _⟩ := rights_of h1
  obtain ⟨L2, rfl, n2, _, h2⟩ := typed_slc Tryz.underlying39 (hl3 y (by simp))
  obtain ⟨c, c1, c2, _⟩ := rights_of h2
  exact ⟨b, c, by simp [avOf, Tryz.underlying80, a1, a2, c1, c2], by omega, by omega⟩
theorem law_ClassCompared (avs : List AV) (h : Args Tryz.prog Tryz.f14.params.toList avs) : AC Tryz.prog 14 avs [] fun r _ => r = .b true := by
 have h : Args Tryz.prog [38, 39, 80] avs := h
 obtain ⟨cs1, avs, rfl, h1, h⟩ := args_cons h
 obtain ⟨cs2, avs, rfl, h2, h⟩ := args_cons h
 obtain ⟨cs3, avs, rfl, h3, h⟩ := args_cons h
 cases args_nil h
 obtain ⟨s, e1, hs⟩ := typed_sys h1
 obtain ⟨a, e2, ha, _⟩ := typed_rgs h2
 obtain ⟨b, c, e3, hb, hc⟩ := typed_rgs2 h3
 rw [e1, e2, e3]
 exact lc14 s hs a b c ha hb hc
end Go.Proofs.YtpnghcaccfnngaaGreatDoor.AM
namespace Go.Proofs.YtpnghcaccfnngaaGreatDoor.AM
variable [Dr]
open Go
abbrev vs13 : List Nat := [0, 1, 2, 3, 5, 6, 7, 8, 9, 10, 11, 12, 35, 57, 66, 76, 80, 90, 104, 119]
def ic13l0 : IC := (.seq (.seq (.region [jv 10, jv 8, je 1, jw 17 (.bin .lss .int) [.t 0, .t 2]])
 (.cond 17 .skip
 (.exit 2)))
 (.seq (.block 3 (.seq (.region [jv 10, jq (.bin .rem .int) [.t 0, jn 2], jq (.bin .eql .int) [.t 1, jn 0], jt 2, jh 3 true 8, jh 3 true 10, jg 3 true (.iaS 2) [.t 4, .t 5], jg 3 true (.fadd 1) [.t 6], ji 3 true 7, jh 3 true 9, jf 3 true 52 [.t 8, .t 9], jw 18 .pick [.t 3, .t 10, jB false]])
 (.cond 18 (.dr [[], [], [], [], [2, 3], [4], [5], [], [7], [6, 8], [0, 1, 0, 1, 2, 3, 4, 5, 6, 7, 8, 9], [10, 0, 1, 2, 3, 4, 5, 6, 7, 8, 9], [11, 9, 8, 0, 1, 2, 3, 4, 5, 6, 7, 8, 9]] [jv 8, jv 10, jv 8, jv 10, ja 2 2 3, jG 1 4, jl 5, jv 9, jk 49 [.t 7], jq (.bin .sub .int) [.t 6, .t 8], ja 2 0 1, jG 1 10, jq (.store 1) [.t 11, .t 9]])
 .skip)))
 (.region [jv 10, jq (.bin .add .int) [.t 0, jn 1], jm 10 1])))
def ic13l1 : IC := (.seq (.seq (.region [jv 9, jF 1 3, jl 1, je 2, jw 14 (.bin .lss .int) [.t 0, .t 3]])
 (.cond 14 .skip
 (.exit 0)))
 (.seq (.block 1 (.seq (.region [jv 9, jq (.iaA 5 1) [.v 4, jn 4], jl 1, jF 1 3, jl 3, je 4, jq (.bin .rem .int) [.t 2, .t 5], jw 15 (.bin .eql .int) [.t 0, .t 6]])
 (.cond 15 (.seq (.seq (.region [jq (.iaA 5 1) [.v 4, jn 1], jl 0, jv 9, jd 16 52 [.t 1, .t 2]])
 (.cond 16 (.dr [[], [0], [], [2], [1, 3], [0, 1, 2, 3, 4], [5, 4, 3, 0, 1, 2, 3, 4]] [jq (.iaA 5 1) [.v 4, jn 1], jl 0, jv 9, jk 49 [.t 2], jq (.bin .sub .int) [.t 1, .t 3], jq (.iaA 5 1) [.v 4, jn 1], jq (.store 1) [.t 5, .t 4]])
 .skip))
 (.seq (.region [jz 10 0])
 (.block 2 (.loop ic13l0))))
 .skip)))
 (.region [jv 9, jq (.bin .add .int) [.t 0, jn 1], jm 9 1])))
def ic13 : IC := (.seq (.region [jb 3 0, jb 4 2, jw 5 .mv [jB false]])
 (.seq (.region [jN 2 3, jv 1, jq (.iaA 5 1) [.v 4, jn 0], jl 2, jq (.iaA 5 1) [.v 4, jn 1], jl 4, jk 29 [.t 0, .t 1, .t 3, .t 5], jt 6, jx 0 7, jx 1 7, jm 6 8, jm 7 9])
 (.seq (.seq (.region [jv 7, jq (.bin .neq .int) [.t 0, jn 0], jt 1, jg 2 false (.loadN 2) [.v 3], jh 2 false 1, jg 2 false (.bslice 1 1 [(.cv .nils)] [(0, 1)]) [.t 4], jf 2 false 47 [.t 3, .t 5], jg 2 false .not [.t 6], jq .pick [.t 2, jB true, .t 7], jt 8, jh 9 false 6, jg 9 false .not [.t 10], jw 12 .pick [.t 9, jB true, .t 11]])
 (.cond 12 (.seq (.region [jv 7, jq (.bin .eql .int) [.t 0, jn 0], jt 1, jh 2 false 6, jg 2 false .not [.t 3], jq .pick [.t 2, jB true, .t 4], jt 5, jf 6 true 28 [], jq .pick [.t 6, .t 7, jB false], jm 5 8])
 .ret)
 .skip))
 (.seq (.seq (.region [jq (.iaA 5 1) [.v 4, jn 2], jl 0, jq (.bin .lss .int) [.t 1, jn 0], jt 2, jg 3 false (.iaA 5 1) [.v 4, jn 3], ji 3 false 4, jg 3 false (.bin .lss .int) [.t 5, jn 0], jq .pick [.t 3, jB true, .t 6], jt 7, jg 8 false (.iaA 5 1) [.v 4, jn 4], ji 8 false 9, jg 8 false (.bin .lss .int) [.t 10, jn 0], jw 13 .pick [.t 8, jB true, .t 11]])
 (.cond 13 (.seq (.region [jk 28 [], jm 5 0])
 .ret)
 .skip))
 (.seq (.region [jq (.bslice 2 0 [] []) [], jv 1, jq (.append 2 16) [.t 0, .t 1], jm 8 2])
 (.seq (.seq (.region [jz 9 0])
 (.block 0 (.loop ic13l1)))
 (.seq (.seq (.region [jv 8, je 0, jw 19 (.bin .lss .int) [.t 1, jn 40]])
 (.cond 19 (.dr [[], [], [1], [], [3], [4], [2, 5], [], [7], [], [9], [10], [11], [8, 12], [6, 13], [14], [0, 15, 12], [16, 16, 0, 1, 2, 3, 4, 5, 6, 7, 8, 9, 10, 11, 12, 13, 14, 15, 16]] [jv 8, jq (.iaA 5 1) [.v 4, jn 2], jl 1, jF 0 3, jl 3, je 4, jq (.bin .rem .int) [.t 2, .t 5], jq (.iaA 5 1) [.v 4, jn 3], jl 7, jF 1 3, jl 9, je 10, jk 49 [.t 11], jq (.bin .rem .int) [.t 8, .t 12], jq (.build [(.cv (.int .i64 0)), (.cv (.int .i64 0))] [(0, 1), (1, 1)]) [.t 6, .t 13], jq (.bslice 2 1 [(.cv (.int .i64 0)), (.cv (.int .i64 0))] [(0, 2)]) [.t 14], jq (.append 2 16) [.t 0, .t 15], jm 8 16])
 .skip))
 (.seq (.region [jN 2 3, jv 8, jq (.iaA 5 1) [.v 4, jn 0], jl 2, jq (.iaA 5 1) [.v 4, jn 1], jl 4, jk 29 [.t 0, .t 1, .t 3, .t 5], jt 6, jx 0 7, jx 1 7, jm 11 8, jm 7 9])
 (.seq (.region [jv 7, jq (.bin .eql .int) [.t 0, jn 0], jt 1, jh 2 true 11, jq .pick [.t 2, .t 3, jB false], jt 4, jf 5 true 28 [], jq .pick [.t 5, .t 6, jB false], jm 5 7])
 .ret)))))))))
abbrev rs13 : List RC := [(.v 5)]
theorem fok13 (p : Bool) : FnOk Tryz.prog 13 ⟨ic13, vs13, 155, rs13, p⟩ := .mk2 Tryz.func13 (by kernel_rfl) (by kernel_rfl) (by kernel_rfl) (by kernel_rfl) (by kernel_rfl)
end Go.Proofs.YtpnghcaccfnngaaGreatDoor.AM
namespace Go.Proofs.YtpnghcaccfnngaaGreatDoor.AM
open Go Pl
theorem flat_set {α : Type} [Inhabited α] {f : α → List CV} {e : Nat} (hf : ∀ x, (f x).length = e) {j : Nat} (hj : j < e) {v : CV} {y : α} : ∀ {xs : List α} {k : Nat}, k < xs.length → f y = (f xs[k]!).set j v → (xs.flatMap f).set (k * e + j) v = (xs.set k y).flatMap f
 | [], k, hk, _ => by simp at hk
 | x :: xs, 0, _, hy => by
  rw [Nat.zero_mul, Nat.zero_add, List.flatMap_cons, List.set_cons_zero, List.flatMap_cons, List.set_append_left _ _ (by rw [hf]; exact hj), hy]
  rfl
 | x :: xs, k + 1, hk, hy => by
  have h1 : (k + 1) * e + j = (f x).length + (k * e + j) := by rw [hf, Nat.succ_mul]; omega
  rw [List.flatMap_cons, List.set_cons_succ, List.flatMap_cons, List.set_append_right _ _ (by omega), h1, Nat.add_sub_cancel_left]
  rw [flat_set hf hj (by simpa using hk) (by simpa using hy)]
theorem sl_addr2 {l off n k : Nat} (h : k < n) (σ : List AObj) : f_iaS 2 [.sl l off n 2, .cv (.int .i64 k)] σ = some (.ptr l (off + k * 2), σ) := by
 simp [f_iaS, h]
theorem clr_bit {a : Int} {m k : Nat} (h0 : 0 ≤ a) (ha : a < 2 ^ m) (hk : k < m) (hm : m ≤ 8) (hb : bit a k = true) : 0 ≤ a - 2 ^ k ∧ a - 2 ^ k < 2 ^ m ∧ ∀ j, bit (a - 2 ^ k) j = true → bit a j = true := by
 have hp := pow_bd hm
 have hs := bit_sub (a := a) (b := 2 ^ k) (show a < 2 ^ 63 by omega)
 have c0 := subI_nn a (2 ^ k)
 have c1 : subI a (2 ^ k) < 2 ^ m := subI_lt (by omega) ha
 have hc : bit (subI a (2 ^ k)) k = false := by rw [hs, bit_two]; simp
 have he := add_bit c0 c1 hk hm hc
 have ho : orI (subI a (2 ^ k)) (2 ^ k) = a := bit_ext (orI_nn _ _) h0 fun j => by
  rw [bit_or, hs, bit_two]
  by_cases hj : k = j
  ·subst hj; simp [hb]
  ·simp [hj]
 rw [ho] at he
 have e : a - 2 ^ k = subI a (2 ^ k) := by omega
 rw [e]
 exact ⟨c0, c1, fun j hj => by rw [hs] at hj; simp at hj; exact hj.1⟩
def Few (s : Sys) (l L : List Rt) : Prop := L.length = l.length ∧ ∀ j, j < l.length → RgOk s L[j]! ∧ (L[j]!).1 = (l[j]!).1 ∧ ∀ k, bit (L[j]!).2 k = true → bit (l[j]!).2 k = true
theorem Few.refl {s : Sys} {l : List Rt} (h : ∀ r ∈ l, RgOk s r) : Few s l l := ⟨rfl, fun j hj => ⟨h _ (by rw [getElem!_pos l j hj]; exact List.getElem_mem _), rfl, fun _ h => h⟩⟩
theorem Few.clr {s : Sys} {l L : List Rt} (h : Few s l L) (hm : s.co.length ≤ 8) {j i : Nat} (hj : j < l.length) (hi : i < s.co.length) (hb : bit (L[j]!).2 i = true) : Few s l (L.set j ((L[j]!).1, (L[j]!).2 - 2 ^ i)) := by
 refine ⟨by rw [List.length_set]; exact h.1, fun t ht => ?_⟩
 have hL := h.1
 obtain ⟨g1, g2, g3⟩ := h.2 t ht
 rw [getElem!_pos _ t (by rw [List.length_set]; omega), List.getElem_set]
 split
 ·rename_i he
  subst he
  obtain ⟨k1, k2, k3⟩ := clr_bit g1.2.1 g1.2.2 hi hm hb
  exact ⟨⟨g1.1, k1, k2⟩, g2, fun k hk => g3 k (k3 k hk)⟩
 ·rw [getElem!_pos L t (by omega)] at g1 g2 g3
  exact ⟨g1, g2, g3⟩
theorem Few.all {s : Sys} {l L : List Rt} (h : Few s l L) : ∀ r ∈ L, RgOk s r := fun r hr => by
 obtain ⟨j, hj, rfl⟩ := List.mem_iff_getElem.1 hr
 have := (h.2 j (by rw [← h.1]; exact hj)).1
 rwa [getElem!_pos L j hj] at this
theorem Few.alw {s : Sys} {l L : List Rt} (h : Few s l L) {c f f' : Int} (hf : ∀ k, bit f' k = true → bit f k = true) (hal : alwB s l c f = true) (x : List Rt) : alwB s (L ++ x) c f' = true := by
 obtain ⟨r, hr, h1, h2⟩ := alwB_iff.1 hal
 obtain ⟨j, hj, rfl⟩ := List.mem_iff_getElem.1 hr
 obtain ⟨g1, g2, g3⟩ := h.2 j hj
 rw [getElem!_pos l j hj] at g2 g3
 have hjL : j < L.length := by rw [h.1]; exact hj
 rw [getElem!_pos L j hjL] at g2 g3
 refine alwB_iff.2 ⟨L[j], List.mem_append.2 (.inl (List.getElem_mem _)), by rw [g2]; exact h1, fun k ⟨k1, k2⟩ => h2 k ⟨g3 k k1, hf k k2⟩⟩
theorem app_one {l0 l1 len : Nat} {cs : List AV} {a b : Int} {σ : List AObj} (h : rowOf σ l0 = some cs) (hl : cs.length = len * 2) (h1 : rowOf σ l1 = some [.i a, .i b]) (hn : len ≤ 1000) :
  f_append 2 16 [.sl l0 0 len 2, .sl l1 0 1 2] σ = some (.sl σ.length 0 (len + 1) 2, σ.set l0 .dead ++ [.cells (cs ++ [.i a, .i b])]) := by
 have hsrc : srcCells σ 2 (.sl l1 0 1 2) = some [.i a, .i b] := by
  simp only [srcCells, h1, if_true, Option.bind_some]; rfl
 simp only [f_append, h, hsrc, lenF, Option.bind_some]
 rw [if_pos ⟨trivial, by omega, rfl, by omega, by omega, rfl⟩, List.take_of_length_le (by omega)]
theorem may_cases (s : Sys) (l : List Rt) (c f : Int) : (∃ e : Int, e ≠ 0 ∧ mayV s l c f = .tup [.b false, .i e]) ∨ ((sysE s).2.2 = 0 ∧ rdE s (sysE s).2.2 [l] = 0 ∧ l.length ≤ 40 ∧ (∀ r ∈ l, RgOk s r) ∧ (0 ≤ c ∧ c < s.cl.length) ∧ (0 ≤ f ∧ f < setN s) ∧ mayV s l c f = .tup [.b (alwB s l c f), .i 0]) := by
 unfold mayV
 by_cases h : rdE s (sysE s).2.2 [l] = 0
 ·obtain ⟨h0, h1⟩ := rdE_ok h
  obtain ⟨h40, hr⟩ := rgsE_ok h1
  rw [if_neg (fun hh => hh h)]
  by_cases h2 : inB c 0 ((s.cl.length : Int) - 1) = false
  ·exact .inl ⟨4, by decide, by rw [if_pos h2]⟩
  ·rw [if_neg h2]
   by_cases h3 : inB f 0 (setN s - 1) = false
   ·exact .inl ⟨7, by decide, by rw [if_pos h3]⟩
   ·have g2 := inB_iff.1 (by simpa using h2)
    have g3 := inB_iff.1 (by simpa using h3)
    exact .inr ⟨h0, h, h40, hr, by omega, by omega, by rw [if_neg h3]⟩
 ·exact .inl ⟨_, h, by rw [if_pos h]⟩
set_option maxHeartbeats 1000000 in
theorem lc13 (s : Sys) (hs : SSz s) (l : List Rt) (hl : l.length < 2 ^ 63) (x0 x1 x2 x3 x4 : Int) : AC Tryz.prog 13 [sysV s, rgL l, .agg [.i x0, .i x1, .i x2, .i x3, .i x4]] [] fun r _ => r = .b true := by
 refine AC_FE (fok13 true) (Nat.le_of_ble_eq_true rfl) ?_
 have p1 := c29 s hs l hl x0 x1
 have h47 := fun σ l0 h0 => c47 s hs [l] (by simpa using hl) (by simp) σ l0 h0
 simp only [ic13, f_box, cellsOf, f_iaA, evA, if_true, if_false, beq_false, simprocAttr]
 rcases may_cases s l x0 x1 with ⟨e, he, hd⟩ | ⟨h0, hre, h40, hra, hc0, hf0, hd⟩
 all_goals
  rw [hd] at p1
 ·refine p1.call frz ?_
  have he0 : (e != 0) = true := by simpa using he
  have he1 : (e == 0) = false := by simpa using he
  simp only [he0, he1, evA, if_true, if_false, beq_false, simprocAttr]
  refine awake.call .nil ?_
  simp only [evA, if_true, if_false, beq_false, simprocAttr]
 have hz : ((0 : Int) == 0) = true := rfl
 rw [hre, hz] at h47
 have hg := gd_of h0
 have hbp := pow_bd hg.m8
 have n1 := hg.n1
 have n12 := hg.n12
 obtain ⟨N, hN⟩ : ∃ N : Nat, setN s = (N : Int) := ⟨(setN s).toNat, by unfold setN; omega⟩
 have hN' : (2 : Int) ^ s.co.length = (N : Int) := hN
 have hNr : 1 ≤ N ∧ N ≤ 256 := by rw [hN'] at hbp; omega
 have halw := fun L (hF : Few s l L) f' hf hal x => hF.alw (c := x0) (f := x1) (f' := f') hf hal x
 generalize alwB s l x0 x1 = al at *
 cases al with
 | false =>
  refine p1.call frz ?_
  simp only [evA, if_true, if_false, beq_false, simprocAttr]
  refine (h47 _ 2 rfl).run ?_
  simp only [evA, if_true, if_false, beq_false, simprocAttr]
  refine awake.call .nil ?_
  simp only [evA, if_true, if_false, beq_false, simprocAttr]
 | true =>
 by_cases h2 : x2 < 0
 ·refine p1.call frz ?_
  simp only [evA, if_true, if_false, beq_false, simprocAttr]
  refine (h47 _ 2 rfl).run ?_
  simp only [h2, f_iaA, evA, if_true, if_false, beq_false, simprocAttr]
  refine awake.call .nil ?_
  simp only [evA, if_true, if_false, beq_false, simprocAttr]
 by_cases h3 : x3 < 0
 ·refine p1.call frz ?_
  simp only [evA, if_true, if_false, beq_false, simprocAttr]
  refine (h47 _ 2 rfl).run ?_
  simp only [h2, h3, f_iaA, evA, if_true, if_false, beq_false, simprocAttr]
  refine awake.call .nil ?_
  simp only [evA, if_true, if_false, beq_false, simprocAttr]
 by_cases h4 : x4 < 0
 ·refine p1.call frz ?_
  simp only [evA, if_true, if_false, beq_false, simprocAttr]
  refine (h47 _ 2 rfl).run ?_
  simp only [h2, h3, h4, f_iaA, evA, if_true, if_false, beq_false, simprocAttr]
  refine awake.call .nil ?_
  simp only [evA, if_true, if_false, beq_false, simprocAttr]
 have a1 := fun σ h => app_rg (l0 := 3) (len := 0) (cs := []) (b := l) (σ := σ) h rfl (by omega) (by omega)
 refine p1.call frz ?_
 simp only [evA, if_true, if_false, beq_false, simprocAttr]
 refine (h47 _ 2 rfl).run ?_
 simp only [h2, h3, h4, f_iaA, evA, if_true, if_false, beq_false, simprocAttr]
 rw [a1 _ rfl]
 simp only [Nat.zero_add, List.nil_append, evA, if_true, if_false, beq_false, simprocAttr]
 refine IL_for s.co.length (fun i s' => ∃ F L v10 v11 v14 v15 v16 v17 v18 v19, (Few s l L ∧ 0 ≤ F ∧ F < setN s ∧ ∀ k, bit F k = true → bit x1 k = true) ∧ s' = ⟨[sysV s, rgL l, .agg [.i x0, .i x1, .i x2, .i x3, .i x4], .ptr 0 0, .ptr 1 0, .b false, .b true, .i 0, .sl 4 0 l.length 2, .i i, v10, v11, .b false, .b false, v14, v15, v16, v17, v18, v19], [.cells [.cv (clsR s.cl), .cv (strR s.co)], .cells [.i x0, .i F, .i x2, .i x3, .i x4], .cells [rgL l], .dead, .cells ((L.flatMap rgC).map .cv)]⟩) ?_ 0 (Nat.zero_le _) ⟨x1, l, _, _, _, _, _, _, _, _, ⟨.refl hra, hf0.1, hf0.2, fun _ h => h⟩, rfl⟩
 rintro i s' hi ⟨F, L, v10, v11, v14, v15, v16, v17, v18, v19, ⟨hL, hF1, hF2, hF3⟩, rfl⟩
 by_cases him : i < s.co.length
 ·have hm8 := hg.m8
  have hne0 : ¬ (s.co.length : Int) = 0 := by omega
  by_cases h5 : (i : Int) = x4.tmod (s.co.length : Int)
  rotate_left
  ·have hb : ((i : Int) == x4.tmod (s.co.length : Int)) = false := by simpa using h5
   simp only [ic13l1, Int.ofNat_lt, him, hne0, hb, f_iaA, Option.map_some, wrap_succ (show i + 1 < 2 ^ 63 by omega), evA, if_true, if_false, beq_false, simprocAttr]
   exact kFor_go (by first | trivial | omega) ⟨_, _, _, _, _, _, _, _, _, _, ⟨hL, hF1, hF2, hF3⟩, rfl⟩
  have hb : ((i : Int) == x4.tmod (s.co.length : Int)) = true := by simpa using h5
  have q1 := c52 F (by omega) i (by have := hg.m8; omega)
  have q2 := c49 i (by have := hg.m8; omega)
  have hcl : bit F i = true → 0 ≤ F - 2 ^ i ∧ F - 2 ^ i < 2 ^ s.co.length ∧ ∀ j, bit (F - 2 ^ i) j = true → bit F j = true := clr_bit hF1 hF2 him hg.m8
  have hpi := pow_bd (show i ≤ 8 by have := hg.m8; omega)
  have hstart : ∃ F2, (0 ≤ F2 ∧ F2 < setN s ∧ ∀ k, bit F2 k = true → bit x1 k = true) ∧ ((bit F i = true ∧ F - 2 ^ i = F2) ∨ (bit F i = false ∧ F = F2)) := by
   cases hbt : bit F i with
   | true =>
    obtain ⟨k1, k2, k3⟩ := hcl hbt
    exact ⟨_, ⟨k1, k2, fun k hk => hF3 k (k3 k hk)⟩, .inl ⟨rfl, rfl⟩⟩
   | false => exact ⟨_, ⟨hF1, hF2, hF3⟩, .inr ⟨rfl, rfl⟩⟩
  obtain ⟨F2, hF2', hbr⟩ := hstart
  rcases hbr with ⟨hbt, hFe⟩ | ⟨hbt, hFe⟩
  all_goals rw [hbt] at q1
  have hws : IntKind.i64.wrap (F - 2 ^ i) = F2 := by rw [← hFe]; exact wrap_in (by have := hcl hbt; omega)
  simp only [ic13l1, Int.ofNat_lt, him, hne0, hb, f_iaA, Option.map_some, evA, if_true, if_false, beq_false, simprocAttr]
  refine q1.call frz ?_
  simp only [evA, if_true, if_false, beq_false, simprocAttr]
  refine DW_s [3] [] hmix (by kernel_rfl) rfl ?_
  simp only [f_iaA, evA, if_true, if_false, beq_false, simprocAttr]
  refine kK_keep (q2.call frz ⟨rfl, rfl⟩) rfl ?_
  simp only [hws, f_iaA, evA, if_true, if_false, beq_false, simprocAttr]
  rotate_left
  simp only [ic13l1, Int.ofNat_lt, him, hne0, hb, f_iaA, Option.map_some, evA, if_true, if_false, beq_false, simprocAttr]
  refine q1.call frz ?_
  simp only [hFe, evA, if_true, if_false, beq_false, simprocAttr]
  all_goals
   refine IL_for l.length (fun k s' => ∃ L v11 v16 v17 v18 v19, Few s l L ∧ s' = ⟨[sysV s, rgL l, .agg [.i x0, .i x1, .i x2, .i x3, .i x4], .ptr 0 0, .ptr 1 0, .b false, .b true, .i 0, .sl 4 0 l.length 2, .i i, .i k, v11, .b false, .b false, .b true, .b true, v16, v17, v18, v19], [.cells [.cv (clsR s.cl), .cv (strR s.co)], .cells [.i x0, .i F2, .i x2, .i x3, .i x4], .cells [rgL l], .dead, .cells ((L.flatMap rgC).map .cv)]⟩) ?_ 0 (Nat.zero_le _) ⟨L, _, _, _, _, _, hL, rfl⟩
   rintro k s' hk ⟨L, v11, v16, v17, v18, v19, hL, rfl⟩
   by_cases hkl : k < l.length
   ·have hkL : k < L.length := by rw [hL.1]; exact hkl
    by_cases hpar : (k : Int).tmod 2 = 0
    rotate_left
    ·have hb2 : ((k : Int).tmod 2 == 0) = false := by simpa using hpar
     simp only [ic13l0, Int.ofNat_lt, hkl, hb2, wrap_succ (show k + 1 < 2 ^ 63 by omega), evA, if_true, if_false, beq_false, simprocAttr]
     exact kFor_go (by first | trivial | omega) ⟨_, _, _, _, _, _, hL, rfl⟩
    have hb2 : ((k : Int).tmod 2 == 0) = true := by simpa using hpar
    have hld : ((L.flatMap rgC).map AV.cv)[k * 2 + 1]? = some (.i (L[k]!).2) := by rw [List.getElem?_map, rg_1 hkL]; rfl
    have hok := (hL.2 k hkl).1
    have hst := hok.2
    unfold setN at hst
    have r1 := c52 (L[k]!).2 (by omega) i (by omega)
    cases hbk : bit (L[k]!).2 i with
    | false =>
     rw [hbk] at r1
     simp only [ic13l0, Int.ofNat_lt, hkl, hb2, sl_addr2 hkl, Nat.zero_add, hld, evA, if_true, if_false, beq_false, simprocAttr]
     refine r1.call frz ?_
     simp only [wrap_succ (show k + 1 < 2 ^ 63 by omega), evA, if_true, if_false, beq_false, simprocAttr]
     exact kFor_go (by first | trivial | omega) ⟨_, _, _, _, _, _, hL, rfl⟩
    | true =>
     rw [hbk] at r1
     have hcl2 := clr_bit hst.1 hst.2 him hm8 hbk
     have hws2 : IntKind.i64.wrap ((L[k]!).2 - 2 ^ i) = (L[k]!).2 - 2 ^ i := wrap_in (by omega)
     have hset : ((L.flatMap rgC).map AV.cv).set (k * 2 + 1) (.i ((L[k]!).2 - 2 ^ i)) = ((L.set k ((L[k]!).1, (L[k]!).2 - 2 ^ i)).flatMap rgC).map AV.cv := by
      have := flat_set rgC_len (j := 1) (by decide) (v := .int .i64 ((L[k]!).2 - 2 ^ i)) (y := ((L[k]!).1, (L[k]!).2 - 2 ^ i)) hkL rfl
      rw [← this, List.map_set]
     simp only [ic13l0, Int.ofNat_lt, hkl, hb2, sl_addr2 hkl, Nat.zero_add, hld, evA, if_true, if_false, beq_false, simprocAttr]
     refine r1.call frz ?_
     simp only [evA, if_true, if_false, beq_false, simprocAttr]
     refine DW_s [8] [] hmix (by kernel_rfl) rfl ?_
     simp only [sl_addr2 hkl, Nat.zero_add, hld, evA, if_true, if_false, beq_false, simprocAttr]
     refine kK_keep (q2.call frz ⟨rfl, rfl⟩) rfl ?_
     have hle : k * 2 + 1 + 1 ≤ (L.flatMap rgC).length := by rw [flat_len rgC_len]; omega
     simp only [hws2, sl_addr2 hkl, Nat.zero_add, hle, hset, wrap_succ (show k + 1 < 2 ^ 63 by omega), evA, if_true, if_false, beq_false, simprocAttr]
     exact kFor_go (by first | trivial | omega) ⟨_, _, _, _, _, _, hL.clr hm8 hkl him hbk, rfl⟩
   ·have hkl' : k = l.length := by omega
    subst hkl'
    simp only [ic13l0, Int.ofNat_lt, hkl, wrap_succ (show i + 1 < 2 ^ 63 by omega), evA, if_true, if_false, beq_false, simprocAttr]
    exact kFor_go (by first | trivial | omega) ⟨_, _, _, _, _, _, _, _, _, _, ⟨hL, hF2'⟩, rfl⟩
 ·have him' : i = s.co.length := by omega
  subst him'
  have hLlen := hL.1
  have mayT : ∀ x : List Rt, (∀ r ∈ x, RgOk s r) → (L ++ x).length ≤ 40 → PC Tryz.prog 29 [sysV s, rgL (L ++ x), .i x0, .i F] (.tup [.b true, .i 0]) := fun x hx hlen => by
   have := c29 s hs (L ++ x) (by omega) x0 F
   have hre2 : rdE s (sysE s).2.2 [L ++ x] = 0 := rdE_of h0 (by simp only [List.mem_singleton, forall_eq]; exact rgsE_of hlen fun r hr => (List.mem_append.1 hr).elim (hL.all r) (hx r))
   unfold mayV at this
   rwa [if_neg (fun h => h hre2), if_neg (by rw [inB_iff.2 (by omega)]; decide), if_neg (by rw [inB_iff.2 (by omega)]; decide), halw L hL F hF3 rfl x] at this
  by_cases h40' : l.length < 40
  rotate_left
  ·have hd : ¬ (l.length : Int) < 40 := by omega
   have hA : ∀ y0 y1 y2 y3 : AObj, AccS 2 [y0, y1, y2, y3, .cells ((L.flatMap rgC).map .cv)] (.sl 4 0 l.length 2) L.length (L.flatMap rgC) := fun y0 y1 y2 y3 => .inr ⟨4, by rw [hLlen], flat_len rgC_len _, rfl⟩
   have m1 := mayT [] (by simp) (by rw [List.append_nil]; omega)
   rw [List.append_nil] at m1
   simp only [ic13l1, Int.ofNat_lt, him, hd, f_iaA, evA, if_true, if_false, beq_false, simprocAttr]
   refine m1.call (.cons (.agg (.cons (.c (.c _ trivial)) (.cons (.c (.c _ trivial)) .nil))) (.cons (accS_frz (hA _ _ _ _) (fun _ _ => trivial)) (.cons (.c (.c _ trivial)) (.cons (.c (.c _ trivial)) .nil)))) ?_
   simp only [evA, if_true, if_false, beq_false, simprocAttr]
   refine awake.call .nil ?_
   simp only [evA, if_true, if_false, beq_false, simprocAttr]
  ·have hd : (l.length : Int) < 40 := by omega
   obtain ⟨C, hC⟩ : ∃ C, C = x2.tmod s.cl.length := ⟨_, rfl⟩
   obtain ⟨G, hG⟩ : ∃ G, G = x3.tmod N := ⟨_, rfl⟩
   have hC1 : 0 ≤ C ∧ C < s.cl.length := by rw [hC, Int.tmod_eq_emod_of_nonneg (by omega)]; exact ⟨Int.emod_nonneg _ (by omega), Int.emod_lt_of_pos _ (by omega)⟩
   have hG1 : 0 ≤ G ∧ G < N := by rw [hG, Int.tmod_eq_emod_of_nonneg (by omega)]; exact ⟨Int.emod_nonneg _ (by omega), Int.emod_lt_of_pos _ (by omega)⟩
   have hn1 : ¬ (s.cl.length : Int) = 0 := by omega
   have hn2 : ¬ (N : Int) = 0 := by omega
   have h49 := c49 s.co.length hg.m8
   rw [hN'] at h49
   have m1 := mayT [(C, G)] (by simp only [List.mem_singleton, forall_eq]; exact ⟨hC1, hG1.1, by show G < setN s; omega⟩) (by rw [List.length_append]; simp; omega)
   have hA : ∀ y0 y1 y2 y3 y4 y5 : AObj, AccS 2 [y0, y1, y2, y3, y4, y5, .cells ((L.flatMap rgC).map .cv ++ [.i C, .i G])] (.sl 6 0 (l.length + 1) 2) (L ++ [(C, G)]).length ((L ++ [(C, G)]).flatMap rgC) := fun y0 y1 y2 y3 y4 y5 => .inr ⟨6, by rw [List.length_append, hLlen]; rfl, flat_len rgC_len _, by rw [List.flatMap_append, List.map_append]; rfl⟩
   have a2 := fun σ h h' => app_one (l0 := 4) (l1 := 5) (len := l.length) (cs := (L.flatMap rgC).map .cv) (a := C) (b := G) (σ := σ) h (by rw [List.length_map, flat_len rgC_len, hLlen]) h' (by omega)
   simp only [ic13l1, Int.ofNat_lt, him, hd, f_iaA, evA, if_true, if_false, beq_false, simprocAttr]
   refine DW_s [12] [] hmix (by kernel_rfl) rfl ?_
   simp only [hn1, ← hC, Option.map_some, f_iaA, evA, if_true, if_false, beq_false, simprocAttr]
   refine kK_keep (h49.call frz ⟨rfl, rfl⟩) rfl ?_
   simp only [hn2, ← hG, Option.map_some, f_iaA, evA, if_true, if_false, beq_false, simprocAttr]
   rw [a2 _ rfl rfl]
   simp only [f_iaA, evA, if_true, if_false, beq_false, simprocAttr]
   refine m1.call (.cons (.agg (.cons (.c (.c _ trivial)) (.cons (.c (.c _ trivial)) .nil))) (.cons (accS_frz (hA _ _ _ _ _ _) (fun _ _ => trivial)) (.cons (.c (.c _ trivial)) (.cons (.c (.c _ trivial)) .nil)))) ?_
   simp only [evA, if_true, if_false, beq_false, simprocAttr]
   refine awake.call .nil ?_
   simp only [evA, if_true, if_false, beq_false, simprocAttr]
theorem typed_five {cs : List CV} (h : Typed Tryz.prog 78 cs) : ∃ a b c d e : Int, avOf Tryz.prog 78 cs = .agg [.i a, .i b, .i c, .i d, .i e] := by
 obtain ⟨L, rfl, hl, hl2, hl3⟩ := typed_arr Tryz.underlying78 h
 obtain ⟨xs, hx1, hx2, hx3⟩ := ints_of Tryz.underlying3 L hl3
 rw [hx1]
 match xs, (hx2.symm.trans hl), hx3 with
 | [a, b, c, d, e], _, _ => exact ⟨a, b, c, d, e, by simp [avOf, Tryz.underlying78]⟩
theorem law_ClassMore (avs : List AV) (h : Args Tryz.prog Tryz.f13.params.toList avs) : AC Tryz.prog 13 avs [] fun r _ => r = .b true := by
 have h : Args Tryz.prog [38, 39, 78] avs := h
 obtain ⟨cs1, avs, rfl, h1, h⟩ := args_cons h
 obtain ⟨cs2, avs, rfl, h2, h⟩ := args_cons h
 obtain ⟨cs3, avs, rfl, h3, h⟩ := args_cons h
 cases args_nil h
 obtain ⟨s, e1, hs⟩ := typed_sys h1
 obtain ⟨l, e2, hl, _⟩ := typed_rgs h2
 obtain ⟨a, b, c, d, e, e3⟩ := typed_five h3
 rw [e1, e2, e3]
 exact lc13 s hs l hl a b c d e
end Go.Proofs.YtpnghcaccfnngaaGreatDoor.AM

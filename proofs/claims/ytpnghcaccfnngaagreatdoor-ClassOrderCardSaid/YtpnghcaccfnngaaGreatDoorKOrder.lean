/- Parts of the proof of Order. -/
import Derived.Test.YtpnghcaccfnngaaGreatDoorRows
import Derived.WalkKit
import Derived.ProofKit
import Derived.OpenShut
import Derived.Carry
import Derived.Lib.Strings
import Derived.Test.YtpnghcaccfnngaaGreatDoorZ17
set_option linter.unusedVariables false
set_option linter.unusedSimpArgs false
set_option linter.unusedSectionVars false
namespace Go.Proofs.YtpnghcaccfnngaaGreatDoor.AM
variable [Dr]
open Go Go.ChangeShapes Go.WideShapes Go.ChangeAt Go.RowKit
abbrev noO : Nat → Prop := Own (fun _ => none) (fun _ => False)
theorem not_noO (b : Nat) : ¬ noO b := by rintro (h | ⟨l, hl⟩); exact h; cases hl
theorem fin_choice {α : Type} {Q : Nat → α → Prop} : ∀ (n : Nat), (∀ i, i < n → ∃ l, Q i l) → ∃ L : List α, L.length = n ∧ ∀ (i : Nat) (l : α), L[i]? = some l → Q i l
 | 0, _ => ⟨[], rfl, by simp⟩
 | n + 1, h => by
  obtain ⟨L, h1, h2⟩ := fin_choice n (fun i hi => h i (by omega))
  obtain ⟨l, hl⟩ := h n (by omega)
  refine ⟨L ++ [l], by simp [h1], fun i l' hi => ?_⟩
  rcases Nat.lt_or_ge i n with hlt | hge
  ·rw [List.getElem?_append_left (by omega)] at hi; exact h2 i l' hi
  ·rw [List.getElem?_append_right (by omega), h1] at hi
   have : i = n := by
    rcases Nat.lt_or_ge n i with h' | h'
    ·rw [List.getElem?_eq_none (by simp; omega)] at hi; cases hi
    ·omega
   subst this
   simp at hi; subst hi; exact hl
theorem flat_rel {R : Nat → CV → Prop} {esz : Nat} : ∀ (L : List (List CV)) (n : Nat), (∀ (i : Nat) (l : List CV), L[i]? = some l → l.length = esz ∧ ∀ (j : Nat) (c : CV), l[j]? = some c → R (n + i * esz + j) c) →
  L.flatten.length = L.length * esz ∧ ∀ (k : Nat) (c : CV), L.flatten[k]? = some c → R (n + k) c
 | [], n, _ => by simp
 | l :: L, n, h => by
  obtain ⟨h1, h2⟩ := h 0 l (by simp)
  have ih := flat_rel L (n + esz) (fun i l' hi => by
   obtain ⟨g1, g2⟩ := h (i + 1) l' (by simpa using hi)
   refine ⟨g1, fun j c hj => ?_⟩
   have := g2 j c hj
   rwa [Nat.add_mul, Nat.one_mul, ← Nat.add_assoc, Nat.add_right_comm n] at this)
  refine ⟨by simp [h1, ih.1, Nat.add_mul, Nat.add_comm], fun k c hk => ?_⟩
  rw [List.flatten_cons] at hk
  rcases Nat.lt_or_ge k l.length with hlt | hge
  ·rw [List.getElem?_append_left hlt] at hk
   have := h2 k c hk
   simpa using this
  ·rw [List.getElem?_append_right hge] at hk
   have := ih.2 (k - l.length) c hk
   rwa [show n + esz + (k - l.length) = n + k by omega] at this
theorem flat_relF {P : Program} {R : Nat → CV → Prop} {N : Nat} : ∀ (fs : List Field) (L : List (List CV)) (n : Nat), fieldsEnd P fs n = some N → L.length = fs.length →
  (∀ (i : Nat) (f : Field) (l : List CV), fs[i]? = some f → L[i]? = some l → l.length = P.cellsOf f.type ∧ ∀ (j : Nat) (c : CV), l[j]? = some c → R (f.offset + j) c) →
  n + L.flatten.length = N ∧ ∀ (k : Nat) (c : CV), L.flatten[k]? = some c → R (n + k) c
 | [], L, n, he, hl, _ => by
  have : L = [] := List.eq_nil_of_length_eq_zero (by simpa using hl)
  subst this
  simp only [fieldsEnd, Option.some.injEq] at he
  simp [he]
 | f :: fs, [], n, _, hl, _ => by simp at hl
 | f :: fs, l :: L, n, he, hl, h => by
  simp only [fieldsEnd] at he
  split at he
  ·rename_i hoff
   obtain ⟨h1, h2⟩ := h 0 f l (by simp) (by simp)
   have ih := flat_relF fs L (n + P.cellsOf f.type) he (by simpa using hl) (fun i f' l' hf hl' => h (i + 1) f' l' (by simpa using hf) (by simpa using hl'))
   refine ⟨by rw [← ih.1]; simp [h1]; omega, fun k c hk => ?_⟩
   rw [List.flatten_cons] at hk
   rcases Nat.lt_or_ge k l.length with hlt | hge
   ·rw [List.getElem?_append_left hlt] at hk
    have := h2 k c hk
    rwa [hoff] at this
   ·rw [List.getElem?_append_right hge] at hk
    have := ih.2 (k - l.length) c hk
    rwa [show n + P.cellsOf f.type + (k - l.length) = n + k by omega] at this
  ·cases he
theorem reps_of_all {W : World} {a : Addr} : ∀ (cs : List CV) (i : Nat), (∀ (j : Nat) (c : CV), cs[j]? = some c → ∃ v, W.cell? (a.add (i + j)) = some v ∧ c.rep W noO v) → CV.reps W noO cs a i
 | [], _, _ => by simp [CV.reps]
 | c :: cs, i, h => by
  simp only [CV.reps]
  refine ⟨not_noO _, by simpa using h 0 c (by simp), reps_of_all cs (i + 1) fun j c' hj => ?_⟩
  have := h (j + 1) c' (by simpa using hj)
  rwa [show i + (j + 1) = i + 1 + j by omega] at this
section
variable {H : Type} {enc : TypeId × Value → H} {P : Program} {W : World}
theorem trod_typed : ∀ (n : Nat) (t : TypeId) (cs : List Value) (x : DataW H × List MemPlace) (fuel : Nat), openT P n t = true → DataW.trod enc P W 0 (fun _ => true) true fuel t cs = some x →
  ∃ cvs : List CV, Typed P t cvs ∧ cvs.length = cs.length ∧ ∀ (i : Nat) (c : CV) (v : Value), cvs[i]? = some c → cs[i]? = some v → c.rep W noO v
 | 0, t, cs, x, fuel, ho, _ => by simp [openT] at ho
 | n + 1, t, cs, x, fuel, ho, h => by
  simp only [openT] at ho
  split at ho
  ·rename_i ht
   obtain ⟨b, rfl, _⟩ := DataW.trod_bool ht h
   refine ⟨[.bool b], .bool ht b, rfl, fun i c v h1 h2 => ?_⟩
   cases i with
   | zero => simp at h1 h2; subst h1 h2; simp [CV.rep]
   | succ i => simp at h1
  ·rename_i k ht
   obtain ⟨b, rfl, _, hw⟩ := DataW.trod_int ht h
   refine ⟨[.int k b], .int ht b hw, rfl, fun i c v h1 h2 => ?_⟩
   cases i with
   | zero => simp at h1 h2; subst h1 h2; simp [CV.rep]
   | succ i => simp at h1
  ·rename_i ht
   obtain ⟨s, rfl, _, hw⟩ := DataW.trod_string ht h
   refine ⟨[.str s], .str ht s hw, rfl, fun i c v h1 h2 => ?_⟩
   cases i with
   | zero => simp at h1 h2; subst h1 h2; simp [CV.rep]
   | succ i => simp at h1
  ·rename_i e ht
   rcases DataW.trod_slice ht h with ⟨rfl, _⟩ | ⟨a, len, cap, elems, rest, m, _, rfl, _, _, hlc, hcm, hel, hget, _⟩
   ·refine ⟨[.rsl [] 0], by simpa using Typed.slc ht [] (by simp) (by simp) (by simp), rfl, fun i c v h1 h2 => ?_⟩
    cases i with
    | zero => simp at h1 h2; subst h1 h2; simp [CV.rep]
    | succ i => simp at h1
   ·obtain ⟨L, hL, hQ⟩ := fin_choice (Q := fun i l => Typed P e l ∧ l.length = P.cellsOf e ∧ ∀ (j : Nat) (c : CV), l[j]? = some c → ∃ v, W.cell? (a.add (i * P.cellsOf e + j)) = some v ∧ c.rep W noO v) len (fun i hi => by
     have hg := hget i hi
     rw [List.getElem?_eq_getElem (by omega)] at hg
     obtain ⟨ci, h1, h2⟩ := Option.bind_eq_some_iff.1 hg
     obtain ⟨_, hlen, hcell⟩ := World.cells?_some h1
     obtain ⟨cvs, g1, g2, g3⟩ := trod_typed n e ci _ _ ho h2
     refine ⟨cvs, g1, by omega, fun j c hj => ?_⟩
     have hjl : j < cvs.length := (List.getElem?_eq_some_iff.1 hj).1
     have hc := hcell j (by omega)
     rw [List.getElem?_eq_getElem (by omega)] at hc
     exact ⟨_, by rw [← Addr.add_add]; exact hc, g3 j c _ hj (List.getElem?_eq_getElem _)⟩)
    have hmem : ∀ l ∈ L, ∃ i : Nat, L[i]? = some l := fun l hl => List.mem_iff_getElem?.1 hl
    have hfl := flat_rel (R := fun k c => ∃ v, W.cell? (a.add k) = some v ∧ c.rep W noO v) (esz := P.cellsOf e) L 0 (fun i l hi => ⟨(hQ i l hi).2.1, fun j c hj => by simpa using (hQ i l hi).2.2 j c hj⟩)
    refine ⟨[.rsl L.flatten L.length], Typed.slc ht L (by omega) (fun l hl => let ⟨i, hi⟩ := hmem l hl; (hQ i l hi).2.1) (fun l hl => let ⟨i, hi⟩ := hmem l hl; (hQ i l hi).1), rfl, fun i c v h1 h2 => ?_⟩
    cases i with
    | zero =>
     simp at h1 h2; subst h1 h2
     simp only [CV.rep]
     exact .inr ⟨a, cap, by rw [hL], by omega, reps_of_all _ 0 (fun j c hj => hfl.2 j c hj)⟩
    | succ i => simp at h1
  ·rename_i k e ht
   simp only [Bool.and_eq_true, decide_eq_true_eq] at ho
   obtain ⟨xs, m, _, _, hlen, hxs, hget⟩ := DataW.trod_array ht h
   obtain ⟨L, hL, hQ⟩ := fin_choice (Q := fun i l => Typed P e l ∧ l.length = P.cellsOf e ∧ ∀ (j : Nat) (c : CV), l[j]? = some c → ∀ v, cs[i * P.cellsOf e + j]? = some v → c.rep W noO v) k (fun i hi => by
     have hg := hget i hi
     rw [List.getElem?_eq_getElem (by omega)] at hg
     obtain ⟨cvs, g1, g2, g3⟩ := trod_typed n e _ _ _ ho.1 hg
     have hik : i * P.cellsOf e + P.cellsOf e ≤ k * P.cellsOf e := by
      have := Nat.mul_le_mul_right (P.cellsOf e) (show i + 1 ≤ k by omega)
      rwa [Nat.add_mul, Nat.one_mul] at this
     have hl2 : cvs.length = P.cellsOf e := by rw [g2]; simp; omega
     refine ⟨cvs, g1, hl2, fun j c hj v hv => ?_⟩
     have hjl : j < cvs.length := (List.getElem?_eq_some_iff.1 hj).1
     exact g3 j c v hj (by rw [List.getElem?_take, if_pos (by omega), List.getElem?_drop]; exact hv))
   have hmem : ∀ l ∈ L, ∃ i : Nat, L[i]? = some l := fun l hl => List.mem_iff_getElem?.1 hl
   have hfl := flat_rel (R := fun k c => ∀ v, cs[k]? = some v → c.rep W noO v) (esz := P.cellsOf e) L 0 (fun i l hi => ⟨(hQ i l hi).2.1, fun j c hj => by simpa using (hQ i l hi).2.2 j c hj⟩)
   exact ⟨L.flatten, Typed.arr ht L hL (fun l hl => let ⟨i, hi⟩ := hmem l hl; (hQ i l hi).2.1) (fun l hl => let ⟨i, hi⟩ := hmem l hl; (hQ i l hi).1), by rw [hfl.1, hlen, ho.2, hL], fun i c v h1 h2 => hfl.2 i c h1 v (by simpa using h2)⟩
  ·rename_i fs ht
   simp only [Bool.and_eq_true, decide_eq_true_eq, List.all_eq_true] at ho
   obtain ⟨xs, m, _, _, hlen, hxs, hget⟩ := DataW.trod_struct ht h
   obtain ⟨L, hL, hQ⟩ := fin_choice (Q := fun i l => ∀ f, fs[i]? = some f → Typed P f.type l ∧ l.length = min (P.cellsOf f.type) (cs.length - f.offset) ∧ ∀ (j : Nat) (c : CV), l[j]? = some c → ∀ v, cs[f.offset + j]? = some v → c.rep W noO v) fs.size (fun i hi => by
     have hfi : fs[i]? = some fs[i] := Array.getElem?_eq_getElem hi
     have hg := hget i fs[i] hfi
     rw [List.getElem?_eq_getElem (by omega)] at hg
     obtain ⟨cvs, g1, g2, g3⟩ := trod_typed n _ _ _ _ (ho.1 fs[i] (by simp)) hg
     have hl2 : cvs.length = min (P.cellsOf fs[i].type) (cs.length - fs[i].offset) := by rw [g2]; simp
     refine ⟨cvs, fun f hf => ?_⟩
     rw [hfi] at hf; cases hf
     refine ⟨g1, hl2, fun j c hj v hv => ?_⟩
     have hjl : j < cvs.length := (List.getElem?_eq_some_iff.1 hj).1
     exact g3 j c v hj (by rw [List.getElem?_take, if_pos (by omega), List.getElem?_drop]; exact hv))
   have hoff : ∀ (fs : List Field) (n N : Nat), fieldsEnd P fs n = some N → n ≤ N ∧ ∀ (i : Nat) (f : Field), fs[i]? = some f → f.offset + P.cellsOf f.type ≤ N := by
    intro fs
    induction fs with
    | nil => intro n N h; simp only [fieldsEnd, Option.some.injEq] at h; simp [h]
    | cons f fs ih =>
     intro n N h
     simp only [fieldsEnd] at h
     split at h
     ·rename_i ho
      obtain ⟨h1, h2⟩ := ih _ _ h
      refine ⟨by omega, fun i f' hi => ?_⟩
      cases i with
      | zero => simp at hi; subst hi; omega
      | succ i => exact h2 i f' (by simpa using hi)
     ·cases h
   have hin := (hoff _ _ _ ho.2).2
   have hl : ∀ (i : Nat) (f : Field) (l : List CV), fs[i]? = some f → L[i]? = some l → l.length = P.cellsOf f.type := by
    intro i f l hf hl
    obtain ⟨_, h2, _⟩ := hQ i l hl f hf
    have := hin i f (by simpa using hf)
    omega
   have hfl := flat_relF (P := P) (R := fun k c => ∀ v, cs[k]? = some v → c.rep W noO v) fs.toList L 0 ho.2 (by simpa using hL) (fun i f l hf hl' =>
    ⟨hl i f l (by simpa using hf) hl', fun j c hj => (hQ i l hl' f (by simpa using hf)).2.2 j c hj⟩)
   exact ⟨L.flatten, Typed.struct ht L hL hl (fun i f l hf hl' => (hQ i l hl' f hf).1), by have := hfl.1; omega, fun i c v h1 h2 => hfl.2 i c h1 v (by simpa using h2)⟩
  ·cases ho
abbrev noX : Nat → Prop := fun _ => False
theorem VRels_of_all : ∀ (cvs : List CV) (vs : List Value), cvs.length = vs.length → (∀ (i : Nat) (c : CV) (v : Value), cvs[i]? = some c → vs[i]? = some v → c.rep W noO v) → VRels nom noX W (cvs.map .cv) vs
 | [], [], _, _ => by simp [VRels]
 | c :: cvs, v :: vs, hl, h => by
  simp only [List.map_cons, VRels, VRel]
  exact ⟨h 0 c v rfl rfl, VRels_of_all cvs vs (by simpa using hl) fun i c v h1 h2 => h (i + 1) c v (by simpa using h1) (by simpa using h2)⟩
 | [], _ :: _, hl, _ => by simp at hl
 | _ :: _, [], hl, _ => by simp at hl
theorem arg_typed {n : Nat} {t : TypeId} {v : Value} {d : DataW H} {ps : List MemPlace} {r : Reach} {base : Nat} (ho : openT P n t = true) (hval : Value.okWide P W r base t v) (h : DataW.Trod enc P W 0 (fun _ => true) true t v d ps) :
  ∃ cs, Typed P t cs ∧ VRel nom noX W (avOf P t cs) v := by
 obtain ⟨fuel, h⟩ := h
 obtain ⟨cvs, h1, h2, h3⟩ := trod_typed n t _ _ _ ho h
 refine ⟨cvs, h1, ?_⟩
 unfold avOf
 have one : (v.cells.toList = [v]) → VRel nom noX W (.cv (cvs.headD .nilp)) v := by
  intro hv
  rw [hv] at h2 h3
  match cvs, h2 with
  | [c], _ => simp only [List.headD_cons, VRel]; exact h3 0 c v rfl rfl
 cases n with
 | zero => simp [openT] at ho
 | succ n =>
  simp only [openT] at ho
  split at ho
  ·rename_i ht; rw [ht]; obtain ⟨b, rfl⟩ := okWide_bool ht hval; exact one rfl
  ·rename_i ht; rw [ht]; obtain ⟨b, rfl⟩ := okWide_int ht hval; exact one rfl
  ·rename_i ht; rw [ht]; obtain ⟨b, rfl⟩ := okWide_string ht hval; exact one rfl
  ·rename_i ht; rw [ht]; obtain ⟨_, _, _, rfl⟩ := okWide_slice ht hval; exact one rfl
  ·rename_i ht; rw [ht]
   simp only [Value.okWide, ht] at hval
   obtain ⟨arr, rfl, _⟩ := hval
   simp only [VRel]
   exact ⟨arr.toList, by simp, VRels_of_all _ _ h2 h3⟩
  ·rename_i ht; rw [ht]
   simp only [Value.okWide, ht] at hval
   obtain ⟨arr, rfl, _⟩ := hval
   simp only [VRel]
   exact ⟨arr.toList, by simp, VRels_of_all _ _ h2 h3⟩
  ·cases ho
theorem args_typed {n : Nat} {r : Reach} {base : Nat} : ∀ {ts : List TypeId} {vs : List Value} {ds : List (DataW H)} {ps : List MemPlace}, (ts.all (openT P n)) = true →
  (∀ (j : Nat) (t : TypeId) (v : Value), ts[j]? = some t → vs[j]? = some v → Value.okWide P W r base t v) → DataW.TrodAll enc P W 0 (fun _ => true) true ts vs ds ps →
  ds.length = ts.length ∧ ∃ avs, Args P ts avs ∧ VRels nom noX W avs vs
 | [], _, _, _, _, _, h => by
  obtain ⟨rfl, rfl, rfl⟩ := trodAll_nil h
  exact ⟨rfl, [], .nil, by simp [VRels]⟩
 | t :: ts, _, _, _, ho, hval, h => by
  obtain ⟨v, vs1, d, ds1, a, b, rfl, rfl, rfl, h1, h2⟩ := trodAll_cons h
  simp only [List.all_cons, Bool.and_eq_true] at ho
  obtain ⟨cs, g1, g2⟩ := arg_typed ho.1 (hval 0 t v rfl rfl) h1
  obtain ⟨hl, avs, g3, g4⟩ := args_typed ho.2 (fun j t v h1 h2 => hval (j + 1) t v (by simpa using h1) (by simpa using h2)) h2
  exact ⟨by simp [hl], _, .cons g1 g3, by simp only [VRels]; exact ⟨g2, g4⟩⟩
theorem trodAll_below (hl : laidOutB P = true) {W' : World} (hb : Below W.heap.size W W') : ∀ {ts : List TypeId} {vs : List Value} {ds : List (DataW H)} {ps : List MemPlace}, (ts.all fun t => P.readableRec t && decide (t < P.types.size)) = true →
  DataW.TrodAll enc P W 0 (fun _ => true) true ts vs ds ps → (∀ x ∈ ps, x.block < W.heap.size) → DataW.TrodAll enc P W' 0 (fun b => decide (b < W.heap.size)) true ts vs ds ps
 | [], _, _, _, _, h, _ => by
  obtain ⟨rfl, rfl, rfl⟩ := trodAll_nil h
  exact trodAll_mk0
 | t :: ts, _, _, _, ho, h, hlt => by
  obtain ⟨v, vs1, d, ds1, a, b, rfl, rfl, rfl, h1, h2⟩ := trodAll_cons h
  simp only [List.all_cons, Bool.and_eq_true, decide_eq_true_eq] at ho
  refine trodAll_cons_mk (Below.trod hl ho.1.1 ho.1.2 h1 hb fun x hx => hlt x (by simp [hx])) (trodAll_below hl hb ?_ h2 fun x hx => hlt x (by simp [hx]))
  simpa using ho.2
theorem law_of_AC {f : FuncId} {fn : Func} {s : ChangeSpec} {n : Nat} {t : TypeId} {base : Nat} {args : Array Value} {ds gs : List (DataW H)} {before : List MemPlace}
  (hl : laidOutB P = true) (hpar : (fn.params.toList.all fun t => P.readableRec t && decide (t < P.types.size)) = true) (ho : fn.params.toList.all (openT P n) = true)
  (hres : fn.resultTypes = #[t]) (htb : P.underlying t = some .bool) (hsv : s.vars = []) (hs : ∀ ds : List (DataW H), ds.length = fn.params.toList.length → s.fn H ds = { results := [.lit (.bool true)], args := ds })
  (hAC : ∀ avs, Args P fn.params.toList avs → AC P f avs [] fun r _ => r = .b true)
  (hval : ∀ (j : Nat) t v, fn.params[j]? = some t → args[j]? = some v → Value.okWide P W .any base t v)
  (hW : DataW.Whole enc P fn.params.toList s.vars false W args.toList ds gs before) :
  Calls P f args W fun e W' => ∃ v, e = .returned v ∧ s.post enc P fn false true false false W args v W' := by
 have hW' := hW
 obtain ⟨p, q, hA, hV, rfl, hfz, hnd⟩ := hW
 rw [hsv] at hV
 obtain ⟨rfl, rfl⟩ := trodVars_none hV
 have hlt : ∀ x ∈ p, x.block < W.heap.size := fun x hx => hW'.lt x (by simp [hx])
 obtain ⟨hlen, avs, hav, hrel⟩ := args_typed ho (fun j t v h1 h2 => hval j t v (by simpa using h1) (by simpa using h2)) hA
 have hcall := (hAC avs hav).2 nom noX W args.toList hrel ⟨by simp, by simp, by simp, by simp, by simp⟩
 have hcall := callsIn_wide.1 hcall
 simp only [Array.toArray_toList] at hcall
 refine hcall.mono fun e W' ⟨c, r, σ', m', he, hq, hr, _, hst, _⟩ => ?_
 subst he hq
 simp only [VRel, CV.rep] at hr
 subst hr
 have hb : Below W.heap.size W W' := ⟨hst.os, hst.tape, hst.output, hst.size, fun k hk => hst.fr k hk (.inr (by simp))⟩
 have hsf : s.fn H (ds ++ []) = { results := [.lit (.bool true)], args := ds } := by rw [List.append_nil]; exact hs ds hlen
 refine ⟨_, rfl, ds, [], p ++ [], [], p, [], hW', ?_, ?_, ?_, hb.frame _, fun h => by simp at h⟩
 ·rw [hsf, hres]
  exact trodAll_mk1 (shut_bool htb true)
 ·rw [hsf]
  exact trodAll_below hl hb hpar hA hlt
 ·rw [hsf, hsv]
  rfl
end
end Go.Proofs.YtpnghcaccfnngaaGreatDoor.AM
namespace Go.Proofs.YtpnghcaccfnngaaGreatDoor.AM
variable [Dr]
open Go
theorem SameSite.trans {a b c : ALoop} (h : SameSite a b) (k : SameSite b c) : SameSite a c :=
 ⟨k.1.trans h.1, k.2.1.trans h.2.1, k.2.2.1.trans h.2.2.1, k.2.2.2.1.trans h.2.2.2.1, k.2.2.2.2.trans h.2.2.2.2⟩
theorem LoopKeep.trans {a b c : List AObj} (h : LoopKeep a b) (k : LoopKeep b c) : LoopKeep a c := fun l r hr =>
 let ⟨r1, h1, h2⟩ := h l r hr
 let ⟨r2, h3, h4⟩ := k l r1 h1
 ⟨r2, h3, h2.trans h4⟩
theorem Moves.get {g : Nat → Nat} {k : Nat} {σ : List AObj} {as_ bs : List AV} (h : Moves g k σ as_ bs) : ∀ i, Move1 g k σ (as_.getD i .undef) (bs.getD i .undef) := by
 induction h with
 | nil => intro i; exact .inl ⟨by simp [List.getD, ren], by simp [List.getD, locsIn]⟩
 | cons h _ ih =>
  intro i
  cases i with
  | zero => simpa [List.getD] using h
  | succ i => simpa [List.getD] using ih i
theorem HRel.forgetF {m : LM} {X : Nat → Prop} {σ σf : List AObj} {w : World} (h : HRel m X σ w) (hl : σf.length = σ.length) (hf : ∀ (l : Nat) o, σf[l]? = some o → o = .dead ∨ σ[l]? = some o) : HRel m X σf w := by
 have hlv : ∀ (l : Nat) o, σf[l]? = some o → o.live → σ[l]? = some o := fun l o ho hv => by
  rcases hf l o ho with rfl | h
  ·exact hv.elim
  ·exact h
 refine ⟨h.xb, fun l b hb => by rw [hl]; exact h.dom l b hb, fun l b o hb ho hv => h.own l b o hb (hlv l o ho hv) hv, fun l l' b o' hb hb' ho' hv => h.inj l l' b o' hb hb' (hlv l' o' ho' hv) hv, fun l o ho => ?_⟩
 rcases hf l o ho with rfl | h2
 ·cases m l <;> simp [ORel]
 ·exact h.obj l o h2
theorem Weak.move {fx : Fx} {vals vals2 : List AV} {σ σ2 σf : List AObj} {g : Nat → Nat} (h0 : fx.n0 = 0) (hg : ∀ a b, a < b → b < σ2.length → g a < g b) (hfl : σf.length = σ.length)
  (hf : ∀ (l : Nat) o, σf[l]? = some o → o = .dead ∨ (σ[l]? = some o ∧ ∀ l2, l2 < σ2.length → g l2 ≠ l)) (hv : Moves g σ2.length σf vals vals2)
  (ho : ∀ (l : Nat) (o2 : AObj), σ2[l]? = some o2 → ∃ o, σ[g l]? = some o ∧ o.live ∧ ((o = renO g o2 ∧ objIn σ2.length o2 = true) ∨ ∃ as_ bs, o = .cells as_ ∧ o2 = .cells bs ∧ Moves g σ2.length σf as_ bs)) :
  Weak fx ⟨vals, σ⟩ ⟨vals2, σ2⟩ := by
 intro m X en ac w hs
 have hh := hs.heap
 let m2 : LM := fun l => if l < σ2.length then m (g l) else none
 have hm2 : ∀ l, l < σ2.length → m2 l = m (g l) := fun l hl => by simp only [m2]; rw [if_pos hl]
 have hm2s : ∀ l b, m2 l = some b → l < σ2.length ∧ m (g l) = some b := fun l b hl => by
  simp only [m2] at hl
  split at hl
  ·rename_i h; exact ⟨h, hl⟩
  ·cases hl
 have how : ∀ b, Own m2 X b → Own m X b := by
  rintro b (hx | ⟨l, hl⟩)
  ·exact .inl hx
  ·exact .inr ⟨g l, (hm2s l b hl).2⟩
 have hlv : ∀ l, l < σ2.length → ∃ o, σ[g l]? = some o ∧ o.live := fun l hl => by
  obtain ⟨o, h1, h2, _⟩ := ho l _ (List.getElem?_eq_getElem hl)
  exact ⟨o, h1, h2⟩
 have hnot : ∀ (l b : Nat) (o : AObj), m l = some b → σf[l]? = some o → o.live → ¬ Own m2 X b := by
  intro l b o hb hlo hlive hown
  rcases hf l o hlo with rfl | ⟨h1, h2⟩
  ·exact hlive.elim
  ·rcases hown with hx | ⟨l2, h3⟩
   ·exact hh.own l b o hb h1 hlive hx
   ·obtain ⟨h4, h5⟩ := hm2s l2 b h3
    obtain ⟨o2, h6, h7⟩ := hlv l2 h4
    have a1 := hh.inj l (g l2) b _ hb h5 h6 h7
    have a2 := hh.inj (g l2) l b _ h5 hb h1 hlive
    exact h2 l2 h4 (by omega)
 have hhf := hh.forgetF hfl fun l o h => (hf l o h).imp id fun h => h.1
 have one : ∀ {a b : AV}, Move1 g σ2.length σf a b → ∀ v, VRel m X w a v → VRel m2 X w b v := by
  rintro a b (⟨rfl, h⟩ | h) v hv
  ·exact VRel.ren hm2 how b v h hv
  ·exact frz_rel hhf (fun c v _ h => CV.rep_less how c v h) hnot h v hv
 have many : ∀ {as_ bs : List AV}, Moves g σ2.length σf as_ bs → ∀ vs, VRels m X w as_ vs → VRels m2 X w bs vs := by
  intro as_ bs h
  induction h with
  | nil => intro vs hv; rw [VRels.nil' hv]; simp [VRels]
  | cons h1 _ ih =>
   intro vs hv
   obtain ⟨v, us, rfl, g1, g2⟩ := hv.cons
   exact ⟨one h1 v g1, ih us g2⟩
 refine ⟨m2, ⟨hs.size, ?_, ?_, ⟨hh.xb, ?_, ?_, ?_, ?_⟩, by rw [h0]; exact Nat.zero_le _, hs.entry⟩, ?_⟩
 ·intro i t hi
  exact one (hv.get i) _ (hs.vars i t hi)
 ·obtain ⟨bs, h1, h2, h3⟩ := hs.defs
  exact ⟨bs, h1, h2, fun b hb => let ⟨g1, g2, g3, g4⟩ := h3 b hb; ⟨g1, g2, g3, fun hx => g4 (how b hx)⟩⟩
 ·intro l b hl
  obtain ⟨h1, h2⟩ := hm2s l b hl
  exact ⟨h1, (hh.dom (g l) b h2).2⟩
 ·intro l b o hl hlo hv
  obtain ⟨h1, h2⟩ := hm2s l b hl
  obtain ⟨o', h3, h4⟩ := hlv l h1
  exact hh.own (g l) b o' h2 h3 h4
 ·intro l l' b o' hl hl' hlo hv
  obtain ⟨h1, h2⟩ := hm2s l b hl
  obtain ⟨h1', h2'⟩ := hm2s l' b hl'
  obtain ⟨o2, h3, h4⟩ := hlv l' h1'
  have := hh.inj (g l) (g l') b o2 h2 h2' h3 h4
  rcases Nat.lt_or_ge l' l with hlt | hge
  ·have := hg l' l hlt h1; omega
  ·exact hge
 ·intro l o2 hlo
  obtain ⟨o, h1, h2, h3⟩ := ho l o2 hlo
  have hlt : l < σ2.length := (List.getElem?_eq_some_iff.1 hlo).1
  have hob := hh.obj (g l) o h1
  rw [hm2 l hlt]
  rcases h3 with ⟨rfl, hc⟩ | ⟨as_, bs, rfl, rfl, ht⟩
  ·exact ORel.ren hm2 how hc hob
  ·cases hm : m (g l) with
   | none => rw [hm] at hob; exact hob.elim
   | some b =>
    rw [hm] at hob
    obtain ⟨c, e, g1, g2, g3⟩ := hob
    refine ⟨c, e, g1, by rw [← ht.len]; exact g2, ?_⟩
    rw [← ht.len]
    exact many ht _ g3
 ·rw [h0]
  exact ⟨fun l hl => absurd hl (Nat.not_lt_zero _), fun l b hl => .inl ⟨g l, (hm2s l b hl).2⟩, Nat.le_refl _, fun _ _ _ => rfl, fun b c e hb => ⟨c, hb, rfl⟩, rfl, rfl, rfl, fun _ => Nat.le_refl _⟩
section
variable {α : Type} [Inhabited α] {f : α → List CV} {e : Nat}
end
theorem wrap_nat {n : Nat} (h : n < 2 ^ 63) : IntKind.i64.wrap (n : Int) = n := wrap_in (by omega)
abbrev vs47 : List Nat := [0, 1, 2, 4, 7, 8, 22]
def ic47l0 : IC := (.seq (.seq (.region [jv 5, jv 1, je 1, jq (.bin .lss .int) [.t 0, .t 2], jt 3, jh 4 true 4, jg 4 true (.bin .eql .int) [.t 5, jn 0], jw 6 .pick [.t 4, .t 6, jB false]])
 (.cond 6 .skip
 (.exit 0)))
 (.seq (.block 1 (.dr [[], [], [], [1, 2], [3], [0, 4], [5, 5, 0, 1, 2, 3, 4, 5]] [jN 2 2, jv 1, jv 5, ja 1 1 2, jl 3, jk 48 [.t 0, .t 4], jm 4 5]))
 (.region [jv 5, jq (.bin .add .int) [.t 0, jn 1], jm 5 1])))
def ic47 : IC := (.seq (.region [jb 2 0, jw 3 .mv [jB false]])
 (.seq (.region [jN 2 2, jk 54 [.t 0], jt 1, jx 0 2, jx 1 2, jx 2 2, jt 3, jt 4, jm 4 5])
 (.seq (.seq (.region [jz 5 0])
 (.block 0 (.loop ic47l0)))
 (.seq (.region [jv 4, jq (.bin .eql .int) [.t 0, jn 0], jm 3 1])
 .ret))))
abbrev rs47 : List RC := [(.v 3)]
theorem fok47 (p : Bool) : FnOk Tryz.prog 47 ⟨ic47, vs47, 33, rs47, p⟩ := .mk2 Tryz.func47 (by kernel_rfl) (by kernel_rfl) (by kernel_rfl) (by kernel_rfl) (by kernel_rfl)
end Go.Proofs.YtpnghcaccfnngaaGreatDoor.AM
namespace Go.Proofs.YtpnghcaccfnngaaGreatDoor.Pl
theorem subI_zero {a b : Int} (ha : a < 2 ^ 63) : subI a b = 0 ↔ ∀ k, bit a k = true → bit b k = true := by
 constructor
 ·intro h k h1
  have := bit_sub (b := b) ha k
  rw [h, h1, bit_zero] at this
  cases h2 : bit b k
  ·rw [h2] at this; cases this
  ·rfl
 ·intro h
  refine bit_ext (subI_nn _ _) (Int.le_refl _) fun k => ?_
  rw [bit_sub ha, bit_zero]
  have := h k
  cases h1 : bit a k <;> simp_all
end Go.Proofs.YtpnghcaccfnngaaGreatDoor.Pl
namespace Go.Proofs.YtpnghcaccfnngaaGreatDoor.AM
variable [Dr]
open Go Pl
theorem pow_mono {a b : Nat} (h : a ≤ b) : (2 : Int) ^ a ≤ 2 ^ b := by
 have := Nat.pow_le_pow_right (n := 2) (by omega) h
 have h2 : ((2 ^ a : Nat) : Int) ≤ ((2 ^ b : Nat) : Int) := Int.ofNat_le.2 this
 push_cast at h2; exact h2
theorem rgsE_of {s : Sys} {l : List Rt} (h1 : l.length ≤ 40) (h2 : ∀ r ∈ l, RgOk s r) : rgsE s l = 0 := by
 unfold rgsE
 rw [if_neg (by omega), findE_none]
 intro j _ hj
 show rgErr s l[j]! = 0
 rw [getElem!_pos l j (by omega)]
 exact rgErr_iff.2 (h2 _ (List.getElem_mem _))
theorem covB_iff {s : Sys} (hok : OkI s) {c k : Nat} (hc : c < s.cl.length) : covB s c k = true ↔ Rch (nx s) c k := covG_iff hok.inN hc
theorem covB_refl {s : Sys} (hok : OkI s) {c : Nat} (hc : c < s.cl.length) : covB s c c = true := (covB_iff hok hc).2 .refl
theorem covB_trans {s : Sys} (hok : OkI s) {a b c : Nat} (ha : a < s.cl.length) (hb : b < s.cl.length) (h1 : covB s a b = true) (h2 : covB s b c = true) : covB s a c = true :=
 (covB_iff hok ha).2 (((covB_iff hok ha).1 h1).trans ((covB_iff hok hb).1 h2))
theorem leastF_mem {s : Sys} {l : List Rt} {x : Rt} : x ∈ leastF s l ↔ x ∈ l ∧ ∀ r ∈ l, wkB s x r = false := by
 unfold leastF
 rw [List.mem_filter, mem_sortR, ddR_mem, Bool.not_eq_true', List.any_eq_false]
 constructor
 ·rintro ⟨h1, h2⟩
  exact ⟨h1, fun r hr => by have := h2 r (ddR_mem.2 hr); simpa using this⟩
 ·rintro ⟨h1, h2⟩
  exact ⟨h1, fun r hr => by rw [h2 r (ddR_mem.1 hr)]; decide⟩
theorem leastF_nodup (s : Sys) (l : List Rt) : (leastF s l).Nodup := ((sortR_perm _).nodup_iff.2 (esN_nodup l l.length)).filter _
theorem leastF_sorted (s : Sys) (l : List Rt) : (leastF s l).Pairwise fun a b => leR a b = true := (sortR_sorted _).filter _
theorem leastF_ext {s : Sys} {l m : List Rt} (h : ∀ x, x ∈ leastF s l ↔ x ∈ leastF s m) : leastF s l = leastF s m := by
 have hp := nodup_perm (leastF_nodup s l) (leastF_nodup s m) h
 rw [sortR_eq hp (leastF_sorted s l)]
 exact (sortR_eq (List.Perm.refl _) (leastF_sorted s m)).symm
theorem wkB_iff {s : Sys} {x r : Rt} (hr : r.2 < 2 ^ 63) : wkB s x r = true ↔ x ≠ r ∧ covB s r.1.toNat x.1.toNat = true ∧ ∀ k, bit r.2 k = true → bit x.2 k = true := by
 unfold wkB
 rw [Bool.and_eq_true, Bool.and_eq_true, beq_iff_eq, subI_zero hr]
 simp
theorem rdE_append (s : Sys) (E : Int) (a b : List (List Rt)) : rdE s E (a ++ b) = rdE s (rdE s E a) b := by unfold rdE; rw [List.foldl_append]
theorem c47 (s : Sys) (hs : SSz s) (ls : List (List Rt)) (hls : ∀ l ∈ ls, l.length < 2 ^ 63) (hn : ls.length < 2 ^ 60) (σ : List AObj) (l0 : Nat) (h0 : rowOf σ l0 = some (ls.map fun l => rgL l)) :
  AC Tryz.prog 47 [sysV s, .sl l0 0 ls.length 1] σ fun r τ => r = .b (rdE s (sysE s).2.2 ls == 0) ∧ τ = σ := by
 refine AC.cutF ?_ rfl
 refine AC_FE (fok47 true) (Nat.le_of_ble_eq_true rfl) ?_
 have h54 := c54 s hs
 unfold chkV at h54
 have hn0 := sysE_n (s := s)
 generalize sysE s = e at *
 obtain ⟨e1, e2, e3⟩ := e
 have g0 := fun J => rowOf_low h0 J
 have k0 := fun J => get_low h0 J
 have hld : ∀ k, k < ls.length → (ls.map fun l => rgL l)[k]? = some (rgL ls[k]!) := fun k hk => by
  rw [List.getElem?_map, List.getElem?_eq_getElem hk, getElem!_pos ls k hk]; rfl
 simp only [ic47, f_box, cellsOf, rowOf_az, evA, if_true, if_false, beq_false, simprocAttr]
 refine h54.call frz ?_
 simp only [evA, if_true, if_false, beq_false, simprocAttr]
 refine IL_for ls.length (fun i s' => ∃ v6, s' = ⟨[sysV s, .sl l0 0 ls.length 1, .ptr σ.length 0, .b false, .i (rdE s e3 (ls.take i)), .i i, v6], σ ++ [.cells [.cv (clsR s.cl), .cv (strR s.co)]]⟩) ?_ 0 (Nat.zero_le _) ⟨_, rfl⟩
 rintro i s' hi ⟨v6, rfl⟩
 have hE0 : rdE s e3 (ls.take i) = 0 → e3 = 0 := fun h => Decidable.byContradiction fun hne => by rw [rdE_ne s _ _ hne] at h; exact hne h
 have hap : rdE s e3 ls = rdE s (rdE s e3 (ls.take i)) (ls.drop i) := by rw [← rdE_append, List.take_append_drop]
 by_cases hin : i < ls.length
 ·have hsl : ∀ σ', f_iaS 1 [.sl l0 0 ls.length 1, .cv (.int .i64 i)] σ' = some (.ptr l0 (0 + i), σ') := sl_addr hin
  have hst : rdE s e3 (ls.take (i + 1)) = if rdE s e3 (ls.take i) = 0 then rgsE s ls[i]! else rdE s e3 (ls.take i) := by
   rw [List.take_add_one, List.getElem?_eq_getElem hin, getElem!_pos ls i hin]
   unfold rdE
   rw [List.foldl_append]; rfl
  have hlsi := hls ls[i]! (by rw [getElem!_pos ls i hin]; exact List.getElem_mem hin)
  generalize rdE s e3 (ls.take i) = E at *
  by_cases hE : E = 0
  ·have hb : (E == 0) = true := by simpa using hE
   obtain ⟨_, hm, _⟩ := hn0 (hE0 hE)
   rw [if_pos hE] at hst
   simp only [ic47l0, Int.ofNat_lt, hin, hb, evA, if_true, if_false, beq_false, simprocAttr]
   refine DW_s [5] [] hmix (by kernel_rfl) rfl ?_
   simp only [hsl, Nat.zero_add, g0, rowOf_az, hld i hin, evA, if_true, if_false, beq_false, simprocAttr]
   refine kK_keep ((c48 s hs hm ls[i]! hlsi).call frz ⟨rfl, rfl⟩) rfl ?_
   simp only [wrap_succ (show i + 1 < 2 ^ 63 by omega), evA, if_true, if_false, beq_false, simprocAttr]
   exact kFor_go (by first | trivial | omega) ⟨_, by rw [hst]⟩
  ·have hb : (E == 0) = false := by simpa using hE
   rw [rdE_ne s _ _ hE] at hap
   rw [hap]
   simp only [ic47l0, Int.ofNat_lt, hin, hb, evA, if_true, if_false, beq_false, simprocAttr]
   exact ⟨_, rfl⟩
 ·have hin' : i = ls.length := by omega
  subst hin'
  rw [List.drop_length] at hap
  have hap' : rdE s e3 ls = rdE s e3 (ls.take ls.length) := hap
  rw [hap']
  simp only [ic47l0, Int.ofNat_lt, hin, evA, if_true, if_false, beq_false, simprocAttr]
  exact ⟨_, rfl⟩
end Go.Proofs.YtpnghcaccfnngaaGreatDoor.AM
namespace Go.Proofs.YtpnghcaccfnngaaGreatDoor.AM
variable [Dr]
open Go
theorem typed_int {P : Program} {t : TypeId} {k : IntKind} {cs : List CV} (ht : P.underlying t = some (.int k)) (h : Typed P t cs) : ∃ n, cs = [.int k n] ∧ (Lit.int k n).wf = true := by
 cases h with
 | int ht' n hw => rw [ht] at ht'; cases ht'; exact ⟨n, rfl, hw⟩
 | bool ht' => rw [ht] at ht'; cases ht'
 | str ht' => rw [ht] at ht'; cases ht'
 | slc ht' => rw [ht] at ht'; cases ht'
 | arr ht' => rw [ht] at ht'; cases ht'
 | struct ht' => rw [ht] at ht'; cases ht'
theorem typed_str {P : Program} {t : TypeId} {cs : List CV} (ht : P.underlying t = some .string) (h : Typed P t cs) : ∃ s : ByteArray, cs = [.str s] ∧ s.size ≤ maxLen := by
 cases h with
 | str ht' s hs => exact ⟨s, rfl, hs⟩
 | bool ht' => rw [ht] at ht'; cases ht'
 | int ht' => rw [ht] at ht'; cases ht'
 | slc ht' => rw [ht] at ht'; cases ht'
 | arr ht' => rw [ht] at ht'; cases ht'
 | struct ht' => rw [ht] at ht'; cases ht'
theorem typed_slc {P : Program} {t e : TypeId} {cs : List CV} (ht : P.underlying t = some (.slice e)) (h : Typed P t cs) : ∃ L : List (List CV), cs = [.rsl L.flatten L.length] ∧ L.length ≤ maxLen ∧ (∀ l ∈ L, l.length = P.cellsOf e) ∧ ∀ l ∈ L, Typed P e l := by
 cases h with
 | slc ht' L hn hl h => rw [ht] at ht'; cases ht'; exact ⟨L, rfl, hn, hl, h⟩
 | bool ht' => rw [ht] at ht'; cases ht'
 | int ht' => rw [ht] at ht'; cases ht'
 | str ht' => rw [ht] at ht'; cases ht'
 | arr ht' => rw [ht] at ht'; cases ht'
 | struct ht' => rw [ht] at ht'; cases ht'
theorem typed_struct {P : Program} {t : TypeId} {fs : Array Field} {cs : List CV} (ht : P.underlying t = some (.struct fs)) (h : Typed P t cs) : ∃ L : List (List CV), cs = L.flatten ∧ L.length = fs.size ∧ ∀ (i : Nat) (f : Field) (l : List CV), fs[i]? = some f → L[i]? = some l → Typed P f.type l := by
 cases h with
 | struct ht' L hn hl h => rw [ht] at ht'; cases ht'; exact ⟨L, rfl, hn, h⟩
 | bool ht' => rw [ht] at ht'; cases ht'
 | int ht' => rw [ht] at ht'; cases ht'
 | str ht' => rw [ht] at ht'; cases ht'
 | slc ht' => rw [ht] at ht'; cases ht'
 | arr ht' => rw [ht] at ht'; cases ht'
theorem ints_of {P : Program} {e : TypeId} {k : IntKind} (he : P.underlying e = some (.int k)) : ∀ L : List (List CV), (∀ l ∈ L, Typed P e l) → ∃ zs : List Int, L.flatten = zs.map (.int k) ∧ L.length = zs.length ∧ ∀ z ∈ zs, (Lit.int k z).wf = true
 | [], _ => ⟨[], rfl, rfl, by simp⟩
 | l :: L, h => by
  obtain ⟨n, rfl, hn⟩ := typed_int he (h l (by simp))
  obtain ⟨zs, h1, h2, h3⟩ := ints_of he L fun l hl => h l (by simp [hl])
  exact ⟨n :: zs, by simp [h1], by simp [h2], by simpa using ⟨hn, h3⟩⟩
theorem typed_ints {P : Program} {t e : TypeId} {k : IntKind} {cs : List CV} (ht : P.underlying t = some (.slice e)) (he : P.underlying e = some (.int k)) (h : Typed P t cs) : ∃ zs : List Int, cs = [.rsl (zs.map (.int k)) zs.length] ∧ zs.length < 2 ^ 63 ∧ ∀ z ∈ zs, (Lit.int k z).wf = true := by
 obtain ⟨L, rfl, hn, _, hl⟩ := typed_slc ht h
 obtain ⟨zs, h1, h2, h3⟩ := ints_of he L hl
 refine ⟨zs, by rw [h1, h2], ?_, h3⟩
 rw [← h2]; unfold maxLen at hn; omega
theorem wf_i64 {n : Int} (h : (Lit.int .i64 n).wf = true) : -9223372036854775808 ≤ n ∧ n ≤ 9223372036854775807 := by
 simp only [Lit.wf, Bool.and_eq_true, decide_eq_true_eq, IntKind.min, IntKind.max, IntKind.bits, IntKind.signed] at h
 simp at h; omega
theorem wf_u8 {n : Int} (h : (Lit.int .u8 n).wf = true) : 0 ≤ n ∧ n ≤ 255 := by
 simp only [Lit.wf, Bool.and_eq_true, decide_eq_true_eq, IntKind.min, IntKind.max, IntKind.bits, IntKind.signed] at h
 simp at h; omega
theorem args_cons {P : Program} {t : TypeId} {ts : List TypeId} {avs : List AV} (h : Args P (t :: ts) avs) : ∃ cs avs', avs = avOf P t cs :: avs' ∧ Typed P t cs ∧ Args P ts avs' := by
 generalize hts : t :: ts = u at h
 cases h with
 | nil => cases hts
 | cons h1 h2 => cases hts; exact ⟨_, _, rfl, h1, h2⟩
theorem args_nil {P : Program} {avs : List AV} (h : Args P [] avs) : avs = [] := by
 generalize hts : ([] : List TypeId) = u at h
 cases h with
 | nil => rfl
 | cons h1 h2 => cases hts
end Go.Proofs.YtpnghcaccfnngaaGreatDoor.AM
namespace Go.Proofs.YtpnghcaccfnngaaGreatDoor.AM
open Go Pl
theorem typed_list {α : Type} {f : α → List CV} {p : α → Prop} {t : TypeId} (h : ∀ cs, Typed Tryz.prog t cs → ∃ x, cs = f x ∧ p x) : ∀ L : List (List CV), (∀ l ∈ L, Typed Tryz.prog t l) → ∃ xs : List α, L.flatten = xs.flatMap f ∧ L.length = xs.length ∧ ∀ x ∈ xs, p x
 | [], _ => ⟨[], rfl, rfl, by simp⟩
 | l :: L, hl => by
  obtain ⟨x, h1, h2⟩ := h l (hl l (by simp))
  obtain ⟨xs, g1, g2, g3⟩ := typed_list h L fun l hh => hl l (by simp [hh])
  exact ⟨x :: xs, by simp [h1, g1], by simp [g2], by simpa using ⟨h2, g3⟩⟩
theorem typed_cls {cs : List CV} (h : Typed Tryz.prog 109 cs) : ∃ c : Cls, cs = clsC c ∧ c.nm.size ≤ maxLen ∧ c.inc.length ≤ maxLen := by
 obtain ⟨L, rfl, hn, hf⟩ := typed_struct Tryz.underlying109 h
 match L, hn with
 | [a, b, c, d, e], _ =>
  obtain ⟨s, rfl, h1⟩ := typed_str Tryz.underlying9 (hf 0 _ a rfl rfl)
  obtain ⟨L2, rfl, hn2, _, hl2⟩ := typed_slc Tryz.underlying54 (hf 1 _ b rfl rfl)
  obtain ⟨zs, g1, g2, g3⟩ := ints_of Tryz.underlying3 L2 hl2
  obtain ⟨n1, rfl, _⟩ := typed_int Tryz.underlying3 (hf 2 _ c rfl rfl)
  obtain ⟨n2, rfl, _⟩ := typed_int Tryz.underlying3 (hf 3 _ d rfl rfl)
  obtain ⟨n3, rfl, _⟩ := typed_int Tryz.underlying3 (hf 4 _ e rfl rfl)
  exact ⟨⟨s, zs, n1, n2, n3⟩, by simp [clsC, g1, g2], h1, by show zs.length ≤ maxLen; omega⟩
theorem typed_rg {cs : List CV} (h : Typed Tryz.prog 60 cs) : ∃ r : Rt, cs = rgC r ∧ RgW r := by
 obtain ⟨L, rfl, hn, hf⟩ := typed_struct Tryz.underlying60 h
 match L, hn with
 | [a, b], _ =>
  obtain ⟨n1, rfl, w1⟩ := typed_int Tryz.underlying3 (hf 0 _ a rfl rfl)
  obtain ⟨n2, rfl, w2⟩ := typed_int Tryz.underlying3 (hf 1 _ b rfl rfl)
  exact ⟨(n1, n2), by simp [rgC], ⟨wf_i64 w1, wf_i64 w2⟩⟩
theorem typed_sys {cs : List CV} (h : Typed Tryz.prog 38 cs) : ∃ s : Sys, avOf Tryz.prog 38 cs = sysV s ∧ SSz s := by
 obtain ⟨L, rfl, hn, hf⟩ := typed_struct Tryz.underlying38 h
 match L, hn with
 | [a, b], _ =>
  obtain ⟨L1, rfl, n1, _, h1⟩ := typed_slc Tryz.underlying35 (hf 0 _ a rfl rfl)
  obtain ⟨L2, rfl, n2, _, h2⟩ := typed_slc Tryz.underlying36 (hf 1 _ b rfl rfl)
  obtain ⟨cs, a1, a2, a3⟩ := typed_list (fun cs h => typed_cls h) L1 h1
  obtain ⟨co, b1, b2, b3⟩ := typed_list (f := fun x : ByteArray => [CV.str x]) (p := fun x => x.size ≤ maxLen) (fun cs h => by
   obtain ⟨x, rfl, hx⟩ := typed_str Tryz.underlying9 h
   exact ⟨x, rfl, hx⟩) L2 h2
  have hm : maxLen < 2 ^ 63 := by decide
  have b1' : L2.flatten = co.map CV.str := by rw [b1, List.map_eq_flatMap]
  refine ⟨⟨cs, co⟩, ?_, ⟨by show cs.length < _; omega, by show co.length < _; omega, fun i hi => ?_, fun i hi => ?_, fun i hi => ?_⟩⟩
  ·simp only [avOf, Tryz.underlying38, a1, b1', a2, b2]
   rfl
  ·have hi : i < cs.length := hi
   show (cs[i]!).nm.size < _
   rw [getElem!_pos cs i hi]
   have := (a3 _ (List.getElem_mem hi)).1
   omega
  ·have hi : i < cs.length := hi
   show (cs[i]!).inc.length < _
   rw [getElem!_pos cs i hi]
   have := (a3 _ (List.getElem_mem hi)).2
   omega
  ·have hi : i < co.length := hi
   show (co[i]!).size < _
   rw [getElem!_pos co i hi]
   have := b3 _ (List.getElem_mem hi)
   omega
theorem rights_of {L : List (List CV)} (h : ∀ l ∈ L, Typed Tryz.prog 60 l) : ∃ xs : List Rt, L.flatten = xs.flatMap rgC ∧ L.length = xs.length ∧ ∀ x ∈ xs, RgW x := typed_list (fun cs h => typed_rg h) L h
theorem typed_rgs {cs : List CV} (h : Typed Tryz.prog 39 cs) : ∃ l : List Rt, avOf Tryz.prog 39 cs = rgL l ∧ l.length < 2 ^ 63 ∧ ∀ r ∈ l, RgW r := by
 obtain ⟨L1, rfl, n1, _, h1⟩ := typed_slc Tryz.underlying39 h
 obtain ⟨l, a1, a2, a3⟩ := rights_of h1
 have hm : maxLen < 2 ^ 63 := by decide
 refine ⟨l, by simp only [avOf, Tryz.underlying39, List.headD_cons, a1, a2], by omega, a3⟩
theorem leastF_len (s : Sys) (l : List Rt) : (leastF s l).length ≤ l.length := by
 unfold leastF
 have h1 := List.length_filter_le (fun x => !(ddR l).any fun r => wkB s x r) (sortR (ddR l))
 rw [sortR_len] at h1
 have h2 := esN_len l l.length
 unfold ddR keysE at h1
 rw [List.length_map] at h1
 unfold ddR keysE
 omega
theorem leastF_ok {s : Sys} {l : List Rt} (h : ∀ r ∈ l, RgOk s r) : ∀ r ∈ leastF s l, RgOk s r := fun r hr => h r (leastF_mem.1 hr).1
end Go.Proofs.YtpnghcaccfnngaaGreatDoor.AM
namespace Go.Proofs.YtpnghcaccfnngaaGreatDoor.AM
variable [Dr]
open Go Pl
def GE (s : Sys) (r x : Rt) : Prop := covB s r.1.toNat x.1.toNat = true ∧ ∀ k, bit r.2 k = true → bit x.2 k = true
structure Gd (s : Sys) : Prop where
 n1 : 1 ≤ s.cl.length
 n12 : s.cl.length ≤ 12
 m8 : s.co.length ≤ 8
 ok : OkI s
 dn : ∀ i, i < s.cl.length → dnB s i = false
theorem gd_of {s : Sys} (h : (sysE s).2.2 = 0) : Gd s := by
 obtain ⟨⟨h1, h2⟩, h3, h4⟩ := sysE_n (s := s) h
 refine ⟨h1, h2, h3, h4, fun i hi => ?_⟩
 unfold sysE at h
 split at h
 ·simp at h
 ·split at h
  ·rename_i hne; exact absurd h hne
  ·split at h
   ·rename_i hne; exact absurd h hne
   ·split at h
    ·rename_i hne; exact absurd h hne
    ·rename_i hz
     have := findE_all s.cl.length 0 (Decidable.not_not.1 hz) i (Nat.zero_le _) (by omega)
     unfold dnE at this
     cases hd : dnB s i with
     | false => rfl
     | true => rw [hd] at this; simp at this
theorem Gd.rch {s : Sys} (h : Gd s) {a b : Nat} (ha : a < s.cl.length) (hr : Rch (nx s) a b) : b < s.cl.length := by
 induction hr with
 | refl => exact ha
 | step _ hz ih => exact h.ok.inN _ ih _ hz
theorem Gd.anti {s : Sys} (h : Gd s) {a b : Nat} (ha : a < s.cl.length) (hb : b < s.cl.length) (h1 : covB s a b = true) (h2 : covB s b a = true) : a = b := by
 have r1 := (covB_iff h.ok ha).1 h1
 have r2 := (covB_iff h.ok hb).1 h2
 cases r1 with
 | refl => rfl
 | @step y _ hy hz =>
  exfalso
  have hyl := h.rch ha hy
  have hc : covB s b y = true := (covB_iff h.ok hb).2 (r2.trans hy)
  have hd := h.dn y hyl
  have : dnB s y = true := by
   unfold dnB
   obtain ⟨z, hz1, hz2⟩ := List.mem_map.1 hz
   obtain ⟨k, hk, hk2⟩ := List.mem_iff_getElem.1 hz1
   refine anyN_true.2 ⟨k, hk, ?_⟩
   rw [List.getElem?_eq_getElem hk, hk2, Option.getD_some, hz2]; exact hc
  rw [this] at hd; cases hd
theorem GE.refl {s : Sys} (h : Gd s) {x : Rt} (hx : RgOk s x) : GE s x x := ⟨covB_refl h.ok hx.nat, fun _ h => h⟩
theorem GE.trans {s : Sys} (h : Gd s) {a b c : Rt} (ha : RgOk s a) (hb : RgOk s b) (h1 : GE s a b) (h2 : GE s b c) : GE s a c := ⟨covB_trans h.ok ha.nat hb.nat h1.1 h2.1, fun k hk => h2.2 k (h1.2 k hk)⟩
theorem GE.anti {s : Sys} (h : Gd s) {a b : Rt} (ha : RgOk s a) (hb : RgOk s b) (h1 : GE s a b) (h2 : GE s b a) : a = b := by
 have e1 := h.anti ha.nat hb.nat h1.1 h2.1
 have e2 := bit_ext ha.2.1 hb.2.1 fun k => by
  rw [Bool.eq_iff_iff]; exact ⟨h1.2 k, h2.2 k⟩
 have := ha.1; have := hb.1
 exact Prod.ext (by omega) e2
theorem RgOk.lt63 {s : Sys} (h : Gd s) {r : Rt} (hr : RgOk s r) : r.2 < 2 ^ 63 := by
 have := pow_bd h.m8; have := hr.2.2; unfold setN at this; omega
theorem wkB_ge {s : Sys} (h : Gd s) {x r : Rt} (hr : RgOk s r) : wkB s x r = true ↔ x ≠ r ∧ GE s r x := wkB_iff (hr.lt63 h)
def Dom (s : Sys) (a b : List Rt) : Prop := ∀ r ∈ b, ∃ x ∈ a, GE s x r
theorem Dom.sub {s : Sys} (h : Gd s) {a b : List Rt} (hb : ∀ r ∈ b, RgOk s r) (hs : ∀ r ∈ b, r ∈ a) : Dom s a b := fun r hr => ⟨r, hs r hr, .refl h (hb r hr)⟩
theorem Dom.trans {s : Sys} (h : Gd s) {a b c : List Rt} (ha : ∀ r ∈ a, RgOk s r) (hb : ∀ r ∈ b, RgOk s r) (h1 : Dom s a b) (h2 : Dom s b c) : Dom s a c := fun r hr => by
 obtain ⟨y, hy, g1⟩ := h2 r hr
 obtain ⟨x, hx, g2⟩ := h1 y hy
 exact ⟨x, hx, g2.trans h (ha x hx) (hb y hy) g1⟩
theorem Dom.eq {s : Sys} (h : Gd s) {a b : List Rt} (ha : ∀ r ∈ a, RgOk s r) (hb : ∀ r ∈ b, RgOk s r) (h1 : Dom s a b) (h2 : Dom s b a) : leastF s a = leastF s b := by
 have half : ∀ {a b : List Rt}, (∀ r ∈ a, RgOk s r) → (∀ r ∈ b, RgOk s r) → Dom s a b → Dom s b a → ∀ x ∈ leastF s a, x ∈ leastF s b := by
  intro a b ha hb h1 h2 x hx
  obtain ⟨hxa, hmax⟩ := leastF_mem.1 hx
  have top : ∀ y ∈ b, GE s y x → y = x := fun y hy hyx => by
   obtain ⟨z, hz, hzy⟩ := h1 y hy
   have hzx := hzy.trans h (ha z hz) (hb y hy) hyx
   have : z = x := by
    refine Decidable.byContradiction fun hne => ?_
    have := hmax z hz
    rw [(wkB_ge h (ha z hz)).2 ⟨fun he => hne he.symm, hzx⟩] at this; cases this
   subst this
   exact GE.anti h (hb y hy) (ha z hz) hyx hzy
  obtain ⟨r, hr, hrx⟩ := h2 x hxa
  have := top r hr hrx
  subst this
  refine leastF_mem.2 ⟨hr, fun t ht => ?_⟩
  cases hw : wkB s r t with
  | false => rfl
  | true =>
   have w := (wkB_ge h (hb t ht)).1 hw
   exact absurd (top t ht w.2).symm w.1
 exact leastF_ext fun x => ⟨half ha hb h1 h2 x, half hb ha h2 h1 x⟩
end Go.Proofs.YtpnghcaccfnngaaGreatDoor.AM
namespace Go.Proofs.YtpnghcaccfnngaaGreatDoor.AM
open Go Pl
theorem lst_cases (s : Sys) (l : List Rt) : (∃ e : Int, e ≠ 0 ∧ rdE s (sysE s).2.2 [l] = e ∧ lstV s l = .tup [rgL [], .i e]) ∨ (rdE s (sysE s).2.2 [l] = 0 ∧ (sysE s).2.2 = 0 ∧ l.length ≤ 40 ∧ (∀ r ∈ l, RgOk s r) ∧ lstV s l = .tup [rgL (leastF s l), .i 0]) := by
 unfold lstV
 by_cases h : rdE s (sysE s).2.2 [l] = 0
 ·obtain ⟨h0, h1⟩ := rdE_ok h
  obtain ⟨h40, hr⟩ := rgsE_ok h1
  exact .inr ⟨h, h0, h40, hr, by rw [if_neg (fun hh => hh h)]⟩
 ·exact .inl ⟨_, h, rfl, by rw [if_pos h]⟩
theorem rdE_of {s : Sys} {ls : List (List Rt)} (h0 : (sysE s).2.2 = 0) (h : ∀ l ∈ ls, rgsE s l = 0) : rdE s (sysE s).2.2 ls = 0 := by
 rw [h0]
 unfold rdE
 induction ls with
 | nil => rfl
 | cons l ls ih =>
  rw [List.foldl_cons, if_pos rfl, h l (by simp)]
  exact ih fun l hl => h l (by simp [hl])
theorem sl_addr2 {l off n k : Nat} (h : k < n) (σ : List AObj) : f_iaS 2 [.sl l off n 2, .cv (.int .i64 k)] σ = some (.ptr l (off + k * 2), σ) := by
 simp [f_iaS, h]
def Few (s : Sys) (l L : List Rt) : Prop := L.length = l.length ∧ ∀ j, j < l.length → RgOk s L[j]! ∧ (L[j]!).1 = (l[j]!).1 ∧ ∀ k, bit (L[j]!).2 k = true → bit (l[j]!).2 k = true
theorem Few.all {s : Sys} {l L : List Rt} (h : Few s l L) : ∀ r ∈ L, RgOk s r := fun r hr => by
 obtain ⟨j, hj, rfl⟩ := List.mem_iff_getElem.1 hr
 have := (h.2 j (by rw [← h.1]; exact hj)).1
 rwa [getElem!_pos L j hj] at this
end Go.Proofs.YtpnghcaccfnngaaGreatDoor.AM
namespace Go.Proofs.YtpnghcaccfnngaaGreatDoor.AM
variable [Dr]
open Go
abbrev vs12 : List Nat := [0, 1, 2, 3, 6, 7, 8, 9, 10, 11, 12, 13, 14, 15, 16, 36, 50, 55, 91, 111, 133, 140, 157]
def ic12l0 : IC := (.seq (.seq (.region [jv 13, jF 1 3, jl 1, je 2, jw 21 (.bin .lss .int) [.t 0, .t 3]])
 (.cond 21 .skip
 (.exit 4)))
 (.seq (.block 5 (.seq (.region [jF 1 11, jl 0, jv 13, jk 52 [.t 1, .t 2], jq .not [.t 3], jt 4, jh 5 true 2, jg 5 true (.iaS 1) [.t 6, jn 0], ji 5 true 7, jg 5 true (.conv .i64) [.t 8], jh 5 true 13, jg 5 true (.bin .shr .int) [.t 9, .t 10], jg 5 true (.bin .rem .int) [.t 11, jn 2], jg 5 true (.bin .eql .int) [.t 12, jn 1], jw 22 .pick [.t 5, .t 13, jB false]])
 (.cond 22 (.dr [[], [0], [], [2], [1, 3], [0, 1, 2, 3, 4], [5, 4, 3, 0, 1, 2, 3, 4]] [jF 1 11, jl 0, jv 13, jk 49 [.t 2], jq (.bin .add .int) [.t 1, .t 3], jF 1 11, jq (.store 1) [.t 5, .t 4]])
 .skip)))
 (.region [jv 13, jq (.bin .add .int) [.t 0, jn 1], jm 13 1])))
def ic12l1 : IC := (.seq (.seq (.region [jv 12, jF 0 3, jl 1, je 2, jw 19 (.bin .lss .int) [.t 0, .t 3]])
 (.cond 19 .skip
 (.exit 2)))
 (.seq (.block 3 (.seq (.region [jN 2 3, jF 0 10, jl 1, jk 51 [.t 0, .t 2], jv 12, ja 1 3 4, jl 5, jt 6, jh 7 true 2, jh 7 true 2, jg 7 true (.len false) [.t 9], jg 7 true (.bin .sub .int) [.t 10, jn 1], jg 7 true (.iaS 1) [.t 8, .t 11], ji 7 true 12, jg 7 true (.conv .i64) [.t 13], jh 7 true 12, jg 7 true (.bin .add .int) [.t 15, jn 1], jg 7 true (.bin .rem .int) [.t 14, .t 16], jg 7 true (.bin .eql .int) [.t 17, jn 0], jw 20 .pick [.t 7, .t 18, jB false]])
 (.cond 20 (.region [jv 12, jF 0 11, jq (.store 1) [.t 1, .t 0]])
 .skip)))
 (.region [jv 12, jq (.bin .add .int) [.t 0, jn 1], jm 12 1])))
def ic12l2 : IC := (.seq (.seq (.region [jv 8, jv 1, je 1, jw 16 (.bin .lss .int) [.t 0, .t 2]])
 (.cond 16 .skip
 (.exit 0)))
 (.seq (.block 1 (.seq (.region [jz 9 0])
 (.seq (.seq (.region [jv 2, je 0, jw 17 (.bin .gtr .int) [.t 1, jn 0]])
 (.cond 17 (.region [jv 2, jv 8, jv 2, je 2, jq (.bin .rem .int) [.t 1, .t 3], ja 1 0 4, jl 5, jq (.conv .i64) [.t 6], jv 7, je 8, jq (.bin .add .int) [.t 9, jn 1], jq (.bin .rem .int) [.t 7, .t 10], jm 9 11])
 .skip))
 (.dr [[], [], [], [1, 2], [0, 3], [], [], [5, 6], [7], [8], [4, 9, 4], [], [], [11, 12], [10, 13, 10], [14, 14, 0, 1, 2, 3, 4, 5, 6, 7, 8, 9, 10, 11, 12, 13, 14]] [jq (.bslice 2 0 [] []) [], jv 7, jv 9, jq (.slS 2 false true) [.t 1, .t 2], jq (.append 2 16) [.t 0, .t 3], jv 1, jv 8, ja 2 5 6, jq (.loadN 2) [.t 7], jq (.bslice 2 1 [(.cv (.int .i64 0)), (.cv (.int .i64 0))] [(0, 2)]) [.t 8], jq (.append 2 16) [.t 4, .t 9], jv 7, jv 9, jq (.slS 2 true false) [.t 11, .t 12], jq (.append 2 16) [.t 10, .t 13], jm 7 14]))))
 (.region [jv 8, jq (.bin .add .int) [.t 0, jn 1], jm 8 1])))
def ic12 : IC := (.seq (.region [jb 3 0, jw 4 .mv [jB false]])
 (.seq (.region [jN 2 3, jv 1, jk 31 [.t 0, .t 1], jt 2, jx 0 3, jx 1 3, jm 5 4, jm 6 5])
 (.seq (.seq (.region [jv 6, jq (.bin .neq .int) [.t 0, jn 0], jt 1, jg 2 false (.loadN 2) [.v 3], jh 2 false 1, jg 2 false (.bslice 1 1 [(.cv .nils)] [(0, 1)]) [.t 4], jf 2 false 47 [.t 3, .t 5], jg 2 false .not [.t 6], jq .pick [.t 2, jB true, .t 7], jt 8, jh 9 false 1, jg 9 false (.len false) [.t 10], jg 9 false (.bin .eql .int) [.t 11, jn 0], jw 15 .pick [.t 9, jB true, .t 12]])
 (.cond 15 (.seq (.region [jv 6, jq (.bin .eql .int) [.t 0, jn 0], jt 1, jh 2 false 5, jg 2 false (.len false) [.t 3], jg 2 false (.bin .eql .int) [.t 4, jn 0], jq .pick [.t 2, jB true, .t 5], jt 6, jf 7 true 28 [], jq .pick [.t 7, .t 8, jB false], jm 4 9])
 .ret)
 .skip))
 (.seq (.region [jw 7 .mv [jS]])
 (.seq (.seq (.region [jz 8 0])
 (.block 0 (.loop ic12l2)))
 (.seq (.seq (.region [jv 2, je 0, jq (.bin .gtr .int) [.t 1, jn 0], jt 2, jh 3 true 7, jg 3 true (.len false) [.t 4], jg 3 true (.bin .add .int) [.t 5, jn 1], jg 3 true (.bin .lss .int) [.t 6, jn 40], jw 18 .pick [.t 3, .t 7, jB false]])
 (.cond 18 (.seq (.region [jv 7, jv 2, jq (.iaS 1) [.t 1, jn 0], jl 2, jq (.conv .i64) [.t 3], jv 7, je 5, jq (.bin .rem .int) [.t 4, .t 6], ja 2 0 7, jq (.loadN 2) [.t 8], jw 10 (.alloc [(.cv (.int .i64 0)), (.cv (.int .i64 0))]) [], jq (.store 2) [.v 10, .t 9]])
 (.seq (.region [jF 0 10, jl 0, jF 1 10, jl 2, jq (.build [(.cv (.int .i64 0)), (.cv (.int .i64 0))] [(0, 1), (1, 1)]) [.t 1, .t 3], jw 11 (.alloc [(.cv (.int .i64 0)), (.cv (.int .i64 0))]) [], jq (.store 2) [.v 11, .t 4]])
 (.seq (.seq (.region [jz 12 0])
 (.block 2 (.loop ic12l1)))
 (.seq (.seq (.region [jz 13 0])
 (.block 4 (.loop ic12l0)))
 (.region [jv 7, jN 2 10, jN 2 11, jq (.bslice 2 2 [(.cv (.int .i64 0)), (.cv (.int .i64 0)), (.cv (.int .i64 0)), (.cv (.int .i64 0))] [(0, 2), (2, 2)]) [.t 1, .t 2], jq (.append 2 16) [.t 0, .t 3], jm 7 4])))))
 .skip))
 (.seq (.region [jN 2 3, jv 7, jk 31 [.t 0, .t 1], jt 2, jx 0 3, jx 1 3, jm 14 4, jm 6 5])
 (.seq (.region [jv 6, jq (.bin .eql .int) [.t 0, jn 0], jt 1, jh 2 true 5, jh 2 true 14, jf 2 true 33 [.t 3, .t 4], jq .pick [.t 2, .t 5, jB false], jt 6, jf 7 true 28 [], jq .pick [.t 7, .t 8, jB false], jm 4 9])
 .ret))))))))
abbrev rs12 : List RC := [(.v 4)]
theorem fok12 (p : Bool) : FnOk Tryz.prog 12 ⟨ic12, vs12, 185, rs12, p⟩ := .mk2 Tryz.func12 (by kernel_rfl) (by kernel_rfl) (by kernel_rfl) (by kernel_rfl) (by kernel_rfl)
end Go.Proofs.YtpnghcaccfnngaaGreatDoor.AM
namespace Go.Proofs.YtpnghcaccfnngaaGreatDoor.AM
open Go Pl
theorem rens_cv (g : Nat → Nat) : ∀ cs : List CV, rens g (cs.map AV.cv) = cs.map AV.cv
 | [] => rfl
 | c :: cs => by
  have := rens_cv g cs
  simp only [List.map_cons, rens, this]; rfl
theorem locs_cv (k : Nat) (cs : List CV) : locsInAll k (cs.map AV.cv) = true := by
 rw [locsInAll_iff]
 intro v hv
 obtain ⟨z, _, rfl⟩ := List.mem_map.1 hv
 rfl
theorem app_src {e by_ l n m : Nat} {σ : List AObj} {xs cs : List CV} {w : AV} (hr : rowOf σ l = some (xs.map .cv)) (hs : srcCells σ e w = some (cs.map .cv)) (hw : lenF w = some m) (hx : xs.length = n * e) (hc : cs.length = m * e) (hb : (n + m) * by_ ≤ 2 ^ 44) (hn : n + m ≤ 2 ^ 44) :
  f_append e by_ [.sl l 0 n e, w] σ = some (.sl σ.length 0 (n + m) e, σ.set l .dead ++ [.cells ((xs ++ cs).map .cv)]) := by
 simp only [f_append, hr, hs, hw, Option.bind_some]
 have h1 : True ∧ n * e ≤ (xs.map AV.cv).length ∧ m * e = (cs.map AV.cv).length ∧ (n + m) * by_ ≤ 2 ^ 44 ∧ n + m ≤ 2 ^ 44 ∧ (cs.map AV.cv).all AV.isSc = true := ⟨trivial, by simp [hx], by simp [hc], hb, hn, sc_cv cs⟩
 rw [if_pos h1, List.take_of_length_le (by simp [hx]), List.map_append]
def atX (xs : List Int) (i : Nat) : Nat := if 0 < xs.length then (xs[i % xs.length]?.getD 0).toNat % (i + 1) else 0
theorem atX_le (xs : List Int) (i : Nat) : atX xs i ≤ i := by
 unfold atX
 split
 ·have := Nat.mod_lt (xs[i % xs.length]?.getD 0).toNat (show 0 < i + 1 by omega); omega
 ·omega
def othX (l : List Rt) (xs : List Int) : Nat → List Rt
 | 0 => []
 | i + 1 => (othX l xs i).take (atX xs i) ++ [l[i]!] ++ (othX l xs i).drop (atX xs i)
theorem othX_len (l : List Rt) (xs : List Int) : ∀ i, (othX l xs i).length = i
 | 0 => rfl
 | i + 1 => by
  have := othX_len l xs i
  have := atX_le xs i
  simp only [othX, List.length_append, List.length_take, List.length_drop, List.length_singleton]
  omega
theorem othX_mem {l : List Rt} {xs : List Int} {r : Rt} : ∀ {i}, r ∈ othX l xs i ↔ ∃ j, j < i ∧ r = l[j]!
 | 0 => by simp [othX]
 | i + 1 => by
  have ih := othX_mem (l := l) (xs := xs) (r := r) (i := i)
  have e : r ∈ othX l xs (i + 1) ↔ r ∈ othX l xs i ∨ r = l[i]! := by
   rw [othX]
   have h := List.take_append_drop (atX xs i) (othX l xs i)
   constructor
   ·intro hr
    simp only [List.mem_append, List.mem_singleton] at hr
    rcases hr with (hr | hr) | hr
    ·exact .inl (List.mem_of_mem_take hr)
    ·exact .inr hr
    ·exact .inl (List.mem_of_mem_drop hr)
   ·rintro (hr | hr)
    ·rw [← h] at hr
     simp only [List.mem_append, List.mem_singleton]
     rcases List.mem_append.1 hr with hr | hr
     ·exact .inl (.inl hr)
     ·exact .inr hr
    ·simp only [List.mem_append, List.mem_singleton]; exact .inl (.inr hr)
  rw [e, ih]
  constructor
  ·rintro (⟨j, h1, h2⟩ | h)
   ·exact ⟨j, by omega, h2⟩
   ·exact ⟨i, by omega, h⟩
  ·rintro ⟨j, h1, h2⟩
   rcases Nat.lt_succ_iff_lt_or_eq.1 h1 with h | rfl
   ·exact .inl ⟨j, h, h2⟩
   ·exact .inr h2
def St12 (l : List Rt) (xs : List Int) (sys : AObj) (i : Nat) (v7 : AV) (τ : List AObj) : Prop := (i = 0 ∧ v7 = .cv .nils ∧ τ = [sys, .cells [rgL l]]) ∨ (0 < i ∧ v7 = .sl 2 0 i 2 ∧ τ = [sys, .cells [rgL l], .cells (((othX l xs i).flatMap rgC).map .cv)])
theorem sl2_l {l n a : Nat} (h : a ≤ n) {z : Int} (hz : z = (a : Int)) (σ : List AObj) : f_slS 2 false true [.sl l 0 n 2, .cv (.int .i64 z)] σ = some (.sl l 0 a 2, σ) := by
 subst hz
 simp [f_slS, bnds, bnd, h]
theorem sl2_r {l n a : Nat} (h : a ≤ n) {cs : List CV} (hc : cs.length = n * 2) {z : Int} (hz : z = (a : Int)) : ∃ w, (∀ σ, f_slS 2 true false [.sl l 0 n 2, .cv (.int .i64 z)] σ = some (w, σ)) ∧ (∀ σ, rowOf σ l = some (cs.map .cv) → srcCells σ 2 w = some ((cs.drop (a * 2)).map .cv)) ∧ lenF w = some (n - a) := by
 subst hz
 by_cases hh : a = n ∧ 0 < a
 ·refine ⟨.cv (.rsl [] 0), fun σ => by simp [f_slS, bnds, bnd, h, hh.1, show 0 < n by omega], fun σ _ => ?_, by simp [lenF, hh.1]⟩
  rw [List.drop_eq_nil_of_le (by omega)]; rfl
 ·refine ⟨.sl l (0 + a * 2) (n - a) 2, fun σ => by simp only [f_slS, bnds, bnd]; simp [h, hh], fun σ hr => ?_, rfl⟩
  simp only [srcCells, if_true, hr, Option.bind_some]
  rw [if_pos (by rw [List.length_map]; omega), Nat.zero_add, ← List.map_drop, List.take_of_length_le (by rw [List.length_map, List.length_drop]; omega)]
theorem sl2_n (lo hi : Bool) (h : lo = !hi) {z : Int} (hz : z = 0) (σ : List AObj) : f_slS 2 lo hi [.cv .nils, .cv (.int .i64 z)] σ = some (.cv .nils, σ) := by
 subst hz; subst h
 cases hi <;> simp [f_slS, bnds, bnd]
theorem turn12 {fx : Fx} {c : Prop} {S : St → Prop} {Q : Exit → St → Prop} (h0 : fx.n0 = 0) (hc : c) {sysv lv xv A : AV} {y0 y1 : AObj} {q n : Nat} {i : Int} {v9 v16 v17 : AV} {cs : List CV} {J : List AObj}
  (hq : 2 ≤ q) (hJ : J[q - 2]? = some (.cells (cs.map .cv)))
  (k0 : renO (fun x => if x = 2 then q else x) y0 = y0 ∧ objIn 3 y0 = true ∧ y0.live) (k1 : renO (fun x => if x = 2 then q else x) y1 = y1 ∧ objIn 3 y1 = true ∧ y1.live)
  (m0 : ren (fun x => if x = 2 then q else x) sysv = sysv ∧ locsIn 3 sysv = true) (m1 : ren (fun x => if x = 2 then q else x) lv = lv ∧ locsIn 3 lv = true) (m2 : ren (fun x => if x = 2 then q else x) xv = xv ∧ locsIn 3 xv = true) (m5 : ren (fun x => if x = 2 then q else x) A = A ∧ locsIn 3 A = true)
  (h : S ⟨[sysv, lv, xv, .ptr 0 0, .b false, A, .i 0, .sl 2 0 n 2, .i i, .undef, .undef, .undef, .undef, .undef, .undef, .b false, .undef, .undef, .undef, .undef, .undef, .undef, .undef], [y0, y1, .cells (cs.map .cv)]⟩) :
  kFor fx c S Q .normal ⟨[sysv, lv, xv, .ptr 0 0, .b false, A, .i 0, .sl q 0 n 2, .i i, v9, .undef, .undef, .undef, .undef, .undef, .b false, v16, v17, .undef, .undef, .undef, .undef, .undef], y0 :: y1 :: J⟩ := by
 refine kFor_weak hc (Weak.move (g := fun x => if x = 2 then q else x) (σf := List.replicate (y0 :: y1 :: J).length .dead) h0 ?_ (by simp) ?_ ?_ ?_) h
 ·intro a b hab hb
  have hb : b < 3 := hb
  show (if a = 2 then q else a) < (if b = 2 then q else b)
  split <;> split <;> omega
 ·intro l o ho
  rw [List.getElem?_replicate] at ho
  split at ho
  ·exact .inl (Option.some.inj ho).symm
  ·cases ho
 ·have u : ∀ v, Move1 (fun x => if x = 2 then q else x) 3 (List.replicate (y0 :: y1 :: J).length .dead) v .undef := fun v => .inr (.un _)
  have cl : ∀ v, ren (fun x => if x = 2 then q else x) v = v ∧ locsIn 3 v = true → Move1 (fun x => if x = 2 then q else x) 3 (List.replicate (y0 :: y1 :: J).length .dead) v v := fun v hv => .inl ⟨hv.1.symm, hv.2⟩
  exact .cons (cl _ m0) (.cons (cl _ m1) (.cons (cl _ m2) (.cons (.inl ⟨rfl, rfl⟩) (.cons (cl _ ⟨rfl, rfl⟩) (.cons (cl _ m5) (.cons (cl _ ⟨rfl, rfl⟩) (.cons (.inl ⟨rfl, rfl⟩) (.cons (cl _ ⟨rfl, rfl⟩) (.cons (u _) (.cons (u _) (.cons (u _) (.cons (u _) (.cons (u _) (.cons (u _) (.cons (cl _ ⟨rfl, rfl⟩) (.cons (u _) (.cons (u _) (.cons (u _) (.cons (u _) (.cons (u _) (.cons (u _) (.cons (u _) .nil))))))))))))))))))))))
 ·intro l o2 ho
  match l, ho with
  | 0, ho => cases ho; exact ⟨_, rfl, k0.2.2, .inl ⟨k0.1.symm, k0.2.1⟩⟩
  | 1, ho => cases ho; exact ⟨_, rfl, k1.2.2, .inl ⟨k1.1.symm, k1.2.1⟩⟩
  | 2, ho =>
   cases ho
   refine ⟨.cells (cs.map .cv), ?_, trivial, .inl ⟨?_, ?_⟩⟩
   ·show (y0 :: y1 :: J)[q]? = _
    obtain ⟨p, rfl⟩ : ∃ p, q = p + 2 := ⟨q - 2, by omega⟩
    simpa using hJ
   ·show _ = AObj.cells (rens _ _); rw [rens_cv]
   ·exact locs_cv 3 cs
set_option maxHeartbeats 2000000 in
theorem lc12 (s : Sys) (hs : SSz s) (l : List Rt) (hl : l.length < 2 ^ 63) (xs : List Int) (hx : xs.length < 2 ^ 63) (hb : ∀ x ∈ xs, 0 ≤ x ∧ x ≤ 255) : AC Tryz.prog 12 [sysV s, rgL l, .cv (.rsl (xs.map (.int .u8)) xs.length)] [] fun r _ => r = .b true := by
 refine AC_FE (fok12 true) (Nat.le_of_ble_eq_true rfl) ?_
 have p1 := p31 s hs l hl
 have h47 := fun σ l0 h0 => c47 s hs [l] (by simpa using hl) (by simp) σ l0 h0
 simp only [ic12, f_box, cellsOf, evA, if_true, if_false, beq_false, simprocAttr]
 rcases lst_cases s l with ⟨e, he, hre, hd⟩ | ⟨hre, h0, h40, hra, hd⟩
 all_goals
  rw [hd] at p1
  rw [hre] at h47
  refine p1.call frz ?_
 ·have he0 : (e != 0) = true := by simpa using he
  have he1 : (e == 0) = false := by simpa using he
  simp only [he0, he1, evA, if_true, if_false, beq_false, simprocAttr]
  refine awake.call .nil ?_
  simp only [evA, if_true, if_false, beq_false, simprocAttr]
 have hz : ((0 : Int) == 0) = true := rfl
 rw [hz] at h47
 simp only [evA, if_true, if_false, beq_false, simprocAttr]
 by_cases hl0 : l.length = 0
 ·have hd0 : ((l.length : Int) == 0) = true := by rw [hl0]; rfl
  refine (h47 _ 1 rfl).run ?_
  simp only [hd0, evA, if_true, if_false, beq_false, simprocAttr]
  refine awake.call .nil ?_
  simp only [evA, if_true, if_false, beq_false, simprocAttr]
 have hd0 : ((l.length : Int) == 0) = false := by rw [beq_eq_false_iff_ne]; omega
 refine (h47 _ 1 rfl).run ?_
 simp only [hd0, evA, if_true, if_false, beq_false, simprocAttr]
 refine IL_for l.length (fun i s' => ∃ v7 τ, St12 l xs (.cells [.cv (clsR s.cl), .cv (strR s.co)]) i v7 τ ∧ s' = ⟨[sysV s, rgL l, .cv (.rsl (xs.map (.int .u8)) xs.length), .ptr 0 0, .b false, rgL (leastF s l), .i 0, v7, .i i, .undef, .undef, .undef, .undef, .undef, .undef, .b false, .undef, .undef, .undef, .undef, .undef, .undef, .undef], τ⟩) ?_ 0 (Nat.zero_le _) ⟨_, _, .inl ⟨rfl, rfl, rfl⟩, rfl⟩
 rintro i s' hi ⟨v7, τ, hst, rfl⟩
 have hol := othX_len l xs i
 by_cases hin : i < l.length
 ·have hat := atX_le xs i
  have hws : IntKind.i64.wrap ((i : Int) + 1) = ((i + 1 : Nat) : Int) := wrap_succ (by omega)
  obtain ⟨a, ha⟩ : ∃ a, a = atX xs i := ⟨_, rfl⟩
  have haI : (if 0 < xs.length then (xs[i % xs.length]?.getD 0).toNat % (i + 1) else 0) = a := by rw [ha]; rfl
  have hO1 : othX l xs (i + 1) = (othX l xs i).take a ++ [l[i]!] ++ (othX l xs i).drop a := by rw [othX, ha]
  rw [← ha] at hat
  clear ha
  have hzc : zcells 0 [] = [] := rfl
  have hxs2 : ∀ j, j < xs.length → 0 ≤ xs[j]?.getD 0 ∧ xs[j]?.getD 0 ≤ 255 := fun j hj => by
   rw [List.getElem?_eq_getElem hj]; exact hb _ (List.getElem_mem hj)
  rcases hst with ⟨hi0, rfl, rfl⟩ | ⟨hi0, rfl, rfl⟩
  ·have ha0 : a = 0 := by omega
   have hN : (othX l xs (i + 1)).flatMap rgC = rgC l[i]! := by
    rw [hO1]; subst hi0; simp [othX]
   have b1 : f_append 2 16 [.sl 2 0 0 2, .cv .nils] [.cells [.cv (clsR s.cl), .cv (strR s.co)], .cells [rgL l], .cells []] = some (.sl 3 0 0 2, [.cells [.cv (clsR s.cl), .cv (strR s.co)], .cells [rgL l], .dead, .cells []]) :=
    app_src (l := 2) (n := 0) (m := 0) (xs := []) (cs := []) (w := .cv .nils) rfl rfl rfl rfl rfl (by omega) (by omega)
   have b2 : f_append 2 16 [.sl 3 0 0 2, .sl 4 0 1 2] [.cells [.cv (clsR s.cl), .cv (strR s.co)], .cells [rgL l], .dead, .cells [], .cells [.i (l[i]!).1, .i (l[i]!).2]] = some (.sl 5 0 1 2, [.cells [.cv (clsR s.cl), .cv (strR s.co)], .cells [rgL l], .dead, .dead, .cells [.i (l[i]!).1, .i (l[i]!).2], .cells [.i (l[i]!).1, .i (l[i]!).2]]) :=
    app_src (l := 3) (n := 0) (m := 1) (xs := []) (cs := rgC l[i]!) (w := .sl 4 0 1 2) rfl rfl rfl rfl rfl (by omega) (by omega)
   have b3 : f_append 2 16 [.sl 5 0 1 2, .cv .nils] [.cells [.cv (clsR s.cl), .cv (strR s.co)], .cells [rgL l], .dead, .dead, .cells [.i (l[i]!).1, .i (l[i]!).2], .cells [.i (l[i]!).1, .i (l[i]!).2]] = some (.sl 6 0 (i + 1) 2, [.cells [.cv (clsR s.cl), .cv (strR s.co)], .cells [rgL l], .dead, .dead, .cells [.i (l[i]!).1, .i (l[i]!).2], .dead, .cells (((othX l xs (i + 1)).flatMap rgC).map .cv)]) := by
    rw [hN, show i + 1 = 1 + 0 by omega]
    exact app_src (l := 5) (n := 1) (m := 0) (xs := rgC l[i]!) (cs := []) (w := .cv .nils) rfl rfl rfl rfl rfl (by omega) (by omega)
   by_cases hx0 : 0 < xs.length
   ·have hm := Nat.mod_lt i hx0
    have hxb := hxs2 _ hm
    rw [if_pos hx0] at haI
    obtain ⟨b, hbx⟩ : ∃ b : Nat, xs[i % xs.length]?.getD 0 = (b : Int) := ⟨(xs[i % xs.length]?.getD 0).toNat, by omega⟩
    have hwx : IntKind.i64.wrap (b : Int) = (b : Int) := wrap_nat (by omega)
    have hn0 : ¬ ((xs.length : Int) = 0) := by omega
    have htm1 : (i : Int).tmod (xs.length : Int) = ((i % xs.length : Nat) : Int) := rfl
    have htmA : (b : Int).tmod 1 = 0 := Int.tmod_one _
    have hx2 : decide ((xs.length : Int) > 0) = true := decide_eq_true (by omega)
    generalize i % xs.length = j at htm1 hm hbx
    have hld : (xs.map (CV.int .u8))[j]? = some (.int .u8 b) := by
     rw [List.getElem?_eq_getElem hm] at hbx
     simp only [Option.getD_some] at hbx
     rw [List.getElem?_map, List.getElem?_eq_getElem hm, hbx]; rfl
    simp only [ic12l2, Int.ofNat_lt, hin, hx2, hwx, hn0, htm1, htmA, ints_addr hm, hld, Option.map_some, evA, if_true, if_false, beq_false, simprocAttr]
    refine DW_s [] [(0, 9), (4, 9), (8, 0), (8, 4), (9, 0), (9, 4)] hmix (by kernel_rfl) rfl ?_
    simp only [hzc, sl2_n false true rfl rfl, sl2_n true false rfl rfl, ia_rg hin, rg_ld hin, b1, b2, b3, hws, evA, if_true, if_false, beq_false, simprocAttr]
    exact turn12 rfl (by first | trivial | omega) (q := 6) (by omega) rfl ⟨rfl, rfl, trivial⟩ ⟨rfl, rfl, trivial⟩ ⟨rfl, rfl⟩ ⟨rfl, rfl⟩ ⟨rfl, rfl⟩ ⟨rfl, rfl⟩ ⟨_, _, .inr ⟨by omega, rfl, rfl⟩, rfl⟩
   ·have hx2 : decide ((xs.length : Int) > 0) = false := decide_eq_false (by omega)
    simp only [ic12l2, Int.ofNat_lt, hin, hx2, evA, if_true, if_false, beq_false, simprocAttr]
    refine DW_s [] [(0, 9), (4, 9), (8, 0), (8, 4), (9, 0), (9, 4)] hmix (by kernel_rfl) rfl ?_
    simp only [hzc, sl2_n false true rfl rfl, sl2_n true false rfl rfl, ia_rg hin, rg_ld hin, b1, b2, b3, hws, evA, if_true, if_false, beq_false, simprocAttr]
    exact turn12 rfl (by first | trivial | omega) (q := 6) (by omega) rfl ⟨rfl, rfl, trivial⟩ ⟨rfl, rfl, trivial⟩ ⟨rfl, rfl⟩ ⟨rfl, rfl⟩ ⟨rfl, rfl⟩ ⟨rfl, rfl⟩ ⟨_, _, .inr ⟨by omega, rfl, rfl⟩, rfl⟩
  ·generalize othX l xs i = O at *
   have tl : (O.take a).length = a := by rw [List.length_take]; omega
   have hT : (O.take a).flatMap rgC = (O.flatMap rgC).take (a * 2) := (flat_take rgC_len O a).symm
   have hDr : (O.drop a).flatMap rgC = (O.flatMap rgC).drop (a * 2) := (flat_drop rgC_len O a).symm
   have hOl : (O.flatMap rgC).length = i * 2 := by rw [flat_len rgC_len, hol]
   have e1 := fun (z : Int) (hz : z = (a : Int)) => sl2_l (l := 2) (n := i) hat hz
   have b1 : f_append 2 16 [.sl 3 0 0 2, .sl 2 0 a 2] [.cells [.cv (clsR s.cl), .cv (strR s.co)], .cells [rgL l], .cells ((O.flatMap rgC).map .cv), .cells []] = some (.sl 4 0 a 2, [.cells [.cv (clsR s.cl), .cv (strR s.co)], .cells [rgL l], .cells ((O.flatMap rgC).map .cv), .dead, .cells (((O.take a).flatMap rgC).map .cv)]) := by
    rw [app_src (l := 3) (n := 0) (m := a) (xs := []) (cs := (O.take a).flatMap rgC) (w := .sl 2 0 a 2) rfl (by
     have hr : rowOf [.cells [.cv (clsR s.cl), .cv (strR s.co)], .cells [rgL l], .cells ((O.flatMap rgC).map .cv), .cells []] 2 = some ((O.flatMap rgC).map .cv) := rfl
     simp only [srcCells, if_true, hr, Option.bind_some]
     rw [if_pos (by rw [List.length_map]; omega), hT, List.drop_zero, ← List.map_take]) rfl rfl (by rw [flat_len rgC_len, tl]) (by omega) (by omega), Nat.zero_add]
    rfl
   have b2 : f_append 2 16 [.sl 4 0 a 2, .sl 5 0 1 2] [.cells [.cv (clsR s.cl), .cv (strR s.co)], .cells [rgL l], .cells ((O.flatMap rgC).map .cv), .dead, .cells (((O.take a).flatMap rgC).map .cv), .cells [.i (l[i]!).1, .i (l[i]!).2]] = some (.sl 6 0 (a + 1) 2, [.cells [.cv (clsR s.cl), .cv (strR s.co)], .cells [rgL l], .cells ((O.flatMap rgC).map .cv), .dead, .dead, .cells [.i (l[i]!).1, .i (l[i]!).2], .cells (((O.take a).flatMap rgC ++ rgC l[i]!).map .cv)]) :=
    app_src (l := 4) (n := a) (m := 1) (xs := (O.take a).flatMap rgC) (cs := rgC l[i]!) (w := .sl 5 0 1 2) rfl rfl rfl (by rw [flat_len rgC_len, tl]) rfl (by omega) (by omega)
   have main : ∀ z : Int, z = (a : Int) → ∃ w, (∀ σ, f_slS 2 true false [.sl 2 0 i 2, .cv (.int .i64 z)] σ = some (w, σ)) ∧ f_append 2 16 [.sl 6 0 (a + 1) 2, w] [.cells [.cv (clsR s.cl), .cv (strR s.co)], .cells [rgL l], .cells ((O.flatMap rgC).map .cv), .dead, .dead, .cells [.i (l[i]!).1, .i (l[i]!).2], .cells (((O.take a).flatMap rgC ++ rgC l[i]!).map .cv)] = some (.sl 7 0 (i + 1) 2, [.cells [.cv (clsR s.cl), .cv (strR s.co)], .cells [rgL l], .cells ((O.flatMap rgC).map .cv), .dead, .dead, .cells [.i (l[i]!).1, .i (l[i]!).2], .dead, .cells (((othX l xs (i + 1)).flatMap rgC).map .cv)]) := fun z hz => by
    obtain ⟨w, w1, w2, w3⟩ := sl2_r (l := 2) hat hOl hz
    refine ⟨w, w1, ?_⟩
    rw [app_src (l := 6) (n := a + 1) (m := i - a) (xs := (O.take a).flatMap rgC ++ rgC l[i]!) (cs := (O.drop a).flatMap rgC) (w := w) rfl (by rw [w2 _ rfl, hDr]) w3 (by rw [List.length_append, flat_len rgC_len, tl, rgC_len]; omega) (by rw [flat_len rgC_len, List.length_drop]; omega) (by omega) (by omega), show a + 1 + (i - a) = i + 1 by omega, hO1]
    simp
   by_cases hx0 : 0 < xs.length
   ·have hm := Nat.mod_lt i hx0
    have hxb := hxs2 _ hm
    rw [if_pos hx0] at haI
    obtain ⟨b, hbx⟩ : ∃ b : Nat, xs[i % xs.length]?.getD 0 = (b : Int) := ⟨(xs[i % xs.length]?.getD 0).toNat, by omega⟩
    rw [hbx, Int.toNat_natCast] at haI
    have hwx : IntKind.i64.wrap (b : Int) = (b : Int) := wrap_nat (by omega)
    have hn0 : ¬ ((xs.length : Int) = 0) := by omega
    have hn1 : ¬ (((i + 1 : Nat) : Int) = 0) := by omega
    have htm1 : (i : Int).tmod (xs.length : Int) = ((i % xs.length : Nat) : Int) := rfl
    have htm2 : (b : Int).tmod ((i + 1 : Nat) : Int) = (a : Int) := by rw [← haI]; rfl
    have hx2 : decide ((xs.length : Int) > 0) = true := decide_eq_true (by omega)
    obtain ⟨w, w1, b3⟩ := main (a : Int) rfl
    generalize i % xs.length = j at htm1 hm hbx
    have hld : (xs.map (CV.int .u8))[j]? = some (.int .u8 b) := by
     rw [List.getElem?_eq_getElem hm] at hbx
     simp only [Option.getD_some] at hbx
     rw [List.getElem?_map, List.getElem?_eq_getElem hm, hbx]; rfl
    simp only [ic12l2, Int.ofNat_lt, hin, hx2, hws, hwx, hn0, hn1, htm1, htm2, ints_addr hm, hld, Option.map_some, evA, if_true, if_false, beq_false, simprocAttr]
    refine DW_s [] [(0, 9), (4, 9), (8, 0), (8, 4), (9, 0), (9, 4)] hmix (by kernel_rfl) rfl ?_
    simp only [hzc, e1 _ rfl, w1, ia_rg hin, rg_ld hin, b1, b2, b3, hws, evA, if_true, if_false, beq_false, simprocAttr]
    exact turn12 rfl (by first | trivial | omega) (q := 7) (by omega) rfl ⟨rfl, rfl, trivial⟩ ⟨rfl, rfl, trivial⟩ ⟨rfl, rfl⟩ ⟨rfl, rfl⟩ ⟨rfl, rfl⟩ ⟨rfl, rfl⟩ ⟨_, _, .inr ⟨by omega, rfl, rfl⟩, rfl⟩
   ·have hx2 : decide ((xs.length : Int) > 0) = false := decide_eq_false (by omega)
    rw [if_neg hx0] at haI
    obtain ⟨w, w1, b3⟩ := main 0 (by omega)
    simp only [ic12l2, Int.ofNat_lt, hin, hx2, evA, if_true, if_false, beq_false, simprocAttr]
    refine DW_s [] [(0, 9), (4, 9), (8, 0), (8, 4), (9, 0), (9, 4)] hmix (by kernel_rfl) rfl ?_
    simp only [hzc, e1 0 (by omega), w1, ia_rg hin, rg_ld hin, b1, b2, b3, hws, evA, if_true, if_false, beq_false, simprocAttr]
    exact turn12 rfl (by first | trivial | omega) (q := 7) (by omega) rfl ⟨rfl, rfl, trivial⟩ ⟨rfl, rfl, trivial⟩ ⟨rfl, rfl⟩ ⟨rfl, rfl⟩ ⟨rfl, rfl⟩ ⟨rfl, rfl⟩ ⟨_, _, .inr ⟨by omega, rfl, rfl⟩, rfl⟩
 ·have hin' : i = l.length := by omega
  subst hin'
  rcases hst with ⟨hi0, _⟩ | ⟨hi0, rfl, rfl⟩
  ·exact absurd hi0 hl0
  have hg := gd_of h0
  have hm8 := hg.m8
  have n12 := hg.n12
  have hbp := pow_bd hm8
  have hmem : ∀ r, r ∈ othX l xs l.length ↔ r ∈ l := fun r => by
   rw [othX_mem, List.mem_iff_getElem]
   constructor
   ·rintro ⟨j, hj, rfl⟩; exact ⟨j, hj, (getElem!_pos l j hj).symm⟩
   ·rintro ⟨j, hj, rfl⟩; exact ⟨j, hj, (getElem!_pos l j hj).symm⟩
  generalize othX l xs l.length = O at *
  have hOr : ∀ r ∈ O, RgOk s r := fun r hr => hra r ((hmem r).1 hr)
  have hlo : leastF s O = leastF s l := leastF_congr hmem
  have la := leastF_len s l
  have hrA := leastF_ok (s := s) hra
  have h33 := c33 (leastF s l) (leastF s l) (by omega) (by omega) (fun r hr => (hrA r hr).w n12 hm8) (fun r hr => (hrA r hr).w n12 hm8)
  rw [decide_eq_true rfl] at h33
  have p2 : ∀ L : List Rt, L.length ≤ 40 → (∀ r ∈ L, RgOk s r) → leastF s L = leastF s l → PC Tryz.prog 31 [sysV s, rgL L] (.tup [rgL (leastF s l), .i 0]) := fun L h1 h2 h3 => by
   have := p31 s hs L (by omega)
   have hreL : rdE s (sysE s).2.2 [L] = 0 := rdE_of h0 (by simp only [List.mem_singleton, forall_eq]; exact rgsE_of h1 h2)
   unfold lstV at this
   rwa [if_neg (fun hh => hh hreL), h3] at this
  generalize leastF s l = A at *
  have hwsn : IntKind.i64.wrap ((l.length : Int) + 1) = ((l.length + 1 : Nat) : Int) := wrap_succ (by omega)
  by_cases hc18 : 0 < xs.length ∧ l.length + 1 < 40
  rotate_left
  ·have hA : AccS 2 [.cells [.cv (clsR s.cl), .cv (strR s.co)], .cells [rgL l], .cells ((O.flatMap rgC).map .cv)] (.sl 2 0 l.length 2) O.length (O.flatMap rgC) := .inr ⟨2, by rw [hol], flat_len rgC_len _, rfl⟩
   have p3 := p2 O (by omega) hOr hlo
   by_cases hx0 : 0 < xs.length
   ·have hx2 : decide ((xs.length : Int) > 0) = true := decide_eq_true (by omega)
    have hlt : ¬ ((l.length + 1 : Nat) : Int) < 40 := by omega
    simp only [ic12l2, Int.ofNat_lt, hin, hx2, hwsn, hlt, evA, if_true, if_false, beq_false, simprocAttr]
    refine p3.call (.cons (.agg (.cons (.c (.c _ trivial)) (.cons (.c (.c _ trivial)) .nil))) (.cons (accS_frz hA (fun _ _ => trivial)) .nil)) ?_
    simp only [evA, if_true, if_false, beq_false, simprocAttr]
    refine h33.call frz ?_
    simp only [evA, if_true, if_false, beq_false, simprocAttr]
    refine awake.call .nil ?_
    simp only [evA, if_true, if_false, beq_false, simprocAttr]
   ·have hx2 : decide ((xs.length : Int) > 0) = false := decide_eq_false (by omega)
    simp only [ic12l2, Int.ofNat_lt, hin, hx2, evA, if_true, if_false, beq_false, simprocAttr]
    refine p3.call (.cons (.agg (.cons (.c (.c _ trivial)) (.cons (.c (.c _ trivial)) .nil))) (.cons (accS_frz hA (fun _ _ => trivial)) .nil)) ?_
    simp only [evA, if_true, if_false, beq_false, simprocAttr]
    refine h33.call frz ?_
    simp only [evA, if_true, if_false, beq_false, simprocAttr]
    refine awake.call .nil ?_
    simp only [evA, if_true, if_false, beq_false, simprocAttr]
  ·obtain ⟨hx0, hlt40⟩ := hc18
   have hx2 : decide ((xs.length : Int) > 0) = true := decide_eq_true (by omega)
   have hlt : ((l.length + 1 : Nat) : Int) < 40 := by omega
   have hget : ∀ j, j < xs.length → ∃ b : Nat, (xs.map (CV.int .u8))[j]? = some (.int .u8 b) ∧ b ≤ 255 := fun j hj => by
    have := hb _ (List.getElem_mem hj)
    refine ⟨(xs[j]).toNat, ?_, by omega⟩
    rw [List.getElem?_map, List.getElem?_eq_getElem hj]
    simp only [Option.map_some]
    rw [Int.toNat_of_nonneg this.1]
   obtain ⟨b, hb0, hb255⟩ := hget 0 hx0
   obtain ⟨b2, hbl, hb2⟩ := hget (xs.length - 1) (by omega)
   have hwb : IntKind.i64.wrap (b : Int) = (b : Int) := wrap_nat (by omega)
   have hwb2 : IntKind.i64.wrap (b2 : Int) = (b2 : Int) := wrap_nat (by omega)
   have hn0 : ¬ ((l.length : Int) = 0) := by omega
   have hjn := Nat.mod_lt b (show 0 < l.length by omega)
   have htm : (b : Int).tmod (l.length : Int) = ((b % l.length : Nat) : Int) := rfl
   generalize b % l.length = j at htm hjn
   have hjO : j < O.length := by omega
   have hkm : O[j]! ∈ O := by rw [getElem!_pos O j hjO]; exact List.getElem_mem _
   have hko := hOr _ hkm
   have hld : f_loadN 2 [.ptr 2 (j * 2)] [.cells [.cv (clsR s.cl), .cv (strR s.co)], .cells [rgL l], .cells ((O.flatMap rgC).map .cv)] = some (.agg [.i (O[j]!).1, .i (O[j]!).2], [.cells [.cv (clsR s.cl), .cv (strR s.co)], .cells [rgL l], .cells ((O.flatMap rgC).map .cv)]) := by
    have hr : rowOf [.cells [.cv (clsR s.cl), .cv (strR s.co)], .cells [rgL l], .cells ((O.flatMap rgC).map .cv)] 2 = some ((O.flatMap rgC).map .cv) := rfl
    have h1 : j * 2 + 2 ≤ ((O.flatMap rgC).map AV.cv).length := by rw [List.length_map, flat_len rgC_len]; omega
    have h2 := flat_at rgC_len hjO
    simp only [f_loadN, hr, Option.bind_some, h1, if_true, ← List.map_drop, ← List.map_take, h2]; rfl
   have hi0x : ∀ σ, f_iaS 1 [.cv (.rsl (xs.map (.int .u8)) xs.length), .cv (.int .i64 0)] σ = some (.cv (.rp (xs.map (.int .u8)) 0), σ) := fun σ => ints_addr (k := 0) hx0 σ
   simp only [ic12l2, Int.ofNat_lt, hin, hx2, hwsn, hlt, hi0x, hb0, hwb, hn0, htm, sl_addr2 hjn, Nat.zero_add, hld, Option.map_some, evA, if_true, if_false, beq_false, simprocAttr]
   obtain ⟨q, hq⟩ : ∃ q : Nat, (O[j]!).1 = (q : Int) := ⟨(O[j]!).1.toNat, by have := hko.1; omega⟩
   obtain ⟨k2, hk2⟩ : ∃ k2, (O[j]!).2 = k2 := ⟨_, rfl⟩
   have hko1 := hko.1; have hko2 := hko.2
   have hkp : O[j]! = ((q : Int), k2) := Prod.ext hq hk2
   rw [hq] at hko1 ⊢
   rw [hk2] at hko2 ⊢
   have hqn : q < s.cl.length := by omega
   have p40 : (2 : Nat) ^ 40 = 1099511627776 := by decide
   have hcov := c51 s hs (by omega) hg.ok q hqn
   refine IL_for s.cl.length (fun c s' => ∃ W : Nat, ∃ v13 v19 v20 v21 v22, (W < s.cl.length ∧ covB s q W = true) ∧ s' = ⟨[sysV s, rgL l, .cv (.rsl (xs.map (.int .u8)) xs.length), .ptr 0 0, .b false, rgL A, .i 0, .sl 2 0 l.length 2, .i l.length, .undef, .ptr 3 0, .ptr 4 0, .i c, v13, .undef, .b false, .b false, .undef, .b true, v19, v20, v21, v22], [.cells [.cv (clsR s.cl), .cv (strR s.co)], .cells [rgL l], .cells ((O.flatMap rgC).map .cv), .cells [.i q, .i k2], .cells [.i W, .i k2]]⟩) ?_ 0 (Nat.zero_le _) ⟨q, _, _, _, _, _, ⟨hqn, covB_refl hg.ok hqn⟩, rfl⟩
   rintro c s' hc ⟨W, v13, v19, v20, v21, v22, ⟨hW1, hW2⟩, rfl⟩
   by_cases hcn : c < s.cl.length
   ·have hcg := cov_get (s := s) (c := q) hcn
    have hws1 : IntKind.i64.wrap ((c : Int) + 1) = ((c + 1 : Nat) : Int) := wrap_succ (by omega)
    have hwl : IntKind.i64.wrap ((xs.length : Int) - 1) = ((xs.length - 1 : Nat) : Int) := by rw [wrap_in (by omega)]; omega
    have hn1 : ¬ (((c + 1 : Nat) : Int) = 0) := by omega
    have hlast := ints_addr (kd := .u8) (zs := xs) (n := xs.length) (k := xs.length - 1) (by omega)
    cases hcb : covB s q c with
    | false =>
     rw [hcb] at hcg
     simp only [ic12l1, Int.ofNat_lt, hcn, evA, if_true, if_false, beq_false, simprocAttr]
     refine hcov.call frz ?_
     simp only [ia_cov hcn, Nat.mul_one, hcg, hws1, evA, if_true, if_false, beq_false, simprocAttr]
     exact kFor_go (by first | trivial | omega) ⟨W, _, _, _, _, _, ⟨hW1, hW2⟩, rfl⟩
    | true =>
     rw [hcb] at hcg
     by_cases hz2 : (b2 : Int).tmod ((c + 1 : Nat) : Int) = 0
     ·have hb3 : ((b2 : Int).tmod ((c + 1 : Nat) : Int) == 0) = true := by simpa using hz2
      simp only [ic12l1, Int.ofNat_lt, hcn, evA, if_true, if_false, beq_false, simprocAttr]
      refine hcov.call frz ?_
      simp only [ia_cov hcn, Nat.mul_one, hcg, hwl, hlast, hbl, hwb2, hws1, hn1, hb3, Option.map_some, evA, if_true, if_false, beq_false, simprocAttr]
      exact kFor_go (by first | trivial | omega) ⟨c, _, _, _, _, _, ⟨hcn, hcb⟩, rfl⟩
     ·have hb3 : ((b2 : Int).tmod ((c + 1 : Nat) : Int) == 0) = false := by simpa using hz2
      simp only [ic12l1, Int.ofNat_lt, hcn, evA, if_true, if_false, beq_false, simprocAttr]
      refine hcov.call frz ?_
      simp only [ia_cov hcn, Nat.mul_one, hcg, hwl, hlast, hbl, hwb2, hws1, hn1, hb3, Option.map_some, evA, if_true, if_false, beq_false, simprocAttr]
      exact kFor_go (by first | trivial | omega) ⟨W, _, _, _, _, _, ⟨hW1, hW2⟩, rfl⟩
   ·have hcn' : c = s.cl.length := by omega
    subst hcn'
    simp only [ic12l1, Int.ofNat_lt, hcn, evA, if_true, if_false, beq_false, simprocAttr]
    refine IL_for s.co.length (fun i s' => ∃ F : Int, ∃ v19 v20 v21 v22, (0 ≤ F ∧ F < setN s ∧ ∀ k, bit k2 k = true → bit F k = true) ∧ s' = ⟨[sysV s, rgL l, .cv (.rsl (xs.map (.int .u8)) xs.length), .ptr 0 0, .b false, rgL A, .i 0, .sl 2 0 l.length 2, .i l.length, .undef, .ptr 3 0, .ptr 4 0, .i s.cl.length, .i i, .undef, .b false, .b false, .undef, .b true, v19, v20, v21, v22], [.cells [.cv (clsR s.cl), .cv (strR s.co)], .cells [rgL l], .cells ((O.flatMap rgC).map .cv), .cells [.i q, .i k2], .cells [.i W, .i F]]⟩) ?_ 0 (Nat.zero_le _) ⟨k2, _, _, _, _, ⟨hko2.1, hko2.2, fun _ h => h⟩, rfl⟩
    rintro i s' hi ⟨F, v19, v20, v21, v22, ⟨hF1, hF2, hF3⟩, rfl⟩
    by_cases him : i < s.co.length
    ·have hF2' : F < 2 ^ s.co.length := hF2
     have q1 := c52 F (by omega) i (by omega)
     have q2 := c49 i (by omega)
     have hws1 : IntKind.i64.wrap ((i : Int) + 1) = ((i + 1 : Nat) : Int) := wrap_succ (by omega)
     obtain ⟨V, hV, _⟩ := bit_shr (x := (b : Int)) (by omega) (k := i) (by omega)
     cases hbt : bit F i with
     | true =>
      rw [hbt] at q1
      simp only [ic12l0, Int.ofNat_lt, him, evA, if_true, if_false, beq_false, simprocAttr]
      refine q1.call frz ?_
      simp only [hws1, evA, if_true, if_false, beq_false, simprocAttr]
      exact kFor_go (by first | trivial | omega) ⟨F, _, _, _, _, ⟨hF1, hF2, hF3⟩, rfl⟩
     | false =>
      rw [hbt] at q1
      have hpi := pow_bd (show i ≤ 8 by omega)
      have hadd := add_bit hF1 hF2' him hm8 hbt
      have hor : orI F (2 ^ i) < 2 ^ s.co.length := orI_lt hF2' (by have := pow_mono (show i + 1 ≤ s.co.length from him); have e : (2 : Int) ^ (i + 1) = 2 * 2 ^ i := by rw [Int.pow_succ, Int.mul_comm]
                                                                    omega)
      have hwF : IntKind.i64.wrap (F + 2 ^ i) = F + 2 ^ i := wrap_in (by omega)
      by_cases hz3 : V.tmod 2 = 1
      ·have hb3 : (V.tmod 2 == 1) = true := by simpa using hz3
       simp only [ic12l0, Int.ofNat_lt, him, evA, if_true, if_false, beq_false, simprocAttr]
       refine q1.call frz ?_
       simp only [hi0x, hb0, hwb, hV, hb3, evA, if_true, if_false, beq_false, simprocAttr]
       refine DW_s [3] [] hmix (by kernel_rfl) rfl ?_
       simp only [evA, if_true, if_false, beq_false, simprocAttr]
       refine kK_keep (q2.call frz ⟨rfl, rfl⟩) rfl ?_
       simp only [hwF, hws1, evA, if_true, if_false, beq_false, simprocAttr]
       exact kFor_go (by first | trivial | omega) ⟨F + 2 ^ i, _, _, _, _, ⟨by omega, by rw [hadd]; exact hor, fun k hk => by rw [hadd, bit_or, hF3 k hk]; rfl⟩, rfl⟩
      ·have hb3 : (V.tmod 2 == 1) = false := by simpa using hz3
       simp only [ic12l0, Int.ofNat_lt, him, evA, if_true, if_false, beq_false, simprocAttr]
       refine q1.call frz ?_
       simp only [hi0x, hb0, hwb, hV, hb3, hws1, evA, if_true, if_false, beq_false, simprocAttr]
       exact kFor_go (by first | trivial | omega) ⟨F, _, _, _, _, ⟨hF1, hF2, hF3⟩, rfl⟩
    ·have him' : i = s.co.length := by omega
     subst him'
     have hweak : RgOk s ((W : Int), F) := ⟨⟨by show (0 : Int) ≤ W; omega, by show (W : Int) < _; omega⟩, hF1, hF2⟩
     have hge : GE s ((q : Int), k2) ((W : Int), F) := ⟨by simpa using hW2, hF3⟩
     rw [hkp] at hkm hko
     have hL : ∀ r ∈ O ++ [((q : Int), k2), ((W : Int), F)], RgOk s r := fun r hr => by
      rcases List.mem_append.1 hr with h | h
      ·exact hOr r h
      ·simp only [List.mem_cons, List.not_mem_nil, or_false] at h
       rcases h with rfl | rfl
       ·exact hko
       ·exact hweak
     have hll : leastF s (O ++ [((q : Int), k2), ((W : Int), F)]) = A := by
      rw [← hlo]
      refine Dom.eq hg hL hOr (.sub hg hOr fun r hr => List.mem_append.2 (.inl hr)) fun r hr => ?_
      rcases List.mem_append.1 hr with h | h
      ·exact ⟨r, h, .refl hg (hOr r h)⟩
      ·simp only [List.mem_cons, List.not_mem_nil, or_false] at h
       rcases h with rfl | rfl
       ·exact ⟨_, hkm, .refl hg hko⟩
       ·exact ⟨_, hkm, hge⟩
     have hlen2 : (O ++ [((q : Int), k2), ((W : Int), F)]).length = l.length + 2 := by rw [List.length_append, hol]; rfl
     have p3 := p2 (O ++ [((q : Int), k2), ((W : Int), F)]) (by omega) hL hll
     have b4 : f_append 2 16 [.sl 2 0 l.length 2, .sl 5 0 2 2] [.cells [.cv (clsR s.cl), .cv (strR s.co)], .cells [rgL l], .cells ((O.flatMap rgC).map .cv), .cells [.i q, .i k2], .cells [.i W, .i F], .cells [.i q, .i k2, .i W, .i F]] = some (.sl 6 0 (l.length + 2) 2, [.cells [.cv (clsR s.cl), .cv (strR s.co)], .cells [rgL l], .dead, .cells [.i q, .i k2], .cells [.i W, .i F], .cells [.i q, .i k2, .i W, .i F], .cells (((O ++ [((q : Int), k2), ((W : Int), F)]).flatMap rgC).map .cv)]) := by
      rw [app_src (l := 2) (n := l.length) (m := 2) (xs := O.flatMap rgC) (cs := [.int .i64 q, .int .i64 k2, .int .i64 W, .int .i64 F]) (w := .sl 5 0 2 2) rfl rfl rfl (by rw [flat_len rgC_len, hol]) rfl (by omega) (by omega), List.flatMap_append]
      rfl
     have hA : ∀ y0 y1 y2 y3 y4 y5 : AObj, AccS 2 [y0, y1, y2, y3, y4, y5, .cells (((O ++ [((q : Int), k2), ((W : Int), F)]).flatMap rgC).map .cv)] (.sl 6 0 (l.length + 2) 2) (O ++ [((q : Int), k2), ((W : Int), F)]).length ((O ++ [((q : Int), k2), ((W : Int), F)]).flatMap rgC) := fun y0 y1 y2 y3 y4 y5 => .inr ⟨6, by rw [hlen2], flat_len rgC_len _, rfl⟩
     simp only [ic12l0, Int.ofNat_lt, him, b4, evA, if_true, if_false, beq_false, simprocAttr]
     refine p3.call (.cons (.agg (.cons (.c (.c _ trivial)) (.cons (.c (.c _ trivial)) .nil))) (.cons (accS_frz (hA _ _ _ _ _ _) (fun _ _ => trivial)) .nil)) ?_
     simp only [evA, if_true, if_false, beq_false, simprocAttr]
     refine h33.call frz ?_
     simp only [evA, if_true, if_false, beq_false, simprocAttr]
     refine awake.call .nil ?_
     simp only [evA, if_true, if_false, beq_false, simprocAttr]
theorem law_ClassOrder (avs : List AV) (h : Args Tryz.prog Tryz.f12.params.toList avs) : AC Tryz.prog 12 avs [] fun r _ => r = .b true := by
 have h : Args Tryz.prog [38, 39, 74] avs := h
 obtain ⟨cs1, avs, rfl, h1, h⟩ := args_cons h
 obtain ⟨cs2, avs, rfl, h2, h⟩ := args_cons h
 obtain ⟨cs3, avs, rfl, h3, h⟩ := args_cons h
 cases args_nil h
 obtain ⟨s, e1, hs⟩ := typed_sys h1
 obtain ⟨l, e2, hl, _⟩ := typed_rgs h2
 obtain ⟨zs, rfl, hz, hw⟩ := typed_ints Tryz.underlying74 Tryz.underlying5 h3
 have e3 : avOf Tryz.prog 74 [.rsl (zs.map (.int .u8)) zs.length] = .cv (.rsl (zs.map (.int .u8)) zs.length) := by simp [avOf, Tryz.underlying74]
 rw [e1, e2, e3]
 exact lc12 s hs l hl zs hz fun x hx => wf_u8 (hw x hx)
end Go.Proofs.YtpnghcaccfnngaaGreatDoor.AM

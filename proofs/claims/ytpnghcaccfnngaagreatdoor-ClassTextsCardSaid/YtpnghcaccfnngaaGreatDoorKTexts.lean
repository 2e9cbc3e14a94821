/- Parts of the proof of Texts. -/
import Derived.Test.YtpnghcaccfnngaaGreatDoorRows
import Derived.WalkKit
import Derived.ProofKit
import Derived.OpenShut
import Derived.Carry
import Derived.Test.YtpnghcaccfnngaaGreatDoorZ17
set_option linter.unusedVariables false
set_option linter.unusedSimpArgs false
set_option linter.unusedSectionVars false
namespace Go.Proofs.YtpnghcaccfnngaaGreatDoor.AM
variable [Dr]
open Go Go.ChangeShapes Go.WideShapes Go.ChangeAt Go.RowKit
abbrev noO : Nat → Prop := Own (fun _ => none) (fun _ => False)
theorem not_noO (b : Nat) : ¬ noO b := by rintro (h | ⟨l, hl⟩); exact h; cases hl
theorem fin_choice {α : Type} {Q : Nat → α → Prop} : ∀ (n : Nat), (∀ i, i < n → ∃ l, Q i l) → ∃ L : List α, L.length = n ∧ ∀ (i : Nat) (l : α), L[i]? = some l → Q i l
 | 0, _ => ⟨[], rfl, by simp⟩
 | n + 1, h => by
  obtain ⟨L, h1, h2⟩ := fin_choice n (fun i hi => h i (by omega))
  obtain ⟨l, hl⟩ := h n (by omega)
  refine ⟨L ++ [l], by simp [h1], fun i l' hi => ?_⟩
  rcases Nat.lt_or_ge i n with hlt | hge
  ·rw [List.getElem?_append_left (by omega)] at hi; exact h2 i l' hi
  ·rw [List.getElem?_append_right (by omega), h1] at hi
   have : i = n := by
    rcases Nat.lt_or_ge n i with h' | h'
    ·rw [List.getElem?_eq_none (by simp; omega)] at hi; cases hi
    ·omega
   subst this
   simp at hi; subst hi; exact hl
theorem flat_rel {R : Nat → CV → Prop} {esz : Nat} : ∀ (L : List (List CV)) (n : Nat), (∀ (i : Nat) (l : List CV), L[i]? = some l → l.length = esz ∧ ∀ (j : Nat) (c : CV), l[j]? = some c → R (n + i * esz + j) c) →
  L.flatten.length = L.length * esz ∧ ∀ (k : Nat) (c : CV), L.flatten[k]? = some c → R (n + k) c
 | [], n, _ => by simp
 | l :: L, n, h => by
  obtain ⟨h1, h2⟩ := h 0 l (by simp)
  have ih := flat_rel L (n + esz) (fun i l' hi => by
   obtain ⟨g1, g2⟩ := h (i + 1) l' (by simpa using hi)
   refine ⟨g1, fun j c hj => ?_⟩
   have := g2 j c hj
   rwa [Nat.add_mul, Nat.one_mul, ← Nat.add_assoc, Nat.add_right_comm n] at this)
  refine ⟨by simp [h1, ih.1, Nat.add_mul, Nat.add_comm], fun k c hk => ?_⟩
  rw [List.flatten_cons] at hk
  rcases Nat.lt_or_ge k l.length with hlt | hge
  ·rw [List.getElem?_append_left hlt] at hk
   have := h2 k c hk
   simpa using this
  ·rw [List.getElem?_append_right hge] at hk
   have := ih.2 (k - l.length) c hk
   rwa [show n + esz + (k - l.length) = n + k by omega] at this
theorem flat_relF {P : Program} {R : Nat → CV → Prop} {N : Nat} : ∀ (fs : List Field) (L : List (List CV)) (n : Nat), fieldsEnd P fs n = some N → L.length = fs.length →
  (∀ (i : Nat) (f : Field) (l : List CV), fs[i]? = some f → L[i]? = some l → l.length = P.cellsOf f.type ∧ ∀ (j : Nat) (c : CV), l[j]? = some c → R (f.offset + j) c) →
  n + L.flatten.length = N ∧ ∀ (k : Nat) (c : CV), L.flatten[k]? = some c → R (n + k) c
 | [], L, n, he, hl, _ => by
  have : L = [] := List.eq_nil_of_length_eq_zero (by simpa using hl)
  subst this
  simp only [fieldsEnd, Option.some.injEq] at he
  simp [he]
 | f :: fs, [], n, _, hl, _ => by simp at hl
 | f :: fs, l :: L, n, he, hl, h => by
  simp only [fieldsEnd] at he
  split at he
  ·rename_i hoff
   obtain ⟨h1, h2⟩ := h 0 f l (by simp) (by simp)
   have ih := flat_relF fs L (n + P.cellsOf f.type) he (by simpa using hl) (fun i f' l' hf hl' => h (i + 1) f' l' (by simpa using hf) (by simpa using hl'))
   refine ⟨by rw [← ih.1]; simp [h1]; omega, fun k c hk => ?_⟩
   rw [List.flatten_cons] at hk
   rcases Nat.lt_or_ge k l.length with hlt | hge
   ·rw [List.getElem?_append_left hlt] at hk
    have := h2 k c hk
    rwa [hoff] at this
   ·rw [List.getElem?_append_right hge] at hk
    have := ih.2 (k - l.length) c hk
    rwa [show n + P.cellsOf f.type + (k - l.length) = n + k by omega] at this
  ·cases he
theorem reps_of_all {W : World} {a : Addr} : ∀ (cs : List CV) (i : Nat), (∀ (j : Nat) (c : CV), cs[j]? = some c → ∃ v, W.cell? (a.add (i + j)) = some v ∧ c.rep W noO v) → CV.reps W noO cs a i
 | [], _, _ => by simp [CV.reps]
 | c :: cs, i, h => by
  simp only [CV.reps]
  refine ⟨not_noO _, by simpa using h 0 c (by simp), reps_of_all cs (i + 1) fun j c' hj => ?_⟩
  have := h (j + 1) c' (by simpa using hj)
  rwa [show i + (j + 1) = i + 1 + j by omega] at this
section
variable {H : Type} {enc : TypeId × Value → H} {P : Program} {W : World}
theorem trod_typed : ∀ (n : Nat) (t : TypeId) (cs : List Value) (x : DataW H × List MemPlace) (fuel : Nat), openT P n t = true → DataW.trod enc P W 0 (fun _ => true) true fuel t cs = some x →
  ∃ cvs : List CV, Typed P t cvs ∧ cvs.length = cs.length ∧ ∀ (i : Nat) (c : CV) (v : Value), cvs[i]? = some c → cs[i]? = some v → c.rep W noO v
 | 0, t, cs, x, fuel, ho, _ => by simp [openT] at ho
 | n + 1, t, cs, x, fuel, ho, h => by
  simp only [openT] at ho
  split at ho
  ·rename_i ht
   obtain ⟨b, rfl, _⟩ := DataW.trod_bool ht h
   refine ⟨[.bool b], .bool ht b, rfl, fun i c v h1 h2 => ?_⟩
   cases i with
   | zero => simp at h1 h2; subst h1 h2; simp [CV.rep]
   | succ i => simp at h1
  ·rename_i k ht
   obtain ⟨b, rfl, _, hw⟩ := DataW.trod_int ht h
   refine ⟨[.int k b], .int ht b hw, rfl, fun i c v h1 h2 => ?_⟩
   cases i with
   | zero => simp at h1 h2; subst h1 h2; simp [CV.rep]
   | succ i => simp at h1
  ·rename_i ht
   obtain ⟨s, rfl, _, hw⟩ := DataW.trod_string ht h
   refine ⟨[.str s], .str ht s hw, rfl, fun i c v h1 h2 => ?_⟩
   cases i with
   | zero => simp at h1 h2; subst h1 h2; simp [CV.rep]
   | succ i => simp at h1
  ·rename_i e ht
   rcases DataW.trod_slice ht h with ⟨rfl, _⟩ | ⟨a, len, cap, elems, rest, m, _, rfl, _, _, hlc, hcm, hel, hget, _⟩
   ·refine ⟨[.rsl [] 0], by simpa using Typed.slc ht [] (by simp) (by simp) (by simp), rfl, fun i c v h1 h2 => ?_⟩
    cases i with
    | zero => simp at h1 h2; subst h1 h2; simp [CV.rep]
    | succ i => simp at h1
   ·obtain ⟨L, hL, hQ⟩ := fin_choice (Q := fun i l => Typed P e l ∧ l.length = P.cellsOf e ∧ ∀ (j : Nat) (c : CV), l[j]? = some c → ∃ v, W.cell? (a.add (i * P.cellsOf e + j)) = some v ∧ c.rep W noO v) len (fun i hi => by
     have hg := hget i hi
     rw [List.getElem?_eq_getElem (by omega)] at hg
     obtain ⟨ci, h1, h2⟩ := Option.bind_eq_some_iff.1 hg
     obtain ⟨_, hlen, hcell⟩ := World.cells?_some h1
     obtain ⟨cvs, g1, g2, g3⟩ := trod_typed n e ci _ _ ho h2
     refine ⟨cvs, g1, by omega, fun j c hj => ?_⟩
     have hjl : j < cvs.length := (List.getElem?_eq_some_iff.1 hj).1
     have hc := hcell j (by omega)
     rw [List.getElem?_eq_getElem (by omega)] at hc
     exact ⟨_, by rw [← Addr.add_add]; exact hc, g3 j c _ hj (List.getElem?_eq_getElem _)⟩)
    have hmem : ∀ l ∈ L, ∃ i : Nat, L[i]? = some l := fun l hl => List.mem_iff_getElem?.1 hl
    have hfl := flat_rel (R := fun k c => ∃ v, W.cell? (a.add k) = some v ∧ c.rep W noO v) (esz := P.cellsOf e) L 0 (fun i l hi => ⟨(hQ i l hi).2.1, fun j c hj => by simpa using (hQ i l hi).2.2 j c hj⟩)
    refine ⟨[.rsl L.flatten L.length], Typed.slc ht L (by omega) (fun l hl => let ⟨i, hi⟩ := hmem l hl; (hQ i l hi).2.1) (fun l hl => let ⟨i, hi⟩ := hmem l hl; (hQ i l hi).1), rfl, fun i c v h1 h2 => ?_⟩
    cases i with
    | zero =>
     simp at h1 h2; subst h1 h2
     simp only [CV.rep]
     exact .inr ⟨a, cap, by rw [hL], by omega, reps_of_all _ 0 (fun j c hj => hfl.2 j c hj)⟩
    | succ i => simp at h1
  ·rename_i k e ht
   simp only [Bool.and_eq_true, decide_eq_true_eq] at ho
   obtain ⟨xs, m, _, _, hlen, hxs, hget⟩ := DataW.trod_array ht h
   obtain ⟨L, hL, hQ⟩ := fin_choice (Q := fun i l => Typed P e l ∧ l.length = P.cellsOf e ∧ ∀ (j : Nat) (c : CV), l[j]? = some c → ∀ v, cs[i * P.cellsOf e + j]? = some v → c.rep W noO v) k (fun i hi => by
     have hg := hget i hi
     rw [List.getElem?_eq_getElem (by omega)] at hg
     obtain ⟨cvs, g1, g2, g3⟩ := trod_typed n e _ _ _ ho.1 hg
     have hik : i * P.cellsOf e + P.cellsOf e ≤ k * P.cellsOf e := by
      have := Nat.mul_le_mul_right (P.cellsOf e) (show i + 1 ≤ k by omega)
      rwa [Nat.add_mul, Nat.one_mul] at this
     have hl2 : cvs.length = P.cellsOf e := by rw [g2]; simp; omega
     refine ⟨cvs, g1, hl2, fun j c hj v hv => ?_⟩
     have hjl : j < cvs.length := (List.getElem?_eq_some_iff.1 hj).1
     exact g3 j c v hj (by rw [List.getElem?_take, if_pos (by omega), List.getElem?_drop]; exact hv))
   have hmem : ∀ l ∈ L, ∃ i : Nat, L[i]? = some l := fun l hl => List.mem_iff_getElem?.1 hl
   have hfl := flat_rel (R := fun k c => ∀ v, cs[k]? = some v → c.rep W noO v) (esz := P.cellsOf e) L 0 (fun i l hi => ⟨(hQ i l hi).2.1, fun j c hj => by simpa using (hQ i l hi).2.2 j c hj⟩)
   exact ⟨L.flatten, Typed.arr ht L hL (fun l hl => let ⟨i, hi⟩ := hmem l hl; (hQ i l hi).2.1) (fun l hl => let ⟨i, hi⟩ := hmem l hl; (hQ i l hi).1), by rw [hfl.1, hlen, ho.2, hL], fun i c v h1 h2 => hfl.2 i c h1 v (by simpa using h2)⟩
  ·rename_i fs ht
   simp only [Bool.and_eq_true, decide_eq_true_eq, List.all_eq_true] at ho
   obtain ⟨xs, m, _, _, hlen, hxs, hget⟩ := DataW.trod_struct ht h
   obtain ⟨L, hL, hQ⟩ := fin_choice (Q := fun i l => ∀ f, fs[i]? = some f → Typed P f.type l ∧ l.length = min (P.cellsOf f.type) (cs.length - f.offset) ∧ ∀ (j : Nat) (c : CV), l[j]? = some c → ∀ v, cs[f.offset + j]? = some v → c.rep W noO v) fs.size (fun i hi => by
     have hfi : fs[i]? = some fs[i] := Array.getElem?_eq_getElem hi
     have hg := hget i fs[i] hfi
     rw [List.getElem?_eq_getElem (by omega)] at hg
     obtain ⟨cvs, g1, g2, g3⟩ := trod_typed n _ _ _ _ (ho.1 fs[i] (by simp)) hg
     have hl2 : cvs.length = min (P.cellsOf fs[i].type) (cs.length - fs[i].offset) := by rw [g2]; simp
     refine ⟨cvs, fun f hf => ?_⟩
     rw [hfi] at hf; cases hf
     refine ⟨g1, hl2, fun j c hj v hv => ?_⟩
     have hjl : j < cvs.length := (List.getElem?_eq_some_iff.1 hj).1
     exact g3 j c v hj (by rw [List.getElem?_take, if_pos (by omega), List.getElem?_drop]; exact hv))
   have hoff : ∀ (fs : List Field) (n N : Nat), fieldsEnd P fs n = some N → n ≤ N ∧ ∀ (i : Nat) (f : Field), fs[i]? = some f → f.offset + P.cellsOf f.type ≤ N := by
    intro fs
    induction fs with
    | nil => intro n N h; simp only [fieldsEnd, Option.some.injEq] at h; simp [h]
    | cons f fs ih =>
     intro n N h
     simp only [fieldsEnd] at h
     split at h
     ·rename_i ho
      obtain ⟨h1, h2⟩ := ih _ _ h
      refine ⟨by omega, fun i f' hi => ?_⟩
      cases i with
      | zero => simp at hi; subst hi; omega
      | succ i => exact h2 i f' (by simpa using hi)
     ·cases h
   have hin := (hoff _ _ _ ho.2).2
   have hl : ∀ (i : Nat) (f : Field) (l : List CV), fs[i]? = some f → L[i]? = some l → l.length = P.cellsOf f.type := by
    intro i f l hf hl
    obtain ⟨_, h2, _⟩ := hQ i l hl f hf
    have := hin i f (by simpa using hf)
    omega
   have hfl := flat_relF (P := P) (R := fun k c => ∀ v, cs[k]? = some v → c.rep W noO v) fs.toList L 0 ho.2 (by simpa using hL) (fun i f l hf hl' =>
    ⟨hl i f l (by simpa using hf) hl', fun j c hj => (hQ i l hl' f (by simpa using hf)).2.2 j c hj⟩)
   exact ⟨L.flatten, Typed.struct ht L hL hl (fun i f l hf hl' => (hQ i l hl' f hf).1), by have := hfl.1; omega, fun i c v h1 h2 => hfl.2 i c h1 v (by simpa using h2)⟩
  ·cases ho
abbrev noX : Nat → Prop := fun _ => False
theorem VRels_of_all : ∀ (cvs : List CV) (vs : List Value), cvs.length = vs.length → (∀ (i : Nat) (c : CV) (v : Value), cvs[i]? = some c → vs[i]? = some v → c.rep W noO v) → VRels nom noX W (cvs.map .cv) vs
 | [], [], _, _ => by simp [VRels]
 | c :: cvs, v :: vs, hl, h => by
  simp only [List.map_cons, VRels, VRel]
  exact ⟨h 0 c v rfl rfl, VRels_of_all cvs vs (by simpa using hl) fun i c v h1 h2 => h (i + 1) c v (by simpa using h1) (by simpa using h2)⟩
 | [], _ :: _, hl, _ => by simp at hl
 | _ :: _, [], hl, _ => by simp at hl
theorem arg_typed {n : Nat} {t : TypeId} {v : Value} {d : DataW H} {ps : List MemPlace} {r : Reach} {base : Nat} (ho : openT P n t = true) (hval : Value.okWide P W r base t v) (h : DataW.Trod enc P W 0 (fun _ => true) true t v d ps) :
  ∃ cs, Typed P t cs ∧ VRel nom noX W (avOf P t cs) v := by
 obtain ⟨fuel, h⟩ := h
 obtain ⟨cvs, h1, h2, h3⟩ := trod_typed n t _ _ _ ho h
 refine ⟨cvs, h1, ?_⟩
 unfold avOf
 have one : (v.cells.toList = [v]) → VRel nom noX W (.cv (cvs.headD .nilp)) v := by
  intro hv
  rw [hv] at h2 h3
  match cvs, h2 with
  | [c], _ => simp only [List.headD_cons, VRel]; exact h3 0 c v rfl rfl
 cases n with
 | zero => simp [openT] at ho
 | succ n =>
  simp only [openT] at ho
  split at ho
  ·rename_i ht; rw [ht]; obtain ⟨b, rfl⟩ := okWide_bool ht hval; exact one rfl
  ·rename_i ht; rw [ht]; obtain ⟨b, rfl⟩ := okWide_int ht hval; exact one rfl
  ·rename_i ht; rw [ht]; obtain ⟨b, rfl⟩ := okWide_string ht hval; exact one rfl
  ·rename_i ht; rw [ht]; obtain ⟨_, _, _, rfl⟩ := okWide_slice ht hval; exact one rfl
  ·rename_i ht; rw [ht]
   simp only [Value.okWide, ht] at hval
   obtain ⟨arr, rfl, _⟩ := hval
   simp only [VRel]
   exact ⟨arr.toList, by simp, VRels_of_all _ _ h2 h3⟩
  ·rename_i ht; rw [ht]
   simp only [Value.okWide, ht] at hval
   obtain ⟨arr, rfl, _⟩ := hval
   simp only [VRel]
   exact ⟨arr.toList, by simp, VRels_of_all _ _ h2 h3⟩
  ·cases ho
theorem args_typed {n : Nat} {r : Reach} {base : Nat} : ∀ {ts : List TypeId} {vs : List Value} {ds : List (DataW H)} {ps : List MemPlace}, (ts.all (openT P n)) = true →
  (∀ (j : Nat) (t : TypeId) (v : Value), ts[j]? = some t → vs[j]? = some v → Value.okWide P W r base t v) → DataW.TrodAll enc P W 0 (fun _ => true) true ts vs ds ps →
  ds.length = ts.length ∧ ∃ avs, Args P ts avs ∧ VRels nom noX W avs vs
 | [], _, _, _, _, _, h => by
  obtain ⟨rfl, rfl, rfl⟩ := trodAll_nil h
  exact ⟨rfl, [], .nil, by simp [VRels]⟩
 | t :: ts, _, _, _, ho, hval, h => by
  obtain ⟨v, vs1, d, ds1, a, b, rfl, rfl, rfl, h1, h2⟩ := trodAll_cons h
  simp only [List.all_cons, Bool.and_eq_true] at ho
  obtain ⟨cs, g1, g2⟩ := arg_typed ho.1 (hval 0 t v rfl rfl) h1
  obtain ⟨hl, avs, g3, g4⟩ := args_typed ho.2 (fun j t v h1 h2 => hval (j + 1) t v (by simpa using h1) (by simpa using h2)) h2
  exact ⟨by simp [hl], _, .cons g1 g3, by simp only [VRels]; exact ⟨g2, g4⟩⟩
theorem trodAll_below (hl : laidOutB P = true) {W' : World} (hb : Below W.heap.size W W') : ∀ {ts : List TypeId} {vs : List Value} {ds : List (DataW H)} {ps : List MemPlace}, (ts.all fun t => P.readableRec t && decide (t < P.types.size)) = true →
  DataW.TrodAll enc P W 0 (fun _ => true) true ts vs ds ps → (∀ x ∈ ps, x.block < W.heap.size) → DataW.TrodAll enc P W' 0 (fun b => decide (b < W.heap.size)) true ts vs ds ps
 | [], _, _, _, _, h, _ => by
  obtain ⟨rfl, rfl, rfl⟩ := trodAll_nil h
  exact trodAll_mk0
 | t :: ts, _, _, _, ho, h, hlt => by
  obtain ⟨v, vs1, d, ds1, a, b, rfl, rfl, rfl, h1, h2⟩ := trodAll_cons h
  simp only [List.all_cons, Bool.and_eq_true, decide_eq_true_eq] at ho
  refine trodAll_cons_mk (Below.trod hl ho.1.1 ho.1.2 h1 hb fun x hx => hlt x (by simp [hx])) (trodAll_below hl hb ?_ h2 fun x hx => hlt x (by simp [hx]))
  simpa using ho.2
theorem law_of_AC {f : FuncId} {fn : Func} {s : ChangeSpec} {n : Nat} {t : TypeId} {base : Nat} {args : Array Value} {ds gs : List (DataW H)} {before : List MemPlace}
  (hl : laidOutB P = true) (hpar : (fn.params.toList.all fun t => P.readableRec t && decide (t < P.types.size)) = true) (ho : fn.params.toList.all (openT P n) = true)
  (hres : fn.resultTypes = #[t]) (htb : P.underlying t = some .bool) (hsv : s.vars = []) (hs : ∀ ds : List (DataW H), ds.length = fn.params.toList.length → s.fn H ds = { results := [.lit (.bool true)], args := ds })
  (hAC : ∀ avs, Args P fn.params.toList avs → AC P f avs [] fun r _ => r = .b true)
  (hval : ∀ (j : Nat) t v, fn.params[j]? = some t → args[j]? = some v → Value.okWide P W .any base t v)
  (hW : DataW.Whole enc P fn.params.toList s.vars false W args.toList ds gs before) :
  Calls P f args W fun e W' => ∃ v, e = .returned v ∧ s.post enc P fn false true false false W args v W' := by
 have hW' := hW
 obtain ⟨p, q, hA, hV, rfl, hfz, hnd⟩ := hW
 rw [hsv] at hV
 obtain ⟨rfl, rfl⟩ := trodVars_none hV
 have hlt : ∀ x ∈ p, x.block < W.heap.size := fun x hx => hW'.lt x (by simp [hx])
 obtain ⟨hlen, avs, hav, hrel⟩ := args_typed ho (fun j t v h1 h2 => hval j t v (by simpa using h1) (by simpa using h2)) hA
 have hcall := (hAC avs hav).2 nom noX W args.toList hrel ⟨by simp, by simp, by simp, by simp, by simp⟩
 have hcall := callsIn_wide.1 hcall
 simp only [Array.toArray_toList] at hcall
 refine hcall.mono fun e W' ⟨c, r, σ', m', he, hq, hr, _, hst, _⟩ => ?_
 subst he hq
 simp only [VRel, CV.rep] at hr
 subst hr
 have hb : Below W.heap.size W W' := ⟨hst.os, hst.tape, hst.output, hst.size, fun k hk => hst.fr k hk (.inr (by simp))⟩
 have hsf : s.fn H (ds ++ []) = { results := [.lit (.bool true)], args := ds } := by rw [List.append_nil]; exact hs ds hlen
 refine ⟨_, rfl, ds, [], p ++ [], [], p, [], hW', ?_, ?_, ?_, hb.frame _, fun h => by simp at h⟩
 ·rw [hsf, hres]
  exact trodAll_mk1 (shut_bool htb true)
 ·rw [hsf]
  exact trodAll_below hl hb hpar hA hlt
 ·rw [hsf, hsv]
  rfl
end
end Go.Proofs.YtpnghcaccfnngaaGreatDoor.AM
namespace Go.Proofs.YtpnghcaccfnngaaGreatDoor.AM
variable [Dr]
open Go
theorem SameSite.trans {a b c : ALoop} (h : SameSite a b) (k : SameSite b c) : SameSite a c :=
 ⟨k.1.trans h.1, k.2.1.trans h.2.1, k.2.2.1.trans h.2.2.1, k.2.2.2.1.trans h.2.2.2.1, k.2.2.2.2.trans h.2.2.2.2⟩
theorem LoopKeep.trans {a b c : List AObj} (h : LoopKeep a b) (k : LoopKeep b c) : LoopKeep a c := fun l r hr =>
 let ⟨r1, h1, h2⟩ := h l r hr
 let ⟨r2, h3, h4⟩ := k l r1 h1
 ⟨r2, h3, h2.trans h4⟩
abbrev vs39 : List Nat := [0, 1, 2, 4, 5, 6, 11]
def ic39 : IC := (.seq (.region [jb 2 0, jw 3 .mv [.c (.cv (.str (bts [])))], jz 4 0])
 (.seq (.region [jN 2 2, jv 1, jk 66 [.t 0, .t 1], jm 5 2])
 (.seq (.seq (.region [jv 5, jw 6 (.bin .neq .int) [.t 0, jn 0]])
 (.cond 6 (.seq (.region [jv 5, jw 3 .mv [.c (.cv (.str (bts [])))], jm 4 0])
 .ret)
 .skip))
 (.seq (.region [jN 2 2, jv 1, jk 74 [.t 0, .t 1], jm 3 2, jz 4 0])
 .ret))))
abbrev rs39 : List RC := [(.v 3), (.v 4)]
theorem fok39 (p : Bool) : FnOk Tryz.prog 39 ⟨ic39, vs39, 16, rs39, p⟩ := .mk2 Tryz.func39 (by kernel_rfl) (by kernel_rfl) (by kernel_rfl) (by kernel_rfl) (by kernel_rfl)
abbrev vs41 : List Nat := [0, 1, 2, 4, 5, 8, 9, 10, 11, 12, 13, 26, 28, 31, 37, 55, 64]
def ic41l0 : IC := (.seq (.seq (.region [jv 8, jv 6, je 1, jw 14 (.bin .lss .int) [.t 0, .t 2]])
 (.cond 14 .skip
 (.exit 0)))
 (.seq (.block 1 (.seq (.dr [[], [], [], [1, 2], [3], [0, 4], [5], [6], [6], [], [9, 7, 5, 0, 1, 2, 3, 4, 5, 6, 7, 9], [8, 10, 0, 1, 2, 3, 4, 5, 6, 7, 8, 9, 10]] [jN 2 2, jv 6, jv 8, ja 1 1 2, jl 3, jk 84 [.t 0, .t 4], jt 5, jx 0 6, jx 1 6, jw 9 (.alloc [(.cv (.int .i64 0)), (.cv (.int .i64 0))]) [], jq (.store 2) [.v 9, .t 7], jm 10 8])
 (.seq (.seq (.region [jv 10, jq .not [.t 0], jt 1, jh 2 false 7, jg 2 false (.len false) [.t 3], jg 2 false (.bin .eql .int) [.t 4, jn 40], jw 15 .pick [.t 2, jB true, .t 5]])
 (.cond 15 (.seq (.region [jw 3 .mv [jS], jz 4 6])
 .ret)
 .skip))
 (.region [jv 7, jN 2 9, jq (.bslice 2 1 [(.cv (.int .i64 0)), (.cv (.int .i64 0))] [(0, 2)]) [.t 1], jq (.append 2 16) [.t 0, .t 2], jm 7 3]))))
 (.region [jv 8, jq (.bin .add .int) [.t 0, jn 1], jm 8 1])))
def ic41 : IC := (.seq (.region [jb 2 0, jw 3 .mv [jS], jz 4 0])
 (.seq (.region [jN 2 2, jk 54 [.t 0], jt 1, jx 0 2, jx 1 2, jx 2 2, jt 3, jt 4, jm 5 5])
 (.seq (.seq (.region [jv 5, jq (.bin .eql .int) [.t 0, jn 0], jt 1, jh 2 true 1, jg 2 true (.len true) [.t 3], jg 2 true (.bin .gtr .int) [.t 4, jn 7000], jw 11 .pick [.t 2, .t 5, jB false]])
 (.cond 11 (.region [jz 5 3])
 .skip))
 (.seq (.seq (.region [jv 5, jw 12 (.bin .neq .int) [.t 0, jn 0]])
 (.cond 12 (.seq (.region [jv 5, jw 3 .mv [jS], jm 4 0])
 .ret)
 .skip))
 (.seq (.seq (.region [jv 1, jw 13 (.bin .eql .str) [.t 0, .c (.cv (.str (bts [45])))]])
 (.cond 13 (.seq (.region [jw 3 .mv [jS], jz 4 0])
 .ret)
 .skip))
 (.seq (.region [jv 1, jk 83 [.t 0, .c (.cv (.int .u8 32))], jm 6 1])
 (.seq (.region [jw 7 .mv [jS]])
 (.seq (.seq (.region [jz 8 0])
 (.block 0 (.loop ic41l0)))
 (.seq (.seq (.region [jN 2 2, jv 7, jk 74 [.t 0, .t 1], jv 1, jw 16 (.bin .neq .str) [.t 2, .t 3]])
 (.cond 16 (.seq (.region [jw 3 .mv [jS], jz 4 6])
 .ret)
 .skip))
 (.seq (.region [jv 7, jm 3 0, jz 4 0])
 .ret))))))))))
abbrev rs41 : List RC := [(.v 3), (.v 4)]
theorem fok41 (p : Bool) : FnOk Tryz.prog 41 ⟨ic41, vs41, 66, rs41, p⟩ := .mk2 Tryz.func41 (by kernel_rfl) (by kernel_rfl) (by kernel_rfl) (by kernel_rfl) (by kernel_rfl)
abbrev vs74 : List Nat := [0, 1, 2, 4, 5, 6, 7, 10, 14, 18, 37, 46]
def ic74l0 : IC := (.seq (.seq (.region [jv 6, jF 1 2, jl 1, je 2, jw 10 (.bin .lss .int) [.t 0, .t 3]])
 (.cond 10 .skip
 (.exit 2)))
 (.seq (.block 3 (.seq (.region [jv 1, jv 5, ja 2 0 1, jG 1 2, jl 3, jv 6, jd 11 52 [.t 4, .t 5]])
 (.cond 11 (.region [jv 4, jq (.bin .add .str) [.t 0, .c (.cv (.str (bts [46])))], jF 1 2, jl 2, jv 6, ja 1 3 4, jl 5, jq (.bin .add .str) [.t 1, .t 6], jm 4 7])
 .skip)))
 (.region [jv 6, jq (.bin .add .int) [.t 0, jn 1], jm 6 1])))
def ic74l1 : IC := (.seq (.seq (.region [jv 5, jv 1, je 1, jw 8 (.bin .lss .int) [.t 0, .t 2]])
 (.cond 8 .skip
 (.exit 0)))
 (.seq (.block 1 (.seq (.seq (.region [jv 5, jw 9 (.bin .gtr .int) [.t 0, jn 0]])
 (.cond 9 (.region [jv 4, jq (.bin .add .str) [.t 0, .c (.cv (.str (bts [32])))], jm 4 1])
 .skip))
 (.seq (.dr [[], [], [1], [], [], [3, 4], [5], [6], [2, 7], [8], [9], [0, 10], [11, 0, 1, 2, 3, 4, 5, 6, 7, 8, 9, 10, 11]] [jv 4, jF 0 2, jl 1, jv 1, jv 5, ja 2 3 4, jG 0 5, jl 6, ja 5 2 7, jG 0 8, jl 9, jq (.bin .add .str) [.t 0, .t 10], jm 4 11])
 (.seq (.region [jz 6 0])
 (.block 2 (.loop ic74l0))))))
 (.region [jv 5, jq (.bin .add .int) [.t 0, jn 1], jm 5 1])))
def ic74 : IC := (.seq (.region [jb 2 0, jw 3 .mv [.c (.cv (.str (bts [])))]])
 (.seq (.seq (.region [jv 1, je 0, jw 7 (.bin .eql .int) [.t 1, jn 0]])
 (.cond 7 (.seq (.region [jw 3 .mv [.c (.cv (.str (bts [45])))]])
 .ret)
 .skip))
 (.seq (.region [jw 4 .mv [.c (.cv (.str (bts [])))]])
 (.seq (.seq (.region [jz 5 0])
 (.block 0 (.loop ic74l1)))
 (.seq (.region [jv 4, jm 3 0])
 .ret)))))
abbrev rs74 : List RC := [(.v 3)]
theorem fok74 (p : Bool) : FnOk Tryz.prog 74 ⟨ic74, vs74, 56, rs74, p⟩ := .mk2 Tryz.func74 (by kernel_rfl) (by kernel_rfl) (by kernel_rfl) (by kernel_rfl) (by kernel_rfl)
abbrev vs83 : List Nat := [0, 1, 4, 5, 6, 7, 11, 18]
def ic83l0 : IC := (.seq (.seq (.region [jv 5, jv 0, jq (.len true) [.t 1], jw 6 (.bin .lss .int) [.t 0, .t 2]])
 (.cond 6 .skip
 (.exit 0)))
 (.seq (.block 1 (.seq (.region [jv 0, jv 5, jq .ixStr [.t 0, .t 1], jv 1, jw 7 (.bin .eql .int) [.t 2, .t 3]])
 (.cond 7 (.seq (.region [jv 3, jv 0, jv 4, jv 5, jq (.slStr true true) [.t 1, .t 2, .t 3], jq (.bslice 1 1 [(.cv (.str (bts [])))] [(0, 1)]) [.t 4], jq (.append 1 16) [.t 0, .t 5], jm 3 6])
 (.region [jv 5, jq (.bin .add .int) [.t 0, jn 1], jm 4 1]))
 .skip)))
 (.region [jv 5, jq (.bin .add .int) [.t 0, jn 1], jm 5 1])))
def ic83 : IC := (.seq (.region [jw 2 .mv [jS]])
 (.seq (.region [jw 3 .mv [jS]])
 (.seq (.region [jz 4 0])
 (.seq (.seq (.region [jz 5 0])
 (.block 0 (.loop ic83l0)))
 (.seq (.region [jv 3, jv 0, jv 4, jq (.slStr true false) [.t 1, .t 2], jq (.bslice 1 1 [(.cv (.str (bts [])))] [(0, 1)]) [.t 3], jq (.append 1 16) [.t 0, .t 4], jm 2 5])
 .ret)))))
abbrev rs83 : List RC := [(.v 2)]
theorem fok83 (p : Bool) : FnOk Tryz.prog 83 ⟨ic83, vs83, 34, rs83, p⟩ := .mk2 Tryz.func83 (by kernel_rfl) (by kernel_rfl) (by kernel_rfl) (by kernel_rfl) (by kernel_rfl)
abbrev vs84 : List Nat := [0, 1, 2, 4, 5, 6, 7, 8, 9, 10, 18, 30, 36, 53]
def ic84l0 : IC := (.seq (.seq (.region [jv 8, jv 5, je 1, jw 12 (.bin .lss .int) [.t 0, .t 2]])
 (.cond 12 .skip
 (.exit 2)))
 (.seq (.block 3 (.seq (.dr [[], [0], [], [], [2, 3], [4], [1, 5], [6, 6, 0, 1, 2, 3, 4, 5, 6]] [jF 1 2, jl 0, jv 5, jv 8, ja 1 2 3, jl 4, jk 86 [.t 1, .t 5], jm 9 6])
 (.seq (.seq (.region [jv 9, jq (.bin .lss .int) [.t 0, jn 0], jt 1, jg 2 false (.fadd 1) [.v 6], ji 2 false 3, jh 2 false 9, jf 2 false 52 [.t 4, .t 5], jw 13 .pick [.t 2, jB true, .t 6]])
 (.cond 13 (.seq (.region [jN 2 6, jq (.store 2) [.v 3, .t 0], jw 4 .mv [jB false]])
 .ret)
 .skip))
 (.dr [[], [0], [], [2], [1, 3], [0, 1, 2, 3, 4], [5, 4, 3, 0, 1, 2, 3, 4]] [jF 1 6, jl 0, jv 9, jk 49 [.t 2], jq (.bin .add .int) [.t 1, .t 3], jF 1 6, jq (.store 1) [.t 5, .t 4]]))))
 (.region [jv 8, jq (.bin .add .int) [.t 0, jn 1], jm 8 1])))
def ic84l1 : IC := (.seq (.seq (.region [jv 7, jF 0 2, jl 1, je 2, jw 10 (.bin .lss .int) [.t 0, .t 3]])
 (.cond 10 .skip
 (.exit 0)))
 (.seq (.block 1 (.seq (.dr [[], [0], [], [1, 2], [3], [4], [], [6], [7], [5, 8]] [jF 0 2, jl 0, jv 7, ja 5 1 2, jG 0 3, jl 4, jv 5, jq (.iaS 1) [.t 6, jn 0], jl 7, jw 11 (.bin .eql .str) [.t 5, .t 8]])
 (.cond 11 (.region [jv 7, jF 0 6, jq (.store 1) [.t 1, .t 0]])
 .skip)))
 (.region [jv 7, jq (.bin .add .int) [.t 0, jn 1], jm 7 1])))
def ic84 : IC := (.seq (.region [jb 2 0, jw 3 (.alloc [(.cv (.int .i64 0)), (.cv (.int .i64 0))]) [], jw 4 .mv [jB false]])
 (.seq (.region [jv 1, jk 83 [.t 0, .c (.cv (.int .u8 46))], jm 5 1])
 (.seq (.region [jq (.build [(.cv (.int .i64 0)), (.cv (.int .i64 0))] [(0, 1)]) [jn (-1)], jw 6 (.alloc [(.cv (.int .i64 0)), (.cv (.int .i64 0))]) [], jq (.store 2) [.v 6, .t 0]])
 (.seq (.seq (.region [jz 7 0])
 (.block 0 (.loop ic84l1)))
 (.seq (.seq (.region [jz 8 1])
 (.block 2 (.loop ic84l0)))
 (.seq (.dr [[], [], [1], [2], [0, 0], [3, 4, 0, 1, 2, 3, 4]] [jN 2 6, jF 0 6, jl 1, jq (.bin .geq .int) [.t 2, jn 0], jq (.store 2) [.v 3, .t 0], jm 4 3])
 .ret))))))
abbrev rs84 : List RC := [(.lN 3 2), (.v 4)]
theorem fok84 (p : Bool) : FnOk Tryz.prog 84 ⟨ic84, vs84, 65, rs84, p⟩ := .mk2 Tryz.func84 (by kernel_rfl) (by kernel_rfl) (by kernel_rfl) (by kernel_rfl) (by kernel_rfl)
end Go.Proofs.YtpnghcaccfnngaaGreatDoor.AM
namespace Go.Proofs.YtpnghcaccfnngaaGreatDoor.AM
variable [Dr]
open Go Pl
theorem c74 (s : Sys) (hs : SSz s) (hn : NmOk s) (hm : s.co.length ≤ 8) (l : List Rt) (hl : l.length ≤ 40) (hr : ∀ r ∈ l, RgOk s r) : PC Tryz.prog 74 [sysV s, rgL l] (.cv (.str (textF s l))) := by
 refine ⟨AC_FE (fok74 true) (Nat.le_of_ble_eq_true rfl) ?_, rfl⟩
 have hbp := pow_bd hm
 have p62 : (2 : Nat) ^ 62 = 4611686018427387904 := by decide
 unfold textF
 by_cases h0 : l.length = 0
 ·have hb : ((l.length : Int) == 0) = true := by simp [h0]
  rw [if_pos h0]
  simp only [ic74, f_box, cellsOf, hb, evA, if_true, if_false, beq_false, simprocAttr]
  exact frz
 have hb : ((l.length : Int) == 0) = false := by simp; intro h; exact h0 (by simp [h])
 rw [if_neg h0]
 simp only [ic74, f_box, cellsOf, hb, evA, if_true, if_false, beq_false, simprocAttr]
 refine IL_for l.length (fun i s' => ∃ v6 v8 v9 v10 v11, s' = ⟨[sysV s, rgL l, .ptr 0 0, .cv (.str (bts [])), .cv (.str (textN s l i)), .i i, v6, .b false, v8, v9, v10, v11], [.cells [.cv (clsR s.cl), .cv (strR s.co)]]⟩) ?_ 0 (Nat.zero_le _) ⟨_, _, _, _, _, rfl⟩
 rintro i s' hi ⟨v6, v8, v9, v10, v11, rfl⟩
 by_cases hil : i < l.length
 ·have hri := hr l[i]! (by rw [getElem!_pos l i hil]; exact List.getElem_mem hil)
  have hsz := textN_size hn hm hr i (by omega)
  have htn : textN s l (i + 1) = tailC s ((if i = 0 then textN s l i else textN s l i ++ bts [32]) ++ (s.cl[(l[i]!).1.toNat]!).nm) l[i]! s.co.length := rfl
  have hl0 := rg_0 hil
  have hl1 := rg_1 hil
  have hb32 : (bts [32]).size = 1 := rfl
  generalize textN s l i = t at *
  generalize l[i]! = r at *
  obtain ⟨⟨r1, r2⟩, r3, r4⟩ := hri
  have r4' : r.2 < 256 := by unfold setN at r4; omega
  obtain ⟨z, hz⟩ : ∃ z : Nat, r.1 = (z : Int) := ⟨r.1.toNat, by omega⟩
  have hzl : z < s.cl.length := by omega
  rw [hz, Int.toNat_natCast] at htn
  have hnz := nameOk_size (hn.cl z hzl)
  obtain ⟨base, hbase⟩ : ∃ base, base = if i = 0 then t else t ++ bts [32] := ⟨_, rfl⟩
  rw [← hbase] at htn
  have hbs : base.size ≤ t.size + 1 := by
   rw [hbase]; split
   ·omega
   ·rw [ByteArray.size_append, hb32]; omega
  have hadd : base.size + (s.cl[z]!).nm.size ≤ 2 ^ 62 := by omega
  have htl := fun k hk => tailC_size hn (base ++ (s.cl[z]!).nm) r k hk
  rw [ByteArray.size_append] at htl
  by_cases hi0 : i = 0
  ·rw [if_pos hi0] at hbase
   subst hbase
   have hg : decide ((i : Int) > 0) = false := decide_eq_false (by omega)
   simp only [ic74l1, Int.ofNat_lt, hil, hg, evA, if_true, if_false, beq_false, simprocAttr]
   refine DW_s [] [] hmix (by kernel_rfl) rfl ?_
   simp only [ia_rg hil, hl0, hz, ia_cls hzl, cls_0 hzl, binS, hadd, evA, if_true, if_false, beq_false, simprocAttr]
   refine IL_for s.co.length (fun k s' => ∃ v10 v11, s' = ⟨[sysV s, rgL l, .ptr 0 0, .cv (.str (bts [])), .cv (.str (tailC s (base ++ (s.cl[z]!).nm) r k)), .i i, .i k, .b false, .b true, .b false, v10, v11], [.cells [.cv (clsR s.cl), .cv (strR s.co)]]⟩) ?_ 0 (Nat.zero_le _) ⟨_, _, rfl⟩
   rintro k s' hk ⟨v10, v11, rfl⟩
   by_cases hkm : k < s.co.length
   ·have htk := htl k (by omega)
    have hck := nameOk_size (hn.co k hkm)
    have hsucc : tailC s (base ++ (s.cl[z]!).nm) r (k + 1) = if bit r.2 k then (tailC s (base ++ (s.cl[z]!).nm) r k ++ bts [46]) ++ s.co[k]! else tailC s (base ++ (s.cl[z]!).nm) r k := rfl
    have hb46 : (bts [46]).size = 1 := rfl
    generalize tailC s (base ++ (s.cl[z]!).nm) r k = w at *
    have ha1 : w.size + (bts [46]).size ≤ 2 ^ 62 := by omega
    have ha2 : (w ++ bts [46]).size + (s.co[k]!).size ≤ 2 ^ 62 := by rw [ByteArray.size_append]; omega
    simp only [ic74l0, Int.ofNat_lt, hkm, ia_rg hil, hl1, evA, if_true, if_false, beq_false, simprocAttr]
    refine (c52 r.2 ⟨r3, by omega⟩ k (by omega)).call frz ?_
    cases hbit : bit r.2 k with
    | true =>
     rw [hbit, if_pos rfl] at hsucc
     simp only [ia_rsl hkm, Nat.mul_one, str_ld hkm, binS, ha1, ha2, wrap_succ (show k + 1 < 2 ^ 63 by omega), evA, if_true, if_false, beq_false, simprocAttr]
     exact kFor_go (by first | trivial | omega) ⟨_, _, by rw [hsucc]⟩
    | false =>
     rw [hbit, if_neg (by decide)] at hsucc
     simp only [wrap_succ (show k + 1 < 2 ^ 63 by omega), evA, if_true, if_false, beq_false, simprocAttr]
     exact kFor_go (by first | trivial | omega) ⟨_, _, by rw [hsucc]⟩
   ·have hkm' : k = s.co.length := by omega
    subst hkm'
    simp only [ic74l0, Int.ofNat_lt, hkm, wrap_succ (show i + 1 < 2 ^ 63 by omega), evA, if_true, if_false, beq_false, simprocAttr]
    exact kFor_go (by first | trivial | omega) ⟨_, _, _, _, _, by rw [htn]⟩
  ·rw [if_neg hi0] at hbase
   subst hbase
   have hg : decide ((i : Int) > 0) = true := decide_eq_true (by omega)
   have ha0 : t.size + (bts [32]).size ≤ 2 ^ 62 := by omega
   simp only [ic74l1, Int.ofNat_lt, hil, hg, binS, ha0, evA, if_true, if_false, beq_false, simprocAttr]
   refine DW_s [] [] hmix (by kernel_rfl) rfl ?_
   simp only [ia_rg hil, hl0, hz, ia_cls hzl, cls_0 hzl, binS, hadd, evA, if_true, if_false, beq_false, simprocAttr]
   refine IL_for s.co.length (fun k s' => ∃ v10 v11, s' = ⟨[sysV s, rgL l, .ptr 0 0, .cv (.str (bts [])), .cv (.str (tailC s ((t ++ bts [32]) ++ (s.cl[z]!).nm) r k)), .i i, .i k, .b false, .b true, .b true, v10, v11], [.cells [.cv (clsR s.cl), .cv (strR s.co)]]⟩) ?_ 0 (Nat.zero_le _) ⟨_, _, rfl⟩
   rintro k s' hk ⟨v10, v11, rfl⟩
   by_cases hkm : k < s.co.length
   ·have htk := htl k (by omega)
    have hck := nameOk_size (hn.co k hkm)
    have hsucc : tailC s ((t ++ bts [32]) ++ (s.cl[z]!).nm) r (k + 1) = if bit r.2 k then (tailC s ((t ++ bts [32]) ++ (s.cl[z]!).nm) r k ++ bts [46]) ++ s.co[k]! else tailC s ((t ++ bts [32]) ++ (s.cl[z]!).nm) r k := rfl
    have hb46 : (bts [46]).size = 1 := rfl
    generalize tailC s ((t ++ bts [32]) ++ (s.cl[z]!).nm) r k = w at *
    have ha1 : w.size + (bts [46]).size ≤ 2 ^ 62 := by omega
    have ha2 : (w ++ bts [46]).size + (s.co[k]!).size ≤ 2 ^ 62 := by rw [ByteArray.size_append]; omega
    simp only [ic74l0, Int.ofNat_lt, hkm, ia_rg hil, hl1, evA, if_true, if_false, beq_false, simprocAttr]
    refine (c52 r.2 ⟨r3, by omega⟩ k (by omega)).call frz ?_
    cases hbit : bit r.2 k with
    | true =>
     rw [hbit, if_pos rfl] at hsucc
     simp only [ia_rsl hkm, Nat.mul_one, str_ld hkm, binS, ha1, ha2, wrap_succ (show k + 1 < 2 ^ 63 by omega), evA, if_true, if_false, beq_false, simprocAttr]
     exact kFor_go (by first | trivial | omega) ⟨_, _, by rw [hsucc]⟩
    | false =>
     rw [hbit, if_neg (by decide)] at hsucc
     simp only [wrap_succ (show k + 1 < 2 ^ 63 by omega), evA, if_true, if_false, beq_false, simprocAttr]
     exact kFor_go (by first | trivial | omega) ⟨_, _, by rw [hsucc]⟩
   ·have hkm' : k = s.co.length := by omega
    subst hkm'
    simp only [ic74l0, Int.ofNat_lt, hkm, wrap_succ (show i + 1 < 2 ^ 63 by omega), evA, if_true, if_false, beq_false, simprocAttr]
    exact kFor_go (by first | trivial | omega) ⟨_, _, _, _, _, by rw [htn]⟩
 ·have hil' : i = l.length := by omega
  subst hil'
  simp only [ic74l1, Int.ofNat_lt, hil, evA, if_true, if_false, beq_false, simprocAttr]
  exact frz
theorem c39 (s : Sys) (hs : SSz s) (l : List Rt) (hl : l.length < 2 ^ 63) : PC Tryz.prog 39 [sysV s, rgL l] (wrtV s l) := by
 refine ⟨AC_FE (fok39 true) (Nat.le_of_ble_eq_true rfl) ?_, by unfold wrtV; repeat (split <;> try rfl)⟩
 have h66 := c66 s hs l hl
 have hdec := rdE_ok (s := s) (l := l)
 have hn0 := sysE_n (s := s)
 have hnm := sysE_nm (s := s)
 unfold wrtV
 generalize rdE s (sysE s).2.2 [l] = e at *
 by_cases he : e = 0
 rotate_left
 ·have hb : (e != 0) = true := by simpa using he
  rw [if_pos he]
  simp only [ic39, f_box, cellsOf, evA, if_true, if_false, beq_false, simprocAttr]
  refine h66.call frz ?_
  simp only [hb, evA, if_true, if_false, beq_false, simprocAttr]
  exact frz
 have hb2 : (e != 0) = false := by simpa using he
 obtain ⟨k1, k2⟩ := hdec he
 obtain ⟨⟨hn1, hn12⟩, hm, hok⟩ := hn0 k1
 obtain ⟨hl40, hr⟩ := rgsE_ok k2
 rw [if_neg (show ¬ (e ≠ 0) from fun h => h he)]
 simp only [ic39, f_box, cellsOf, evA, if_true, if_false, beq_false, simprocAttr]
 refine h66.call frz ?_
 simp only [hb2, evA, if_true, if_false, beq_false, simprocAttr]
 refine (c74 s hs (hnm k1) hm l hl40 hr).call frz ?_
 simp only [evA, if_true, if_false, beq_false, simprocAttr]
 exact frz
theorem sl_str {x : ByteArray} {a b : Nat} (h : a ≤ b) (h2 : b ≤ x.size) (σ : List AObj) : f_slStr true true [.cv (.str x), .cv (.int .i64 a), .cv (.int .i64 b)] σ = some (.cv (.str (x.extract a b)), σ) := by
 simp [f_slStr, bnds, bnd, h, h2]
theorem c83 (x : ByteArray) (by_ : UInt8) (hx : x.size < 2 ^ 38) : PC Tryz.prog 83 [.cv (.str x), .cv (.int .u8 by_.toNat)] (.cv (strR (splitF x by_))) := by
 have hp2 : (2 : Nat) ^ 38 = 274877906944 := by decide
 have hp3 : (2 : Nat) ^ 44 = 17592186044416 := by decide
 refine ⟨AC_FE (fok83 true) (Nat.le_of_ble_eq_true rfl) ?_, rfl⟩
 have frzS : ∀ (τ : List AObj) (v : AV) (L : List ByteArray), AccSF 0 1 τ v L.length (L.map CV.str) → FrzV scl τ v (.cv (strR L)) := fun τ v L h =>
  accS_frz h.acc fun c hc => by obtain ⟨y, _, rfl⟩ := List.mem_map.1 hc; trivial
 simp only [ic83, evA, if_true, if_false, beq_false, simprocAttr]
 refine IL_for x.size (fun i s' => ∃ v3 v6 v7 τ, AccSF 0 1 τ v3 (splN x by_ i).1.length ((splN x by_ i).1.map CV.str) ∧ s' = ⟨[.cv (.str x), .cv (.int .u8 by_.toNat), .cv .nils, v3, .i (splN x by_ i).2, .i i, v6, v7], τ⟩) ?_ 0 (Nat.zero_le _) ⟨_, _, _, [], .inl ⟨rfl, rfl, rfl⟩, rfl⟩
 rintro i s' hi ⟨v3, v6, v7, τ, hA, rfl⟩
 obtain ⟨hle, hlc⟩ := splN_le x by_ i
 by_cases h : i < x.size
 ·have hsz : i < x.data.size := h
  have hst : splN x by_ (i + 1) = if x.data[i]'hsz = by_ then ((splN x by_ i).1 ++ [x.extract (splN x by_ i).2 i], i + 1) else splN x by_ i := by
   rw [splN, Array.getElem?_eq_getElem hsz]; rfl
  have hcmp : (((x.data[i]'hsz).toNat : Int) == (by_.toNat : Int)) = decide (x.data[i]'hsz = by_) := by
   rw [Bool.eq_iff_iff, beq_iff_eq, decide_eq_true_eq, ← UInt8.toNat_inj]; omega
  generalize splN x by_ i = p at *
  obtain ⟨P, b⟩ := p
  simp only at hle hlc hA hst
  simp only [ic83l0, Int.ofNat_lt, h, ixStr_at h, hcmp, evA, if_true, if_false, beq_false, simprocAttr]
  cases hd : decide (x.data[i]'hsz = by_) with
  | false =>
   rw [if_neg (of_decide_eq_false hd)] at hst
   simp only [wrap_succ (show i + 1 < 2 ^ 63 by omega), evA, if_true, if_false, beq_false, simprocAttr]
   exact kFor_go (by first | trivial | omega) ⟨_, _, _, _, by rw [hst]; exact hA, by rw [hst]⟩
  | true =>
   rw [if_pos (of_decide_eq_true hd)] at hst
   obtain ⟨v', σ', happ, hA', _, _⟩ := accSF_append (by_ := 16) (x := [CV.str (x.extract b i)]) (Nat.zero_le _) hA rfl (by omega) (by omega)
   have hA2 : AccSF 0 1 σ' v' (P ++ [x.extract b i]).length ((P ++ [x.extract b i]).map CV.str) := by
    rw [List.length_append, List.map_append]; exact hA'
   simp only [List.map_cons, List.map_nil] at happ
   simp only [sl_str hle (Nat.le_of_lt h), happ, hA.nu, hA2.nu, wrap_succ (show i + 1 < 2 ^ 63 by omega), evA, if_true, if_false, beq_false, simprocAttr]
   exact kFor_go (by first | trivial | omega) ⟨_, _, _, _, by rw [hst]; exact hA2, by rw [hst]⟩
 ·have hi' : i = x.size := by omega
  subst hi'
  unfold splitF
  generalize splN x by_ x.size = p at *
  obtain ⟨P, b⟩ := p
  simp only at hle hlc hA
  obtain ⟨v', σ', happ, hA', _, _⟩ := accSF_append (by_ := 16) (x := [CV.str (x.extract b x.size)]) (Nat.zero_le _) hA rfl (by omega) (by omega)
  have hA2 : AccSF 0 1 σ' v' (P ++ [x.extract b x.size]).length ((P ++ [x.extract b x.size]).map CV.str) := by
   rw [List.length_append, List.map_append]; exact hA'
  simp only [List.map_cons, List.map_nil] at happ
  simp only [ic83l0, Int.ofNat_lt, h, sl_str0 hle, happ, hA.nu, hA2.nu, evA, if_true, if_false, beq_false, simprocAttr]
  exact frzS _ _ _ hA2
def rightV (s : Sys) (w : ByteArray) : AV :=
 .tup [.agg [.i (clsIx s (splitF w 46)[0]! s.cl.length), .i (rtN s (splitF w 46) ((splitF w 46).length - 1)).1],
  .b ((rtN s (splitF w 46) ((splitF w 46).length - 1)).2 && decide (clsIx s (splitF w 46)[0]! s.cl.length ≥ 0))]
theorem rtN_stop {s : Sys} {ps : List ByteArray} {i : Nat} (h : (rtN s ps i).2 = false) : ∀ j, rtN s ps (i + j) = rtN s ps i
 | 0 => rfl
 | j + 1 => by
  have ih := rtN_stop h j
  rw [← Nat.add_assoc, rtN, ih, if_pos h]
theorem c84 (s : Sys) (hs : SSz s) (hn12 : s.cl.length ≤ 12) (hm : s.co.length ≤ 8) (w : ByteArray) (hw : w.size < 2 ^ 38) : PC Tryz.prog 84 [sysV s, .cv (.str w)] (rightV s w) := by
 have hp2 : (2 : Nat) ^ 38 = 274877906944 := by decide
 have hbp := pow_bd hm
 refine ⟨AC_FE (fok84 true) (Nat.le_of_ble_eq_true rfl) ?_, rfl⟩
 have h83 : PC Tryz.prog 83 [.cv (.str w), .cv (.int .u8 46)] (.cv (strR (splitF w 46))) := c83 w 46 hw
 have hpos := splitF_pos w 46
 have hpl : (splitF w 46).length ≤ w.size + 1 := by
  unfold splitF
  have := (splN_le w 46 w.size).2
  rw [List.length_append]; simp; omega
 unfold rightV
 generalize splitF w 46 = ps at *
 simp only [ic84, f_box, cellsOf, evA, if_true, if_false, beq_false, simprocAttr]
 refine h83.call frz ?_
 simp only [evA, if_true, if_false, beq_false, simprocAttr]
 refine IL_for s.cl.length (fun c s' => ∃ v8 v9 v10 v11 v12 v13, s' = ⟨[sysV s, .cv (.str w), .ptr 0 0, .ptr 1 0, .b false, .cv (strR ps), .ptr 2 0, .i c, v8, v9, v10, v11, v12, v13], [.cells [.cv (clsR s.cl), .cv (strR s.co)], .cells [.i 0, .i 0], .cells [.i (clsIx s ps[0]! c), .i 0]]⟩) ?_ 0 (Nat.zero_le _) ⟨_, _, _, _, _, _, rfl⟩
 rintro c s' hc ⟨v8, v9, v10, v11, v12, v13, rfl⟩
 by_cases hcn : c < s.cl.length
 ·have hst : clsIx s ps[0]! (c + 1) = if (s.cl[c]!).nm = ps[0]! then (c : Int) else clsIx s ps[0]! c := rfl
  have h0a : ∀ σ, f_iaS 1 [.cv (strR ps), .cv (.int .i64 0)] σ = some (.cv (.rp (ps.map .str) (0 * 1)), σ) := ia_rsl hpos
  have h0l : (ps.map CV.str)[0]? = some (.str ps[0]!) := str_ld hpos
  simp only [ic84l1, Int.ofNat_lt, hcn, evA, if_true, if_false, beq_false, simprocAttr]
  refine DW_s [] [] hmix (by kernel_rfl) rfl ?_
  simp only [ia_cls hcn, cls_0 hcn, h0a, h0l, Nat.zero_mul, binS, str_eq, evA, if_true, if_false, beq_false, simprocAttr]
  cases hd : decide ((s.cl[c]!).nm = ps[0]!) with
  | true =>
   rw [if_pos (of_decide_eq_true hd)] at hst
   simp only [wrap_succ (show c + 1 < 2 ^ 63 by omega), evA, if_true, if_false, beq_false, simprocAttr]
   exact kFor_go (by first | trivial | omega) ⟨_, _, _, _, _, _, by rw [hst]⟩
  | false =>
   rw [if_neg (of_decide_eq_false hd)] at hst
   simp only [wrap_succ (show c + 1 < 2 ^ 63 by omega), evA, if_true, if_false, beq_false, simprocAttr]
   exact kFor_go (by first | trivial | omega) ⟨_, _, _, _, _, _, by rw [hst]⟩
 have hcn' : c = s.cl.length := by omega
 subst hcn'
 generalize clsIx s ps[0]! s.cl.length = cx at *
 simp only [ic84l1, Int.ofNat_lt, hcn, evA, if_true, if_false, beq_false, simprocAttr]
 refine IL_for ps.length (fun i s' => 1 ≤ i ∧ (rtN s ps (i - 1)).2 = true ∧ ∃ v9 v11 v12 v13, s' = ⟨[sysV s, .cv (.str w), .ptr 0 0, .ptr 1 0, .b false, .cv (strR ps), .ptr 2 0, .i s.cl.length, .i i, v9, .b false, v11, v12, v13], [.cells [.cv (clsR s.cl), .cv (strR s.co)], .cells [.i 0, .i 0], .cells [.i cx, .i (rtN s ps (i - 1)).1]]⟩) ?_ 1 (by omega) ⟨Nat.le_refl _, rfl, _, _, _, _, rfl⟩
 rintro i s' hi ⟨hi1, hokk, v9, v11, v12, v13, rfl⟩
 obtain ⟨i, rfl⟩ : ∃ j, i = j + 1 := ⟨i - 1, by omega⟩
 rw [Nat.add_sub_cancel] at hokk ⊢
 have hran := rtN_ran hm ps i
 by_cases hin : i + 1 < ps.length
 ·have hx := strIdx_lt s.co ps[i + 1]!
  have hst : rtN s ps (i + 1) = if strIdx s.co ps[i + 1]! < 0 then ((rtN s ps i).1, false) else if bit (rtN s ps i).1 (strIdx s.co ps[i + 1]!).toNat then ((rtN s ps i).1, false) else ((rtN s ps i).1 + 2 ^ (strIdx s.co ps[i + 1]!).toNat, true) := by
   rw [rtN, if_neg (by rw [hokk]; decide)]
  have hfinal : (rtN s ps (i + 1)).2 = false → rtN s ps (ps.length - 1) = rtN s ps (i + 1) := fun h => by
   have := rtN_stop h (ps.length - 1 - (i + 1))
   rwa [show i + 1 + (ps.length - 1 - (i + 1)) = ps.length - 1 by omega] at this
  have hpi := str_ld hin
  have h86 := c86 s.co ps[i + 1]! hs.co
  simp only [ic84l0, Int.ofNat_lt, hin, evA, if_true, if_false, beq_false, simprocAttr]
  refine DW_s [6] [] hmix (by kernel_rfl) rfl ?_
  simp only [ia_rsl hin, Nat.mul_one, hpi, evA, if_true, if_false, beq_false, simprocAttr]
  refine kK_keep (h86.call frz ⟨rfl, rfl⟩) rfl ?_
  have hran2 := rtN_ran hm ps (i + 1)
  generalize rtN s ps i = p at *
  obtain ⟨cd, ok⟩ := p
  generalize strIdx s.co ps[i + 1]! = k at *
  simp only at hokk hran hst
  subst hokk
  by_cases hk : k < 0
  ·rw [if_pos hk] at hst
   rw [hfinal (by rw [hst]), hst]
   simp only [hk, evA, if_true, if_false, beq_false, simprocAttr]
   exact frz
  rw [if_neg hk] at hst
  obtain ⟨q, rfl⟩ : ∃ q : Nat, k = (q : Int) := ⟨k.toNat, by omega⟩
  rw [Int.toNat_natCast] at hst
  simp only [hk, evA, if_true, if_false, beq_false, simprocAttr]
  refine (c52 cd ⟨hran.1, by omega⟩ q (by omega)).call frz ?_
  cases hbit : bit cd q with
  | true =>
   rw [hbit, if_pos rfl] at hst
   rw [hfinal (by rw [hst]), hst]
   simp only [evA, if_true, if_false, beq_false, simprocAttr]
   exact frz
  | false =>
   rw [hbit, if_neg (by decide)] at hst
   rw [hst] at hran2
   simp only at hran2
   have hwa : IntKind.i64.wrap (cd + 2 ^ q) = cd + 2 ^ q := wrap_in (by omega)
   simp only [evA, if_true, if_false, beq_false, simprocAttr]
   refine DW_s [3] [] hmix (by kernel_rfl) rfl ?_
   simp only [evA, if_true, if_false, beq_false, simprocAttr]
   refine kK_keep ((c49 q (by omega)).call frz ⟨rfl, rfl⟩) rfl ?_
   simp only [hwa, wrap_succ (show i + 1 + 1 < 2 ^ 63 by omega), evA, if_true, if_false, beq_false, simprocAttr]
   refine kFor_go (by first | trivial | omega) ?_
   simp only [Nat.add_sub_cancel, hst]
   exact ⟨trivial, _, _, _, _, rfl⟩
 ·have hin' : ps.length - 1 = i := by omega
  rw [hin', hokk]
  simp only [ic84l0, Int.ofNat_lt, hin, evA, if_true, if_false, beq_false, simprocAttr]
  refine DW_s [] [(2, 4)] hmix (by kernel_rfl) rfl ?_
  simp only [evA, if_true, if_false, beq_false, simprocAttr]
  exact frz
theorem rdL_stop {s : Sys} {ws : List ByteArray} {i : Nat} (h : rdL s ws i = none) : ∀ j, rdL s ws (i + j) = none
 | 0 => h
 | j + 1 => by rw [← Nat.add_assoc, rdL, rdL_stop h j]
theorem c41 (s : Sys) (hs : SSz s) (x : ByteArray) (hx : x.size < 2 ^ 63) : PC Tryz.prog 41 [sysV s, .cv (.str x)] (rdV s x) := by
 have hp2 : (2 : Nat) ^ 38 = 274877906944 := by decide
 have hp3 : (2 : Nat) ^ 44 = 17592186044416 := by decide
 refine ⟨AC_FE (fok41 true) (Nat.le_of_ble_eq_true rfl) ?_, by unfold rdV; repeat (split <;> try rfl)⟩
 have h54 := c54 s hs
 unfold chkV at h54
 have hn0 := sysE_n (s := s)
 have hnm := sysE_nm (s := s)
 unfold rdV
 generalize sysE s = e at *
 obtain ⟨e1, e2, e3⟩ := e
 have nil_ : ∀ {τ : List AObj} {k : Int}, FrzV scl τ (.tup [.cv .nils, .i k]) (.tup [rgL [], .i k]) := .tup (.cons (.c .nl) (.cons (.c (.c _ trivial)) .nil))
 by_cases he : e3 = 0
 rotate_left
 ·have hb : (e3 != 0) = true := by simpa using he
  have hb2 : (e3 == 0) = false := by simpa using he
  rw [if_pos he]
  simp only [ic41, f_box, cellsOf, evA, if_true, if_false, beq_false, simprocAttr]
  refine h54.call frz ?_
  simp only [hb, hb2, evA, if_true, if_false, beq_false, simprocAttr]
  exact nil_
 obtain ⟨⟨hn1, hn12⟩, hm, hok⟩ := hn0 he
 have hnmo := hnm he
 have hb : (e3 == 0) = true := by simpa using he
 have hb2 : (e3 != 0) = false := by simpa using he
 rw [if_neg (show ¬ (e3 ≠ 0) from fun h => h he)]
 by_cases h7 : x.size > 7000
 ·have hg : decide ((x.size : Int) > 7000) = true := decide_eq_true (by omega)
  have b3 : ((3 : Int) != 0) = true := by decide
  rw [if_pos h7]
  simp only [ic41, f_box, cellsOf, evA, if_true, if_false, beq_false, simprocAttr]
  refine h54.call frz ?_
  simp only [hb, hg, b3, evA, if_true, if_false, beq_false, simprocAttr]
  exact nil_
 have hg : decide ((x.size : Int) > 7000) = false := decide_eq_false (by omega)
 rw [if_neg h7]
 by_cases hd : x = bts [45]
 ·have hq : decide (x = bts [45]) = true := decide_eq_true hd
  rw [if_pos hd]
  simp only [ic41, f_box, cellsOf, evA, if_true, if_false, beq_false, simprocAttr]
  refine h54.call frz ?_
  simp only [hb, hb2, hg, binS, str_eq, hq, evA, if_true, if_false, beq_false, simprocAttr]
  exact nil_
 have hq : decide (x = bts [45]) = false := decide_eq_false hd
 rw [if_neg hd]
 have h83 : PC Tryz.prog 83 [.cv (.str x), .cv (.int .u8 32)] (.cv (strR (splitF x 32))) := c83 x 32 (by omega)
 simp only [ic41, f_box, cellsOf, evA, if_true, if_false, beq_false, simprocAttr]
 refine h54.call frz ?_
 simp only [hb, hb2, hg, binS, str_eq, hq, evA, if_true, if_false, beq_false, simprocAttr]
 refine h83.call frz ?_
 have hsz : ∀ i, i < (splitF x 32).length → ((splitF x 32)[i]!).size < 2 ^ 38 := fun i hi => by
  have := splitF_size (x := x) (b := 32) (y := (splitF x 32)[i]!) (by rw [getElem!_pos _ i hi]; exact List.getElem_mem hi)
  omega
 have hpl : (splitF x 32).length ≤ x.size + 1 := by
  unfold splitF
  have := (splN_le x 32 x.size).2
  rw [List.length_append]; simp; omega
 generalize splitF x 32 = ws at *
 simp only [evA, if_true, if_false, beq_false, simprocAttr]
 refine IL_for ws.length (fun i s' => ∃ v7 v9 v10 v14 v15 τ l, rdL s ws i = some l ∧ AccSF 1 2 (.cells [.cv (clsR s.cl), .cv (strR s.co)] :: τ) v7 l.length (l.flatMap rgC) ∧ s' = ⟨[sysV s, .cv (.str x), .ptr 0 0, .cv .nils, .i 0, .i e3, .cv (strR ws), v7, .i i, v9, v10, .b false, .b false, .b false, v14, v15, .undef], .cells [.cv (clsR s.cl), .cv (strR s.co)] :: τ⟩) ?_ 0 (Nat.zero_le _) ⟨_, _, _, _, _, [], [], rfl, .inl ⟨rfl, rfl, rfl⟩, rfl⟩
 rintro i s' hi ⟨v7, v9, v10, v14, v15, τ, l, hrl, hA, rfl⟩
 obtain ⟨hl40, hlok⟩ := rdL_ok hm ws i l hrl
 by_cases hin : i < ws.length
 ·have h84 : PC Tryz.prog 84 [sysV s, .cv (.str ws[i]!)] (.tup [rgV (rightF s ws[i]!).1, .b (rightF s ws[i]!).2]) := c84 s hs hn12 hm ws[i]! (hsz i hin)
  have hst : rdL s ws (i + 1) = if (!(rightF s ws[i]!).2 || decide (l.length = 40)) = true then none else some (l ++ [(rightF s ws[i]!).1]) := by rw [rdL, hrl]
  have hnone : rdL s ws (i + 1) = none → rdL s ws ws.length = none := fun h => by
   have := rdL_stop h (ws.length - (i + 1))
   rwa [show i + 1 + (ws.length - (i + 1)) = ws.length by omega] at this
  simp only [ic41l0, Int.ofNat_lt, hin, evA, if_true, if_false, beq_false, simprocAttr]
  refine DW_s [5] [(0, 9), (4, 9), (5, 9)] hmix (by kernel_rfl) rfl ?_
  simp only [ia_rsl hin, Nat.mul_one, str_ld hin, evA, if_true, if_false, beq_false, simprocAttr]
  refine kK_keep (h84.call frz ⟨rfl, rfl⟩) rfl ?_
  generalize rightF s ws[i]! = rf at *
  obtain ⟨r, is⟩ := rf
  simp only at hst
  cases is with
  | false =>
   rw [hnone (by rw [hst]; rfl)]
   simp only [List.append_assoc, List.length_append, rowOf_az, rowOf_as, set_az, set_as, get_az, get_as, get_nz, get_ns, evA, if_true, if_false, beq_false, simprocAttr]
   exact nil_
  | true =>
  have hlen40 : ((l.length : Int) == 40) = decide (l.length = 40) := by rw [Bool.eq_iff_iff]; simp; omega
  have hvl : f_len false [v7] = fun σ => some (.i l.length, σ) := by
   rcases hA with ⟨rfl, h, _⟩ | ⟨p, _, rfl, _⟩
   ·rw [h]; rfl
   ·rfl
  have hvl2 : ∀ σ, f_len false [v7] σ = some (.i l.length, σ) := fun σ => by rw [hvl]
  cases h40 : decide (l.length = 40) with
  | true =>
   rw [hnone (by rw [hst, h40]; rfl)]
   simp only [List.append_assoc, List.length_append, rowOf_az, rowOf_as, set_az, set_as, get_az, get_as, get_nz, get_ns, hvl2, hlen40, h40, evA, if_true, if_false, beq_false, simprocAttr]
   exact nil_
  | false =>
   rw [h40] at hst
   have hst' : rdL s ws (i + 1) = some (l ++ [r]) := by rw [hst]; rfl
   have hA1 : AccSF 1 2 (.cells [.cv (clsR s.cl), .cv (strR s.co)] :: (τ ++ [AObj.cells [.i r.1, .i r.2]])) v7 l.length (l.flatMap rgC) := by
    rcases hA with h | ⟨p, g1, g2, g3, g4⟩
    ·exact .inl h
    ·refine .inr ⟨p, g1, g2, g3, ?_⟩
     obtain ⟨q, rfl⟩ : ∃ q, p = q + 1 := ⟨p - 1, by omega⟩
     exact rowOf_low (σ := τ) g4 _
   obtain ⟨v', σ', happ, hA', hfr, hlnn⟩ := accSF_append (by_ := 16) (x := rgC r) (by simp) hA1 rfl (by omega) (by omega)
   have hA2 : AccSF 1 2 σ' v' (l ++ [r]).length ((l ++ [r]).flatMap rgC) := by
    rw [List.length_append, List.flatMap_append]; simpa using hA'
   have f0 := hfr 0 (by omega)
   match σ', hlnn with
   | x0 :: σ2, _ =>
   have g0 : x0 = .cells [.cv (clsR s.cl), .cv (strR s.co)] := by simpa using f0
   subst g0
   simp only [List.append_assoc, List.length_append, rowOf_az, rowOf_as, set_az, set_as, get_az, get_as, get_nz, get_ns, List.cons_append, List.nil_append, List.length_cons, List.length_nil, Nat.zero_add, rgC, List.map_cons, List.map_nil] at happ
   simp only [List.append_assoc, List.length_append, rowOf_az, rowOf_as, set_az, set_as, get_az, get_as, get_nz, get_ns, hvl2, hlen40, h40, happ, hA.nu, hA2.nu, wrap_succ (show i + 1 < 2 ^ 63 by omega), evA, if_true, if_false, beq_false, simprocAttr]
   exact kFor_go (by first | trivial | omega) ⟨_, _, _, _, _, _, _, hst', hA2, rfl⟩
 ·have hin' : i = ws.length := by omega
  subst hin'
  rw [hrl]
  have h74 := c74 s hs hnmo hm l hl40 hlok
  simp only [ic41l0, Int.ofNat_lt, hin, evA, if_true, if_false, beq_false, simprocAttr]
  refine h74.call (.cons (.agg (.cons (.c (.c _ trivial)) (.cons (.c (.c _ trivial)) .nil))) (.cons (accS_frz hA.acc (fun _ _ => trivial)) .nil)) ?_
  cases ht : decide (textF s l = x) with
  | true =>
   rw [if_pos (of_decide_eq_true ht)]
   simp only [binS, str_eq, ht, hA.nu, Bool.not_true, evA, if_true, if_false, beq_false, simprocAttr]
   exact .tup (.cons (accS_frz hA.acc (rgL_scl l)) (.cons (.c (.c _ trivial)) .nil))
  | false =>
   rw [if_neg (of_decide_eq_false ht)]
   simp only [binS, str_eq, ht, Bool.not_false, evA, if_true, if_false, beq_false, simprocAttr]
   exact nil_
end Go.Proofs.YtpnghcaccfnngaaGreatDoor.AM
namespace Go.Proofs.YtpnghcaccfnngaaGreatDoor.AM
variable [Dr]
open Go
theorem typed_int {P : Program} {t : TypeId} {k : IntKind} {cs : List CV} (ht : P.underlying t = some (.int k)) (h : Typed P t cs) : ∃ n, cs = [.int k n] ∧ (Lit.int k n).wf = true := by
 cases h with
 | int ht' n hw => rw [ht] at ht'; cases ht'; exact ⟨n, rfl, hw⟩
 | bool ht' => rw [ht] at ht'; cases ht'
 | str ht' => rw [ht] at ht'; cases ht'
 | slc ht' => rw [ht] at ht'; cases ht'
 | arr ht' => rw [ht] at ht'; cases ht'
 | struct ht' => rw [ht] at ht'; cases ht'
theorem typed_str {P : Program} {t : TypeId} {cs : List CV} (ht : P.underlying t = some .string) (h : Typed P t cs) : ∃ s : ByteArray, cs = [.str s] ∧ s.size ≤ maxLen := by
 cases h with
 | str ht' s hs => exact ⟨s, rfl, hs⟩
 | bool ht' => rw [ht] at ht'; cases ht'
 | int ht' => rw [ht] at ht'; cases ht'
 | slc ht' => rw [ht] at ht'; cases ht'
 | arr ht' => rw [ht] at ht'; cases ht'
 | struct ht' => rw [ht] at ht'; cases ht'
theorem typed_slc {P : Program} {t e : TypeId} {cs : List CV} (ht : P.underlying t = some (.slice e)) (h : Typed P t cs) : ∃ L : List (List CV), cs = [.rsl L.flatten L.length] ∧ L.length ≤ maxLen ∧ (∀ l ∈ L, l.length = P.cellsOf e) ∧ ∀ l ∈ L, Typed P e l := by
 cases h with
 | slc ht' L hn hl h => rw [ht] at ht'; cases ht'; exact ⟨L, rfl, hn, hl, h⟩
 | bool ht' => rw [ht] at ht'; cases ht'
 | int ht' => rw [ht] at ht'; cases ht'
 | str ht' => rw [ht] at ht'; cases ht'
 | arr ht' => rw [ht] at ht'; cases ht'
 | struct ht' => rw [ht] at ht'; cases ht'
theorem typed_struct {P : Program} {t : TypeId} {fs : Array Field} {cs : List CV} (ht : P.underlying t = some (.struct fs)) (h : Typed P t cs) : ∃ L : List (List CV), cs = L.flatten ∧ L.length = fs.size ∧ ∀ (i : Nat) (f : Field) (l : List CV), fs[i]? = some f → L[i]? = some l → Typed P f.type l := by
 cases h with
 | struct ht' L hn hl h => rw [ht] at ht'; cases ht'; exact ⟨L, rfl, hn, h⟩
 | bool ht' => rw [ht] at ht'; cases ht'
 | int ht' => rw [ht] at ht'; cases ht'
 | str ht' => rw [ht] at ht'; cases ht'
 | slc ht' => rw [ht] at ht'; cases ht'
 | arr ht' => rw [ht] at ht'; cases ht'
theorem ints_of {P : Program} {e : TypeId} {k : IntKind} (he : P.underlying e = some (.int k)) : ∀ L : List (List CV), (∀ l ∈ L, Typed P e l) → ∃ zs : List Int, L.flatten = zs.map (.int k) ∧ L.length = zs.length ∧ ∀ z ∈ zs, (Lit.int k z).wf = true
 | [], _ => ⟨[], rfl, rfl, by simp⟩
 | l :: L, h => by
  obtain ⟨n, rfl, hn⟩ := typed_int he (h l (by simp))
  obtain ⟨zs, h1, h2, h3⟩ := ints_of he L fun l hl => h l (by simp [hl])
  exact ⟨n :: zs, by simp [h1], by simp [h2], by simpa using ⟨hn, h3⟩⟩
theorem wf_i64 {n : Int} (h : (Lit.int .i64 n).wf = true) : -9223372036854775808 ≤ n ∧ n ≤ 9223372036854775807 := by
 simp only [Lit.wf, Bool.and_eq_true, decide_eq_true_eq, IntKind.min, IntKind.max, IntKind.bits, IntKind.signed] at h
 simp at h; omega
theorem args_cons {P : Program} {t : TypeId} {ts : List TypeId} {avs : List AV} (h : Args P (t :: ts) avs) : ∃ cs avs', avs = avOf P t cs :: avs' ∧ Typed P t cs ∧ Args P ts avs' := by
 generalize hts : t :: ts = u at h
 cases h with
 | nil => cases hts
 | cons h1 h2 => cases hts; exact ⟨_, _, rfl, h1, h2⟩
theorem args_nil {P : Program} {avs : List AV} (h : Args P [] avs) : avs = [] := by
 generalize hts : ([] : List TypeId) = u at h
 cases h with
 | nil => rfl
 | cons h1 h2 => cases hts
end Go.Proofs.YtpnghcaccfnngaaGreatDoor.AM
namespace Go.Proofs.YtpnghcaccfnngaaGreatDoor.AM
open Go Pl
theorem typed_list {α : Type} {f : α → List CV} {p : α → Prop} {t : TypeId} (h : ∀ cs, Typed Tryz.prog t cs → ∃ x, cs = f x ∧ p x) : ∀ L : List (List CV), (∀ l ∈ L, Typed Tryz.prog t l) → ∃ xs : List α, L.flatten = xs.flatMap f ∧ L.length = xs.length ∧ ∀ x ∈ xs, p x
 | [], _ => ⟨[], rfl, rfl, by simp⟩
 | l :: L, hl => by
  obtain ⟨x, h1, h2⟩ := h l (hl l (by simp))
  obtain ⟨xs, g1, g2, g3⟩ := typed_list h L fun l hh => hl l (by simp [hh])
  exact ⟨x :: xs, by simp [h1, g1], by simp [g2], by simpa using ⟨h2, g3⟩⟩
theorem typed_cls {cs : List CV} (h : Typed Tryz.prog 109 cs) : ∃ c : Cls, cs = clsC c ∧ c.nm.size ≤ maxLen ∧ c.inc.length ≤ maxLen := by
 obtain ⟨L, rfl, hn, hf⟩ := typed_struct Tryz.underlying109 h
 match L, hn with
 | [a, b, c, d, e], _ =>
  obtain ⟨s, rfl, h1⟩ := typed_str Tryz.underlying9 (hf 0 _ a rfl rfl)
  obtain ⟨L2, rfl, hn2, _, hl2⟩ := typed_slc Tryz.underlying54 (hf 1 _ b rfl rfl)
  obtain ⟨zs, g1, g2, g3⟩ := ints_of Tryz.underlying3 L2 hl2
  obtain ⟨n1, rfl, _⟩ := typed_int Tryz.underlying3 (hf 2 _ c rfl rfl)
  obtain ⟨n2, rfl, _⟩ := typed_int Tryz.underlying3 (hf 3 _ d rfl rfl)
  obtain ⟨n3, rfl, _⟩ := typed_int Tryz.underlying3 (hf 4 _ e rfl rfl)
  exact ⟨⟨s, zs, n1, n2, n3⟩, by simp [clsC, g1, g2], h1, by show zs.length ≤ maxLen; omega⟩
theorem typed_rg {cs : List CV} (h : Typed Tryz.prog 60 cs) : ∃ r : Rt, cs = rgC r ∧ RgW r := by
 obtain ⟨L, rfl, hn, hf⟩ := typed_struct Tryz.underlying60 h
 match L, hn with
 | [a, b], _ =>
  obtain ⟨n1, rfl, w1⟩ := typed_int Tryz.underlying3 (hf 0 _ a rfl rfl)
  obtain ⟨n2, rfl, w2⟩ := typed_int Tryz.underlying3 (hf 1 _ b rfl rfl)
  exact ⟨(n1, n2), by simp [rgC], ⟨wf_i64 w1, wf_i64 w2⟩⟩
theorem typed_sys {cs : List CV} (h : Typed Tryz.prog 38 cs) : ∃ s : Sys, avOf Tryz.prog 38 cs = sysV s ∧ SSz s := by
 obtain ⟨L, rfl, hn, hf⟩ := typed_struct Tryz.underlying38 h
 match L, hn with
 | [a, b], _ =>
  obtain ⟨L1, rfl, n1, _, h1⟩ := typed_slc Tryz.underlying35 (hf 0 _ a rfl rfl)
  obtain ⟨L2, rfl, n2, _, h2⟩ := typed_slc Tryz.underlying36 (hf 1 _ b rfl rfl)
  obtain ⟨cs, a1, a2, a3⟩ := typed_list (fun cs h => typed_cls h) L1 h1
  obtain ⟨co, b1, b2, b3⟩ := typed_list (f := fun x : ByteArray => [CV.str x]) (p := fun x => x.size ≤ maxLen) (fun cs h => by
   obtain ⟨x, rfl, hx⟩ := typed_str Tryz.underlying9 h
   exact ⟨x, rfl, hx⟩) L2 h2
  have hm : maxLen < 2 ^ 63 := by decide
  have b1' : L2.flatten = co.map CV.str := by rw [b1, List.map_eq_flatMap]
  refine ⟨⟨cs, co⟩, ?_, ⟨by show cs.length < _; omega, by show co.length < _; omega, fun i hi => ?_, fun i hi => ?_, fun i hi => ?_⟩⟩
  ·simp only [avOf, Tryz.underlying38, a1, b1', a2, b2]
   rfl
  ·have hi : i < cs.length := hi
   show (cs[i]!).nm.size < _
   rw [getElem!_pos cs i hi]
   have := (a3 _ (List.getElem_mem hi)).1
   omega
  ·have hi : i < cs.length := hi
   show (cs[i]!).inc.length < _
   rw [getElem!_pos cs i hi]
   have := (a3 _ (List.getElem_mem hi)).2
   omega
  ·have hi : i < co.length := hi
   show (co[i]!).size < _
   rw [getElem!_pos co i hi]
   have := b3 _ (List.getElem_mem hi)
   omega
theorem rights_of {L : List (List CV)} (h : ∀ l ∈ L, Typed Tryz.prog 60 l) : ∃ xs : List Rt, L.flatten = xs.flatMap rgC ∧ L.length = xs.length ∧ ∀ x ∈ xs, RgW x := typed_list (fun cs h => typed_rg h) L h
theorem typed_rgs {cs : List CV} (h : Typed Tryz.prog 39 cs) : ∃ l : List Rt, avOf Tryz.prog 39 cs = rgL l ∧ l.length < 2 ^ 63 ∧ ∀ r ∈ l, RgW r := by
 obtain ⟨L1, rfl, n1, _, h1⟩ := typed_slc Tryz.underlying39 h
 obtain ⟨l, a1, a2, a3⟩ := rights_of h1
 have hm : maxLen < 2 ^ 63 := by decide
 refine ⟨l, by simp only [avOf, Tryz.underlying39, List.headD_cons, a1, a2], by omega, a3⟩
theorem typed_s {cs : List CV} (h : Typed Tryz.prog 9 cs) : ∃ x : ByteArray, avOf Tryz.prog 9 cs = .cv (.str x) ∧ x.size < 2 ^ 63 := by
 obtain ⟨n, rfl, hw⟩ := typed_str Tryz.underlying9 h
 have hm : maxLen < 2 ^ 63 := by decide
 exact ⟨n, by simp [avOf, Tryz.underlying9], by omega⟩
theorem rd_form {s : Sys} (x : ByteArray) : ∃ L e, rdV s x = .tup [rgL L, .i e] ∧ L.length < 2 ^ 63 ∧ ∀ r ∈ L, RgW r := by
 by_cases h0 : (sysE s).2.2 = 0
 ·by_cases h7 : x.size > 7000
  ·exact ⟨[], 3, by unfold rdV; rw [if_neg (fun h => h h0), if_pos h7], by decide, by simp⟩
  ·by_cases hd : x = bts [45]
   ·exact ⟨[], 0, by unfold rdV; rw [if_neg (fun h => h h0), if_neg h7, if_pos hd], by decide, by simp⟩
   ·rw [rdV_eq x h0 h7 hd]
    unfold rdO
    cases hp : pwL s (splitF x 32) (splitF x 32).length with
    | none => exact ⟨[], 6, rfl, by decide, by simp⟩
    | some l =>
     have hv := val_of h0
     obtain ⟨g1, g2, g3, _⟩ := pwL_ok hv _ (Nat.le_refl _) l hp
     exact ⟨l, 0, rfl, by omega, fun r h => (g3 r h).w hv.n12 hv.m8⟩
 ·exact ⟨[], _, by unfold rdV; rw [if_pos h0], by decide, by simp⟩
theorem wrt_form (s : Sys) (l : List Rt) : ∃ x e, wrtV s l = .tup [.cv (.str x), .i e] := by
 unfold wrtV
 split
 all_goals exact ⟨_, _, rfl⟩
end Go.Proofs.YtpnghcaccfnngaaGreatDoor.AM
namespace Go.Proofs.YtpnghcaccfnngaaGreatDoor.AM
variable [Dr]
open Go
abbrev vs6 : List Nat := [0, 1, 2, 3, 6, 7, 8, 9, 10, 11, 12, 32]
def ic6 : IC := (.seq (.region [jb 3 0, jw 4 .mv [jB false]])
 (.seq (.region [jN 2 3, jv 1, jk 38 [.t 0, .t 1], jt 2, jx 0 3, jx 1 3, jm 5 4, jm 6 5])
 (.seq (.region [jN 2 3, jv 1, jk 39 [.t 0, .t 1], jt 2, jx 0 3, jx 1 3, jm 7 4, jm 8 5])
 (.seq (.seq (.region [jv 5, jv 7, jq (.bin .neq .str) [.t 0, .t 1], jt 2, jh 3 false 6, jh 3 false 8, jg 3 false (.bin .neq .int) [.t 4, .t 5], jw 11 .pick [.t 3, jB true, .t 6]])
 (.cond 11 (.seq (.region [jw 4 .mv [jB false]])
 .ret)
 .skip))
 (.seq (.region [jN 2 3, jv 2, jk 40 [.t 0, .t 1], jt 2, jx 0 3, jx 1 3, jm 9 4, jm 6 5])
 (.seq (.region [jN 2 3, jv 2, jk 41 [.t 0, .t 1], jt 2, jx 0 3, jx 1 3, jm 10 4, jm 8 5])
 (.seq (.region [jv 9, jv 10, jk 33 [.t 0, .t 1], jt 2, jh 3 true 6, jh 3 true 8, jg 3 true (.bin .eql .int) [.t 4, .t 5], jq .pick [.t 3, .t 6, jB false], jt 7, jf 8 true 28 [], jq .pick [.t 8, .t 9, jB false], jm 4 10])
 .ret)))))))
abbrev rs6 : List RC := [(.v 4)]
theorem fok6 (p : Bool) : FnOk Tryz.prog 6 ⟨ic6, vs6, 56, rs6, p⟩ := .mk2 Tryz.func6 (by kernel_rfl) (by kernel_rfl) (by kernel_rfl) (by kernel_rfl) (by kernel_rfl)
end Go.Proofs.YtpnghcaccfnngaaGreatDoor.AM
namespace Go.Proofs.YtpnghcaccfnngaaGreatDoor.AM
open Go Pl
theorem lc6 (s : Sys) (hs : SSz s) (l : List Rt) (hl : l.length < 2 ^ 63) (x : ByteArray) (hx : x.size < 2 ^ 63) : AC Tryz.prog 6 [sysV s, rgL l, .cv (.str x)] [] fun r _ => r = .b true := by
 refine AC_FE (fok6 true) (Nat.le_of_ble_eq_true rfl) ?_
 have h38 := c38 s hs l hl
 have h39 := c39 s hs l hl
 have h40 := c40 s hs x hx
 have h41 := c41 s hs x hx
 obtain ⟨t, e, h⟩ := wrt_form s l
 rw [h] at h38 h39
 obtain ⟨L, e', h, hL, hw⟩ := rd_form (s := s) x
 rw [h] at h40 h41
 have h33 := c33 L L hL hL hw hw
 rw [decide_eq_true rfl] at h33
 have n1 : (e != e) = false := by simp
 have n3 : binS .neq t t = some (.b false) := by simp [binS, str_eq]
 have n4 : (e' == e') = true := by simp
 simp only [ic6, f_box, cellsOf, evA, if_true, if_false, beq_false, simprocAttr]
 refine h38.call frz ?_
 simp only [evA, if_true, if_false, beq_false, simprocAttr]
 refine h39.call frz ?_
 simp only [n1, n3, evA, if_true, if_false, beq_false, simprocAttr]
 refine h40.call frz ?_
 simp only [evA, if_true, if_false, beq_false, simprocAttr]
 refine h41.call frz ?_
 simp only [evA, if_true, if_false, beq_false, simprocAttr]
 refine h33.call frz ?_
 simp only [n4, evA, if_true, if_false, beq_false, simprocAttr]
 refine awake.call .nil ?_
 simp only [evA, if_true, if_false, beq_false, simprocAttr]
theorem law_ClassTexts (avs : List AV) (h : Args Tryz.prog Tryz.f6.params.toList avs) : AC Tryz.prog 6 avs [] fun r _ => r = .b true := by
 have h : Args Tryz.prog [38, 39, 9] avs := h
 obtain ⟨cs1, avs, rfl, h1, h⟩ := args_cons h
 obtain ⟨cs2, avs, rfl, h2, h⟩ := args_cons h
 obtain ⟨cs3, avs, rfl, h3, h⟩ := args_cons h
 cases args_nil h
 obtain ⟨s, e1, hs⟩ := typed_sys h1
 obtain ⟨l, e2, hl, _⟩ := typed_rgs h2
 obtain ⟨x, e3, hx⟩ := typed_s h3
 rw [e1, e2, e3]
 exact lc6 s hs l hl x hx
end Go.Proofs.YtpnghcaccfnngaaGreatDoor.AM

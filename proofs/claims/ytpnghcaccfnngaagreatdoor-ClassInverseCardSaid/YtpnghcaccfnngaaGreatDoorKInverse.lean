/- Parts of the proof of Inverse. -/
import Derived.Test.YtpnghcaccfnngaaGreatDoorRows
import Derived.WalkKit
import Derived.ProofKit
import Derived.OpenShut
import Derived.Carry
import Derived.Test.YtpnghcaccfnngaaGreatDoorZ17
set_option linter.unusedVariables false
set_option linter.unusedSimpArgs false
set_option linter.unusedSectionVars false
namespace Go.Proofs.YtpnghcaccfnngaaGreatDoor.AM
variable [Dr]
open Go Go.ChangeShapes Go.WideShapes Go.ChangeAt Go.RowKit
abbrev noO : Nat → Prop := Own (fun _ => none) (fun _ => False)
theorem not_noO (b : Nat) : ¬ noO b := by rintro (h | ⟨l, hl⟩); exact h; cases hl
theorem fin_choice {α : Type} {Q : Nat → α → Prop} : ∀ (n : Nat), (∀ i, i < n → ∃ l, Q i l) → ∃ L : List α, L.length = n ∧ ∀ (i : Nat) (l : α), L[i]? = some l → Q i l
 | 0, _ => ⟨[], rfl, by simp⟩
 | n + 1, h => by
  obtain ⟨L, h1, h2⟩ := fin_choice n (fun i hi => h i (by omega))
  obtain ⟨l, hl⟩ := h n (by omega)
  refine ⟨L ++ [l], by simp [h1], fun i l' hi => ?_⟩
  rcases Nat.lt_or_ge i n with hlt | hge
  ·rw [List.getElem?_append_left (by omega)] at hi; exact h2 i l' hi
  ·rw [List.getElem?_append_right (by omega), h1] at hi
   have : i = n := by
    rcases Nat.lt_or_ge n i with h' | h'
    ·rw [List.getElem?_eq_none (by simp; omega)] at hi; cases hi
    ·omega
   subst this
   simp at hi; subst hi; exact hl
theorem flat_rel {R : Nat → CV → Prop} {esz : Nat} : ∀ (L : List (List CV)) (n : Nat), (∀ (i : Nat) (l : List CV), L[i]? = some l → l.length = esz ∧ ∀ (j : Nat) (c : CV), l[j]? = some c → R (n + i * esz + j) c) →
  L.flatten.length = L.length * esz ∧ ∀ (k : Nat) (c : CV), L.flatten[k]? = some c → R (n + k) c
 | [], n, _ => by simp
 | l :: L, n, h => by
  obtain ⟨h1, h2⟩ := h 0 l (by simp)
  have ih := flat_rel L (n + esz) (fun i l' hi => by
   obtain ⟨g1, g2⟩ := h (i + 1) l' (by simpa using hi)
   refine ⟨g1, fun j c hj => ?_⟩
   have := g2 j c hj
   rwa [Nat.add_mul, Nat.one_mul, ← Nat.add_assoc, Nat.add_right_comm n] at this)
  refine ⟨by simp [h1, ih.1, Nat.add_mul, Nat.add_comm], fun k c hk => ?_⟩
  rw [List.flatten_cons] at hk
  rcases Nat.lt_or_ge k l.length with hlt | hge
  ·rw [List.getElem?_append_left hlt] at hk
   have := h2 k c hk
   simpa using this
  ·rw [List.getElem?_append_right hge] at hk
   have := ih.2 (k - l.length) c hk
   rwa [show n + esz + (k - l.length) = n + k by omega] at this
theorem flat_relF {P : Program} {R : Nat → CV → Prop} {N : Nat} : ∀ (fs : List Field) (L : List (List CV)) (n : Nat), fieldsEnd P fs n = some N → L.length = fs.length →
  (∀ (i : Nat) (f : Field) (l : List CV), fs[i]? = some f → L[i]? = some l → l.length = P.cellsOf f.type ∧ ∀ (j : Nat) (c : CV), l[j]? = some c → R (f.offset + j) c) →
  n + L.flatten.length = N ∧ ∀ (k : Nat) (c : CV), L.flatten[k]? = some c → R (n + k) c
 | [], L, n, he, hl, _ => by
  have : L = [] := List.eq_nil_of_length_eq_zero (by simpa using hl)
  subst this
  simp only [fieldsEnd, Option.some.injEq] at he
  simp [he]
 | f :: fs, [], n, _, hl, _ => by simp at hl
 | f :: fs, l :: L, n, he, hl, h => by
  simp only [fieldsEnd] at he
  split at he
  ·rename_i hoff
   obtain ⟨h1, h2⟩ := h 0 f l (by simp) (by simp)
   have ih := flat_relF fs L (n + P.cellsOf f.type) he (by simpa using hl) (fun i f' l' hf hl' => h (i + 1) f' l' (by simpa using hf) (by simpa using hl'))
   refine ⟨by rw [← ih.1]; simp [h1]; omega, fun k c hk => ?_⟩
   rw [List.flatten_cons] at hk
   rcases Nat.lt_or_ge k l.length with hlt | hge
   ·rw [List.getElem?_append_left hlt] at hk
    have := h2 k c hk
    rwa [hoff] at this
   ·rw [List.getElem?_append_right hge] at hk
    have := ih.2 (k - l.length) c hk
    rwa [show n + P.cellsOf f.type + (k - l.length) = n + k by omega] at this
  ·cases he
theorem reps_of_all {W : World} {a : Addr} : ∀ (cs : List CV) (i : Nat), (∀ (j : Nat) (c : CV), cs[j]? = some c → ∃ v, W.cell? (a.add (i + j)) = some v ∧ c.rep W noO v) → CV.reps W noO cs a i
 | [], _, _ => by simp [CV.reps]
 | c :: cs, i, h => by
  simp only [CV.reps]
  refine ⟨not_noO _, by simpa using h 0 c (by simp), reps_of_all cs (i + 1) fun j c' hj => ?_⟩
  have := h (j + 1) c' (by simpa using hj)
  rwa [show i + (j + 1) = i + 1 + j by omega] at this
section
variable {H : Type} {enc : TypeId × Value → H} {P : Program} {W : World}
theorem trod_typed : ∀ (n : Nat) (t : TypeId) (cs : List Value) (x : DataW H × List MemPlace) (fuel : Nat), openT P n t = true → DataW.trod enc P W 0 (fun _ => true) true fuel t cs = some x →
  ∃ cvs : List CV, Typed P t cvs ∧ cvs.length = cs.length ∧ ∀ (i : Nat) (c : CV) (v : Value), cvs[i]? = some c → cs[i]? = some v → c.rep W noO v
 | 0, t, cs, x, fuel, ho, _ => by simp [openT] at ho
 | n + 1, t, cs, x, fuel, ho, h => by
  simp only [openT] at ho
  split at ho
  ·rename_i ht
   obtain ⟨b, rfl, _⟩ := DataW.trod_bool ht h
   refine ⟨[.bool b], .bool ht b, rfl, fun i c v h1 h2 => ?_⟩
   cases i with
   | zero => simp at h1 h2; subst h1 h2; simp [CV.rep]
   | succ i => simp at h1
  ·rename_i k ht
   obtain ⟨b, rfl, _, hw⟩ := DataW.trod_int ht h
   refine ⟨[.int k b], .int ht b hw, rfl, fun i c v h1 h2 => ?_⟩
   cases i with
   | zero => simp at h1 h2; subst h1 h2; simp [CV.rep]
   | succ i => simp at h1
  ·rename_i ht
   obtain ⟨s, rfl, _, hw⟩ := DataW.trod_string ht h
   refine ⟨[.str s], .str ht s hw, rfl, fun i c v h1 h2 => ?_⟩
   cases i with
   | zero => simp at h1 h2; subst h1 h2; simp [CV.rep]
   | succ i => simp at h1
  ·rename_i e ht
   rcases DataW.trod_slice ht h with ⟨rfl, _⟩ | ⟨a, len, cap, elems, rest, m, _, rfl, _, _, hlc, hcm, hel, hget, _⟩
   ·refine ⟨[.rsl [] 0], by simpa using Typed.slc ht [] (by simp) (by simp) (by simp), rfl, fun i c v h1 h2 => ?_⟩
    cases i with
    | zero => simp at h1 h2; subst h1 h2; simp [CV.rep]
    | succ i => simp at h1
   ·obtain ⟨L, hL, hQ⟩ := fin_choice (Q := fun i l => Typed P e l ∧ l.length = P.cellsOf e ∧ ∀ (j : Nat) (c : CV), l[j]? = some c → ∃ v, W.cell? (a.add (i * P.cellsOf e + j)) = some v ∧ c.rep W noO v) len (fun i hi => by
     have hg := hget i hi
     rw [List.getElem?_eq_getElem (by omega)] at hg
     obtain ⟨ci, h1, h2⟩ := Option.bind_eq_some_iff.1 hg
     obtain ⟨_, hlen, hcell⟩ := World.cells?_some h1
     obtain ⟨cvs, g1, g2, g3⟩ := trod_typed n e ci _ _ ho h2
     refine ⟨cvs, g1, by omega, fun j c hj => ?_⟩
     have hjl : j < cvs.length := (List.getElem?_eq_some_iff.1 hj).1
     have hc := hcell j (by omega)
     rw [List.getElem?_eq_getElem (by omega)] at hc
     exact ⟨_, by rw [← Addr.add_add]; exact hc, g3 j c _ hj (List.getElem?_eq_getElem _)⟩)
    have hmem : ∀ l ∈ L, ∃ i : Nat, L[i]? = some l := fun l hl => List.mem_iff_getElem?.1 hl
    have hfl := flat_rel (R := fun k c => ∃ v, W.cell? (a.add k) = some v ∧ c.rep W noO v) (esz := P.cellsOf e) L 0 (fun i l hi => ⟨(hQ i l hi).2.1, fun j c hj => by simpa using (hQ i l hi).2.2 j c hj⟩)
    refine ⟨[.rsl L.flatten L.length], Typed.slc ht L (by omega) (fun l hl => let ⟨i, hi⟩ := hmem l hl; (hQ i l hi).2.1) (fun l hl => let ⟨i, hi⟩ := hmem l hl; (hQ i l hi).1), rfl, fun i c v h1 h2 => ?_⟩
    cases i with
    | zero =>
     simp at h1 h2; subst h1 h2
     simp only [CV.rep]
     exact .inr ⟨a, cap, by rw [hL], by omega, reps_of_all _ 0 (fun j c hj => hfl.2 j c hj)⟩
    | succ i => simp at h1
  ·rename_i k e ht
   simp only [Bool.and_eq_true, decide_eq_true_eq] at ho
   obtain ⟨xs, m, _, _, hlen, hxs, hget⟩ := DataW.trod_array ht h
   obtain ⟨L, hL, hQ⟩ := fin_choice (Q := fun i l => Typed P e l ∧ l.length = P.cellsOf e ∧ ∀ (j : Nat) (c : CV), l[j]? = some c → ∀ v, cs[i * P.cellsOf e + j]? = some v → c.rep W noO v) k (fun i hi => by
     have hg := hget i hi
     rw [List.getElem?_eq_getElem (by omega)] at hg
     obtain ⟨cvs, g1, g2, g3⟩ := trod_typed n e _ _ _ ho.1 hg
     have hik : i * P.cellsOf e + P.cellsOf e ≤ k * P.cellsOf e := by
      have := Nat.mul_le_mul_right (P.cellsOf e) (show i + 1 ≤ k by omega)
      rwa [Nat.add_mul, Nat.one_mul] at this
     have hl2 : cvs.length = P.cellsOf e := by rw [g2]; simp; omega
     refine ⟨cvs, g1, hl2, fun j c hj v hv => ?_⟩
     have hjl : j < cvs.length := (List.getElem?_eq_some_iff.1 hj).1
     exact g3 j c v hj (by rw [List.getElem?_take, if_pos (by omega), List.getElem?_drop]; exact hv))
   have hmem : ∀ l ∈ L, ∃ i : Nat, L[i]? = some l := fun l hl => List.mem_iff_getElem?.1 hl
   have hfl := flat_rel (R := fun k c => ∀ v, cs[k]? = some v → c.rep W noO v) (esz := P.cellsOf e) L 0 (fun i l hi => ⟨(hQ i l hi).2.1, fun j c hj => by simpa using (hQ i l hi).2.2 j c hj⟩)
   exact ⟨L.flatten, Typed.arr ht L hL (fun l hl => let ⟨i, hi⟩ := hmem l hl; (hQ i l hi).2.1) (fun l hl => let ⟨i, hi⟩ := hmem l hl; (hQ i l hi).1), by rw [hfl.1, hlen, ho.2, hL], fun i c v h1 h2 => hfl.2 i c h1 v (by simpa using h2)⟩
  ·rename_i fs ht
   simp only [Bool.and_eq_true, decide_eq_true_eq, List.all_eq_true] at ho
   obtain ⟨xs, m, _, _, hlen, hxs, hget⟩ := DataW.trod_struct ht h
   obtain ⟨L, hL, hQ⟩ := fin_choice (Q := fun i l => ∀ f, fs[i]? = some f → Typed P f.type l ∧ l.length = min (P.cellsOf f.type) (cs.length - f.offset) ∧ ∀ (j : Nat) (c : CV), l[j]? = some c → ∀ v, cs[f.offset + j]? = some v → c.rep W noO v) fs.size (fun i hi => by
     have hfi : fs[i]? = some fs[i] := Array.getElem?_eq_getElem hi
     have hg := hget i fs[i] hfi
     rw [List.getElem?_eq_getElem (by omega)] at hg
     obtain ⟨cvs, g1, g2, g3⟩ := trod_typed n _ _ _ _ (ho.1 fs[i] (by simp)) hg
     have hl2 : cvs.length = min (P.cellsOf fs[i].type) (cs.length - fs[i].offset) := by rw [g2]; simp
     refine ⟨cvs, fun f hf => ?_⟩
     rw [hfi] at hf; cases hf
     refine ⟨g1, hl2, fun j c hj v hv => ?_⟩
     have hjl : j < cvs.length := (List.getElem?_eq_some_iff.1 hj).1
     exact g3 j c v hj (by rw [List.getElem?_take, if_pos (by omega), List.getElem?_drop]; exact hv))
   have hoff : ∀ (fs : List Field) (n N : Nat), fieldsEnd P fs n = some N → n ≤ N ∧ ∀ (i : Nat) (f : Field), fs[i]? = some f → f.offset + P.cellsOf f.type ≤ N := by
    intro fs
    induction fs with
    | nil => intro n N h; simp only [fieldsEnd, Option.some.injEq] at h; simp [h]
    | cons f fs ih =>
     intro n N h
     simp only [fieldsEnd] at h
     split at h
     ·rename_i ho
      obtain ⟨h1, h2⟩ := ih _ _ h
      refine ⟨by omega, fun i f' hi => ?_⟩
      cases i with
      | zero => simp at hi; subst hi; omega
      | succ i => exact h2 i f' (by simpa using hi)
     ·cases h
   have hin := (hoff _ _ _ ho.2).2
   have hl : ∀ (i : Nat) (f : Field) (l : List CV), fs[i]? = some f → L[i]? = some l → l.length = P.cellsOf f.type := by
    intro i f l hf hl
    obtain ⟨_, h2, _⟩ := hQ i l hl f hf
    have := hin i f (by simpa using hf)
    omega
   have hfl := flat_relF (P := P) (R := fun k c => ∀ v, cs[k]? = some v → c.rep W noO v) fs.toList L 0 ho.2 (by simpa using hL) (fun i f l hf hl' =>
    ⟨hl i f l (by simpa using hf) hl', fun j c hj => (hQ i l hl' f (by simpa using hf)).2.2 j c hj⟩)
   exact ⟨L.flatten, Typed.struct ht L hL hl (fun i f l hf hl' => (hQ i l hl' f hf).1), by have := hfl.1; omega, fun i c v h1 h2 => hfl.2 i c h1 v (by simpa using h2)⟩
  ·cases ho
abbrev noX : Nat → Prop := fun _ => False
theorem VRels_of_all : ∀ (cvs : List CV) (vs : List Value), cvs.length = vs.length → (∀ (i : Nat) (c : CV) (v : Value), cvs[i]? = some c → vs[i]? = some v → c.rep W noO v) → VRels nom noX W (cvs.map .cv) vs
 | [], [], _, _ => by simp [VRels]
 | c :: cvs, v :: vs, hl, h => by
  simp only [List.map_cons, VRels, VRel]
  exact ⟨h 0 c v rfl rfl, VRels_of_all cvs vs (by simpa using hl) fun i c v h1 h2 => h (i + 1) c v (by simpa using h1) (by simpa using h2)⟩
 | [], _ :: _, hl, _ => by simp at hl
 | _ :: _, [], hl, _ => by simp at hl
theorem arg_typed {n : Nat} {t : TypeId} {v : Value} {d : DataW H} {ps : List MemPlace} {r : Reach} {base : Nat} (ho : openT P n t = true) (hval : Value.okWide P W r base t v) (h : DataW.Trod enc P W 0 (fun _ => true) true t v d ps) :
  ∃ cs, Typed P t cs ∧ VRel nom noX W (avOf P t cs) v := by
 obtain ⟨fuel, h⟩ := h
 obtain ⟨cvs, h1, h2, h3⟩ := trod_typed n t _ _ _ ho h
 refine ⟨cvs, h1, ?_⟩
 unfold avOf
 have one : (v.cells.toList = [v]) → VRel nom noX W (.cv (cvs.headD .nilp)) v := by
  intro hv
  rw [hv] at h2 h3
  match cvs, h2 with
  | [c], _ => simp only [List.headD_cons, VRel]; exact h3 0 c v rfl rfl
 cases n with
 | zero => simp [openT] at ho
 | succ n =>
  simp only [openT] at ho
  split at ho
  ·rename_i ht; rw [ht]; obtain ⟨b, rfl⟩ := okWide_bool ht hval; exact one rfl
  ·rename_i ht; rw [ht]; obtain ⟨b, rfl⟩ := okWide_int ht hval; exact one rfl
  ·rename_i ht; rw [ht]; obtain ⟨b, rfl⟩ := okWide_string ht hval; exact one rfl
  ·rename_i ht; rw [ht]; obtain ⟨_, _, _, rfl⟩ := okWide_slice ht hval; exact one rfl
  ·rename_i ht; rw [ht]
   simp only [Value.okWide, ht] at hval
   obtain ⟨arr, rfl, _⟩ := hval
   simp only [VRel]
   exact ⟨arr.toList, by simp, VRels_of_all _ _ h2 h3⟩
  ·rename_i ht; rw [ht]
   simp only [Value.okWide, ht] at hval
   obtain ⟨arr, rfl, _⟩ := hval
   simp only [VRel]
   exact ⟨arr.toList, by simp, VRels_of_all _ _ h2 h3⟩
  ·cases ho
theorem args_typed {n : Nat} {r : Reach} {base : Nat} : ∀ {ts : List TypeId} {vs : List Value} {ds : List (DataW H)} {ps : List MemPlace}, (ts.all (openT P n)) = true →
  (∀ (j : Nat) (t : TypeId) (v : Value), ts[j]? = some t → vs[j]? = some v → Value.okWide P W r base t v) → DataW.TrodAll enc P W 0 (fun _ => true) true ts vs ds ps →
  ds.length = ts.length ∧ ∃ avs, Args P ts avs ∧ VRels nom noX W avs vs
 | [], _, _, _, _, _, h => by
  obtain ⟨rfl, rfl, rfl⟩ := trodAll_nil h
  exact ⟨rfl, [], .nil, by simp [VRels]⟩
 | t :: ts, _, _, _, ho, hval, h => by
  obtain ⟨v, vs1, d, ds1, a, b, rfl, rfl, rfl, h1, h2⟩ := trodAll_cons h
  simp only [List.all_cons, Bool.and_eq_true] at ho
  obtain ⟨cs, g1, g2⟩ := arg_typed ho.1 (hval 0 t v rfl rfl) h1
  obtain ⟨hl, avs, g3, g4⟩ := args_typed ho.2 (fun j t v h1 h2 => hval (j + 1) t v (by simpa using h1) (by simpa using h2)) h2
  exact ⟨by simp [hl], _, .cons g1 g3, by simp only [VRels]; exact ⟨g2, g4⟩⟩
theorem trodAll_below (hl : laidOutB P = true) {W' : World} (hb : Below W.heap.size W W') : ∀ {ts : List TypeId} {vs : List Value} {ds : List (DataW H)} {ps : List MemPlace}, (ts.all fun t => P.readableRec t && decide (t < P.types.size)) = true →
  DataW.TrodAll enc P W 0 (fun _ => true) true ts vs ds ps → (∀ x ∈ ps, x.block < W.heap.size) → DataW.TrodAll enc P W' 0 (fun b => decide (b < W.heap.size)) true ts vs ds ps
 | [], _, _, _, _, h, _ => by
  obtain ⟨rfl, rfl, rfl⟩ := trodAll_nil h
  exact trodAll_mk0
 | t :: ts, _, _, _, ho, h, hlt => by
  obtain ⟨v, vs1, d, ds1, a, b, rfl, rfl, rfl, h1, h2⟩ := trodAll_cons h
  simp only [List.all_cons, Bool.and_eq_true, decide_eq_true_eq] at ho
  refine trodAll_cons_mk (Below.trod hl ho.1.1 ho.1.2 h1 hb fun x hx => hlt x (by simp [hx])) (trodAll_below hl hb ?_ h2 fun x hx => hlt x (by simp [hx]))
  simpa using ho.2
theorem law_of_AC {f : FuncId} {fn : Func} {s : ChangeSpec} {n : Nat} {t : TypeId} {base : Nat} {args : Array Value} {ds gs : List (DataW H)} {before : List MemPlace}
  (hl : laidOutB P = true) (hpar : (fn.params.toList.all fun t => P.readableRec t && decide (t < P.types.size)) = true) (ho : fn.params.toList.all (openT P n) = true)
  (hres : fn.resultTypes = #[t]) (htb : P.underlying t = some .bool) (hsv : s.vars = []) (hs : ∀ ds : List (DataW H), ds.length = fn.params.toList.length → s.fn H ds = { results := [.lit (.bool true)], args := ds })
  (hAC : ∀ avs, Args P fn.params.toList avs → AC P f avs [] fun r _ => r = .b true)
  (hval : ∀ (j : Nat) t v, fn.params[j]? = some t → args[j]? = some v → Value.okWide P W .any base t v)
  (hW : DataW.Whole enc P fn.params.toList s.vars false W args.toList ds gs before) :
  Calls P f args W fun e W' => ∃ v, e = .returned v ∧ s.post enc P fn false true false false W args v W' := by
 have hW' := hW
 obtain ⟨p, q, hA, hV, rfl, hfz, hnd⟩ := hW
 rw [hsv] at hV
 obtain ⟨rfl, rfl⟩ := trodVars_none hV
 have hlt : ∀ x ∈ p, x.block < W.heap.size := fun x hx => hW'.lt x (by simp [hx])
 obtain ⟨hlen, avs, hav, hrel⟩ := args_typed ho (fun j t v h1 h2 => hval j t v (by simpa using h1) (by simpa using h2)) hA
 have hcall := (hAC avs hav).2 nom noX W args.toList hrel ⟨by simp, by simp, by simp, by simp, by simp⟩
 have hcall := callsIn_wide.1 hcall
 simp only [Array.toArray_toList] at hcall
 refine hcall.mono fun e W' ⟨c, r, σ', m', he, hq, hr, _, hst, _⟩ => ?_
 subst he hq
 simp only [VRel, CV.rep] at hr
 subst hr
 have hb : Below W.heap.size W W' := ⟨hst.os, hst.tape, hst.output, hst.size, fun k hk => hst.fr k hk (.inr (by simp))⟩
 have hsf : s.fn H (ds ++ []) = { results := [.lit (.bool true)], args := ds } := by rw [List.append_nil]; exact hs ds hlen
 refine ⟨_, rfl, ds, [], p ++ [], [], p, [], hW', ?_, ?_, ?_, hb.frame _, fun h => by simp at h⟩
 ·rw [hsf, hres]
  exact trodAll_mk1 (shut_bool htb true)
 ·rw [hsf]
  exact trodAll_below hl hb hpar hA hlt
 ·rw [hsf, hsv]
  rfl
end
end Go.Proofs.YtpnghcaccfnngaaGreatDoor.AM
namespace Go.Proofs.YtpnghcaccfnngaaGreatDoor.AM
variable [Dr]
open Go
theorem SameSite.trans {a b c : ALoop} (h : SameSite a b) (k : SameSite b c) : SameSite a c :=
 ⟨k.1.trans h.1, k.2.1.trans h.2.1, k.2.2.1.trans h.2.2.1, k.2.2.2.1.trans h.2.2.2.1, k.2.2.2.2.trans h.2.2.2.2⟩
theorem LoopKeep.trans {a b c : List AObj} (h : LoopKeep a b) (k : LoopKeep b c) : LoopKeep a c := fun l r hr =>
 let ⟨r1, h1, h2⟩ := h l r hr
 let ⟨r2, h3, h4⟩ := k l r1 h1
 ⟨r2, h3, h2.trans h4⟩
abbrev vs46 : List Nat := [0, 1, 2, 3, 4, 9, 19]
def ic46 : IC := (.seq (.region [jb 2 0, jb 3 1, jw 4 .mv [jB false]])
 (.seq (.seq (.region [jF 0 2, jl 0, jF 0 3, jl 2, jw 5 (.bin .neq .int) [.t 1, .t 3]])
 (.cond 5 (.seq (.region [jF 0 2, jl 0, jF 0 3, jl 2, jq (.bin .lss .int) [.t 1, .t 3], jm 4 4])
 .ret)
 .skip))
 (.seq (.seq (.region [jF 1 2, jl 0, jF 1 3, jl 2, jw 6 (.bin .neq .int) [.t 1, .t 3]])
 (.cond 6 (.seq (.region [jF 1 2, jl 0, jF 1 3, jl 2, jq (.bin .lss .int) [.t 1, .t 3], jm 4 4])
 .ret)
 .skip))
 (.seq (.region [jF 2 2, jl 0, jF 2 3, jl 2, jq (.bin .lss .int) [.t 1, .t 3], jm 4 4])
 .ret))))
abbrev rs46 : List RC := [(.v 4)]
theorem fok46 (p : Bool) : FnOk Tryz.prog 46 ⟨ic46, vs46, 30, rs46, p⟩ := .mk2 Tryz.func46 (by kernel_rfl) (by kernel_rfl) (by kernel_rfl) (by kernel_rfl) (by kernel_rfl)
theorem befM_sum (y : Int) (j : Nat) : ∀ k, k ≤ 12 → befM y ((j : Int) + 1) k = sumL y (min j k)
 | 0, _ => by simp [befM, sumL]
 | k + 1, h => by
  rw [befM, befM_sum y j k (by omega)]
  by_cases hk : k < j
  ·rw [if_pos (by omega), long_len y k (by omega), Nat.min_eq_right (by omega), Nat.min_eq_right (by omega)]
   rfl
  ·rw [if_neg (by omega), Int.add_zero, Nat.min_eq_left (by omega), Nat.min_eq_left (by omega)]
theorem dayT_eq (j k : Nat) (hj : j < 401) (hk : k ≤ 12) (d : Int) : dayT (2000 + (j : Int)) ((k : Int) + 1) d = begF j + sumL (2000 + (j : Int)) k + d - 1 := by
 unfold dayT
 rw [befM_sum _ k 12 (Nat.le_refl _), Nat.min_eq_left hk, begF_eq j hj, show 2000 + (j : Int) - 2000 = (j : Int) by omega]
 omega
end Go.Proofs.YtpnghcaccfnngaaGreatDoor.AM
namespace Go.Proofs.YtpnghcaccfnngaaGreatDoor.AM
variable [Dr]
open Go Pl
def befB (a b : Int × Int × Int) : Bool := if a.1 != b.1 then decide (a.1 < b.1) else if a.2.1 != b.2.1 then decide (a.2.1 < b.2.1) else decide (a.2.2 < b.2.2)
theorem c46 (y m d y' m' d' : Int) : PC Tryz.prog 46 [.agg [.i y, .i m, .i d], .agg [.i y', .i m', .i d']] (.b (befB (y, m, d) (y', m', d'))) := by
 refine ⟨AC_FE (fok46 true) (Nat.le_of_ble_eq_true rfl) ?_, rfl⟩
 unfold befB
 simp only [ic46, f_box, cellsOf, evA, if_true, if_false, beq_false, simprocAttr]
 cases h1 : (y != y') with
 | true =>
  simp only [evA, if_true, if_false, beq_false, simprocAttr]
  exact frz
 | false =>
  simp only [evA, if_true, if_false, beq_false, simprocAttr]
  cases h2 : (m != m') with
  | true =>
   simp only [evA, if_true, if_false, beq_false, simprocAttr]
   exact frz
  | false =>
   simp only [evA, if_true, if_false, beq_false, simprocAttr]
   exact frz
end Go.Proofs.YtpnghcaccfnngaaGreatDoor.AM
namespace Go.Proofs.YtpnghcaccfnngaaGreatDoor.AM
variable [Dr]
open Go
theorem typed_int {P : Program} {t : TypeId} {k : IntKind} {cs : List CV} (ht : P.underlying t = some (.int k)) (h : Typed P t cs) : ∃ n, cs = [.int k n] ∧ (Lit.int k n).wf = true := by
 cases h with
 | int ht' n hw => rw [ht] at ht'; cases ht'; exact ⟨n, rfl, hw⟩
 | bool ht' => rw [ht] at ht'; cases ht'
 | str ht' => rw [ht] at ht'; cases ht'
 | slc ht' => rw [ht] at ht'; cases ht'
 | arr ht' => rw [ht] at ht'; cases ht'
 | struct ht' => rw [ht] at ht'; cases ht'
theorem typed_arr {P : Program} {t e : TypeId} {n : Nat} {cs : List CV} (ht : P.underlying t = some (.array n e)) (h : Typed P t cs) : ∃ L : List (List CV), cs = L.flatten ∧ L.length = n ∧ (∀ l ∈ L, l.length = P.cellsOf e) ∧ ∀ l ∈ L, Typed P e l := by
 cases h with
 | arr ht' L hn hl h => rw [ht] at ht'; cases ht'; exact ⟨L, rfl, hn, hl, h⟩
 | bool ht' => rw [ht] at ht'; cases ht'
 | int ht' => rw [ht] at ht'; cases ht'
 | str ht' => rw [ht] at ht'; cases ht'
 | slc ht' => rw [ht] at ht'; cases ht'
 | struct ht' => rw [ht] at ht'; cases ht'
theorem typed_struct {P : Program} {t : TypeId} {fs : Array Field} {cs : List CV} (ht : P.underlying t = some (.struct fs)) (h : Typed P t cs) : ∃ L : List (List CV), cs = L.flatten ∧ L.length = fs.size ∧ ∀ (i : Nat) (f : Field) (l : List CV), fs[i]? = some f → L[i]? = some l → Typed P f.type l := by
 cases h with
 | struct ht' L hn hl h => rw [ht] at ht'; cases ht'; exact ⟨L, rfl, hn, h⟩
 | bool ht' => rw [ht] at ht'; cases ht'
 | int ht' => rw [ht] at ht'; cases ht'
 | str ht' => rw [ht] at ht'; cases ht'
 | slc ht' => rw [ht] at ht'; cases ht'
 | arr ht' => rw [ht] at ht'; cases ht'
theorem ints_of {P : Program} {e : TypeId} {k : IntKind} (he : P.underlying e = some (.int k)) : ∀ L : List (List CV), (∀ l ∈ L, Typed P e l) → ∃ zs : List Int, L.flatten = zs.map (.int k) ∧ L.length = zs.length ∧ ∀ z ∈ zs, (Lit.int k z).wf = true
 | [], _ => ⟨[], rfl, rfl, by simp⟩
 | l :: L, h => by
  obtain ⟨n, rfl, hn⟩ := typed_int he (h l (by simp))
  obtain ⟨zs, h1, h2, h3⟩ := ints_of he L fun l hl => h l (by simp [hl])
  exact ⟨n :: zs, by simp [h1], by simp [h2], by simpa using ⟨hn, h3⟩⟩
theorem wf_i64 {n : Int} (h : (Lit.int .i64 n).wf = true) : -9223372036854775808 ≤ n ∧ n ≤ 9223372036854775807 := by
 simp only [Lit.wf, Bool.and_eq_true, decide_eq_true_eq, IntKind.min, IntKind.max, IntKind.bits, IntKind.signed] at h
 simp at h; omega
theorem args_cons {P : Program} {t : TypeId} {ts : List TypeId} {avs : List AV} (h : Args P (t :: ts) avs) : ∃ cs avs', avs = avOf P t cs :: avs' ∧ Typed P t cs ∧ Args P ts avs' := by
 generalize hts : t :: ts = u at h
 cases h with
 | nil => cases hts
 | cons h1 h2 => cases hts; exact ⟨_, _, rfl, h1, h2⟩
theorem args_nil {P : Program} {avs : List AV} (h : Args P [] avs) : avs = [] := by
 generalize hts : ([] : List TypeId) = u at h
 cases h with
 | nil => rfl
 | cons h1 h2 => cases hts
end Go.Proofs.YtpnghcaccfnngaaGreatDoor.AM
namespace Go.Proofs.YtpnghcaccfnngaaGreatDoor.AM
open Go Pl
def W64 (n : Int) : Prop := -9223372036854775808 ≤ n ∧ n ≤ 9223372036854775807
abbrev K3 : Bool × List KK := (true, [.int .i64, .int .i64, .int .i64])
theorem d_eq {a b c a' b' c' : Int} (h1 : W64 a) (h2 : W64 b) (h3 : W64 c) (h4 : W64 a') (h5 : W64 b') (h6 : W64 c') : keyEqK K3 (.agg [.i a, .i b, .i c]) (.agg [.i a', .i b', .i c']) = some (decide (a = a' ∧ b = b' ∧ c = c')) := by
 simp [keyEqK, keyCells, kksOk, kkOk, wf_int h1, wf_int h2, wf_int h3, wf_int h4, wf_int h5, wf_int h6, cellsEq, cellEq]
theorem typed_date {cs : List CV} (h : Typed Tryz.prog 23 cs) : ∃ y m d : Int, avOf Tryz.prog 23 cs = .agg [.i y, .i m, .i d] ∧ W64 y ∧ W64 m ∧ W64 d := by
 obtain ⟨L, rfl, hn, hf⟩ := typed_struct Tryz.underlying23 h
 match L, hn with
 | [a, b, c], _ =>
  obtain ⟨n1, rfl, w1⟩ := typed_int Tryz.underlying3 (hf 0 _ a rfl rfl)
  obtain ⟨n2, rfl, w2⟩ := typed_int Tryz.underlying3 (hf 1 _ b rfl rfl)
  obtain ⟨n3, rfl, w3⟩ := typed_int Tryz.underlying3 (hf 2 _ c rfl rfl)
  exact ⟨n1, n2, n3, by simp [avOf, Tryz.underlying23], wf_i64 w1, wf_i64 w2, wf_i64 w3⟩
end Go.Proofs.YtpnghcaccfnngaaGreatDoor.AM
namespace Go.Proofs.YtpnghcaccfnngaaGreatDoor.AM
variable [Dr]
open Go
abbrev vs8 : List Nat := [0, 1, 2, 3, 4, 5, 6, 7, 8, 9, 10, 11, 12, 13, 46, 58, 65]
def ic8 : IC := (.seq (.region [jb 2 0, jb 3 1, jw 4 .mv [jB false]])
 (.seq (.dr [[], [0], [1], [2], [], [4], [5], [6], [3, 0, 1, 2, 3], [7, 8, 0, 1, 2, 3, 4, 5, 6, 7, 8]] [jq (.iaA 2 1) [.v 2, jn 0], jl 0, jq (.conv .i64) [.t 1], jq (.bin .rem .int) [.t 2, jn 40001], jq (.iaA 2 1) [.v 2, jn 1], jl 4, jq (.conv .i64) [.t 5], jq (.bin .rem .int) [.t 6, jn 40001], jm 5 3, jm 6 7])
 (.seq (.region [jv 5, jk 22 [.t 0], jt 1, jx 0 2, jx 1 2, jw 7 (.alloc [(.cv (.int .i64 0)), (.cv (.int .i64 0)), (.cv (.int .i64 0))]) [], jq (.store 3) [.v 7, .t 3], jm 8 4])
 (.seq (.region [jv 6, jk 22 [.t 0], jt 1, jx 0 2, jx 1 2, jw 9 (.alloc [(.cv (.int .i64 0)), (.cv (.int .i64 0)), (.cv (.int .i64 0))]) [], jq (.store 3) [.v 9, .t 3], jm 10 4])
 (.seq (.seq (.region [jv 8, jq (.bin .neq .int) [.t 0, jn 0], jt 1, jh 2 false 10, jg 2 false (.bin .neq .int) [.t 3, jn 0], jq .pick [.t 2, jB true, .t 4], jt 5, jh 6 false 5, jh 6 false 6, jg 6 false (.bin .lss .int) [.t 7, .t 8], jg 6 false (.loadN 3) [.v 7], jg 6 false (.loadN 3) [.v 9], jf 6 false 46 [.t 10, .t 11], jg 6 false (.bin .neq .bool) [.t 9, .t 12], jw 14 .pick [.t 6, jB true, .t 13]])
 (.cond 14 (.seq (.region [jw 4 .mv [jB false]])
 .ret)
 .skip))
 (.seq (.region [jN 3 7, jk 18 [.t 0], jt 1, jx 0 2, jx 1 2, jm 11 3, jm 8 4])
 (.seq (.seq (.region [jv 8, jq (.bin .neq .int) [.t 0, jn 0], jt 1, jh 2 false 11, jh 2 false 5, jg 2 false (.bin .neq .int) [.t 3, .t 4], jw 15 .pick [.t 2, jB true, .t 5]])
 (.cond 15 (.seq (.region [jw 4 .mv [jB false]])
 .ret)
 .skip))
 (.seq (.region [jN 3 3, jk 18 [.t 0], jt 1, jx 0 2, jx 1 2, jm 12 3, jm 8 4])
 (.seq (.seq (.region [jv 8, jw 16 (.bin .neq .int) [.t 0, jn 0]])
 (.cond 16 (.seq (.region [jv 12, jq (.bin .eql .int) [.t 0, jn 0], jt 1, jf 2 true 28 [], jq .pick [.t 2, .t 3, jB false], jm 4 4])
 .ret)
 .skip))
 (.seq (.region [jv 12, jk 22 [.t 0], jt 1, jx 0 2, jx 1 2, jw 13 (.alloc [(.cv (.int .i64 0)), (.cv (.int .i64 0)), (.cv (.int .i64 0))]) [], jq (.store 3) [.v 13, .t 3], jm 8 4])
 (.seq (.region [jv 8, jq (.bin .eql .int) [.t 0, jn 0], jt 1, jg 2 true (.loadN 3) [.v 13], jg 2 true (.loadN 3) [.v 3], jg 2 true (.eqS false (true, [(.int .i64), (.int .i64), (.int .i64)])) [.t 3, .t 4], jq .pick [.t 2, .t 5, jB false], jt 6, jf 7 true 28 [], jq .pick [.t 7, .t 8, jB false], jm 4 9])
 .ret)))))))))))
abbrev rs8 : List RC := [(.v 4)]
theorem fok8 (p : Bool) : FnOk Tryz.prog 8 ⟨ic8, vs8, 86, rs8, p⟩ := .mk2 Tryz.func8 (by kernel_rfl) (by kernel_rfl) (by kernel_rfl) (by kernel_rfl) (by kernel_rfl)
def dtOf (D : Int) (j k : Nat) : Int × Int × Int := (2000 + (j : Int), (k : Int) + 1, D - begF j - sumL (2000 + (j : Int)) k + 1)
theorem day_date {D : Int} {j k : Nat} (h : IsDate D j k) : dayV (2000 + (j : Int)) ((k : Int) + 1) (D - begF j - sumL (2000 + (j : Int)) k + 1) = .tup [.i D, .i 0] := by
 obtain ⟨hy1, hy2, hj⟩ := h.year
 have h1 := h.k12; have h2 := h.lo; have h3 := h.top; have h4 := h.hi
 rw [sumL] at h4
 rw [dayV_ok (by omega) (by omega), dayT_eq j k (by omega) (by omega), inB_iff.2 (by omega)]
 have e : begF j + sumL (2000 + (j : Int)) k + (D - begF j - sumL (2000 + (j : Int)) k + 1) - 1 = D := by omega
 rw [e]
 simp [show ¬ D > 40000 by omega]
theorem date_before {a b : Int} {j k j' k' : Nat} (ha : IsDate a j k) (hb : IsDate b j' k') : befB (dtOf a j k) (dtOf b j' k') = decide (a < b) := by
 obtain ⟨a1, a2, _⟩ := ha.year
 obtain ⟨b1, b2, _⟩ := hb.year
 have a3 := ha.lo; have a4 := ha.hi; have b3 := hb.lo; have b4 := hb.hi
 unfold befB dtOf
 simp only
 rcases Nat.lt_trichotomy j j' with hlt | rfl | hlt
 ·have := begF_mono (show j + 1 ≤ j' from hlt)
  rw [if_pos (by simp; omega), decide_eq_true (show a < b by omega), decide_eq_true (by omega)]
 ·rw [if_neg (by simp)]
  rcases Nat.lt_trichotomy k k' with hk | rfl | hk
  ·have := sumL_mono (2000 + (j : Int)) (show k + 1 ≤ k' from hk)
   rw [if_pos (by simp; omega), decide_eq_true (show a < b by omega), decide_eq_true (by omega)]
  ·rw [if_neg (by simp)]
   rw [Bool.eq_iff_iff, decide_eq_true_eq, decide_eq_true_eq]; omega
  ·have := sumL_mono (2000 + (j : Int)) (show k' + 1 ≤ k from hk)
   rw [if_pos (by simp; omega), decide_eq_false (show ¬ a < b by omega), decide_eq_false (by omega)]
 ·have := begF_mono (show j' + 1 ≤ j from hlt)
  rw [if_pos (by simp; omega), decide_eq_false (show ¬ a < b by omega), decide_eq_false (by omega)]
theorem day_cases (y m d : Int) : (∃ e : Int, e ≠ 0 ∧ dayV y m d = .tup [.i 0, .i e]) ∨ ∃ D j k, IsDate D j k ∧ dayV y m d = .tup [.i D, .i 0] ∧ dtOf D j k = (y, m, d) := by
 unfold dayV
 split
 ·exact .inl ⟨6, by decide, rfl⟩
 rename_i h1
 split
 ·exact .inl ⟨6, by decide, rfl⟩
 rename_i h2
 split
 ·exact .inl ⟨7, by decide, rfl⟩
 rename_i h3
 split
 ·exact .inl ⟨7, by decide, rfl⟩
 rename_i h4
 right
 obtain ⟨m1, m2⟩ := inB_iff.1 (Bool.not_eq_false _ ▸ h1)
 obtain ⟨y1, y2⟩ := inB_iff.1 (Bool.not_eq_false _ ▸ h3)
 obtain ⟨k, hk⟩ : ∃ k : Nat, m = (k : Int) + 1 := ⟨(m - 1).toNat, by omega⟩
 obtain ⟨j, hj⟩ : ∃ j : Nat, y = 2000 + (j : Int) := ⟨(y - 2000).toNat, by omega⟩
 obtain ⟨d1, d2⟩ := inB_iff.1 (Bool.not_eq_false _ ▸ h2)
 subst hk; subst hj
 rw [show (k : Int) + 1 - 1 = k by omega, Int.toNat_natCast, long_len _ k (by omega)] at d2
 have ht := dayT_eq j k (by omega) (by omega) d
 refine ⟨_, j, k, ⟨by omega, ?_, ?_, by omega⟩, rfl, ?_⟩
 ·omega
 ·rw [sumL]; omega
 ·unfold dtOf
  rw [ht, show begF j + sumL (2000 + (j : Int)) k + d - 1 - begF j - sumL (2000 + (j : Int)) k + 1 = d by omega]
end Go.Proofs.YtpnghcaccfnngaaGreatDoor.AM
namespace Go.Proofs.YtpnghcaccfnngaaGreatDoor.AM
open Go Pl
theorem wf_u16 {n : Int} (h : (Lit.int .u16 n).wf = true) : 0 ≤ n ∧ n ≤ 65535 := by
 simp only [Lit.wf, Bool.and_eq_true, decide_eq_true_eq, IntKind.min, IntKind.max, IntKind.bits, IntKind.signed] at h
 simp at h; omega
theorem typed_u2 {cs : List CV} (h : Typed Tryz.prog 65 cs) : ∃ x y : Int, avOf Tryz.prog 65 cs = .agg [.cv (.int .u16 x), .cv (.int .u16 y)] ∧ (0 ≤ x ∧ x ≤ 65535) ∧ 0 ≤ y ∧ y ≤ 65535 := by
 obtain ⟨L, rfl, hl, hl2, hl3⟩ := typed_arr Tryz.underlying65 h
 obtain ⟨xs, hx1, hx2, hx3⟩ := ints_of Tryz.underlying64 L hl3
 rw [hx1]
 match xs, (hx2.symm.trans hl), hx3 with
 | [a, b], _, hw => exact ⟨a, b, by simp [avOf, Tryz.underlying65], wf_u16 (hw a (by simp)), wf_u16 (hw b (by simp))⟩
theorem lc8 (a b : Int) (ha : 0 ≤ a ∧ a ≤ 65535) (hb : 0 ≤ b ∧ b ≤ 65535) (y m d : Int) (wy : W64 y) (wm : W64 m) (wd : W64 d) : AC Tryz.prog 8 [.agg [.cv (.int .u16 a), .cv (.int .u16 b)], .agg [.i y, .i m, .i d]] [] fun r _ => r = .b true := by
 refine AC_FE (fok8 true) (Nat.le_of_ble_eq_true rfl) ?_
 obtain ⟨A, hA⟩ : ∃ A, A = a.tmod 40001 := ⟨_, rfl⟩
 obtain ⟨B, hB⟩ : ∃ B, B = b.tmod 40001 := ⟨_, rfl⟩
 have hA1 : 0 ≤ A ∧ A ≤ 40000 := by rw [hA, Int.tmod_eq_emod_of_nonneg ha.1]; omega
 have hB1 : 0 ≤ B ∧ B ≤ 40000 := by rw [hB, Int.tmod_eq_emod_of_nonneg hb.1]; omega
 obtain ⟨j, k, h1⟩ := isDate_of hA1.1 hA1.2
 obtain ⟨j', k', h2⟩ := isDate_of hB1.1 hB1.2
 have wa : IntKind.i64.wrap a = a := wrap_in (by omega)
 have wb : IntKind.i64.wrap b = b := wrap_in (by omega)
 have c1 := c22 h1
 have c2 := c22 h2
 have c3 := c46 (2000 + (j : Int)) ((k : Int) + 1) (A - begF j - sumL (2000 + (j : Int)) k + 1) (2000 + (j' : Int)) ((k' : Int) + 1) (B - begF j' - sumL (2000 + (j' : Int)) k' + 1)
 have e3 := date_before h1 h2
 simp only [dtOf] at e3
 rw [e3] at c3
 have c4 := c18 (2000 + (j : Int)) ((k : Int) + 1) (A - begF j - sumL (2000 + (j : Int)) k + 1)
 rw [day_date h1] at c4
 have q1 : (decide (A < B) != decide (A < B)) = false := by simp
 simp only [ic8, f_box, cellsOf, f_iaA, evA, if_true, if_false, beq_false, simprocAttr]
 refine DW_s [] [] hmix (by kernel_rfl) rfl ?_
 simp only [f_iaA, wa, wb, ← hA, ← hB, evA, if_true, if_false, beq_false, simprocAttr]
 refine c1.call frz ?_
 simp only [f_iaA, evA, if_true, if_false, beq_false, simprocAttr]
 refine c2.call frz ?_
 simp only [f_iaA, evA, if_true, if_false, beq_false, simprocAttr]
 refine c3.call frz ?_
 simp only [q1, f_iaA, evA, if_true, if_false, beq_false, simprocAttr]
 refine c4.call frz ?_
 have q2 : (A != A) = false := by simp
 simp only [q2, f_iaA, evA, if_true, if_false, beq_false, simprocAttr]
 rcases day_cases y m d with ⟨e, he, hd⟩ | ⟨D, j2, k2, h3, hd, ed⟩
 ·have c5 := c18 y m d
  rw [hd] at c5
  refine c5.call frz ?_
  have q3 : (e != 0) = true := by simpa using he
  simp only [q3, evA, if_true, if_false, beq_false, simprocAttr]
  refine awake.call .nil ?_
  simp only [evA, if_true, if_false, beq_false, simprocAttr]
 ·have c5 := c18 y m d
  rw [hd] at c5
  refine c5.call frz ?_
  simp only [evA, if_true, if_false, beq_false, simprocAttr]
  have c6 := c22 h3
  have e1 := congrArg Prod.fst ed
  have e2 := congrArg (fun x => x.2.1) ed
  have e3 := congrArg (fun x => x.2.2) ed
  simp only [dtOf] at e1 e2 e3
  unfold dateA at c6
  rw [e1, e2, ← e1, e3, e1] at c6
  refine c6.call frz ?_
  have q9 := d_eq wy wm wd wy wm wd
  rw [decide_eq_true ⟨rfl, rfl, rfl⟩] at q9
  simp only [q9, Option.map_some, evA, if_true, if_false, beq_false, simprocAttr]
  refine awake.call .nil ?_
  simp only [evA, if_true, if_false, beq_false, simprocAttr]
theorem law_ClassInverse (avs : List AV) (h : Args Tryz.prog Tryz.f8.params.toList avs) : AC Tryz.prog 8 avs [] fun r _ => r = .b true := by
 have h : Args Tryz.prog [65, 23] avs := h
 obtain ⟨cs1, avs, rfl, h1, h⟩ := args_cons h
 obtain ⟨cs2, avs, rfl, h2, h⟩ := args_cons h
 cases args_nil h
 obtain ⟨x, y, e1, b1, b2⟩ := typed_u2 h1
 obtain ⟨y, m, d, e2, w1, w2, w3⟩ := typed_date h2
 rw [e1, e2]
 exact lc8 _ _ b1 b2 y m d w1 w2 w3
end Go.Proofs.YtpnghcaccfnngaaGreatDoor.AM

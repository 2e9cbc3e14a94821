/- Parts of the proof of Known. -/
import Derived.Test.YtpnghcaccfnngaaGreatDoorRows
import Derived.WalkKit
import Derived.ProofKit
import Derived.OpenShut
import Derived.Carry
import Derived.Test.YtpnghcaccfnngaaGreatDoorZ17
set_option linter.unusedVariables false
set_option linter.unusedSimpArgs false
set_option linter.unusedSectionVars false
namespace Go.Proofs.YtpnghcaccfnngaaGreatDoor.AM
variable [Dr]
open Go Go.ChangeShapes Go.WideShapes Go.ChangeAt Go.RowKit
abbrev noO : Nat → Prop := Own (fun _ => none) (fun _ => False)
theorem not_noO (b : Nat) : ¬ noO b := by rintro (h | ⟨l, hl⟩); exact h; cases hl
theorem fin_choice {α : Type} {Q : Nat → α → Prop} : ∀ (n : Nat), (∀ i, i < n → ∃ l, Q i l) → ∃ L : List α, L.length = n ∧ ∀ (i : Nat) (l : α), L[i]? = some l → Q i l
 | 0, _ => ⟨[], rfl, by simp⟩
 | n + 1, h => by
  obtain ⟨L, h1, h2⟩ := fin_choice n (fun i hi => h i (by omega))
  obtain ⟨l, hl⟩ := h n (by omega)
  refine ⟨L ++ [l], by simp [h1], fun i l' hi => ?_⟩
  rcases Nat.lt_or_ge i n with hlt | hge
  ·rw [List.getElem?_append_left (by omega)] at hi; exact h2 i l' hi
  ·rw [List.getElem?_append_right (by omega), h1] at hi
   have : i = n := by
    rcases Nat.lt_or_ge n i with h' | h'
    ·rw [List.getElem?_eq_none (by simp; omega)] at hi; cases hi
    ·omega
   subst this
   simp at hi; subst hi; exact hl
theorem flat_rel {R : Nat → CV → Prop} {esz : Nat} : ∀ (L : List (List CV)) (n : Nat), (∀ (i : Nat) (l : List CV), L[i]? = some l → l.length = esz ∧ ∀ (j : Nat) (c : CV), l[j]? = some c → R (n + i * esz + j) c) →
  L.flatten.length = L.length * esz ∧ ∀ (k : Nat) (c : CV), L.flatten[k]? = some c → R (n + k) c
 | [], n, _ => by simp
 | l :: L, n, h => by
  obtain ⟨h1, h2⟩ := h 0 l (by simp)
  have ih := flat_rel L (n + esz) (fun i l' hi => by
   obtain ⟨g1, g2⟩ := h (i + 1) l' (by simpa using hi)
   refine ⟨g1, fun j c hj => ?_⟩
   have := g2 j c hj
   rwa [Nat.add_mul, Nat.one_mul, ← Nat.add_assoc, Nat.add_right_comm n] at this)
  refine ⟨by simp [h1, ih.1, Nat.add_mul, Nat.add_comm], fun k c hk => ?_⟩
  rw [List.flatten_cons] at hk
  rcases Nat.lt_or_ge k l.length with hlt | hge
  ·rw [List.getElem?_append_left hlt] at hk
   have := h2 k c hk
   simpa using this
  ·rw [List.getElem?_append_right hge] at hk
   have := ih.2 (k - l.length) c hk
   rwa [show n + esz + (k - l.length) = n + k by omega] at this
theorem flat_relF {P : Program} {R : Nat → CV → Prop} {N : Nat} : ∀ (fs : List Field) (L : List (List CV)) (n : Nat), fieldsEnd P fs n = some N → L.length = fs.length →
  (∀ (i : Nat) (f : Field) (l : List CV), fs[i]? = some f → L[i]? = some l → l.length = P.cellsOf f.type ∧ ∀ (j : Nat) (c : CV), l[j]? = some c → R (f.offset + j) c) →
  n + L.flatten.length = N ∧ ∀ (k : Nat) (c : CV), L.flatten[k]? = some c → R (n + k) c
 | [], L, n, he, hl, _ => by
  have : L = [] := List.eq_nil_of_length_eq_zero (by simpa using hl)
  subst this
  simp only [fieldsEnd, Option.some.injEq] at he
  simp [he]
 | f :: fs, [], n, _, hl, _ => by simp at hl
 | f :: fs, l :: L, n, he, hl, h => by
  simp only [fieldsEnd] at he
  split at he
  ·rename_i hoff
   obtain ⟨h1, h2⟩ := h 0 f l (by simp) (by simp)
   have ih := flat_relF fs L (n + P.cellsOf f.type) he (by simpa using hl) (fun i f' l' hf hl' => h (i + 1) f' l' (by simpa using hf) (by simpa using hl'))
   refine ⟨by rw [← ih.1]; simp [h1]; omega, fun k c hk => ?_⟩
   rw [List.flatten_cons] at hk
   rcases Nat.lt_or_ge k l.length with hlt | hge
   ·rw [List.getElem?_append_left hlt] at hk
    have := h2 k c hk
    rwa [hoff] at this
   ·rw [List.getElem?_append_right hge] at hk
    have := ih.2 (k - l.length) c hk
    rwa [show n + P.cellsOf f.type + (k - l.length) = n + k by omega] at this
  ·cases he
theorem reps_of_all {W : World} {a : Addr} : ∀ (cs : List CV) (i : Nat), (∀ (j : Nat) (c : CV), cs[j]? = some c → ∃ v, W.cell? (a.add (i + j)) = some v ∧ c.rep W noO v) → CV.reps W noO cs a i
 | [], _, _ => by simp [CV.reps]
 | c :: cs, i, h => by
  simp only [CV.reps]
  refine ⟨not_noO _, by simpa using h 0 c (by simp), reps_of_all cs (i + 1) fun j c' hj => ?_⟩
  have := h (j + 1) c' (by simpa using hj)
  rwa [show i + (j + 1) = i + 1 + j by omega] at this
section
variable {H : Type} {enc : TypeId × Value → H} {P : Program} {W : World}
theorem trod_typed : ∀ (n : Nat) (t : TypeId) (cs : List Value) (x : DataW H × List MemPlace) (fuel : Nat), openT P n t = true → DataW.trod enc P W 0 (fun _ => true) true fuel t cs = some x →
  ∃ cvs : List CV, Typed P t cvs ∧ cvs.length = cs.length ∧ ∀ (i : Nat) (c : CV) (v : Value), cvs[i]? = some c → cs[i]? = some v → c.rep W noO v
 | 0, t, cs, x, fuel, ho, _ => by simp [openT] at ho
 | n + 1, t, cs, x, fuel, ho, h => by
  simp only [openT] at ho
  split at ho
  ·rename_i ht
   obtain ⟨b, rfl, _⟩ := DataW.trod_bool ht h
   refine ⟨[.bool b], .bool ht b, rfl, fun i c v h1 h2 => ?_⟩
   cases i with
   | zero => simp at h1 h2; subst h1 h2; simp [CV.rep]
   | succ i => simp at h1
  ·rename_i k ht
   obtain ⟨b, rfl, _, hw⟩ := DataW.trod_int ht h
   refine ⟨[.int k b], .int ht b hw, rfl, fun i c v h1 h2 => ?_⟩
   cases i with
   | zero => simp at h1 h2; subst h1 h2; simp [CV.rep]
   | succ i => simp at h1
  ·rename_i ht
   obtain ⟨s, rfl, _, hw⟩ := DataW.trod_string ht h
   refine ⟨[.str s], .str ht s hw, rfl, fun i c v h1 h2 => ?_⟩
   cases i with
   | zero => simp at h1 h2; subst h1 h2; simp [CV.rep]
   | succ i => simp at h1
  ·rename_i e ht
   rcases DataW.trod_slice ht h with ⟨rfl, _⟩ | ⟨a, len, cap, elems, rest, m, _, rfl, _, _, hlc, hcm, hel, hget, _⟩
   ·refine ⟨[.rsl [] 0], by simpa using Typed.slc ht [] (by simp) (by simp) (by simp), rfl, fun i c v h1 h2 => ?_⟩
    cases i with
    | zero => simp at h1 h2; subst h1 h2; simp [CV.rep]
    | succ i => simp at h1
   ·obtain ⟨L, hL, hQ⟩ := fin_choice (Q := fun i l => Typed P e l ∧ l.length = P.cellsOf e ∧ ∀ (j : Nat) (c : CV), l[j]? = some c → ∃ v, W.cell? (a.add (i * P.cellsOf e + j)) = some v ∧ c.rep W noO v) len (fun i hi => by
     have hg := hget i hi
     rw [List.getElem?_eq_getElem (by omega)] at hg
     obtain ⟨ci, h1, h2⟩ := Option.bind_eq_some_iff.1 hg
     obtain ⟨_, hlen, hcell⟩ := World.cells?_some h1
     obtain ⟨cvs, g1, g2, g3⟩ := trod_typed n e ci _ _ ho h2
     refine ⟨cvs, g1, by omega, fun j c hj => ?_⟩
     have hjl : j < cvs.length := (List.getElem?_eq_some_iff.1 hj).1
     have hc := hcell j (by omega)
     rw [List.getElem?_eq_getElem (by omega)] at hc
     exact ⟨_, by rw [← Addr.add_add]; exact hc, g3 j c _ hj (List.getElem?_eq_getElem _)⟩)
    have hmem : ∀ l ∈ L, ∃ i : Nat, L[i]? = some l := fun l hl => List.mem_iff_getElem?.1 hl
    have hfl := flat_rel (R := fun k c => ∃ v, W.cell? (a.add k) = some v ∧ c.rep W noO v) (esz := P.cellsOf e) L 0 (fun i l hi => ⟨(hQ i l hi).2.1, fun j c hj => by simpa using (hQ i l hi).2.2 j c hj⟩)
    refine ⟨[.rsl L.flatten L.length], Typed.slc ht L (by omega) (fun l hl => let ⟨i, hi⟩ := hmem l hl; (hQ i l hi).2.1) (fun l hl => let ⟨i, hi⟩ := hmem l hl; (hQ i l hi).1), rfl, fun i c v h1 h2 => ?_⟩
    cases i with
    | zero =>
     simp at h1 h2; subst h1 h2
     simp only [CV.rep]
     exact .inr ⟨a, cap, by rw [hL], by omega, reps_of_all _ 0 (fun j c hj => hfl.2 j c hj)⟩
    | succ i => simp at h1
  ·rename_i k e ht
   simp only [Bool.and_eq_true, decide_eq_true_eq] at ho
   obtain ⟨xs, m, _, _, hlen, hxs, hget⟩ := DataW.trod_array ht h
   obtain ⟨L, hL, hQ⟩ := fin_choice (Q := fun i l => Typed P e l ∧ l.length = P.cellsOf e ∧ ∀ (j : Nat) (c : CV), l[j]? = some c → ∀ v, cs[i * P.cellsOf e + j]? = some v → c.rep W noO v) k (fun i hi => by
     have hg := hget i hi
     rw [List.getElem?_eq_getElem (by omega)] at hg
     obtain ⟨cvs, g1, g2, g3⟩ := trod_typed n e _ _ _ ho.1 hg
     have hik : i * P.cellsOf e + P.cellsOf e ≤ k * P.cellsOf e := by
      have := Nat.mul_le_mul_right (P.cellsOf e) (show i + 1 ≤ k by omega)
      rwa [Nat.add_mul, Nat.one_mul] at this
     have hl2 : cvs.length = P.cellsOf e := by rw [g2]; simp; omega
     refine ⟨cvs, g1, hl2, fun j c hj v hv => ?_⟩
     have hjl : j < cvs.length := (List.getElem?_eq_some_iff.1 hj).1
     exact g3 j c v hj (by rw [List.getElem?_take, if_pos (by omega), List.getElem?_drop]; exact hv))
   have hmem : ∀ l ∈ L, ∃ i : Nat, L[i]? = some l := fun l hl => List.mem_iff_getElem?.1 hl
   have hfl := flat_rel (R := fun k c => ∀ v, cs[k]? = some v → c.rep W noO v) (esz := P.cellsOf e) L 0 (fun i l hi => ⟨(hQ i l hi).2.1, fun j c hj => by simpa using (hQ i l hi).2.2 j c hj⟩)
   exact ⟨L.flatten, Typed.arr ht L hL (fun l hl => let ⟨i, hi⟩ := hmem l hl; (hQ i l hi).2.1) (fun l hl => let ⟨i, hi⟩ := hmem l hl; (hQ i l hi).1), by rw [hfl.1, hlen, ho.2, hL], fun i c v h1 h2 => hfl.2 i c h1 v (by simpa using h2)⟩
  ·rename_i fs ht
   simp only [Bool.and_eq_true, decide_eq_true_eq, List.all_eq_true] at ho
   obtain ⟨xs, m, _, _, hlen, hxs, hget⟩ := DataW.trod_struct ht h
   obtain ⟨L, hL, hQ⟩ := fin_choice (Q := fun i l => ∀ f, fs[i]? = some f → Typed P f.type l ∧ l.length = min (P.cellsOf f.type) (cs.length - f.offset) ∧ ∀ (j : Nat) (c : CV), l[j]? = some c → ∀ v, cs[f.offset + j]? = some v → c.rep W noO v) fs.size (fun i hi => by
     have hfi : fs[i]? = some fs[i] := Array.getElem?_eq_getElem hi
     have hg := hget i fs[i] hfi
     rw [List.getElem?_eq_getElem (by omega)] at hg
     obtain ⟨cvs, g1, g2, g3⟩ := trod_typed n _ _ _ _ (ho.1 fs[i] (by simp)) hg
     have hl2 : cvs.length = min (P.cellsOf fs[i].type) (cs.length - fs[i].offset) := by rw [g2]; simp
     refine ⟨cvs, fun f hf => ?_⟩
     rw [hfi] at hf; cases hf
     refine ⟨g1, hl2, fun j c hj v hv => ?_⟩
     have hjl : j < cvs.length := (List.getElem?_eq_some_iff.1 hj).1
     exact g3 j c v hj (by rw [List.getElem?_take, if_pos (by omega), List.getElem?_drop]; exact hv))
   have hoff : ∀ (fs : List Field) (n N : Nat), fieldsEnd P fs n = some N → n ≤ N ∧ ∀ (i : Nat) (f : Field), fs[i]? = some f → f.offset + P.cellsOf f.type ≤ N := by
    intro fs
    induction fs with
    | nil => intro n N h; simp only [fieldsEnd, Option.some.injEq] at h; simp [h]
    | cons f fs ih =>
     intro n N h
     simp only [fieldsEnd] at h
     split at h
     ·rename_i ho
      obtain ⟨h1, h2⟩ := ih _ _ h
      refine ⟨by omega, fun i f' hi => ?_⟩
      cases i with
      | zero => simp at hi; subst hi; omega
      | succ i => exact h2 i f' (by simpa using hi)
     ·cases h
   have hin := (hoff _ _ _ ho.2).2
   have hl : ∀ (i : Nat) (f : Field) (l : List CV), fs[i]? = some f → L[i]? = some l → l.length = P.cellsOf f.type := by
    intro i f l hf hl
    obtain ⟨_, h2, _⟩ := hQ i l hl f hf
    have := hin i f (by simpa using hf)
    omega
   have hfl := flat_relF (P := P) (R := fun k c => ∀ v, cs[k]? = some v → c.rep W noO v) fs.toList L 0 ho.2 (by simpa using hL) (fun i f l hf hl' =>
    ⟨hl i f l (by simpa using hf) hl', fun j c hj => (hQ i l hl' f (by simpa using hf)).2.2 j c hj⟩)
   exact ⟨L.flatten, Typed.struct ht L hL hl (fun i f l hf hl' => (hQ i l hl' f hf).1), by have := hfl.1; omega, fun i c v h1 h2 => hfl.2 i c h1 v (by simpa using h2)⟩
  ·cases ho
abbrev noX : Nat → Prop := fun _ => False
theorem VRels_of_all : ∀ (cvs : List CV) (vs : List Value), cvs.length = vs.length → (∀ (i : Nat) (c : CV) (v : Value), cvs[i]? = some c → vs[i]? = some v → c.rep W noO v) → VRels nom noX W (cvs.map .cv) vs
 | [], [], _, _ => by simp [VRels]
 | c :: cvs, v :: vs, hl, h => by
  simp only [List.map_cons, VRels, VRel]
  exact ⟨h 0 c v rfl rfl, VRels_of_all cvs vs (by simpa using hl) fun i c v h1 h2 => h (i + 1) c v (by simpa using h1) (by simpa using h2)⟩
 | [], _ :: _, hl, _ => by simp at hl
 | _ :: _, [], hl, _ => by simp at hl
theorem arg_typed {n : Nat} {t : TypeId} {v : Value} {d : DataW H} {ps : List MemPlace} {r : Reach} {base : Nat} (ho : openT P n t = true) (hval : Value.okWide P W r base t v) (h : DataW.Trod enc P W 0 (fun _ => true) true t v d ps) :
  ∃ cs, Typed P t cs ∧ VRel nom noX W (avOf P t cs) v := by
 obtain ⟨fuel, h⟩ := h
 obtain ⟨cvs, h1, h2, h3⟩ := trod_typed n t _ _ _ ho h
 refine ⟨cvs, h1, ?_⟩
 unfold avOf
 have one : (v.cells.toList = [v]) → VRel nom noX W (.cv (cvs.headD .nilp)) v := by
  intro hv
  rw [hv] at h2 h3
  match cvs, h2 with
  | [c], _ => simp only [List.headD_cons, VRel]; exact h3 0 c v rfl rfl
 cases n with
 | zero => simp [openT] at ho
 | succ n =>
  simp only [openT] at ho
  split at ho
  ·rename_i ht; rw [ht]; obtain ⟨b, rfl⟩ := okWide_bool ht hval; exact one rfl
  ·rename_i ht; rw [ht]; obtain ⟨b, rfl⟩ := okWide_int ht hval; exact one rfl
  ·rename_i ht; rw [ht]; obtain ⟨b, rfl⟩ := okWide_string ht hval; exact one rfl
  ·rename_i ht; rw [ht]; obtain ⟨_, _, _, rfl⟩ := okWide_slice ht hval; exact one rfl
  ·rename_i ht; rw [ht]
   simp only [Value.okWide, ht] at hval
   obtain ⟨arr, rfl, _⟩ := hval
   simp only [VRel]
   exact ⟨arr.toList, by simp, VRels_of_all _ _ h2 h3⟩
  ·rename_i ht; rw [ht]
   simp only [Value.okWide, ht] at hval
   obtain ⟨arr, rfl, _⟩ := hval
   simp only [VRel]
   exact ⟨arr.toList, by simp, VRels_of_all _ _ h2 h3⟩
  ·cases ho
theorem args_typed {n : Nat} {r : Reach} {base : Nat} : ∀ {ts : List TypeId} {vs : List Value} {ds : List (DataW H)} {ps : List MemPlace}, (ts.all (openT P n)) = true →
  (∀ (j : Nat) (t : TypeId) (v : Value), ts[j]? = some t → vs[j]? = some v → Value.okWide P W r base t v) → DataW.TrodAll enc P W 0 (fun _ => true) true ts vs ds ps →
  ds.length = ts.length ∧ ∃ avs, Args P ts avs ∧ VRels nom noX W avs vs
 | [], _, _, _, _, _, h => by
  obtain ⟨rfl, rfl, rfl⟩ := trodAll_nil h
  exact ⟨rfl, [], .nil, by simp [VRels]⟩
 | t :: ts, _, _, _, ho, hval, h => by
  obtain ⟨v, vs1, d, ds1, a, b, rfl, rfl, rfl, h1, h2⟩ := trodAll_cons h
  simp only [List.all_cons, Bool.and_eq_true] at ho
  obtain ⟨cs, g1, g2⟩ := arg_typed ho.1 (hval 0 t v rfl rfl) h1
  obtain ⟨hl, avs, g3, g4⟩ := args_typed ho.2 (fun j t v h1 h2 => hval (j + 1) t v (by simpa using h1) (by simpa using h2)) h2
  exact ⟨by simp [hl], _, .cons g1 g3, by simp only [VRels]; exact ⟨g2, g4⟩⟩
theorem trodAll_below (hl : laidOutB P = true) {W' : World} (hb : Below W.heap.size W W') : ∀ {ts : List TypeId} {vs : List Value} {ds : List (DataW H)} {ps : List MemPlace}, (ts.all fun t => P.readableRec t && decide (t < P.types.size)) = true →
  DataW.TrodAll enc P W 0 (fun _ => true) true ts vs ds ps → (∀ x ∈ ps, x.block < W.heap.size) → DataW.TrodAll enc P W' 0 (fun b => decide (b < W.heap.size)) true ts vs ds ps
 | [], _, _, _, _, h, _ => by
  obtain ⟨rfl, rfl, rfl⟩ := trodAll_nil h
  exact trodAll_mk0
 | t :: ts, _, _, _, ho, h, hlt => by
  obtain ⟨v, vs1, d, ds1, a, b, rfl, rfl, rfl, h1, h2⟩ := trodAll_cons h
  simp only [List.all_cons, Bool.and_eq_true, decide_eq_true_eq] at ho
  refine trodAll_cons_mk (Below.trod hl ho.1.1 ho.1.2 h1 hb fun x hx => hlt x (by simp [hx])) (trodAll_below hl hb ?_ h2 fun x hx => hlt x (by simp [hx]))
  simpa using ho.2
theorem law_of_AC {f : FuncId} {fn : Func} {s : ChangeSpec} {n : Nat} {t : TypeId} {base : Nat} {args : Array Value} {ds gs : List (DataW H)} {before : List MemPlace}
  (hl : laidOutB P = true) (hpar : (fn.params.toList.all fun t => P.readableRec t && decide (t < P.types.size)) = true) (ho : fn.params.toList.all (openT P n) = true)
  (hres : fn.resultTypes = #[t]) (htb : P.underlying t = some .bool) (hsv : s.vars = []) (hs : ∀ ds : List (DataW H), ds.length = fn.params.toList.length → s.fn H ds = { results := [.lit (.bool true)], args := ds })
  (hAC : ∀ avs, Args P fn.params.toList avs → AC P f avs [] fun r _ => r = .b true)
  (hval : ∀ (j : Nat) t v, fn.params[j]? = some t → args[j]? = some v → Value.okWide P W .any base t v)
  (hW : DataW.Whole enc P fn.params.toList s.vars false W args.toList ds gs before) :
  Calls P f args W fun e W' => ∃ v, e = .returned v ∧ s.post enc P fn false true false false W args v W' := by
 have hW' := hW
 obtain ⟨p, q, hA, hV, rfl, hfz, hnd⟩ := hW
 rw [hsv] at hV
 obtain ⟨rfl, rfl⟩ := trodVars_none hV
 have hlt : ∀ x ∈ p, x.block < W.heap.size := fun x hx => hW'.lt x (by simp [hx])
 obtain ⟨hlen, avs, hav, hrel⟩ := args_typed ho (fun j t v h1 h2 => hval j t v (by simpa using h1) (by simpa using h2)) hA
 have hcall := (hAC avs hav).2 nom noX W args.toList hrel ⟨by simp, by simp, by simp, by simp, by simp⟩
 have hcall := callsIn_wide.1 hcall
 simp only [Array.toArray_toList] at hcall
 refine hcall.mono fun e W' ⟨c, r, σ', m', he, hq, hr, _, hst, _⟩ => ?_
 subst he hq
 simp only [VRel, CV.rep] at hr
 subst hr
 have hb : Below W.heap.size W W' := ⟨hst.os, hst.tape, hst.output, hst.size, fun k hk => hst.fr k hk (.inr (by simp))⟩
 have hsf : s.fn H (ds ++ []) = { results := [.lit (.bool true)], args := ds } := by rw [List.append_nil]; exact hs ds hlen
 refine ⟨_, rfl, ds, [], p ++ [], [], p, [], hW', ?_, ?_, ?_, hb.frame _, fun h => by simp at h⟩
 ·rw [hsf, hres]
  exact trodAll_mk1 (shut_bool htb true)
 ·rw [hsf]
  exact trodAll_below hl hb hpar hA hlt
 ·rw [hsf, hsv]
  rfl
end
end Go.Proofs.YtpnghcaccfnngaaGreatDoor.AM
namespace Go.Proofs.YtpnghcaccfnngaaGreatDoor.AM
variable [Dr]
open Go
theorem SameSite.trans {a b c : ALoop} (h : SameSite a b) (k : SameSite b c) : SameSite a c :=
 ⟨k.1.trans h.1, k.2.1.trans h.2.1, k.2.2.1.trans h.2.2.1, k.2.2.2.1.trans h.2.2.2.1, k.2.2.2.2.trans h.2.2.2.2⟩
theorem LoopKeep.trans {a b c : List AObj} (h : LoopKeep a b) (k : LoopKeep b c) : LoopKeep a c := fun l r hr =>
 let ⟨r1, h1, h2⟩ := h l r hr
 let ⟨r2, h3, h4⟩ := k l r1 h1
 ⟨r2, h3, h2.trans h4⟩
theorem args_nil {P : Program} {avs : List AV} (h : Args P [] avs) : avs = [] := by
 generalize hts : ([] : List TypeId) = u at h
 cases h with
 | nil => rfl
 | cons h1 h2 => cases hts
abbrev vs7 : List Nat := [0, 1, 2, 3, 4, 5, 6, 7, 8, 9, 10, 11, 12, 13, 14, 15, 16, 17, 59, 87]
def ic7l0 : IC := (.seq (.seq (.region [jv 15, jv 14, je 1, jw 18 (.bin .lss .int) [.t 0, .t 2]])
 (.cond 18 .skip
 (.exit 0)))
 (.seq (.block 1 (.seq (.dr [[], [0], [], [], [2, 3], [4], [5], [], [], [7, 8], [9], [10], [0, 1, 6, 11, 1], [12], [13], [13], [14, 12, 0, 1, 2, 3, 4, 5, 6, 7, 8, 9, 10, 11, 12, 13, 14], [15, 16, 0, 1, 2, 3, 4, 5, 6, 7, 8, 9, 10, 11, 12, 13, 14, 15, 16]] [jk 43 [], jk 44 [], jv 14, jv 15, ja 2 2 3, jq (.iaA 2 1) [.t 4, jn 0], jl 5, jv 14, jv 15, ja 2 7 8, jq (.iaA 2 1) [.t 9, jn 1], jl 10, jk 29 [.t 0, .t 1, .t 6, .t 11], jt 12, jx 0 13, jx 1 13, jm 16 14, jm 17 15])
 (.seq (.region [jv 16, jv 13, jv 15, ja 1 1 2, jl 3, jq (.bin .neq .bool) [.t 0, .t 4], jt 5, jh 6 false 17, jg 6 false (.bin .neq .int) [.t 7, jn 0], jw 19 .pick [.t 6, jB true, .t 8]])
 (.cond 19 (.seq (.region [jw 0 .mv [jB false]])
 .ret)
 .skip))))
 (.region [jv 15, jq (.bin .add .int) [.t 0, jn 1], jm 15 1])))
def ic7 : IC := (.seq (.region [jw 0 .mv [jB false]])
 (.seq (.region [jq (.build [(.cv (.int .i64 0)), (.cv (.int .i64 0)), (.cv (.int .i64 0))] [(0, 1), (1, 1), (2, 1)]) [jn 2000, jn 2, jn 29], jk 18 [.t 0], jt 1, jx 0 2, jx 1 2, jm 1 3, jm 2 4])
 (.seq (.region [jq (.build [(.cv (.int .i64 0)), (.cv (.int .i64 0)), (.cv (.int .i64 0))] [(0, 1), (1, 1), (2, 1)]) [jn 2000, jn 3, jn 1], jk 18 [.t 0], jt 1, jx 0 2, jx 1 2, jm 3 3, jm 4 4])
 (.seq (.region [jk 24 [jn 30, jn 0, jn 1], jt 0, jx 0 1, jx 1 1, jm 5 2, jm 6 3])
 (.seq (.region [jk 26 [jn 59, jn 423], jt 0, jx 0 1, jx 1 1, jm 7 2, jm 8 3])
 (.seq (.region [jk 43 [], jk 42 [.t 0, jn 0], jt 1, jx 0 2, jx 1 2, jm 9 3, jm 10 4])
 (.seq (.region [jk 43 [], jk 44 [], jq (.build [(.cv (.int .i64 0)), (.cv (.int .i64 0))] [(0, 1)]) [jn 1], jq (.bslice 2 1 [(.cv (.int .i64 0)), (.cv (.int .i64 0))] [(0, 2)]) [.t 2], jk 34 [.t 0, .t 1, .t 3], jt 4, jx 0 5, jx 1 5, jm 11 6, jm 12 7])
 (.seq (.region [jq (.bslice 1 5 [(.cv (.bool false)), (.cv (.bool false)), (.cv (.bool false)), (.cv (.bool false)), (.cv (.bool false))] [(0, 1), (1, 1), (2, 1), (3, 1), (4, 1)]) [jB true, jB false, jB true, jB false, jB true], jm 13 0])
 (.seq (.region [jq (.build [(.cv (.int .i64 0)), (.cv (.int .i64 0))] [(0, 1), (1, 1)]) [jn 0, jn 1], jq (.build [(.cv (.int .i64 0)), (.cv (.int .i64 0))] [(0, 1), (1, 1)]) [jn 1, jn 1], jq (.build [(.cv (.int .i64 0)), (.cv (.int .i64 0))] [(0, 1), (1, 1)]) [jn 1, jn 2], jq (.build [(.cv (.int .i64 0)), (.cv (.int .i64 0))] [(0, 1), (1, 1)]) [jn 2, jn 2], jq (.build [(.cv (.int .i64 0)), (.cv (.int .i64 0))] [(0, 1), (1, 1)]) [jn 2, jn 0], jq (.bslice 2 5 [(.cv (.int .i64 0)), (.cv (.int .i64 0)), (.cv (.int .i64 0)), (.cv (.int .i64 0)), (.cv (.int .i64 0)), (.cv (.int .i64 0)), (.cv (.int .i64 0)), (.cv (.int .i64 0)), (.cv (.int .i64 0)), (.cv (.int .i64 0))] [(0, 2), (2, 2), (4, 2), (6, 2), (8, 2)]) [.t 0, .t 1, .t 2, .t 3, .t 4], jm 14 5])
 (.seq (.seq (.region [jz 15 0])
 (.block 0 (.loop ic7l0)))
 (.seq (.region [jv 2, jq (.bin .eql .int) [.t 0, jn 0], jt 1, jh 2 true 4, jg 2 true (.bin .eql .int) [.t 3, jn 0], jq .pick [.t 2, .t 4, jB false], jt 5, jh 6 true 6, jg 6 true (.bin .eql .int) [.t 7, jn 0], jq .pick [.t 6, .t 8, jB false], jt 9, jh 10 true 8, jg 10 true (.bin .eql .int) [.t 11, jn 0], jq .pick [.t 10, .t 12, jB false], jt 13, jh 14 true 10, jg 14 true (.bin .eql .int) [.t 15, jn 0], jq .pick [.t 14, .t 16, jB false], jt 17, jh 18 true 12, jg 18 true (.bin .eql .int) [.t 19, jn 0], jq .pick [.t 18, .t 20, jB false], jt 21, jh 22 true 1, jg 22 true (.bin .eql .int) [.t 23, jn 59], jq .pick [.t 22, .t 24, jB false], jt 25, jh 26 true 3, jg 26 true (.bin .eql .int) [.t 27, jn 60], jq .pick [.t 26, .t 28, jB false], jt 29, jh 30 true 5, jg 30 true (.bin .eql .int) [.t 31, jn 59], jq .pick [.t 30, .t 32, jB false], jt 33, jh 34 true 7, jg 34 true (.bin .eql .int) [.t 35, jn 0], jq .pick [.t 34, .t 36, jB false], jt 37, jh 38 true 9, jg 38 true (.bslice 1 1 [(.cv (.int .i64 0))] [(0, 1)]) [jn 0], jf 38 true 45 [.t 39, .t 40], jq .pick [.t 38, .t 41, jB false], jt 42, jh 43 true 11, jg 43 true .not [.t 44], jq .pick [.t 43, .t 45, jB false], jt 46, jf 47 true 28 [], jq .pick [.t 47, .t 48, jB false], jm 0 49])
 .ret)))))))))))
abbrev rs7 : List RC := [(.v 0)]
theorem fok7 (p : Bool) : FnOk Tryz.prog 7 ⟨ic7, vs7, 138, rs7, p⟩ := .mk2 Tryz.func7 (by kernel_rfl) (by kernel_rfl) (by kernel_rfl) (by kernel_rfl) (by kernel_rfl)
end Go.Proofs.YtpnghcaccfnngaaGreatDoor.AM
namespace Go.Proofs.YtpnghcaccfnngaaGreatDoor.AM
open Go Pl
theorem d30 : IsDate 30 0 0 := ⟨by decide, by decide +kernel, by decide +kernel, by decide⟩
theorem d423 : IsDate 423 1 1 := ⟨by decide, by decide +kernel, by decide +kernel, by decide⟩
theorem lc7 : AC Tryz.prog 7 [] [] fun r _ => r = .b true := by
 have h18a := c18 2000 2 29
 rw [show dayV 2000 2 29 = .tup [.i 59, .i 0] by kernel_rfl] at h18a
 have h18b := c18 2000 3 1
 rw [show dayV 2000 3 1 = .tup [.i 60, .i 0] by kernel_rfl] at h18b
 have h24 := c24 d30 (ys := 0) (ms := 1) (by decide) (by decide)
 rw [show plusV 30 0 0 0 1 = .tup [.i 59, .i 0] by kernel_rfl] at h24
 have h26 := c26 d59 d423 (by decide)
 rw [show ageN 59 423 0 1 1 = 0 by decide +kernel] at h26
 have h42 := c42 exS exSz 0
 rw [show cvsV exS 0 = .tup [ints [0], .i 0] by kernel_rfl] at h42
 have h34 := c34 exS exSz exR [(1, 0)] (by decide) (by decide)
 rw [show alsV exS exR [(1, 0)] = .tup [.b false, .i 0] by kernel_rfl] at h34
 have m0 := c29 exS exSz exR (by decide) 0 1
 rw [show mayV exS exR 0 1 = .tup [.b true, .i 0] by kernel_rfl] at m0
 have m1 := c29 exS exSz exR (by decide) 1 1
 rw [show mayV exS exR 1 1 = .tup [.b false, .i 0] by kernel_rfl] at m1
 have m2 := c29 exS exSz exR (by decide) 1 2
 rw [show mayV exS exR 1 2 = .tup [.b true, .i 0] by kernel_rfl] at m2
 have m3 := c29 exS exSz exR (by decide) 2 2
 rw [show mayV exS exR 2 2 = .tup [.b false, .i 0] by kernel_rfl] at m3
 have m4 := c29 exS exSz exR (by decide) 2 0
 rw [show mayV exS exR 2 0 = .tup [.b true, .i 0] by kernel_rfl] at m4
 have h45 := c45 [0] [0] (by decide) (by decide)
 rw [show decide ([(0 : Int)] = [0]) = true by decide] at h45
 have a0 : ∀ σ, f_iaS 2 [.sl 2 0 5 2, .cv (.int .i64 0)] σ = some (.ptr 2 0, σ) := fun σ => by simp [f_iaS]
 have b0 : ∀ σ, f_iaS 1 [.sl 1 0 5 1, .cv (.int .i64 0)] σ = some (.ptr 1 0, σ) := fun σ => by simp [f_iaS]
 have a1 : ∀ σ, f_iaS 2 [.sl 2 0 5 2, .cv (.int .i64 1)] σ = some (.ptr 2 2, σ) := fun σ => by simp [f_iaS]
 have b1 : ∀ σ, f_iaS 1 [.sl 1 0 5 1, .cv (.int .i64 1)] σ = some (.ptr 1 1, σ) := fun σ => by simp [f_iaS]
 have a2 : ∀ σ, f_iaS 2 [.sl 2 0 5 2, .cv (.int .i64 2)] σ = some (.ptr 2 4, σ) := fun σ => by simp [f_iaS]
 have b2 : ∀ σ, f_iaS 1 [.sl 1 0 5 1, .cv (.int .i64 2)] σ = some (.ptr 1 2, σ) := fun σ => by simp [f_iaS]
 have a3 : ∀ σ, f_iaS 2 [.sl 2 0 5 2, .cv (.int .i64 3)] σ = some (.ptr 2 6, σ) := fun σ => by simp [f_iaS]
 have b3 : ∀ σ, f_iaS 1 [.sl 1 0 5 1, .cv (.int .i64 3)] σ = some (.ptr 1 3, σ) := fun σ => by simp [f_iaS]
 have a4 : ∀ σ, f_iaS 2 [.sl 2 0 5 2, .cv (.int .i64 4)] σ = some (.ptr 2 8, σ) := fun σ => by simp [f_iaS]
 have b4 : ∀ σ, f_iaS 1 [.sl 1 0 5 1, .cv (.int .i64 4)] σ = some (.ptr 1 4, σ) := fun σ => by simp [f_iaS]
 refine AC_FE (fok7 true) (Nat.le_of_ble_eq_true rfl) ?_
 simp only [ic7, evA, if_true, if_false, beq_false, simprocAttr]
 refine h18a.call frz ?_
 simp only [evA, if_true, if_false, beq_false, simprocAttr]
 refine h18b.call frz ?_
 simp only [evA, if_true, if_false, beq_false, simprocAttr]
 refine h24.call frz ?_
 simp only [evA, if_true, if_false, beq_false, simprocAttr]
 refine h26.call frz ?_
 simp only [evA, if_true, if_false, beq_false, simprocAttr]
 refine c43.call .nil ?_
 simp only [evA, if_true, if_false, beq_false, simprocAttr]
 refine h42.call frz ?_
 simp only [evA, if_true, if_false, beq_false, simprocAttr]
 refine c43.call .nil ?_
 simp only [evA, if_true, if_false, beq_false, simprocAttr]
 refine c44.call .nil ?_
 simp only [evA, if_true, if_false, beq_false, simprocAttr]
 refine h34.call (.cons (frz_refl (k := 0) _ rfl) (.cons (frz_refl (k := 0) _ rfl) (.cons (accS_frz (e := 2) (cs := [(1, 0)].flatMap rgC) (.inr ⟨0, rfl, rfl, rfl⟩) (fun _ _ => trivial)) .nil))) ?_
 simp only [evA, if_true, if_false, beq_false, simprocAttr]
 refine IL_unroll' ?_
 simp only [ic7l0, f_iaA, a0, a1, a2, a3, a4, b0, b1, b2, b3, b4, evA, if_true, if_false, beq_false, simprocAttr]
 refine DW_s [0, 1, 12] [] hmix (by kernel_rfl) rfl ?_
 simp only [evA, if_true, if_false, beq_false, simprocAttr]
 refine kK_keep (c43.call .nil ⟨rfl, rfl⟩) rfl ?_
 simp only [evA, if_true, if_false, beq_false, simprocAttr]
 refine kK_keep (c44.call .nil ⟨rfl, rfl⟩) rfl ?_
 simp only [f_iaA, a0, a1, a2, a3, a4, b0, b1, b2, b3, b4, evA, if_true, if_false, beq_false, simprocAttr]
 refine kK_keep (m0.call frz ⟨rfl, rfl⟩) rfl ?_
 simp only [kUn_n, a0, a1, a2, a3, a4, b0, b1, b2, b3, b4, evA, if_true, if_false, beq_false, simprocAttr]
 refine IL_unroll' ?_
 simp only [ic7l0, f_iaA, a0, a1, a2, a3, a4, b0, b1, b2, b3, b4, evA, if_true, if_false, beq_false, simprocAttr]
 refine DW_s [0, 1, 12] [] hmix (by kernel_rfl) rfl ?_
 simp only [evA, if_true, if_false, beq_false, simprocAttr]
 refine kK_keep (c43.call .nil ⟨rfl, rfl⟩) rfl ?_
 simp only [evA, if_true, if_false, beq_false, simprocAttr]
 refine kK_keep (c44.call .nil ⟨rfl, rfl⟩) rfl ?_
 simp only [f_iaA, a0, a1, a2, a3, a4, b0, b1, b2, b3, b4, evA, if_true, if_false, beq_false, simprocAttr]
 refine kK_keep (m1.call frz ⟨rfl, rfl⟩) rfl ?_
 simp only [kUn_n, a0, a1, a2, a3, a4, b0, b1, b2, b3, b4, evA, if_true, if_false, beq_false, simprocAttr]
 refine IL_unroll' ?_
 simp only [ic7l0, f_iaA, a0, a1, a2, a3, a4, b0, b1, b2, b3, b4, evA, if_true, if_false, beq_false, simprocAttr]
 refine DW_s [0, 1, 12] [] hmix (by kernel_rfl) rfl ?_
 simp only [evA, if_true, if_false, beq_false, simprocAttr]
 refine kK_keep (c43.call .nil ⟨rfl, rfl⟩) rfl ?_
 simp only [evA, if_true, if_false, beq_false, simprocAttr]
 refine kK_keep (c44.call .nil ⟨rfl, rfl⟩) rfl ?_
 simp only [f_iaA, a0, a1, a2, a3, a4, b0, b1, b2, b3, b4, evA, if_true, if_false, beq_false, simprocAttr]
 refine kK_keep (m2.call frz ⟨rfl, rfl⟩) rfl ?_
 simp only [kUn_n, a0, a1, a2, a3, a4, b0, b1, b2, b3, b4, evA, if_true, if_false, beq_false, simprocAttr]
 refine IL_unroll' ?_
 simp only [ic7l0, f_iaA, a0, a1, a2, a3, a4, b0, b1, b2, b3, b4, evA, if_true, if_false, beq_false, simprocAttr]
 refine DW_s [0, 1, 12] [] hmix (by kernel_rfl) rfl ?_
 simp only [evA, if_true, if_false, beq_false, simprocAttr]
 refine kK_keep (c43.call .nil ⟨rfl, rfl⟩) rfl ?_
 simp only [evA, if_true, if_false, beq_false, simprocAttr]
 refine kK_keep (c44.call .nil ⟨rfl, rfl⟩) rfl ?_
 simp only [f_iaA, a0, a1, a2, a3, a4, b0, b1, b2, b3, b4, evA, if_true, if_false, beq_false, simprocAttr]
 refine kK_keep (m3.call frz ⟨rfl, rfl⟩) rfl ?_
 simp only [kUn_n, a0, a1, a2, a3, a4, b0, b1, b2, b3, b4, evA, if_true, if_false, beq_false, simprocAttr]
 refine IL_unroll' ?_
 simp only [ic7l0, f_iaA, a0, a1, a2, a3, a4, b0, b1, b2, b3, b4, evA, if_true, if_false, beq_false, simprocAttr]
 refine DW_s [0, 1, 12] [] hmix (by kernel_rfl) rfl ?_
 simp only [evA, if_true, if_false, beq_false, simprocAttr]
 refine kK_keep (c43.call .nil ⟨rfl, rfl⟩) rfl ?_
 simp only [evA, if_true, if_false, beq_false, simprocAttr]
 refine kK_keep (c44.call .nil ⟨rfl, rfl⟩) rfl ?_
 simp only [f_iaA, a0, a1, a2, a3, a4, b0, b1, b2, b3, b4, evA, if_true, if_false, beq_false, simprocAttr]
 refine kK_keep (m4.call frz ⟨rfl, rfl⟩) rfl ?_
 simp only [kUn_n, a0, a1, a2, a3, a4, b0, b1, b2, b3, b4, evA, if_true, if_false, beq_false, simprocAttr]
 refine IL_unroll' ?_
 simp only [ic7l0, kUn_x, evA, if_true, if_false, beq_false, simprocAttr]
 refine h45.call (.cons (frz_refl (k := 0) _ rfl) (.cons (accS_frz (e := 1) (cs := [0].map (.int .i64)) (.inr ⟨3, rfl, rfl, rfl⟩) (fun _ _ => trivial)) .nil)) ?_
 simp only [evA, if_true, if_false, beq_false, simprocAttr]
 refine awake.call .nil ?_
 simp only [evA, if_true, if_false, beq_false, simprocAttr]
theorem law_ClassKnown (avs : List AV) (h : Args Tryz.prog Tryz.f7.params.toList avs) : AC Tryz.prog 7 avs [] fun r _ => r = .b true := by
 have h : Args Tryz.prog [] avs := h
 cases args_nil h
 exact lc7
end Go.Proofs.YtpnghcaccfnngaaGreatDoor.AM

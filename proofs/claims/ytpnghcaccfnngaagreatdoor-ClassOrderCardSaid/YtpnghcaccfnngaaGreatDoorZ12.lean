/- Parts of the proof, joined: AmSo to AmSo. -/
import Derived.Shelf.SlSortCmp.WholeK
import Derived.Test.YtpnghcaccfnngaaGreatDoorZ11
set_option linter.unusedVariables false
set_option linter.unusedSimpArgs false
set_option linter.unusedSectionVars false
namespace Go.Proofs.YtpnghcaccfnngaaGreatDoor.AM
variable [Dr]
open Go Go.Sort Go.Shelf
section
variable {P : Program} {m m' : LM} {X X' : Nat → Prop} {σ : List AObj} {w w' : World}
abbrev drOn : Dr := ⟨True⟩
omit [Dr] in
theorem step_grow [d : Dr] (hon : d.on) {n0 : Nat} (h : Step n0 nom X w m' w') : ∃ q os, w' = grow (w.drewN q) os := by
 refine ⟨w'.drawn - w.drawn, w'.heap.extract w.heap.size w'.heap.size, ?_⟩
 have h1 := h.size
 have h2 := h.os
 have h3 := h.tape
 have h4 := h.output
 have h5 := h.drawn hon
 have h6 : ∀ b, b < w.heap.size → w'.heap[b]? = w.heap[b]? := fun b hb => h.fr b hb (.inr fun l hl => by cases hl)
 obtain ⟨hp, tp, dr, o, out⟩ := w'
 simp only at h1 h2 h3 h4 h5 h6
 simp only [grow, World.drewN, World.mk.injEq]
 refine ⟨?_, h3, by omega, h2, h4⟩
 apply Array.ext_getElem?
 intro i
 by_cases hi : i < w.heap.size
 ·rw [h6 i hi, Array.getElem?_append_left hi]
 ·rw [Array.getElem?_append_right (by omega)]
  by_cases hj : i < hp.size
  ·rw [Array.getElem?_extract, if_pos (by omega), show w.heap.size + (i - w.heap.size) = i by omega]
  ·rw [Array.getElem?_eq_none (by omega), Array.getElem?_eq_none (by simp; omega)]
theorem HRel.turnG (h : HRel m X σ w) {l b : Nat} {o o' : AObj} (hl : m l = some b) (ho : σ[l]? = some o) (hlive : o.live) (hs : Step σ.length m X w m w')
  (hot : ∀ k, k ≠ b → k < w.heap.size → w'.heap[k]? = w.heap[k]?) (hr : Mono m X w m X w' → ORel m X w' (some b) o') : HRel m X (σ.set l o') w' := by
 have hm := h.mono_of_step hs (Nat.le_refl _)
 refine ⟨?_, ?_, ?_, ?_, ?_⟩
 ·intro k hk; exact Nat.lt_of_lt_of_le (h.xb k hk) hs.size
 ·intro x k hk; have := h.dom x k hk; exact ⟨by simpa using this.1, Nat.lt_of_lt_of_le this.2 hs.size⟩
 ·intro x k o1 hx ho1 hv
  rw [List.getElem?_set] at ho1
  by_cases hxl : l = x
  ·subst hxl; exact h.own l k o hx ho hlive
  ·rw [if_neg hxl] at ho1; exact h.own x k o1 hx ho1 hv
 ·intro x y k o2 hx hy ho2 hv2
  rw [List.getElem?_set] at ho2
  by_cases hyl : l = y
  ·subst hyl; exact h.inj x l k o hx hy ho hlive
  ·rw [if_neg hyl] at ho2; exact h.inj x y k o2 hx hy ho2 hv2
 ·intro x o1 ho1
  rw [List.getElem?_set] at ho1
  by_cases hxl : l = x
  ·subst hxl
   rw [if_pos rfl] at ho1
   split at ho1
   ·cases ho1; rw [hl]; exact hr hm
   ·cases ho1
  ·rw [if_neg hxl] at ho1
   have hob := h.obj x o1 ho1
   cases hmx : m x with
   | none => rw [hmx] at hob; cases o1 <;> simp [ORel] at hob ⊢
   | some k =>
    rw [hmx] at hob
    by_cases hkb : k = b
    ·subst hkb
     by_cases hlv : o1.live
     ·have a1 := h.inj l x k o1 hl hmx ho1 hlv
      have a2 := h.inj x l k o hmx hl ho hlive
      omega
     ·cases o1 with
      | dead => trivial
      | _ => exact absurd trivial hlv
    ·exact ORel.mono hm (hot k hkb (h.dom x k hmx).2) hob
end
section
variable {α : Type} [Inhabited α] (enc : α → List Value) (k : Nat) (w : World) (b q : Nat) (d : Array α) (os : Array Obj)
theorem so_at {c : Array Value} {e : TypeId} {fr : Nat × Nat} (hb : w.heap[b]? = some (.cells c e fr)) : (sortWorldK enc k w b 0 q d os).heap[b]? = some (.cells (putCells id 0 (Sort.flatK enc k d) c) e fr) := by
 have hlt : b < w.heap.size := (Array.getElem?_eq_some_iff.1 hb).1
 unfold sortWorldK grow putRowK putRow mapBlock Sort.ahead
 simp only
 rw [Array.getElem?_append_left (by simpa using hlt), Array.getElem?_modify, if_pos rfl, hb]
 rfl
theorem so_other {x : Nat} (hx : x ≠ b) (hlt : x < w.heap.size) : (sortWorldK enc k w b 0 q d os).heap[x]? = w.heap[x]? := by
 unfold sortWorldK grow putRowK putRow mapBlock Sort.ahead
 simp only
 rw [Array.getElem?_append_left (by simpa using hlt), Array.getElem?_modify, if_neg (Ne.symm hx)]
theorem so_size : w.heap.size ≤ (sortWorldK enc k w b 0 q d os).heap.size := by
 unfold sortWorldK grow putRowK putRow mapBlock Sort.ahead
 simp
theorem so_step {m : LM} {X : Nat → Prop} {n0 l : Nat} (hl : m l = some b) (hx : ¬ X b) : Step n0 m X w m (sortWorldK enc k w b 0 q d os) where
 keep _ _ := rfl
 new x c hc := .inl ⟨x, hc⟩
 size := so_size enc k w b q d os
 fr x hx' hno := so_other enc k w b q d os (fun h => by
  subst h
  rcases hno with h | h
  ·exact hx h
  ·exact h l hl) hx'
 shp x c e hc := by
  by_cases h : x = b
  ·subst h; exact ⟨_, so_at enc k w x q d os hc, by simp [putCells]⟩
  ·exact ⟨c, by rw [so_other enc k w b q d os h (Array.getElem?_eq_some_iff.1 hc).1]; exact hc, rfl⟩
 os := rfl
 tape := rfl
 output := rfl
 drawn _ := by unfold sortWorldK grow putRowK putRow mapBlock Sort.ahead; simp
end
theorem flatv_get {α : Type} {f : α → List Value} {e : Nat} (hf : ∀ x, (f x).length = e) [Inhabited α] : ∀ {xs : List α} {i j : Nat}, i < xs.length → j < e → (xs.flatMap f)[i * e + j]? = (f xs[i]!)[j]?
 | [], i, _, h, _ => by simp at h
 | x :: xs, 0, j, _, hj => by
  rw [List.flatMap_cons, List.getElem?_append_left (by rw [hf]; omega)]; simp
 | x :: xs, i + 1, j, h, hj => by
  have h1 : (i + 1) * e + j = (f x).length + (i * e + j) := by rw [hf, Nat.succ_mul]; omega
  rw [List.flatMap_cons, h1, List.getElem?_append_right (by omega), Nat.add_sub_cancel_left, flatv_get hf (by simpa using h) hj]
  simp
theorem flatv_len {α : Type} {f : α → List Value} {e : Nat} (hf : ∀ x, (f x).length = e) : ∀ xs : List α, (xs.flatMap f).length = xs.length * e
 | [] => by simp
 | x :: xs => by rw [List.flatMap_cons, List.length_append, hf, flatv_len hf xs, List.length_cons, Nat.succ_mul]; omega
theorem flatK_list {α : Type} [Inhabited α] (enc : α → List Value) (k : Nat) (hk : ∀ x, (enc x).length = k) (d : Array α) : (Sort.flatK enc k d).toList = d.toList.flatMap enc := by
 apply List.ext_getElem?
 intro t
 by_cases ht : t < d.size * k
 ·have k0 : 0 < k := by
   rcases Nat.eq_zero_or_pos k with h | h
   ·subst h; simp at ht
   ·exact h
  have hq : t / k < d.size := Nat.div_lt_of_lt_mul (by rw [Nat.mul_comm]; exact ht)
  have hm := Nat.mod_lt t k0
  have he : t = t / k * k + t % k := by have := Nat.div_add_mod t k; rw [Nat.mul_comm] at this; omega
  have h1 : (Sort.flatK enc k d)[t]? = some (Sort.flatK enc k d)[t]! := by
   rw [getElem!_pos _ _ (by simpa using ht)]; exact Array.getElem?_eq_getElem _
  have h2 := flatv_get hk (xs := d.toList) (i := t / k) (j := t % k) (by simpa using hq) hm
  rw [← he] at h2
  rw [Array.getElem?_toList, h1, get_flatK _ _ _ _ ht, h2]
  have h3 : d.toList[t / k]! = d[t / k]! := by simp [List.getElem!_eq_getElem?_getD, getElem!_def]
  rw [h3, List.getElem?_eq_getElem (by rw [hk]; exact hm), getElem!_pos _ _ (by rw [hk]; exact hm)]
 ·rw [List.getElem?_eq_none (by simpa using ht), List.getElem?_eq_none (by rw [flatv_len hk]; simpa using ht)]
theorem putCells_list (F c : Array Value) (h : F.size ≤ c.size) : (putCells id 0 F c).toList = F.toList ++ c.toList.drop F.size := by
 apply List.ext_getElem?
 intro t
 rw [Array.getElem?_toList]
 unfold putCells
 rw [Array.getElem?_mapIdx]
 by_cases ht : t < F.size
 ·rw [List.getElem?_append_left (by simpa using ht), Array.getElem?_eq_getElem (by omega)]
  simp [ht]
 ·rw [List.getElem?_append_right (by simpa using ht), List.getElem?_drop]
  simp [ht]
  congr 1
  omega
theorem take_flat {A : Nat → List CV} {k : Nat} (hk : ∀ i, (A i).length = k) {n i : Nat} (hi : i < n) : (((List.range n).flatMap A).drop (i * k)).take k = A i := by
 rw [flat_at hk (by simpa using hi)]
 congr 1
 rw [getElem!_pos _ _ (by simpa using hi)]; simp
theorem flat_cv_len {A : Nat → List CV} {k : Nat} (hk : ∀ i, (A i).length = k) (xs : List Nat) : (xs.flatMap A).length = xs.length * k := flat_len hk xs
theorem VRels.flat {m : LM} {X : Nat → Prop} {w : World} {A : Nat → List CV} {V : Nat → List Value} : ∀ {p : List Nat}, (∀ i ∈ p, VRels m X w ((A i).map .cv) (V i)) → VRels m X w ((p.flatMap A).map .cv) (p.flatMap V)
 | [], _ => by simp [VRels]
 | i :: p, h => by
  rw [List.flatMap_cons, List.flatMap_cons, List.map_append]
  exact VRels.append (h i (by simp)) (VRels.flat fun j hj => h j (by simp [hj]))
theorem swo_pull {cf : Nat → Nat → Int} (c : Nat → Nat) (h : SWO (ltOf cf)) : SWO (ltOf fun x y => cf (c x) (c y)) :=
 ⟨fun x => h.irrefl (c x), fun x y z => h.trans (c x) (c y) (c z), fun x y z => h.ntrans (c x) (c y) (c z)⟩
theorem AC_sortK {P : Program} {ρ : Ren} (L : SlLaysF0.n6 P ρ) (k : Nat) (aE : ∀ w, (isAgg (ρ.t 24)).run P w = .ok true w) (zE : ∀ w, (Go.sizeOf (ρ.t 24)).run P w = .ok k w) (hf : Enter P (ρ.f 6)) {g : Nat} {cap : List AV} {n : Nat} (hn : 0 < n) (hn2 : n < 4611686018427387904)
  {A : Nat → List CV} (hk : ∀ i, (A i).length = k) {cf : Nat → Nat → Int} (hO : SWO (ltOf cf)) (hcl : locsInAll 0 cap = true) (hcmp : ∀ i j, i < n → j < n → @AC drOn P g (.agg ((A i).map .cv) :: .agg ((A j).map .cv) :: cap) [] fun r _ => r = .i (cf i j))
  {σ : List AObj} {l : Nat} {rest : List AV} (hr : rowOf σ l = some (((List.range n).flatMap A).map .cv ++ rest)) :
  AC P (ρ.f 6) [.sl l 0 n k, .fn (.func g) cap] σ fun r τ => r = .tup [] ∧ ∃ p : List Nat, p.Perm (List.range n) ∧ p.Pairwise (fun i j => ¬ cf j i < 0) ∧ τ = σ.set l (.cells ((p.flatMap A).map .cv ++ rest)) := by
 refine ⟨hf, fun m X w cargs ha hh => ?_⟩
 obtain ⟨v1, us, rfl, h1, k1⟩ := VRels.cons ha
 obtain ⟨v2, us, rfl, h2, k2⟩ := VRels.cons k1
 have k3 := VRels.nil' k2
 subst k3
 simp only [VRel] at h1 h2
 obtain ⟨b, capn, hmb, rfl, hcapn, c0, e0, hb0, hsz0⟩ := h1
 obtain ⟨vs, rfl, hvs⟩ := h2
 have hσ := rowOf_some hr
 have hob := hh.obj l _ hσ
 rw [hmb] at hob
 obtain ⟨c, e, hb, hcs, hrels⟩ := hob
 rw [hb] at hb0
 have hrl : ((((List.range n).flatMap A).map AV.cv) ++ rest).length = n * k + rest.length := by
  rw [List.length_append, List.length_map, flat_cv_len hk]; simp
 rw [hrl] at hcs hrels
 have hblk : b < w.heap.size := (hh.dom l b hmb).2
 have hxb : ¬ X b := hh.own l b _ hmb hσ trivial
 let V : Nat → List Value := fun i => (c.toList.drop (i * k)).take k
 have hik : ∀ i, i < n → i * k + k ≤ n * k := fun i hi => by
  rw [← Nat.succ_mul]; exact Nat.mul_le_mul_right k hi
 have hVl : ∀ i, i < n → (V i).length = k := fun i hi => by
  have := hik i hi
  show ((c.toList.drop (i * k)).take k).length = k
  rw [List.length_take, List.length_drop, Array.length_toList]; omega
 have hV : ∀ i, i < n → VRels m X w ((A i).map .cv) (V i) := fun i hi => by
  have h := (hrels.drop (i * k)).take k
  have hi' := hik i hi
  rw [List.drop_append_of_le_length (by rw [List.length_map, flat_cv_len hk]; simp; omega), List.take_append_of_le_length (by rw [List.length_drop, List.length_map, flat_cv_len hk]; simp; omega), ← List.map_drop, ← List.map_take, take_flat hk hi, List.drop_take, List.take_take] at h
  rw [show min k (n * k + rest.length - i * k) = k by omega] at h
  exact h
 let cl : Nat → Nat := fun i => if i < n then i else 0
 have hcl1 : ∀ i, cl i < n := fun i => by show (if i < n then i else 0) < n; split <;> omega
 have hcl2 : ∀ i, i < n → cl i = i := fun i hi => by show (if i < n then i else 0) = i; rw [if_pos hi]
 let enc : Nat → List Value := fun i => V (cl i)
 have hek : ∀ x, (enc x).length = k := fun x => hVl _ (hcl1 x)
 have hone : ∀ x, ∀ v ∈ enc x, v.oneCell' = true := fun x => VRels.one_cells (hV _ (hcl1 x)) (by simp [AV.isSc])
 have hds : (Array.range n).size = n := by simp
 have hH : HoldsK enc k w b 0 (Array.range n) := by
  intro j hj
  rw [size_flatK, hds] at hj
  have hjc : j < c.size := by omega
  have h2 : (Sort.flatK enc k (Array.range n))[j]! = c[j] := by
   have k0 : 0 < k := by
    rcases Nat.eq_zero_or_pos k with h | h
    ·subst h; simp at hj
    ·exact h
   have hq : j / k < n := Nat.div_lt_of_lt_mul (by rw [Nat.mul_comm]; exact hj)
   have hm := Nat.mod_lt j k0
   have he : j = j / k * k + j % k := by have := Nat.div_add_mod j k; rw [Nat.mul_comm] at this; omega
   rw [get_flatK _ _ _ _ (by rw [hds]; exact hj)]
   have h3 : (Array.range n)[j / k]! = j / k := by simp [hq]
   rw [h3]
   show (V (cl (j / k)))[j % k]! = c[j]
   rw [hcl2 _ hq, getElem!_pos _ _ (by rw [hVl _ hq]; exact hm)]
   show ((c.toList.drop (j / k * k)).take k)[j % k]'_ = c[j]
   rw [List.getElem_take, List.getElem_drop, Array.getElem_toList]
   congr 1
   omega
  refine ⟨?_, ?_⟩
  ·simp only [World.cell?, Nat.zero_add, hb, id, h2]
   simp [hjc]
  ·simp [World.frozen?, hb]
 have hown : ∀ b, Own nom (Own m X) b ↔ Own m X b := fun b => ⟨fun h => h.elim id (fun ⟨l, hl⟩ => by cases hl), .inl⟩
 have hcmp' : CmpLays P g vs.toArray enc k (fun x y => cf (cl x) (cl y)) b 0 (Array.range n).size w := by
  intro mm os dk hsz x y
  have hmono : Mono nom (Own m X) w nom (Own m X) (sortWorldK enc k w b 0 mm dk os) := by
   refine ⟨fun l b hl => hl, fun b' hb' hc => ?_, (so_step enc k w b mm dk os (n0 := 0) hmb hxb).shp⟩
   obtain ⟨c1, e1, fr1, hc1⟩ := hc
   have hne : b' ≠ b := fun h => hb' ((hown b').2 (.inr ⟨l, by rw [h]; exact hmb⟩))
   exact ⟨so_other enc k w b mm dk os hne (Array.getElem?_eq_some_iff.1 hc1).1, hb'⟩
  have a0 : VRels m X w (.agg ((A (cl x)).map .cv) :: .agg ((A (cl y)).map .cv) :: cap) (.agg (enc x).toArray :: .agg (enc y).toArray :: vs) := by
   simp only [VRels, VRel]
   exact ⟨⟨_, rfl, hV _ (hcl1 x)⟩, ⟨_, rfl, hV _ (hcl1 y)⟩, hvs⟩
  have hcv : ∀ cs : List CV, locsInAll 0 (cs.map AV.cv) = true := fun cs => by
   rw [locsInAll_iff]
   intro v hv
   obtain ⟨z, _, rfl⟩ := List.mem_map.1 hv
   rfl
  have a1 := VRels.less (k := 0) (m' := nom) (X' := Own m X) (fun l hl => absurd hl (Nat.not_lt_zero _)) (fun b hb => (hown b).1 hb) _ _ (by simp only [locsInAll, locsIn, hcv, hcl, Bool.and_self]) a0
  have a2 := a1.mono hmono
  have hh0 : HRel nom (Own m X) [] (sortWorldK enc k w b 0 mm dk os) := ⟨fun b' hb' => by
    have hs := so_size enc k w b mm dk os
    rcases hb' with h | ⟨l', h⟩
    ·have := hh.xb b' h; omega
    ·have := (hh.dom l' b' h).2; omega, fun l b hl => (by cases hl), fun l b o hl => (by cases hl), fun l l' b o hl => (by cases hl), fun l o ho => (by simp at ho)⟩
  have hcall := callsIn_wide.1 ((hcmp (cl x) (cl y) (hcl1 x) (hcl1 y)).2 nom (Own m X) _ _ a2 hh0)
  have hargs : (#[Value.agg (enc x).toArray, .agg (enc y).toArray] ++ vs.toArray) = (Value.agg (enc x).toArray :: .agg (enc y).toArray :: vs).toArray := by simp
  rw [hargs]
  refine hcall.mono ?_
  rintro e' w' ⟨cv, r, σ', m', rfl, rfl, hv, hh', hst, _⟩
  simp only [VRel, CV.rep] at hv
  subst hv
  exact ⟨rfl, step_grow (d := drOn) trivial hst⟩
 have heg : ∀ args w, (callFunc g args).run P w = .ok (.enter g args) w := (hcmp 0 0 hn hn).1
 have hO' := swo_pull cl hO
 refine callsIn_wide.2 ((AnyQ.slices_SortFunc L k aE zE enc hek hone _ hO' g vs.toArray b 0 capn (Array.range n) w heg hcmp' hH hblk (by rw [hds]; exact hn2)).mono ?_) |> fun h => by rw [hds] at h; exact h
 rintro e' w' ⟨rfl, d', nn, os, hperm, hsort, rfl⟩
 rw [hds] at hperm hsort
 obtain ⟨hps, _, hpp⟩ := hperm
 have hp1 : d'.toList.Perm (List.range n) := by
  have e1 : d'.extract 0 n = d' := by rw [← hds, ← hps]; simp
  have e2 : (Array.range n).extract 0 n = Array.range n := by simp
  rw [e1, e2] at hpp
  simpa using hpp
 have hlt : ∀ i ∈ d'.toList, i < n := fun i hi => by simpa using (hp1.mem_iff (a := i)).1 hi
 have hdl : d'.toList.length = n := by have := hp1.length_eq; simpa using this
 have hst := so_step enc k w b nn d' os (n0 := σ.length) hmb hxb
 refine ⟨.tuple #[], .tup [], σ.set l (.cells ((d'.toList.flatMap A).map .cv ++ rest)), m, rfl, ⟨rfl, d'.toList, hp1, ?_, rfl⟩, ?_, ?_, hst, by simp⟩
 ·rw [List.pairwise_iff_getElem]
  intro i j hi hj hij
  have := hsort i j (Nat.zero_le _) hij (by omega)
  unfold ltOf at this
  have := of_decide_eq_false this
  rw [getElem!_pos d' j (by simpa using hj), getElem!_pos d' i (by simpa using hi)] at this
  have g1 : d'.toList[i] = d'[i]'(by simpa using hi) := by simp
  have g2 : d'.toList[j] = d'[j]'(by simpa using hj) := by simp
  rw [g1, g2]
  have f1 := hcl2 (d'[i]'(by simpa using hi)) (hlt _ (by rw [← g1]; exact List.getElem_mem hi))
  have f2 := hcl2 (d'[j]'(by simpa using hj)) (hlt _ (by rw [← g2]; exact List.getElem_mem hj))
  have this : ¬ cf (cl (d'[j]'(by simpa using hj))) (cl (d'[i]'(by simpa using hi))) < 0 := this
  rw [f1, f2] at this
  exact this
 ·simp only [VRel]; exact ⟨[], rfl, by simp [VRels]⟩
 ·refine hh.turnG hmb hσ trivial hst (fun x hx hlt => so_other enc k w b nn d' os hx hlt) fun hm => ?_
  have hF : (Sort.flatK enc k d').size = n * k := by rw [size_flatK, hps, hds]
  refine ⟨_, e, so_at enc k w b nn d' os hb, ?_, ?_⟩
  ·rw [List.length_append, List.length_map, flat_cv_len hk, hdl]
   simp [putCells]; omega
  ·have hlen2 : ((d'.toList.flatMap A).map AV.cv ++ rest).length = n * k + rest.length := by rw [List.length_append, List.length_map, flat_cv_len hk, hdl]
   rw [hlen2, putCells_list _ _ (by rw [hF]; omega), flatK_list enc k hek, hF]
   have e1 : d'.toList.flatMap enc = d'.toList.flatMap V := by
    have : ∀ p : List Nat, (∀ i ∈ p, i < n) → p.flatMap enc = p.flatMap V := by
     intro p hp
     induction p with
     | nil => rfl
     | cons i p ih =>
      rw [List.flatMap_cons, List.flatMap_cons, ih fun j hj => hp j (by simp [hj])]
      show V (cl i) ++ _ = _
      rw [hcl2 i (hp i (by simp))]
    exact this _ hlt
   have e2 : (d'.toList.flatMap V).length = n * k := by rw [← e1, flatv_len hek, hdl]
   rw [e1, List.take_append, e2, List.take_of_length_le (by omega), show n * k + rest.length - n * k = rest.length by omega]
   refine VRels.append (VRels.flat fun i hi => (hV i (hlt i hi)).mono hm) ?_
   have h := hrels.drop (n * k)
   rw [List.drop_left' (by rw [List.length_map, flat_cv_len hk]; simp), List.drop_take, show n * k + rest.length - n * k = rest.length by omega] at h
   exact h.mono hm
end Go.Proofs.YtpnghcaccfnngaaGreatDoor.AM

/- Parts of the proof, joined: AmSo1 to AmSo1. -/
import Derived.Shelf.SlSortCmp.Whole1
import Derived.Test.YtphdemhopihpnaaZ44

namespace Go.Proofs.Ytphdemhopihpnaa.AM
open Go Go.Sort Go.Shelf
set_option linter.unusedVariables false
set_option linter.unusedSimpArgs false

section
variable {α : Type} [Inhabited α] (enc : α → Value) (w : World) (b q : Nat) (d : Array α) (os : Array Obj)

theorem so1_at {c : Array Value} {e : TypeId} {fr : Nat × Nat} (hb : w.heap[b]? = some (.cells c e fr)) : (sortWorld enc w b 0 q d os).heap[b]? = some (.cells (putCells enc 0 d c) e fr) := by
  have hlt : b < w.heap.size := (Array.getElem?_eq_some_iff.1 hb).1
  unfold sortWorld grow putRow mapBlock Sort.ahead
  simp only
  rw [Array.getElem?_append_left (by simpa using hlt), Array.getElem?_modify, if_pos rfl, hb]
  rfl
theorem so1_other {x : Nat} (hx : x ≠ b) (hlt : x < w.heap.size) : (sortWorld enc w b 0 q d os).heap[x]? = w.heap[x]? := by
  unfold sortWorld grow putRow mapBlock Sort.ahead
  simp only
  rw [Array.getElem?_append_left (by simpa using hlt), Array.getElem?_modify, if_neg (Ne.symm hx)]
theorem so1_size : w.heap.size ≤ (sortWorld enc w b 0 q d os).heap.size := by
  unfold sortWorld grow putRow mapBlock Sort.ahead
  simp
theorem so1_step {m : LM} {X : Nat → Prop} {n0 l : Nat} (hl : m l = some b) (hx : ¬ X b) : Step n0 m X w m (sortWorld enc w b 0 q d os) where
  keep _ _ := rfl
  new x c hc := .inl ⟨x, hc⟩
  size := so1_size enc w b q d os
  fr x hx' hno := so1_other enc w b q d os (fun h => by
    subst h
    rcases hno with h | h
    · exact hx h
    · exact h l hl) hx'
  shp x c e hc := by
    by_cases h : x = b
    · subst h; exact ⟨_, so1_at enc w x q d os hc, by simp [putCells]⟩
    · exact ⟨c, by rw [so1_other enc w b q d os h (Array.getElem?_eq_some_iff.1 hc).1]; exact hc, rfl⟩
  os := rfl
  tape := rfl
  output := rfl
  drawn := by unfold sortWorld grow putRow mapBlock Sort.ahead; simp
end

theorem putCells1_list {α : Type} [Inhabited α] (enc : α → Value) (d : Array α) (c : Array Value) (h : d.size ≤ c.size) : (putCells enc 0 d c).toList = d.toList.map enc ++ c.toList.drop d.size := by
  apply List.ext_getElem?
  intro t
  rw [Array.getElem?_toList]
  unfold putCells
  rw [Array.getElem?_mapIdx]
  by_cases ht : t < d.size
  · rw [List.getElem?_append_left (by simpa using ht), Array.getElem?_eq_getElem (by omega)]
    simp [ht]
  · rw [List.getElem?_append_right (by simpa using ht), List.getElem?_drop]
    simp [ht]
    congr 1
    omega

theorem VRels.map1 {m : LM} {X : Nat → Prop} {w : World} {A : Nat → CV} {V : Nat → Value} : ∀ {p : List Nat}, (∀ i ∈ p, VRel m X w (.cv (A i)) (V i)) → VRels m X w (p.map fun i => AV.cv (A i)) (p.map V)
  | [], _ => by simp [VRels]
  | i :: p, h => by
    simp only [List.map_cons, VRels]
    exact ⟨h i (by simp), VRels.map1 fun j hj => h j (by simp [hj])⟩

/-- slices.SortFunc of a row of values of one cell, that is compared by a function of closed values -/
theorem AC_sort1 {P : Program} {ρ : Ren} (L : SlLaysF.n6 P ρ) (hf : Enter P (ρ.f 6)) {g : Nat} {cap : List AV} {n : Nat} (hn : 0 < n) (hn2 : n < 4611686018427387904)
    {A : Nat → CV} {cf : Nat → Nat → Int} (hO : SWO (ltOf cf)) (hcl : locsInAll 0 cap = true) (hcmp : ∀ i j, i < n → j < n → AC P g (.cv (A i) :: .cv (A j) :: cap) [] fun r _ => r = .i (cf i j))
    {σ : List AObj} {l : Nat} {rest : List AV} (hr : rowOf σ l = some (((List.range n).map fun i => AV.cv (A i)) ++ rest)) :
    AC P (ρ.f 6) [.sl l 0 n 1, .fn (.func g) cap] σ fun r τ => r = .tup [] ∧ ∃ p : List Nat, p.Perm (List.range n) ∧ p.Pairwise (fun i j => ¬ cf j i < 0) ∧ τ = σ.set l (.cells ((p.map fun i => AV.cv (A i)) ++ rest)) := by
  refine ⟨hf, fun m X w cargs ha hh => ?_⟩
  obtain ⟨v1, us, rfl, h1, k1⟩ := VRels.cons ha
  obtain ⟨v2, us, rfl, h2, k2⟩ := VRels.cons k1
  have k3 := VRels.nil' k2
  subst k3
  simp only [VRel] at h1 h2
  obtain ⟨b, capn, hmb, rfl, hcapn, c0, e0, hb0, hsz0⟩ := h1
  obtain ⟨vs, rfl, hvs⟩ := h2
  have hσ := rowOf_some hr
  have hob := hh.obj l _ hσ
  rw [hmb] at hob
  obtain ⟨c, e, hb, hcs, hrels⟩ := hob
  have hrl : (((List.range n).map fun i => AV.cv (A i)) ++ rest).length = n + rest.length := by simp
  rw [hrl] at hcs hrels
  have hblk : b < w.heap.size := (hh.dom l b hmb).2
  have hxb : ¬ X b := hh.own l b _ hmb hσ trivial
  let V : Nat → Value := fun i => c[i]!
  have hV : ∀ i, i < n → VRel m X w (.cv (A i)) (V i) := fun i hi => by
    obtain ⟨v, hv1, hv2⟩ := hrels.get i (.cv (A i)) (by rw [List.getElem?_append_left (by simpa using hi)]; simp [hi])
    rw [List.getElem?_take_of_lt (by omega), Array.getElem?_toList, Array.getElem?_eq_getElem (by omega)] at hv1
    have : V i = v := by
      show c[i]! = v
      rw [getElem!_pos c i (by omega)]
      simpa using hv1
    rw [this]; exact hv2
  let cl : Nat → Nat := fun i => if i < n then i else 0
  have hcl1 : ∀ i, cl i < n := fun i => by show (if i < n then i else 0) < n; split <;> omega
  have hcl2 : ∀ i, i < n → cl i = i := fun i hi => by show (if i < n then i else 0) = i; rw [if_pos hi]
  let enc : Nat → Value := fun i => V (cl i)
  have hone : OneCell enc := fun x => by
    have h : VRels m X w [.cv (A (cl x))] [V (cl x)] := by simp only [VRels]; exact ⟨hV _ (hcl1 x), trivial⟩
    exact VRels.one_cells h rfl _ (by simp [enc])
  have hds : (Array.range n).size = n := by simp
  have hH : Holds enc w b 0 (Array.range n) := by
    intro j hj
    rw [hds] at hj
    have h3 : (Array.range n)[j]! = j := by simp [hj]
    rw [h3]
    refine ⟨?_, by simp [World.frozen?, hb]⟩
    show w.cell? _ = some (V (cl j))
    rw [hcl2 j hj]
    simp only [World.cell?, Nat.zero_add, hb, V]
    rw [getElem!_pos c j (by omega)]
    simp [show j < c.size by omega]
  have hown : ∀ b, Own nom (Own m X) b ↔ Own m X b := fun b => ⟨fun h => h.elim id (fun ⟨l, hl⟩ => by cases hl), .inl⟩
  have hcmp' : CmpLays1 P g vs.toArray enc (fun x y => cf (cl x) (cl y)) b 0 (Array.range n).size w := by
    intro mm os dk hsz x y
    have hmono : Mono nom (Own m X) w nom (Own m X) (sortWorld enc w b 0 mm dk os) := by
      refine ⟨fun l b hl => hl, fun b' hb' hc => ?_, (so1_step enc w b mm dk os (n0 := 0) hmb hxb).shp⟩
      obtain ⟨c1, e1, fr1, hc1⟩ := hc
      have hne : b' ≠ b := fun h => hb' ((hown b').2 (.inr ⟨l, by rw [h]; exact hmb⟩))
      exact ⟨so1_other enc w b mm dk os hne (Array.getElem?_eq_some_iff.1 hc1).1, hb'⟩
    have a0 : VRels m X w (.cv (A (cl x)) :: .cv (A (cl y)) :: cap) (enc x :: enc y :: vs) := by
      simp only [VRels]
      exact ⟨hV _ (hcl1 x), hV _ (hcl1 y), hvs⟩
    have a1 := VRels.less (k := 0) (m' := nom) (X' := Own m X) (fun l hl => absurd hl (Nat.not_lt_zero _)) (fun b hb => (hown b).1 hb) _ _ (by simp only [locsInAll, locsIn, hcl, Bool.and_self]) a0
    have a2 := a1.mono hmono
    have hh0 : HRel nom (Own m X) [] (sortWorld enc w b 0 mm dk os) := ⟨fun b' hb' => by
        have hs := so1_size enc w b mm dk os
        rcases hb' with h | ⟨l', h⟩
        · have := hh.xb b' h; omega
        · have := (hh.dom l' b' h).2; omega, fun l b hl => (by cases hl), fun l b o hl => (by cases hl), fun l l' b o hl => (by cases hl), fun l o ho => (by simp at ho)⟩
    have hcall := callsIn_wide.1 ((hcmp (cl x) (cl y) (hcl1 x) (hcl1 y)).2 nom (Own m X) _ _ a2 hh0)
    have hargs : (#[enc x, enc y] ++ vs.toArray) = (enc x :: enc y :: vs).toArray := by simp
    rw [hargs]
    refine hcall.mono ?_
    rintro e' w' ⟨cv, r, σ', m', rfl, rfl, hv, hh', hst, _⟩
    simp only [VRel, CV.rep] at hv
    subst hv
    exact ⟨rfl, step_grow hst⟩
  have heg : ∀ args w, (callFunc g args).run P w = .ok (.enter g args) w := (hcmp 0 0 hn hn).1
  have hO' := swo_pull cl hO
  refine callsIn_wide.2 ((Any.slices_SortFunc L enc hone _ hO' g vs.toArray b 0 capn (Array.range n) w heg hcmp' hH hblk (by rw [hds]; exact hn2)).mono ?_) |> fun h => by rw [hds] at h; exact h
  rintro e' w' ⟨rfl, d', nn, os, hperm, hsort, rfl⟩
  rw [hds] at hperm hsort
  obtain ⟨hps, _, hpp⟩ := hperm
  have hp1 : d'.toList.Perm (List.range n) := by
    have e1 : d'.extract 0 n = d' := by rw [← hds, ← hps]; simp
    have e2 : (Array.range n).extract 0 n = Array.range n := by simp
    rw [e1, e2] at hpp
    simpa using hpp
  have hlt : ∀ i ∈ d'.toList, i < n := fun i hi => by simpa using (hp1.mem_iff (a := i)).1 hi
  have hdl : d'.toList.length = n := by have := hp1.length_eq; simpa using this
  have hdz : d'.size = n := by rw [hps, hds]
  have hst := so1_step enc w b nn d' os (n0 := σ.length) hmb hxb
  refine ⟨.tuple #[], .tup [], σ.set l (.cells ((d'.toList.map fun i => AV.cv (A i)) ++ rest)), m, rfl, ⟨rfl, d'.toList, hp1, ?_, rfl⟩, ?_, ?_, hst, by simp⟩
  · rw [List.pairwise_iff_getElem]
    intro i j hi hj hij
    have := hsort i j (Nat.zero_le _) hij (by omega)
    unfold ltOf at this
    have := of_decide_eq_false this
    rw [getElem!_pos d' j (by simpa using hj), getElem!_pos d' i (by simpa using hi)] at this
    have g1 : d'.toList[i] = d'[i]'(by simpa using hi) := by simp
    have g2 : d'.toList[j] = d'[j]'(by simpa using hj) := by simp
    rw [g1, g2]
    have f1 := hcl2 (d'[i]'(by simpa using hi)) (hlt _ (by rw [← g1]; exact List.getElem_mem hi))
    have f2 := hcl2 (d'[j]'(by simpa using hj)) (hlt _ (by rw [← g2]; exact List.getElem_mem hj))
    have this : ¬ cf (cl (d'[j]'(by simpa using hj))) (cl (d'[i]'(by simpa using hi))) < 0 := this
    rw [f1, f2] at this
    exact this
  · simp only [VRel]; exact ⟨[], rfl, by simp [VRels]⟩
  · refine hh.turnG hmb hσ trivial hst (fun x hx hlt => so1_other enc w b nn d' os hx hlt) fun hm => ?_
    refine ⟨_, e, so1_at enc w b nn d' os hb, ?_, ?_⟩
    · rw [List.length_append, List.length_map, hdl]
      simp [putCells]; omega
    · have hlen2 : ((d'.toList.map fun i => AV.cv (A i)) ++ rest).length = n + rest.length := by rw [List.length_append, List.length_map, hdl]
      rw [hlen2, putCells1_list _ _ _ (by rw [hdz]; omega), hdz]
      have e1 : d'.toList.map enc = d'.toList.map V := by
        apply List.map_congr_left
        intro i hi
        show V (cl i) = V i
        rw [hcl2 i (hlt i hi)]
      have e2 : (d'.toList.map V).length = n := by rw [List.length_map, hdl]
      rw [e1, List.take_append, e2, List.take_of_length_le (by omega), show n + rest.length - n = rest.length by omega]
      refine VRels.append (VRels.map1 fun i hi => (hV i (hlt i hi)).mono hm) ?_
      have h := hrels.drop n
      rw [List.drop_left' (by simp), List.drop_take, show n + rest.length - n = rest.length by omega] at h
      exact h.mono hm

end Go.Proofs.Ytphdemhopihpnaa.AM


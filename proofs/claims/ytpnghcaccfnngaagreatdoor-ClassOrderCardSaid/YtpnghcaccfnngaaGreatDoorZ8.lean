/- Parts of the proof, joined: AmMr to AmMi. -/
import Derived.Maps.RangeRun
import Derived.Test.YtpnghcaccfnngaaGreatDoorZ7
set_option linter.unusedVariables false
set_option linter.unusedSimpArgs false
set_option linter.unusedSectionVars false
namespace Go.Proofs.YtpnghcaccfnngaaGreatDoor.AM
variable [Dr]
open Go
variable {P : Program} {fx : Fx} {m m' : LM} {X X' : Nat → Prop} {en : En} {w w' : World} {s : St} {ac : Act}
theorem Mono.lessX (h : ∀ b, X b → X' b) : Mono m X' w m X w :=
 ⟨fun _ _ h => h, fun b hb _ => ⟨rfl, fun ho => hb (ho.imp (h b) id)⟩, fun b c e h => ⟨c, h, rfl⟩⟩
theorem SRel.lessX (h : ∀ b, X b → X' b) (hs : SRel fx m X' en s ac w) : SRel fx m X en s ac w := by
 refine ⟨hs.size, hs.vars.mono (Mono.lessX h), ?_, ?_, hs.base, hs.entry⟩
 ·obtain ⟨bs, h1, h2, h3⟩ := hs.defs
  exact ⟨bs, h1, h2, fun b hb => let ⟨g1, g2, g3, g4⟩ := h3 b hb; ⟨g1, g2, g3, fun ho => g4 (ho.imp (h b) id)⟩⟩
 ·refine ⟨fun b hb => hs.heap.xb b (h b hb), hs.heap.dom, fun l b o hl ho hv hx => hs.heap.own l b o hl ho hv (h b hx), hs.heap.inj, fun l o ho => ?_⟩
  have := hs.heap.obj l o ho
  cases hml : m l with
  | none => rw [hml] at this; cases o <;> simp [ORel] at this ⊢
  | some b => rw [hml] at this; exact ORel.mono (Mono.lessX h) rfl this
theorem Step.lessX {n0 : Nat} (h : ∀ b, X b → X' b) (hs : Step n0 m X' w m' w') : Step n0 m X w m' w' := { hs with fr := fun b hb hno => hs.fr b hb (hno.imp (h b) id) }
theorem Step.putX {n0 r : Nat} {o : Obj} (hs : Step n0 m X w m' w') (hr : w.heap.size ≤ r) : Step n0 m X w m' (w'.putObj r o) where
 keep := hs.keep
 new := hs.new
 size := by have := hs.size; simpa [World.putObj] using this
 fr b hb hno := by rw [World.putObj_heap_other (by omega)]; exact hs.fr b hb hno
 shp b c e hb := by
  obtain ⟨c', h1, h2⟩ := hs.shp b c e hb
  have := (Array.getElem?_eq_some_iff.1 hb).1
  exact ⟨c', by rw [World.putObj_heap_other (by omega)]; exact h1, h2⟩
 os := hs.os
 tape := hs.tape
 output := hs.output
 drawn := hs.drawn
theorem Step.drew {n0 : Nat} (hs : Step n0 m X w m' w') : Step n0 m X w m' w'.drew := { hs with drawn := fun o => Nat.le_succ_of_le (hs.drawn o) }
theorem Mono.putX {r : Nat} {o o0 : Obj} (hx : X r) (hr : w.heap[r]? = some o0) (h0 : ∀ c e, o0 ≠ .cells c e (0, 0)) : Mono m X w m X (w.putObj r o) :=
 ⟨fun _ _ h => h, fun b hb _ => ⟨World.putObj_heap_other (show b ≠ r from fun h => hb (.inl (by rw [h]; exact hx))), hb⟩, fun b c e h => ⟨c, by
  rw [World.putObj_heap_other]; exact h
  rintro rfl
  rw [hr] at h; cases h; exact h0 _ _ rfl, rfl⟩⟩
theorem SRel.putX {r : Nat} {o o0 : Obj} (hx : X r) (hr : w.heap[r]? = some o0) (h0 : ∀ c e, o0 ≠ .cells c e (0, 0)) (hs : SRel fx m X en s ac w) : SRel fx m X en s ac (w.putObj r o) := by
 have hm : Mono m X w m X (w.putObj r o) := Mono.putX hx hr h0
 refine ⟨hs.size, hs.vars.mono hm, ?_, ?_, hs.base, by simpa [World.putObj] using hs.entry⟩
 ·obtain ⟨bs, h1, h2, h3⟩ := hs.defs
  refine ⟨bs, h1, h2, fun b hb => ?_⟩
  obtain ⟨g1, g2, g3, g4⟩ := h3 b hb
  exact ⟨g1, by simpa [World.putObj] using g2, by rw [World.putObj_heap_other (show b ≠ r from fun h => g4 (.inl (by rw [h]; exact hx)))]; exact g3, g4⟩
 ·refine ⟨fun b hb => by simpa [World.putObj] using hs.heap.xb b hb, fun l b hl => by simpa [World.putObj] using hs.heap.dom l b hl, hs.heap.own, hs.heap.inj, fun l o' ho => ?_⟩
  have h1 := hs.heap.obj l o' ho
  cases hml : m l with
  | none => rw [hml] at h1; cases o' <;> simp [ORel] at h1 ⊢
  | some b =>
   rw [hml] at h1
   by_cases hv : o'.live
   ·exact ORel.mono hm (World.putObj_heap_other (show b ≠ r from fun h => hs.heap.own l b o' hml ho hv (by rw [h]; exact hx))) h1
   ·cases o' <;> simp [AObj.live] at hv
    simp [ORel]
theorem SRel.put_other {t : Nat} {v : Value} (ht : t ∉ fx.vars) (hs : SRel fx m X en s ac w) : SRel fx m X en s (ac.put (some t) v) w := by
 refine ⟨by simpa [Act.put] using hs.size, fun i u hi => ?_, hs.defs, hs.heap, hs.base, hs.entry⟩
 have hne : u ≠ t := by rintro rfl; exact ht (List.mem_of_getElem? hi)
 have := hs.vars i u hi
 simp only [Act.put, Array.getD_eq_getD_getElem?] at this ⊢
 rw [Array.getElem?_setIfInBounds_ne (fun h => hne h.symm)]; exact this
theorem SRel.put_var {t i : Nat} {v : Value} {a : AV} (hn : fx.vars.Nodup) (ht : fx.vars[i]? = some t) (htN : t < fx.N) (hv : VRel m X w a v) (hs : SRel fx m X en s ac w) : SRel fx m X en ⟨s.vals.set i a, s.heap⟩ (ac.put (some t) v) w := by
 refine ⟨by simpa [Act.put] using hs.size, fun j u hj => ?_, hs.defs, hs.heap, hs.base, hs.entry⟩
 have hsz := hs.size
 have hold := hs.vars j u hj
 by_cases hji : j = i
 ·subst hji
  rw [ht] at hj; cases hj
  have e1 : (ac.put (some t) v).tmps.getD t Go.undef = v := by
   simp [Act.put, Array.getD_eq_getD_getElem?, hsz, htN]
  rw [e1]
  rcases Nat.lt_or_ge j s.vals.length with h | h
  ·simpa [List.getD, h] using hv
  ·rw [List.set_eq_of_length_le h]; simp [List.getD, List.getElem?_eq_none h, VRel]
 ·have hne : u ≠ t := by
   rintro rfl
   exact hji ((List.getElem?_inj (List.getElem?_eq_some_iff.1 hj).1 hn).1 (hj.trans ht.symm))
  have e1 : (s.vals.set i a).getD j .undef = s.vals.getD j .undef := by
   simp only [List.getD]; rw [List.getElem?_set_ne (fun h => hji h.symm)]
  have e2 : (ac.put (some t) v).tmps.getD u Go.undef = ac.tmps.getD u Go.undef := by
   simp only [Act.put, Array.getD_eq_getD_getElem?]; rw [Array.getElem?_setIfInBounds_ne (fun h => hne h.symm)]
  show VRel m X w ((s.vals.set i a).getD j .undef) _
  rw [e1, e2]; exact hold
theorem wp_opv {ro : Option Nat} {ops : Array Oper} {Q : Exit → Act → World → Prop} {l : List Nat} {i : Nat} {o : Oper} {v : Value} (ho : ops[i]? = some o) (hg : o.guard = none) (hnd : ∀ c, o.op ≠ .defer c)
  (hrun : (execOp ac.eval o).run P w = .ok (.value v) w') (h : wpOpsIn (wfen ro) 0 P ops Q l (ac.put o.dst v) w') : wpOpsIn (wfen ro) 0 P ops Q (i :: l) ac w := by
 have hw : Region.wanted o (yielded ops ac.tmps) = true := by simp [Region.wanted, hg]
 simp only [wpOpsIn, ho, hw, if_true]
 refine ⟨fun _ _ => trivial, ?_⟩
 rw [Oper.semAt_eq _ _ _ hnd, hrun]
 exact h
structure MIt (m : LM) (X : Nat → Prop) (w : World) (lit l : Nat) (es : List (AV × AV)) (dn : List Nat) (r bm : Nat) (ces : Array MapEntry) (clock : Nat) : Prop where
 mi : m lit = some r
 ml : m l = some bm
 xr : X r
 xm : X bm
 it : ∃ c0, c0 = clock ∧ w.heap[r]? = some (.mapIter (some bm) clock ((dn.map fun i => (ces[i]?.map (·.born)).getD 0).toArray) c0)
 mp : w.heap[bm]? = some (.map ces clock)
 born : ∀ e ∈ ces, e.born < clock
 nd : (ces.toList.map (·.born)).Nodup
 sz : ces.size = es.length
 rel : ∀ (i : Nat) (k a : AV), es[i]? = some (k, a) → ∃ e : MapEntry, ces[i]? = some e ∧ (∀ m X w, VRel m X w k e.key) ∧ ∀ m X w, VRel m X w a e.val
 dd : dn.Nodup
 dl : ∀ i ∈ dn, i < es.length
theorem MIt.step {lit l : Nat} {es : List (AV × AV)} {dn : List Nat} {r bm : Nat} {ces : Array MapEntry} {clock n0 : Nat} (h : MIt m X w lit l es dn r bm ces clock) (hs : Step n0 m X w m' w') (h1 : lit < n0) (h2 : l < n0) : MIt m' X w' lit l es dn r bm ces clock := by
 obtain ⟨c0, hc, hit⟩ := h.it
 refine ⟨by rw [hs.keep _ h1]; exact h.mi, by rw [hs.keep _ h2]; exact h.ml, h.xr, h.xm, ⟨c0, hc, ?_⟩, ?_, h.born, h.nd, h.sz, h.rel, h.dd, h.dl⟩
 ·rw [hs.fr r (Array.getElem?_eq_some_iff.1 hit).1 (.inl h.xr)]; exact hit
 ·rw [hs.fr bm (Array.getElem?_eq_some_iff.1 h.mp).1 (.inl h.xm)]; exact h.mp
theorem born_inj {ces : Array MapEntry} (hn : (ces.toList.map (·.born)).Nodup) {i j : Nat} {e e' : MapEntry} (hi : ces[i]? = some e) (hj : ces[j]? = some e') (h : e.born = e'.born) : i = j := by
 have h1 : (ces.toList.map (·.born))[i]? = some e.born := by simp [hi]
 have h2 : (ces.toList.map (·.born))[j]? = some e'.born := by simp [hj]
 have hl : i < (ces.toList.map (·.born)).length := (List.getElem?_eq_some_iff.1 h1).1
 exact (List.getElem?_inj hl hn).1 (by rw [h1, h2, h])
theorem MIt.next {lit l : Nat} {es : List (AV × AV)} {dn : List Nat} {r bm : Nat} {ces : Array MapEntry} {clock : Nat} (h : MIt m X w lit l es dn r bm ces clock) (ty : TypeId) :
  (dn.Perm (List.range es.length) ∧ (Instr.next (.pointer (some ⟨r, 0, none⟩)) false ty).run P w = .ok (.tuple #[.bool false]) w) ∨
  ∃ (i : Nat) (k a : AV) (e : MapEntry) (w1 : World) (c0 : Nat), i ∉ dn ∧ i < es.length ∧ es[i]? = some (k, a) ∧ ces[i]? = some e ∧ (∀ m X w, VRel m X w k e.key) ∧ (∀ m X w, VRel m X w a e.val) ∧ (w1 = w ∨ w1 = w.drew) ∧ clock ≤ c0 ∧
   (Instr.next (.pointer (some ⟨r, 0, none⟩)) false ty).run P w = .ok (.tuple #[.bool true, e.key, e.val]) (w1.putObj r (.mapIter (some bm) clock (((dn ++ [i]).map fun i => (ces[i]?.map (·.born)).getD 0).toArray) c0)) ∧
   MIt m X (w1.putObj r (.mapIter (some bm) clock (((dn ++ [i]).map fun i => (ces[i]?.map (·.born)).getD 0).toArray) c0)) lit l es (dn ++ [i]) r bm ces clock := by
 obtain ⟨c0, hc, hit⟩ := h.it
 have hmem : ∀ i e, ces[i]? = some e → ((dn.map fun i => (ces[i]?.map (·.born)).getD 0).toArray.contains e.born = true ↔ i ∈ dn) := by
  intro i e he
  simp only [List.contains_toArray, List.contains_iff_mem, List.mem_map]
  constructor
  ·rintro ⟨j, hj, hb⟩
   have hjl := h.dl j hj
   obtain ⟨e', he'⟩ : ∃ e', ces[j]? = some e' := ⟨ces[j]'(by rw [h.sz]; exact hjl), by rw [Array.getElem?_eq_getElem]⟩
   rw [he'] at hb
   have : i = j := born_inj h.nd he he' (by simpa using hb.symm)
   exact this ▸ hj
  ·intro hi
   exact ⟨i, hi, by simp [he]⟩
 rcases run_next_at (P := P) w ty r bm clock c0 _ ces clock hit h.mp (fun x hx => h.born x (by simpa using hx)) (by omega) with ⟨h0, hrun⟩ | ⟨e, he, w1, hw1, hrun⟩
 ·left
  refine ⟨?_, hrun⟩
  have hall : ∀ i, i < es.length → i ∈ dn := by
   intro i hi
   have hic : i < ces.size := by rw [h.sz]; exact hi
   have h2 : ces[i]? = some ces[i] := Array.getElem?_eq_getElem hic
   rw [← hmem i _ h2]
   have h3 : leftOf ces ((dn.map fun i => (ces[i]?.map (·.born)).getD 0).toArray) = #[] := Array.eq_empty_of_size_eq_zero h0
   unfold leftOf at h3
   rw [Array.filter_eq_empty_iff] at h3
   have := h3 ces[i] (Array.getElem_mem hic)
   simpa using this
  refine (List.perm_ext_iff_of_nodup h.dd List.nodup_range).2 fun i => ?_
  rw [List.mem_range]
  exact ⟨h.dl i, hall i⟩
 ·right
  unfold leftOf at he
  simp only [Array.toList_filter, List.mem_filter, Bool.not_eq_true', Array.mem_toList_iff] at he
  obtain ⟨he1, he2⟩ := he
  obtain ⟨i, hi, rfl⟩ := Array.mem_iff_getElem.1 he1
  have hic : ces[i]? = some ces[i] := Array.getElem?_eq_getElem hi
  have hil : i < es.length := by rw [← h.sz]; exact hi
  have hid : i ∉ dn := by
   intro hd
   rw [(hmem i _ hic).2 hd] at he2
   cases he2
  obtain ⟨e', g1, g2, g3⟩ := h.rel i (es[i]).1 (es[i]).2 (by rw [List.getElem?_eq_getElem hil])
  rw [hic] at g1; cases g1
  have hseen : (((dn ++ [i]).map fun i => (ces[i]?.map (·.born)).getD 0).toArray) = ((dn.map fun i => (ces[i]?.map (·.born)).getD 0).toArray).push (ces[i]).born := by
   simp [hic]
  have hsb : ∀ (u : World) o, ChangeMaps.setBlock u r o = u.putObj r o := fun _ _ => rfl
  have hr1 : w1.heap = w.heap := by rcases hw1 with rfl | rfl <;> rfl
  have hrlt : r < w1.heap.size := by rw [hr1]; exact (Array.getElem?_eq_some_iff.1 hit).1
  have hne : bm ≠ r := by rintro rfl; have hmp := h.mp; rw [hit] at hmp; cases hmp
  refine ⟨i, (es[i]).1, (es[i]).2, ces[i], w1, clock, hid, hil, by rw [List.getElem?_eq_getElem hil], hic, g2, g3, hw1, Nat.le_refl _, by rw [hseen]; exact hrun, ?_⟩
  refine ⟨h.mi, h.ml, h.xr, h.xm, ⟨clock, rfl, World.putObj_heap_same hrlt⟩, by rw [World.putObj_heap_other hne, hr1]; exact h.mp, h.born, h.nd, h.sz, h.rel, ?_, ?_⟩
  ·exact List.nodup_append.2 ⟨h.dd, by simp, fun a ha b hb => by simp at hb; subst hb; rintro rfl; exact hid ha⟩
  ·intro j hj
   rcases List.mem_append.1 hj with hj | hj
   ·exact h.dl j hj
   ·simp at hj; subst hj; exact hil
structure GM (l bm : Nat) (es : List (AV × AV)) (ces : Array MapEntry) (clock : Nat) (m : LM) (X : Nat → Prop) (w : World) : Prop where
 ml : m l = some bm
 xm : X bm
 mp : w.heap[bm]? = some (.map ces clock)
 born : ∀ e ∈ ces, e.born < clock
 nd : (ces.toList.map (·.born)).Nodup
 sz : ces.size = es.length
 rel : ∀ (i : Nat) (k a : AV), es[i]? = some (k, a) → ∃ e : MapEntry, ces[i]? = some e ∧ (∀ m X w, VRel m X w k e.key) ∧ ∀ m X w, VRel m X w a e.val
theorem GM.step {l bm : Nat} {es : List (AV × AV)} {ces : Array MapEntry} {clock n0 : Nat} (h : GM l bm es ces clock m X w) (hs : Step n0 m X w m' w') (hl : l < n0) : GM l bm es ces clock m' X w' :=
 ⟨by rw [hs.keep _ hl]; exact h.ml, h.xm, by rw [hs.fr bm (Array.getElem?_eq_some_iff.1 h.mp).1 (.inl h.xm)]; exact h.mp, h.born, h.nd, h.sz, h.rel⟩
def WX (P : Program) (fx : Fx) (G : LM → (Nat → Prop) → World → Prop) (c : Code) (s : St) (Q : Exit → St → Prop) : Prop :=
 ∀ m X en ac w, SRel fx m X en s ac w → rok fx m → G m X w → c.wpIn (fen m fx.r) 0 P (Lift fx m X en w Q) ac w
theorem WX.of {G : LM → (Nat → Prop) → World → Prop} {c : Code} {Q : Exit → St → Prop} (h : W P fx c s Q) : WX P fx G c s Q := fun m X en ac w hs hr _ => h m X en ac w hs hr
theorem WX_seq {G : LM → (Nat → Prop) → World → Prop} (hG : ∀ m X w m' w', G m X w → Step fx.n0 m X w m' w' → G m' X w') {x y : Code} {Q : Exit → St → Prop} (h : WX P fx G x s fun e s' => match e with | .normal => WX P fx G y s' Q | e => Q e s') : WX P fx G (.seq x y) s Q := by
 intro m X en ac w hs hr hg
 refine wpIn_seq (wpIn_mono (h m X en ac w hs hr hg) ?_)
 rintro e ac' w' ⟨s', m', hq, hs', hst⟩
 cases e with
 | normal =>
  have := hq m' X en ac' w' hs' (rok_step hr hst) (hG _ _ _ _ _ hg hst)
  rw [fen_step hr hst] at this
  exact wpIn_mono this fun e ac2 w2 ⟨s2, m2, h1, h2, h3⟩ => ⟨s2, m2, h1, h2, hst.trans h3⟩
 | _ => exact ⟨s', m', hq, hs', hst⟩
set_option maxHeartbeats 1000000 in
theorem WX_mapLoop {l bm : Nat} {es : List (AV × AV)} {ces : Array MapEntry} {clock : Nat} {tm tit tn tok te iit bi bj id2 id3 id4 T K E : Nat} {o20 o21 o30 o31 o4 : Oper} {ops4 : Array Oper} {is4 : List Ins} {B : Code} {x : Operand} {Q : Exit → St → Prop}
  (hl0 : l < fx.n0) (hx : evalO s.vals [] (compOpd fx.vars [] x) = .map l) (hT : P.underlying T = some (.map K E)) (hnd : fx.vars.Nodup)
  (g20 : o20.dst = some tm ∧ o20.op = .move x ∧ o20.guard = none) (g21 : o21.dst = some tit ∧ o21.op = .range T (.tmp tm) ∧ o21.guard = none)
  (g30 : o30.dst = some tn ∧ o30.op = .next (.tmp tit) false ∧ o30.guard = none) (g31 : o31.dst = some tok ∧ o31.op = .extract (.tmp tn) 0 ∧ o31.guard = none)
  (g4 : ops4[0]? = some o4 ∧ o4.dst = some te ∧ o4.op = .entry (.tmp tit) ∧ o4.guard = none)
  (hok4 : regOk fx.vars fx.N ops4.toList = true) (hc4 : compAll P fx.vars (ops4.toList.map (·.dst)) (ops4.toList.drop 1) = some is4)
  (hit : fx.vars[iit]? = some tit) (hv : tm ∉ fx.vars ∧ tn ∉ fx.vars ∧ tok ∉ fx.vars ∧ te ∉ fx.vars) (hN : tm < fx.N ∧ tit < fx.N ∧ tn < fx.N ∧ tok < fx.N ∧ te < fx.N)
  (I : List Nat → St → Prop) (h0 : I [] ⟨s.vals.set iit (.ptr s.heap.length 0), s.heap ++ [.dead]⟩)
  (hI : ∀ dn s', I dn s' → s'.vals.getD iit .undef = .ptr s.heap.length 0)
  (hround : ∀ dn s' i k a, I dn s' → i ∉ dn → es[i]? = some (k, a) → RG P is4 s'.vals [.tup [k, a]] s'.heap fun vals _ σ => W P { fx with n0 := s.heap.length + 1 } B ⟨vals, σ⟩ fun e s2 => match e with
   | .normal => ∃ s3, Weak { fx with n0 := s.heap.length + 1 } s2 s3 ∧ I (dn ++ [i]) s3
   | _ => False)
  (hend : ∀ dn s', I dn s' → dn.Perm (List.range es.length) → Q .normal s') :
  WX P fx (GM l bm es ces clock) (.seq (.region id2 #[o20, o21] false) (.block bi (.loop (.seq (.region id3 #[o30, o31] false) (.seq (.cond (.tmp tok) .skip (.exit bi)) (.block bj (.seq (.region id4 ops4 false) B))))))) s Q := by
 intro m X en ac w hs hr hg
 have hbase : fx.n0 ≤ s.heap.length := hs.base
 have hbl : bm < w.heap.size := (Array.getElem?_eq_some_iff.1 hg.mp).1
 have hxv : ac.eval x = .map (some bm) := by
  have := evalO_rel (ops := []) (ρ := []) (ds := ac.defers) (tmps := ac.tmps) hs.vars (fun j t hj _ => by simp at hj) x
  simp only [List.map_nil] at this
  rw [hx] at this
  simp only [VRel] at this
  obtain ⟨b, hb, he⟩ := this
  rw [hg.ml] at hb; cases hb
  exact he
 have hro : fen m fx.r = wfen (fx.r.bind m) := rfl
 refine wpIn_seq (wpIn_region ?_)
 show wpOpsIn (wfen (fx.r.bind m)) 0 P #[o20, o21] _ [0, 1] ac w
 refine wp_opv (o := o20) (v := .map (some bm)) (w' := w) rfl g20.2.2 (by rw [g20.2.1]; simp) (by simp [execOp, g20.2.1, hxv]) ?_
 rw [g20.1]
 have hsz := hs.size
 have ev1 : (ac.put (some tm) (.map (some bm))).eval (.tmp tm) = .map (some bm) := by
  simp [Act.eval, Act.put, Array.getD_eq_getD_getElem?, hsz, hN.1]
 refine wp_opv (o := o21) (v := .pointer (some ⟨w.heap.size, 0, none⟩)) (w' := w.alloc (.mapIter (some bm) clock #[] clock)) rfl g21.2.2 (by rw [g21.2.1]; simp) (by
  simp only [execOp, g21.2.1, ev1]
  simp [run_range_map w T K E bm ces clock hT hg.mp]) ?_
 rw [g21.1]
 simp only [wpOpsIn, Exit.then]
 refine wpIn_block (wpIn_of_loopIn ?_)
 obtain ⟨a1, a2, a3⟩ := hs.heap.alloc (.mapIter (some bm) clock #[] clock) .dead (fun _ => by simp [ORel])
 have hm1 : Mono m X w (m.put s.heap.length w.heap.size) (fun b => X b ∨ b = w.heap.size) (w.alloc (.mapIter (some bm) clock #[] clock)) := by
  refine ⟨a3.sub, fun b hb hc => ⟨(a3.cl b hb hc).1, ?_⟩, a3.shp⟩
  rintro ((hx | rfl) | ⟨l', hl'⟩)
  ·exact hb (.inl hx)
  ·exact absurd hc.lt (Nat.lt_irrefl _)
  ·exact (a3.cl b hb hc).2 (.inr ⟨l', hl'⟩)
 have hs1 : SRel { fx with n0 := s.heap.length + 1 } (m.put s.heap.length w.heap.size) (fun b => X b ∨ b = w.heap.size) en ⟨s.vals, s.heap ++ [.dead]⟩ ac (w.alloc (.mapIter (some bm) clock #[] clock)) := by
  refine ⟨hs.size, hs.vars.mono hm1, ?_, ⟨?_, a1.dom, ?_, a1.inj, ?_⟩, by simp, by have := hs.entry; simp; omega⟩
  ·obtain ⟨bs, h1, h2, h3⟩ := hs.defs
   refine ⟨bs, h1, h2, fun b hb => ?_⟩
   obtain ⟨q1, q2, q3, q4⟩ := h3 b hb
   refine ⟨q1, by simp; omega, by rw [heap_alloc_old w _ q2]; exact q3, ?_⟩
   rintro ((hx | rfl) | ⟨l', hl'⟩)
   ·exact q4 (.inl hx)
   ·exact Nat.lt_irrefl _ q2
   ·by_cases hll : l' = s.heap.length
    ·subst hll; rw [LM.put_same] at hl'; cases hl'; exact Nat.lt_irrefl _ q2
    ·rw [LM.put_other m hll] at hl'; exact q4 (.inr ⟨l', hl'⟩)
  ·rintro b (hb | rfl)
   ·exact a1.xb b hb
   ·simp
  ·intro l' b o hl' ho hvv
   rintro (hb | rfl)
   ·exact a1.own l' b o hl' ho hvv hb
   ·by_cases hll : l' = s.heap.length
    ·subst hll
     rw [List.getElem?_append_right (Nat.le_refl _)] at ho
     simp at ho; subst ho; exact hvv
    ·rw [LM.put_other m hll] at hl'
     exact Nat.lt_irrefl _ (hs.heap.dom l' _ hl').2
  ·intro l' o ho
   have hh := a1.obj l' o ho
   have hgrow : Mono (m.put s.heap.length w.heap.size) X (w.alloc (.mapIter (some bm) clock #[] clock)) (m.put s.heap.length w.heap.size) (fun b => X b ∨ b = w.heap.size) (w.alloc (.mapIter (some bm) clock #[] clock)) := by
    refine ⟨fun _ _ h => h, fun b hb hc => ⟨rfl, ?_⟩, fun b c e h => ⟨c, h, rfl⟩⟩
    rintro ((hx | rfl) | ⟨l', hl'⟩)
    ·exact hb (.inl hx)
    ·exact hb (.inr ⟨s.heap.length, LM.put_same _ _ _⟩)
    ·exact hb (.inr ⟨l', hl'⟩)
   cases hml : (m.put s.heap.length w.heap.size) l' with
   | none => rw [hml] at hh; cases o <;> simp [ORel] at hh ⊢
   | some b => rw [hml] at hh; exact ORel.mono hgrow rfl hh
 have hs2 := SRel.put_var (fx := { fx with n0 := s.heap.length + 1 }) (v := .pointer (some ⟨w.heap.size, 0, none⟩)) (a := .ptr s.heap.length 0) hnd hit hN.2.1 (by simp only [VRel]; exact ⟨_, LM.put_same _ _ _, rfl⟩) (SRel.put_other (fx := { fx with n0 := s.heap.length + 1 }) (t := tm) (v := .map (some bm)) hv.1 hs1)
 have hM0 : MIt (m.put s.heap.length w.heap.size) (fun b => X b ∨ b = w.heap.size) (w.alloc (.mapIter (some bm) clock #[] clock)) s.heap.length l es [] w.heap.size bm ces clock :=
  ⟨LM.put_same _ _ _, by rw [LM.put_other m (by omega)]; exact hg.ml, .inr rfl, .inl hg.xm, ⟨clock, rfl, by rw [heap_alloc_new]; rfl⟩, by rw [heap_alloc_old w _ hbl]; exact hg.mp, hg.born, hg.nd, hg.sz, hg.rel, List.nodup_nil, by simp⟩
 have hst0 : Step fx.n0 m X w (m.put s.heap.length w.heap.size) (w.alloc (.mapIter (some bm) clock #[] clock)) := a2.less hbase
 have key : ∀ (n : Nat) (dn : List Nat) (s' : St) (m1 : LM) (ac1 : Act) (w1 : World), es.length - dn.length = n → I dn s' → SRel { fx with n0 := s.heap.length + 1 } m1 (fun b => X b ∨ b = w.heap.size) en s' ac1 w1 →
   MIt m1 (fun b => X b ∨ b = w.heap.size) w1 s.heap.length l es dn w.heap.size bm ces clock → Step fx.n0 m X w m1 w1 →
   LoopIn (fen m fx.r) P (.seq (.region id3 #[o30, o31] false) (.seq (.cond (.tmp tok) .skip (.exit bi)) (.block bj (.seq (.region id4 ops4 false) B)))) (Exit.inBlock bi (Lift fx m X en w Q)) ac1 w1 := by
  intro n
  induction n using Nat.strongRecOn with
  | _ n ih =>
  intro dn s' m1 ac1 w1 hn hId hsr hmi hst
  have hsz1 := hsr.size
  have hiv : ac1.eval (.tmp tit) = .pointer (some ⟨w.heap.size, 0, none⟩) := by
   have := hsr.vars iit tit hit
   rw [hI dn s' hId] at this
   simp only [VRel] at this
   obtain ⟨b, hb, he⟩ := this
   rw [hmi.mi] at hb; cases hb
   exact he
  have hr1 : rok { fx with n0 := s.heap.length + 1 } m1 := by
   intro l' hl'
   obtain ⟨k1, b, k2⟩ := rok_step hr hst l' hl'
   exact ⟨by show l' < s.heap.length + 1; omega, b, k2⟩
  refine loopIn_unroll (wpIn_seq (wpIn_region ?_))
  show wpOpsIn (wfen (fx.r.bind m)) 0 P #[o30, o31] _ [0, 1] ac1 w1
  rcases hmi.next (P := P) o30.type with ⟨hperm, hrun⟩ | ⟨i, k, a, e, w2, c0, hid, hil, hei, hci, hk, ha, hw2, hc0, hrun, hmi2⟩
  ·refine wp_opv (o := o30) (v := .tuple #[.bool false]) (w' := w1) rfl g30.2.2 (by rw [g30.2.1]; simp) (by simp [execOp, g30.2.1, hiv, hrun]) ?_
   rw [g30.1]
   have ev2 : (ac1.put (some tn) (.tuple #[.bool false])).eval (.tmp tn) = .tuple #[.bool false] := by
    simp [Act.eval, Act.put, Array.getD_eq_getD_getElem?, hsz1, hN.2.2.1]
   refine wp_opv (o := o31) (v := .bool false) (w' := w1) rfl g31.2.2 (by rw [g31.2.1]; simp) (by simp [execOp, g31.2.1, ev2, Instr.extract]) ?_
   rw [g31.1]
   simp only [wpOpsIn, Exit.then]
   refine wpIn_seq (wpIn_cond_false (by simp [Act.eval, Act.put, Array.getD_eq_getD_getElem?, hsz1, hN.2.2.2.1]) (wpIn_exit ?_))
   simp only [Exit.then, Exit.inBlock, if_true]
   have hs3 := SRel.put_other (fx := { fx with n0 := s.heap.length + 1 }) (t := tok) (v := .bool false) hv.2.2.1 (SRel.put_other (fx := { fx with n0 := s.heap.length + 1 }) (t := tn) (v := .tuple #[.bool false]) hv.2.1 hsr)
   have hs4 := SRel.lessX (X := X) (fun b h => .inl h) hs3
   exact ⟨s', m1, hend dn s' hId hperm, ⟨hs4.size, hs4.vars, hs4.defs, hs4.heap, by have := hs4.base; dsimp only at this ⊢; omega, hs4.entry⟩, hst⟩
  ·refine wp_opv (o := o30) (v := .tuple #[.bool true, e.key, e.val]) (w' := (w2.putObj w.heap.size (.mapIter (some bm) clock (((dn ++ [i]).map fun i => (ces[i]?.map (·.born)).getD 0).toArray) c0))) rfl g30.2.2 (by rw [g30.2.1]; simp) (by simp only [execOp, g30.2.1, hiv]; simp only [Sem.run_bind, hrun, Result.andThen_ok, Sem.run_pure]) ?_
   rw [g30.1]
   have ev2 : (ac1.put (some tn) (.tuple #[.bool true, e.key, e.val])).eval (.tmp tn) = .tuple #[.bool true, e.key, e.val] := by
    simp [Act.eval, Act.put, Array.getD_eq_getD_getElem?, hsz1, hN.2.2.1]
   refine wp_opv (o := o31) (v := .bool true) (w' := (w2.putObj w.heap.size (.mapIter (some bm) clock (((dn ++ [i]).map fun i => (ces[i]?.map (·.born)).getD 0).toArray) c0))) rfl g31.2.2 (by rw [g31.2.1]; simp) (by simp [execOp, g31.2.1, ev2, Instr.extract]) ?_
   rw [g31.1]
   simp only [wpOpsIn, Exit.then]
   refine wpIn_seq (wpIn_cond_true (by simp [Act.eval, Act.put, Array.getD_eq_getD_getElem?, hsz1, hN.2.2.2.1]) (wpIn_skip ?_))
   simp only [Exit.then]
   refine wpIn_block (wpIn_seq (wpIn_region ?_))
   obtain ⟨c1, hc1, hiter⟩ := hmi.it
   have hx1 : (fun b => X b ∨ b = w.heap.size) w.heap.size := .inr rfl
   have hs2' : SRel { fx with n0 := s.heap.length + 1 } m1 (fun b => X b ∨ b = w.heap.size) en s' ac1 w2 := by
    rcases hw2 with rfl | rfl
    ·exact hsr
    ·exact hsr.drew
   have hiter2 : w2.heap[w.heap.size]? = some (.mapIter (some bm) clock ((dn.map fun i => (ces[i]?.map (·.born)).getD 0).toArray) c1) := by
    rcases hw2 with rfl | rfl <;> exact hiter
   have hst2 : Step fx.n0 m X w m1 w2 := by
    rcases hw2 with rfl | rfl
    ·exact hst
    ·exact hst.drew
   have hs3 := SRel.put_other (fx := { fx with n0 := s.heap.length + 1 }) (t := tok) (v := .bool true) hv.2.2.1 (SRel.put_other (fx := { fx with n0 := s.heap.length + 1 }) (t := tn) (v := .tuple #[.bool true, e.key, e.val]) hv.2.1 (SRel.putX (o := .mapIter (some bm) clock (((dn ++ [i]).map fun i => (ces[i]?.map (·.born)).getD 0).toArray) c0) hx1 hiter2 (by intro c e; simp) hs2'))
   have hst3 := hst2.putX (r := w.heap.size) (o := .mapIter (some bm) clock (((dn ++ [i]).map fun i => (ces[i]?.map (·.born)).getD 0).toArray) c0) (Nat.le_refl _)
   generalize hw3 : (w2.putObj w.heap.size (.mapIter (some bm) clock (((dn ++ [i]).map fun i => (ces[i]?.map (·.born)).getD 0).toArray) c0)) = w3 at hs3 hst3 hmi2 hrun
   have hsz3 := hs3.size
   have hiv3 : ((ac1.put (some tn) (.tuple #[.bool true, e.key, e.val])).put (some tok) (.bool true)).eval (.tmp tit) = .pointer (some ⟨w.heap.size, 0, none⟩) := by
    have := hs3.vars iit tit hit
    rw [hI dn s' hId] at this
    simp only [VRel] at this
    obtain ⟨b, hb, he⟩ := this
    rw [hmi.mi] at hb; cases hb
    exact he
   generalize hac3 : ((ac1.put (some tn) (.tuple #[.bool true, e.key, e.val])).put (some tok) (.bool true)) = ac3 at hs3 hiv3 hsz3
   have hentry : (Instr.entry (.pointer (some ⟨w.heap.size, 0, none⟩))).run P w3 = .ok (.tuple #[e.key, e.val]) w3 := by
    obtain ⟨c2, hc2, hit2⟩ := hmi2.it
    have hseen : (((dn ++ [i]).map fun i => (ces[i]?.map (·.born)).getD 0).toArray) = ((dn.map fun i => (ces[i]?.map (·.born)).getD 0).toArray).push e.born := by
     simp [hci]
    rw [hseen, hc2] at hit2
    have hemem : e ∈ ces.toList := by
     rw [Array.mem_toList_iff]; exact Array.mem_of_getElem? hci
    have hf : ces.find? (·.born == e.born) = some e := by rw [← Array.find?_toList]; exact find_born e ces.toList hg.nd hemem
    simp only [Instr.entry, getObj, Sem.run_bind, Sem.run, hit2, hmi2.mp, Result.andThen, Array.back?_push, bne_self_eq_false, Bool.false_eq_true, if_false, hf]
    rfl
   have hlt4 : 0 < ops4.size := (Array.getElem?_eq_some_iff.1 g4.1).1
   have hrange : List.range ops4.size = 0 :: List.range' 1 (ops4.size - 1) := by
    rw [List.range_eq_range']
    have : ops4.size = (ops4.size - 1) + 1 := by omega
    rw [this, List.range'_succ]
    simp
   rw [hrange]
   refine wp_opv (ro := fx.r.bind m) (o := o4) (v := .tuple #[e.key, e.val]) (w' := w3) g4.1 g4.2.2.2 (by rw [g4.2.2.1]; simp) (by simp [execOp, g4.2.2.1, hiv3, hentry]) ?_
   rw [g4.2.1]
   have hs4 := SRel.put_other (fx := { fx with n0 := s.heap.length + 1 }) (t := te) (v := .tuple #[e.key, e.val]) hv.2.2.2 hs3
   have hrm : fx.r.bind m = fx.r.bind m1 := by
    have := fen_step hr hst
    rw [fen_eq, fen_eq] at this
    have := congrArg Fence.round this
    simpa [wfen] using this.symm
   refine RG_sound (fx := { fx with n0 := s.heap.length + 1 }) (X := fun b => X b ∨ b = w.heap.size) (en := en) hok4 is4 1 m1 w3 s'.vals [.tup [k, a]] s'.heap _ _ (by rw [← compAll_eq]; exact hc4) rfl (hround dn s' i k a hId hid hei) hs4 ?_ ?_
   ·intro j t hj htv
    cases j with
    | zero =>
     have h0 : ops4.toList[0]? = some o4 := by simpa using g4.1
     rw [h0] at hj
     simp only [Option.bind_some, g4.2.1, Option.some.injEq] at hj
     subst hj
     have : (ac3.put (some te) (.tuple #[e.key, e.val])).tmps.getD te Go.undef = .tuple #[e.key, e.val] := by
      simp [Act.put, Array.getD_eq_getD_getElem?, hsz3, hN.2.2.2.2]
     rw [this]
     simp only [List.getD_cons_zero, VRel]
     exact ⟨_, rfl, by simp only [VRels]; exact ⟨hk _ _ _, ha _ _ _, trivial⟩⟩
    | succ j => simp [VRel]
   ·intro m4 ac4 w4 vals4 ρ4 σ4 hW hs5 hst5
    simp only [Exit.then]
    have hr4 := rok_step (fx := { fx with n0 := s.heap.length + 1 }) hr1 hst5
    have hmi4 := hmi2.step hst5 (Nat.lt_succ_self _) (by show l < s.heap.length + 1; omega)
    have hstA : Step fx.n0 m X w m4 w4 := hst3.trans ((hst5.less (by show fx.n0 ≤ s.heap.length + 1; omega)).lessX fun b h => .inl h)
    have hB := hW m4 (fun b => X b ∨ b = w.heap.size) en ac4 w4 hs5 hr4
    have hfen4 : fen m4 (Fx.r { fx with n0 := s.heap.length + 1 }) = wfen (fx.r.bind m) := by
     show fen m4 fx.r = _
     rw [fen_step hr hstA]; rfl
    rw [hfen4] at hB
    refine wpIn_mono hB ?_
    rintro e6 ac6 w6 ⟨s6, m6, hq6, hs6, hst6⟩
    cases e6 with
    | normal =>
     obtain ⟨s7, hwk, hI7⟩ := hq6
     obtain ⟨m7, hs7, hst7⟩ := hwk m6 _ en ac6 w6 hs6
     have hmi7 := (hmi4.step hst6 (Nat.lt_succ_self _) (by show l < s.heap.length + 1; omega)).step hst7 (Nat.lt_succ_self _) (by show l < s.heap.length + 1; omega)
     have hstB : Step fx.n0 m X w m7 w6 := hstA.trans (((hst6.trans hst7).less (by show fx.n0 ≤ s.heap.length + 1; omega)).lessX fun b h => .inl h)
     have hdl := hmi7.dd.length_le_of_subset (l₂ := List.range es.length) fun i hi => List.mem_range.2 (hmi7.dl i hi)
     simp only [List.length_append, List.length_cons, List.length_nil, List.length_range] at hdl
     exact ih (es.length - (dn ++ [i]).length) (by simp; omega) (dn ++ [i]) s7 m7 ac6 w6 rfl hI7 hs7 hmi7 hstB
    | _ => exact hq6.elim
 exact key _ [] _ _ _ _ rfl h0 hs2 hM0 hst0
end Go.Proofs.YtpnghcaccfnngaaGreatDoor.AM
namespace Go.Proofs.YtpnghcaccfnngaaGreatDoor.AM
variable [Dr]
open Go
variable {P : Program} {fx : Fx}
def PPost (m : LM) (X : Nat → Prop) (w : World) (σ : List AObj) (ch : List PanicEntry) (Q : List AObj → Prop) : Ending → World → Prop :=
 fun e w' => ∃ σ' m', e = .panicked ch ∧ Q σ' ∧ HRel m' X σ' w' ∧ Step σ.length m X w m' w' ∧ σ.length ≤ σ'.length
def ACp (P : Program) (f : FuncId) (args : List AV) (σ : List AObj) (ch : List PanicEntry) (Q : List AObj → Prop) : Prop :=
 Enter P f ∧ ∀ m X w cargs, VRels m X w args cargs → HRel m X σ w → CallsIn Fence.wide 0 P f cargs.toArray w (PPost m X w σ ch Q)
def YCp (P : Program) (l : Nat) (args : List AV) (σ : List AObj) (ch : List PanicEntry) (Q : List AObj → Prop) : Prop :=
 ∀ m X w cargs b, m l = some b → VRels m X w args cargs → HRel m X σ w → ∃ L : Loop, w.heap[b]? = some (.loop L) ∧ cargs.length = L.params.size ∧
  RoundIn Fence.wide 0 P b L.fn ((L.params.zip cargs.toArray).foldl (fun tmps (t, a) => tmps.setIfInBounds t a) L.tmps) L.assign L.body w (PPost m X w σ ch Q)
def CallVp (P : Program) (fv : AV) (args : List AV) (σ : List AObj) (ch : List PanicEntry) (Q : List AObj → Prop) : Prop :=
 match fv with
 | .fn (.func f) cap => ACp P f (args ++ cap) σ ch Q
 | .bm f first => ACp P f (first ++ args) σ ch Q
 | .yld l => YCp P l args σ ch Q
 | _ => False
theorem ACp.mono {f : FuncId} {args : List AV} {σ : List AObj} {ch : List PanicEntry} {Q Q' : List AObj → Prop} (h : ACp P f args σ ch Q) (hq : ∀ σ', Q σ' → Q' σ') : ACp P f args σ ch Q' :=
 ⟨h.1, fun m X w cargs ha hh => (h.2 m X w cargs ha hh).mono fun e w' ⟨σ', m', h1, h2, h3⟩ => ⟨σ', m', h1, hq _ h2, h3⟩⟩
def RGp (P : Program) (ch : List PanicEntry) : List Ins → List AV → List AV → List AObj → (List AV → List AObj → Prop) → Prop
 | [], _, _, _, _ => False
 | i :: is, vals, ρ, σ, K =>
  match gdOk ρ i.gd with
  | none => False
  | some false => RGp P ch is (setD i.dst vals (.tup [])) (ρ ++ [.tup []]) σ K
  | some true =>
   match i.op, i.args.map (evalO vals ρ) with
   | .prim io, as_ =>
    match stepF io as_ σ with
    | some (v, σ') => RGp P ch is (setD i.dst vals v) (ρ ++ [v]) σ' K
    | none => False
   | .call, fv :: as_ => CallVp P fv as_ σ ch (fun σ' => K vals σ') ∨ CallV P fv as_ σ fun v σ' => RGp P ch is (setD i.dst vals v) (ρ ++ [v]) σ' K
   | .call, [] => False
section
variable {X : Nat → Prop} {en : En}
theorem RGp_sound {ro : Option Nat} {ops : Array Oper} (hok : regOk fx.vars fx.N ops.toList = true) {ch : List PanicEntry} {Qc : Exit → Act → World → Prop} :
  ∀ (is : List Ins) (j : Nat) (m : LM) (w : World) (vals ρ : List AV) (σ : List AObj) (K : List AV → List AObj → Prop) (ac : Act),
  (ops.toList.drop j).mapM (compIns P fx.vars (ops.toList.map (·.dst))) = some is → ρ.length = j →
  RGp P ch is vals ρ σ K → SRel fx m X en ⟨vals, σ⟩ ac w → TRel m X w fx.vars ops.toList ρ ac.tmps →
  (∀ m' ac' w' vals σ, K vals σ → SRel fx m' X en ⟨vals, σ⟩ ac' w' → Step fx.n0 m X w m' w' → Qc (.panic ch) ac' w') →
  wpOpsIn (wfen ro) 0 P ops Qc (List.range' j (ops.size - j)) ac w
 | [], j, m, w, vals, ρ, σ, K, ac, hc, hj, hrg, hs, ht, hk => hrg.elim
 | i :: is, j, m, w, vals, ρ, σ, K, ac, hc, hj, hrg, hs, ht, hk => by
  cases hd : ops.toList.drop j with
  | nil => rw [hd] at hc; simp at hc
  | cons o os =>
   rw [hd] at hc
   simp only [List.mapM_cons, Option.bind_eq_bind, Option.bind_eq_some_iff, Option.pure_def, Option.some.injEq, List.cons.injEq] at hc
   obtain ⟨i0, hi, is0, his, he1, he2⟩ := hc
   rw [he1] at hi; rw [he2] at his; clear he1 he2
   have hoj : ops.toList[j]? = some o := by
    have := congrArg List.head? hd; simpa using this
   have hlt : j < ops.size := by
    have := (List.getElem?_eq_some_iff.1 hoj).1; simpa using this
   have hoj' : ops[j]? = some o := by simpa using hoj
   have hos : ops.toList.drop (j + 1) = os := by rw [← List.tail_drop, hd]; rfl
   rw [← hos] at his
   have hn : ops.size - j = (ops.size - (j + 1)) + 1 := by omega
   rw [hn, List.range'_succ]
   simp only [wpOpsIn, hoj']
   obtain ⟨hdst, hgd⟩ := compIns_dst hi
   have next : ∀ (m' : LM) (w' : World) (σ' : List AObj) (v : AV) (c : Value), HRel m' X σ' w' → Step σ.length m X w m' w' → σ.length ≤ σ'.length → VRel m' X w' v c →
     RGp P ch is (setD i.dst vals v) (ρ ++ [v]) σ' K → wpOpsIn (wfen ro) 0 P ops Qc (List.range' (j + 1) (ops.size - (j + 1))) (ac.put o.dst c) w' := by
    intro m' w' σ' v c hh hst hle hv hrg'
    have hs1 : SRel fx m' X en ⟨vals, σ'⟩ ac w' := hs.of_heap hh hst hle
    have ht1 := ht.mono (hs.heap.mono_of_step hst (Nat.le_refl _))
    obtain ⟨hs2, ht2⟩ := put_rel hok hoj hj hs1 ht1 hv
    rw [← hdst] at hs2
    refine RGp_sound hok is (j + 1) m' w' _ _ σ' K _ his (by simp [hj]) hrg' hs2 ht2 ?_
    intro m2 ac2 w2 vals2 σ2 hK hs3 hst2
    exact hk m2 ac2 w2 vals2 σ2 hK hs3 (Step.trans (hst.less hs.base) hst2)
   have fall : ∀ (m' : LM) (w' : World) (σ' : List AObj), HRel m' X σ' w' → Step σ.length m X w m' w' → σ.length ≤ σ'.length → K vals σ' → Qc (.panic ch) ac w' := by
    intro m' w' σ' hh hst hle hK
    exact hk m' ac w' vals σ' hK (hs.of_heap hh hst hle) (hst.less hs.base)
   simp only [RGp] at hrg
   split at hrg
   ·exact hrg.elim
   ·rename_i hg
    rw [hgd] at hg
    have := gd_rel hok (List.mem_of_getElem? hoj) ht hs.size hg
    rw [this]
    simp only [Bool.false_eq_true, if_false]
    exact ⟨fun _ _ => trivial, next m w σ (.tup []) Go.undef hs.heap (Step.refl _ _ _ _) (Nat.le_refl _) (by simp [VRel, VRels, Go.undef]) hrg⟩
   ·rename_i hg
    rw [hgd] at hg
    have := gd_rel hok (List.mem_of_getElem? hoj) ht hs.size hg
    rw [this]
    simp only [if_true]
    refine ⟨fun _ _ => trivial, ?_⟩
    generalize has : i.args.map (evalO vals ρ) = as_ at hrg
    cases hop : i.op with
    | prim io =>
     rw [hop] at hrg
     dsimp only at hrg
     obtain ⟨os', hco, hargs, _, _⟩ := compIns_prim hi hop
     rw [hargs] at has
     have hrel := evalOs_rel hs.vars ht os'
     rw [has] at hrel
     split at hrg
     ·rename_i v σ' hsf
      obtain ⟨nx, w', m', hrun, hres, hh, hst⟩ := prim_sound hco hs.heap hrel hsf
      rw [Oper.semAt_eq _ _ _ (compOp_not_defer hco), hrun]
      rcases hres with ⟨c, rfl, hv⟩ | ⟨rfl, rfl⟩
      ·exact next m' w' σ' v c hh hst (stepF_le hsf) hv hrg
      ·exact next m' w' σ' .undef Go.undef hh hst (stepF_le hsf) (by simp [VRel]) hrg
     ·exact hrg.elim
    | call =>
     rw [hop] at hrg
     cases as_ with
     | nil => exact hrg.elim
     | cons fv as_ =>
     dsimp only at hrg
     obtain ⟨f, args, at_, hop', hargs, _, _⟩ := compIns_call hi hop
     rw [hargs] at has
     have hrel := evalOs_rel hs.vars ht (f :: args.toList)
     rw [has] at hrel
     obtain ⟨fc, us, he, hfv, hrest⟩ := hrel.cons
     simp only [List.map_cons, List.cons.injEq] at he
     obtain ⟨rfl, rfl⟩ := he
     have hnd : ∀ c, o.op ≠ .defer c := by rw [hop']; simp
     rw [Oper.semAt_eq _ _ _ hnd]
     have hex : execOp ac.eval o = (do let d ← resolve ac.eval { callee := .value f, args, argTypes := at_ } o.type; invoke d.target d.args) := by
      simp only [execOp, hop']
     rw [hex]
     rcases hrg with hrg | hrg
     ·unfold CallVp at hrg
      split at hrg
      ·rename_i g cap
       simp only [VRel] at hfv
       obtain ⟨vs, hfe, hcap⟩ := hfv
       have hrun : (do let d ← resolve ac.eval { callee := .value f, args, argTypes := at_ } o.type; invoke d.target d.args : Sem Next).run P w = .ok (.enter g ((args.toList.map ac.eval) ++ vs).toArray) w := by
        simp only [resolve, hfe, Deferred.ofValue, Sem.run_bind, Sem.run_pure, Result.andThen_ok, invoke]
        rw [hrg.1]
        congr 2
        apply Array.ext'; simp
       rw [hrun]
       refine ⟨by simp [wfen, Fence.wide], ?_⟩
       have hcall := hrg.2 m X w _ (VRels.append hrest hcap) hs.heap
       refine CallsIn.mono (F := wfen ro) (n := 0) hcall ?_
       rintro e w' ⟨σ', m', rfl, hq, hh, hst, hle⟩
       exact fall m' w' σ' hh hst hle hq
      ·rename_i g first
       simp only [VRel] at hfv
       obtain ⟨vs, hfe, hcap⟩ := hfv
       have hrun : (do let d ← resolve ac.eval { callee := .value f, args, argTypes := at_ } o.type; invoke d.target d.args : Sem Next).run P w = .ok (.enter g (vs ++ (args.toList.map ac.eval)).toArray) w := by
        simp only [resolve, hfe, Deferred.ofValue, Sem.run_bind, Sem.run_pure, Result.andThen_ok, invoke]
        rw [hrg.1]
        congr 2
        apply Array.ext'; simp
       rw [hrun]
       refine ⟨by simp [wfen, Fence.wide], ?_⟩
       have hcall := hrg.2 m X w _ (VRels.append hcap hrest) hs.heap
       refine CallsIn.mono (F := wfen ro) (n := 0) hcall ?_
       rintro e w' ⟨σ', m', rfl, hq, hh, hst, hle⟩
       exact fall m' w' σ' hh hst hle hq
      ·rename_i l
       simp only [VRel] at hfv
       obtain ⟨b, hb, hfe⟩ := hfv
       obtain ⟨L, hL, hsz, hround⟩ := hrg m X w _ b hb hrest hs.heap
       have hrun : (do let d ← resolve ac.eval { callee := .value f, args, argTypes := at_ } o.type; invoke d.target d.args : Sem Next).run P w = .ok (.round b L.fn ((L.params.zip (args.toList.map ac.eval).toArray).foldl (fun tmps (t, a) => tmps.setIfInBounds t a) L.tmps) L.assign L.body) w := by
        simp only [resolve, hfe, Deferred.ofValue, Sem.run_bind, Sem.run_pure, Result.andThen_ok, invoke]
        have e : #[] ++ args.map ac.eval = (args.toList.map ac.eval).toArray := by apply Array.ext'; simp
        rw [e]
        exact run_yield hL (by simpa using hsz)
       rw [hrun]
       refine ⟨by simp [wfen, Fence.wide], ?_⟩
       refine RoundIn.mono (F := wfen ro) (n := 0) hround ?_
       rintro e w' ⟨σ', m', rfl, hq, hh, hst, hle⟩
       exact fall m' w' σ' hh hst hle hq
      ·exact hrg.elim
     ·unfold CallV at hrg
      split at hrg
      ·rename_i g cap
       simp only [VRel] at hfv
       obtain ⟨vs, hfe, hcap⟩ := hfv
       have hrun : (do let d ← resolve ac.eval { callee := .value f, args, argTypes := at_ } o.type; invoke d.target d.args : Sem Next).run P w = .ok (.enter g ((args.toList.map ac.eval) ++ vs).toArray) w := by
        simp only [resolve, hfe, Deferred.ofValue, Sem.run_bind, Sem.run_pure, Result.andThen_ok, invoke]
        rw [hrg.1]
        congr 2
        apply Array.ext'; simp
       rw [hrun]
       refine ⟨by simp [wfen, Fence.wide], ?_⟩
       have hcall := hrg.2 m X w _ (VRels.append hrest hcap) hs.heap
       refine CallsIn.mono (F := wfen ro) (n := 0) hcall ?_
       rintro e w' ⟨c, r, σ', m', rfl, hq, hv, hh, hst, hle⟩
       exact next m' w' σ' r c hh hst hle hv hq
      ·rename_i g first
       simp only [VRel] at hfv
       obtain ⟨vs, hfe, hcap⟩ := hfv
       have hrun : (do let d ← resolve ac.eval { callee := .value f, args, argTypes := at_ } o.type; invoke d.target d.args : Sem Next).run P w = .ok (.enter g (vs ++ (args.toList.map ac.eval)).toArray) w := by
        simp only [resolve, hfe, Deferred.ofValue, Sem.run_bind, Sem.run_pure, Result.andThen_ok, invoke]
        rw [hrg.1]
        congr 2
        apply Array.ext'; simp
       rw [hrun]
       refine ⟨by simp [wfen, Fence.wide], ?_⟩
       have hcall := hrg.2 m X w _ (VRels.append hcap hrest) hs.heap
       refine CallsIn.mono (F := wfen ro) (n := 0) hcall ?_
       rintro e w' ⟨c, r, σ', m', rfl, hq, hv, hh, hst, hle⟩
       exact next m' w' σ' r c hh hst hle hv hq
      ·rename_i l
       simp only [VRel] at hfv
       obtain ⟨b, hb, hfe⟩ := hfv
       obtain ⟨L, hL, hsz, hround⟩ := hrg m X w _ b hb hrest hs.heap
       have hrun : (do let d ← resolve ac.eval { callee := .value f, args, argTypes := at_ } o.type; invoke d.target d.args : Sem Next).run P w = .ok (.round b L.fn ((L.params.zip (args.toList.map ac.eval).toArray).foldl (fun tmps (t, a) => tmps.setIfInBounds t a) L.tmps) L.assign L.body) w := by
        simp only [resolve, hfe, Deferred.ofValue, Sem.run_bind, Sem.run_pure, Result.andThen_ok, invoke]
        have e : #[] ++ args.map ac.eval = (args.toList.map ac.eval).toArray := by apply Array.ext'; simp
        rw [e]
        exact run_yield hL (by simpa using hsz)
       rw [hrun]
       refine ⟨by simp [wfen, Fence.wide], ?_⟩
       refine RoundIn.mono (F := wfen ro) (n := 0) hround ?_
       rintro e w' ⟨c, r, σ', m', rfl, hq, hv, hh, hst, hle⟩
       exact next m' w' σ' r c hh hst hle hv hq
      ·exact hrg.elim
end
theorem W_regionP {id : Nat} {ops : Array Oper} {is : List Ins} {s : St} {Q : Exit → St → Prop} {ch : List PanicEntry} (hc : compReg P fx.vars fx.N ops = some is) (h : RGp P ch is s.vals [] s.heap fun vals σ => Q (.panic ch) ⟨vals, σ⟩) : W P fx (.region id ops false) s Q := by
 intro m X en ac w hs hr
 unfold compReg at hc
 split at hc
 ·rename_i hok
  have := RGp_sound (ro := fx.r.bind m) (Qc := Lift fx m X en w Q) hok is 0 m w s.vals [] s.heap _ ac (by rw [← compAll_eq]; simpa using hc) rfl h hs (fun j t _ _ => by simp [VRel]) ?_
  ·refine wpIn_region ?_
   rw [List.range_eq_range']; exact this
  ·intro m' ac' w' vals σ hK hs' hst
   exact ⟨_, m', hK, hs', hst⟩
 ·cases hc
theorem SW_regionP {is : List Ins} {s : St} {Q : Exit → St → Prop} {ch : List PanicEntry} (h : RGp P ch is s.vals [] s.heap fun vals σ => Q (.panic ch) ⟨vals, σ⟩) : SW P fx (.region is) s Q := by
 intro c
 induction c with
 | region id ops dr =>
  intro hc
  cases dr with
  | true => simp [compC] at hc
  | false =>
   simp only [compC, Option.map_eq_some_iff] at hc
   obtain ⟨is', his, he⟩ := hc
   cases he
   exact W_regionP his h
 | cond o x y ihx ihy =>
  intro hc
  cases o with
  | const v =>
   cases v <;> simp only [compC, reduceCtorEq] at hc
   rename_i t
   cases t with
   | true => simp only [if_true] at hc; exact W_cond_const (ihx hc)
   | false => simp only [Bool.false_eq_true, if_false] at hc; exact W_cond_const (ihy hc)
  | tmp t =>
   simp only [compC, Option.bind_eq_some_iff, Option.map_eq_some_iff] at hc
   obtain ⟨_, _, _, _, _, _, he⟩ := hc
   cases he
  | global g => simp [compC] at hc
  | func f => simp [compC] at hc
 | seq x y _ _ =>
  intro hc
  simp only [compC, Option.bind_eq_some_iff, Option.map_eq_some_iff] at hc
  obtain ⟨x', hx, y', hy, he⟩ := hc
  cases he
 | rangeFunc g ps assign body _ _ =>
  intro hc
  simp only [compC, Option.bind_eq_some_iff, Option.map_eq_some_iff] at hc
  obtain ⟨_, _, _, _, he⟩ := hc
  cases he
 | skip => intro hc; simp [compC] at hc
 | label l => intro hc; simp [compC] at hc
 | exit i => intro hc; simp [compC] at hc
 | ret => intro hc; simp [compC] at hc
 | block i a _ => intro hc; simp [compC] at hc
 | loop a _ => intro hc; simp [compC] at hc
 | scope a _ => intro hc; simp [compC] at hc
 | goto l => intro hc; simp [compC] at hc
 | refuse r => intro hc; simp [compC] at hc
theorem leaves_marksP {F : Fence} {n : Nat} {fn : Func} {tmps : Array Value} {R : Ending → World → Prop} {e : Nat} {w : World} {ch : List PanicEntry} : ∀ (bs : List Nat) (w1 : World), Taken w w1 e → bs.Nodup → (∀ b ∈ bs, e ≤ b ∧ w1.heap[b]? = some (.deferred (some []))) →
  (∀ w2, Taken w w2 e → R (.panicked ch) w2) → LeavesInM F n P fn tmps R (bs.map fun b => { target := .collected b, args := #[] }) (.panicking ch) w1
 | [], w1, ht, _, _, h => by
  simp only [List.map_nil, LeavesInM, LeavesIn]
  exact h w1 ht
 | b :: bs, w1, ht, hnd, hall, h => by
  simp only [List.map_cons, LeavesInM]
  obtain ⟨hb1, hb2⟩ := hall b (by simp)
  refine ⟨by simp, .inl ⟨b, w1.putObj b (.deferred none), rfl, run_takeDeferred hb2, ?_⟩⟩
  refine leaves_marksP bs _ (ht.put hb1 hb2 none) (List.nodup_cons.1 hnd).2 ?_ h
  intro b' hb'
  have hne : b' ≠ b := by rintro rfl; exact (List.nodup_cons.1 hnd).1 hb'
  refine ⟨(hall b' (by simp [hb'])).1, ?_⟩
  rw [World.putObj_heap_other hne]; exact (hall b' (by simp [hb'])).2
theorem ACp_of_body {f : FuncId} {fn : Func} {c : Code} {args : List AV} {σ : List AObj} {vars : List Nat} {ch : List PanicEntry} {Q : List AObj → Prop} (hf : P.funcs[f]? = some fn) (hb : fn.body = some c) (hen : Enter P f) (hargs : args.length ≤ fn.ntmps)
  (h : W P ⟨vars, fn.ntmps, none, σ.length⟩ c ⟨initVals vars args, σ⟩ fun e s' => match e with
   | .panic ch' => ch' = ch ∧ Q s'.heap
   | _ => False) : ACp P f args σ ch Q := by
 refine ⟨hen, fun m X w cargs ha hh => ?_⟩
 refine callsIn_of_wp_marks hf hb trivial ?_
 have hlen := ha.length
 have hs0 : SRel ⟨vars, fn.ntmps, none, σ.length⟩ m X ⟨w.heap.size, []⟩ ⟨initVals vars args, σ⟩ { tmps := cargs.toArray ++ Array.replicate (fn.ntmps - cargs.toArray.size) Go.undef, defers := [] } w := by
  refine ⟨by simp; omega, ?_, ⟨[], rfl, List.nodup_nil, by simp⟩, hh, Nat.le_refl _, Nat.le_refl _⟩
  intro i t hi
  have e1 : (initVals vars args).getD i .undef = args.getD t .undef := by
   simp only [initVals, List.getD, List.getElem?_map]
   rw [show vars[i]? = some t from hi]; rfl
  rw [e1]
  rw [Array.getD_eq_getD_getElem?]
  by_cases ht : t < cargs.length
  ·have e2 : (cargs.toArray ++ Array.replicate (fn.ntmps - cargs.toArray.size) Go.undef)[t]? = some cargs[t] := by
    rw [Array.getElem?_append_left (by simpa using ht)]; simp [ht]
   rw [e2]
   have := ha.getD t Go.undef
   simpa [List.getD, ht] using this
  ·have : args.getD t .undef = .undef := by simp [List.getD, List.getElem?_eq_none (show args.length ≤ t by omega)]
   rw [this]; simp [VRel]
 have key := h m X ⟨w.heap.size, []⟩ _ w hs0 (by intro l hl; cases hl)
 refine wpIn_mono key ?_
 rintro e ac' w' ⟨s', m', hq, hs', hst⟩
 cases e with
 | panic ch' =>
  obtain ⟨rfl, hQ⟩ := hq
  obtain ⟨bs, hbs, hnd, hall⟩ := hs'.defs
  rw [List.append_nil] at hbs
  show LeavesInM Fence.wide 0 P fn ac'.tmps _ ac'.defers (.panicking ch') w'
  rw [hbs]
  refine leaves_marksP (e := w.heap.size) (w := w') bs w' (Taken.refl _ _) hnd (fun b hb => ⟨(hall b hb).1, (hall b hb).2.2.1⟩) ?_
  intro w2 ht
  exact ⟨s'.heap, m', rfl, hQ, hs'.heap.taken ht, hst.taken ht (Nat.le_refl _), hs'.base⟩
 | normal => exact hq.elim
 | ret => exact hq.elim
 | exit i => exact hq.elim
 | goto l => exact hq.elim
 | outgrown => exact hq.elim
def kEndP (ch : List PanicEntry) (Q : List AObj → Prop) : Exit → St → Prop := fun e s' => match e with | .panic ch' => ch' = ch ∧ Q s'.heap | _ => False
theorem ACp_SW {f : FuncId} {ic : IC} {vars : List Nat} {N : Nat} {res : List RC} {p : Bool} {args : List AV} {σ : List AObj} {ch : List PanicEntry} {Q : List AObj → Prop} (hf : FnOk P f ⟨ic, vars, N, res, p⟩) (hargs : args.length ≤ N)
  (h : SW P ⟨vars, N, none, σ.length⟩ ic ⟨initVals vars args, σ⟩ (kEndP ch Q)) : ACp P f args σ ch Q := by
 obtain ⟨fn, c, h1, h2, h3, h4, h5, h6⟩ := hf.ok
 dsimp only at h4 h5 h6
 subst h4
 exact ACp_of_body h1 h2 (Enter_of h1 h3 h2) hargs ((h c h5).mono fun e s' h' => by cases e <;> exact h')
theorem SW_seqS {a b : IC} {s : St} {Q : Exit → St → Prop} (h : SW P fx a s (kSW P fx b Q)) : SW P fx (.seq a b) s Q := by
 intro c
 induction c with
 | seq x y _ _ =>
  intro hc
  simp only [compC, Option.bind_eq_some_iff, Option.map_eq_some_iff] at hc
  obtain ⟨x', hx, y', hy, he⟩ := hc
  cases he
  refine W_seq ((h x hx).mono ?_)
  intro e s' hq
  cases e with
  | normal => exact hq y hy
  | _ => exact hq
 | cond o x y ihx ihy =>
  intro hc
  cases o with
  | const v =>
   cases v <;> simp only [compC, reduceCtorEq] at hc
   rename_i t
   cases t with
   | true => simp only [if_true] at hc; exact W_cond_const (ihx hc)
   | false => simp only [Bool.false_eq_true, if_false] at hc; exact W_cond_const (ihy hc)
  | tmp t =>
   simp only [compC, Option.bind_eq_some_iff, Option.map_eq_some_iff] at hc
   obtain ⟨_, _, _, _, _, _, he⟩ := hc
   cases he
  | global g => simp [compC] at hc
  | func f => simp [compC] at hc
 | region id ops dr =>
  intro hc
  cases dr <;> simp [compC] at hc
 | rangeFunc g ps assign body _ _ =>
  intro hc
  simp only [compC, Option.bind_eq_some_iff, Option.map_eq_some_iff] at hc
  obtain ⟨_, _, _, _, he⟩ := hc
  cases he
 | skip => intro hc; simp [compC] at hc
 | label l => intro hc; simp [compC] at hc
 | exit i => intro hc; simp [compC] at hc
 | ret => intro hc; simp [compC] at hc
 | block i a _ => intro hc; simp [compC] at hc
 | loop a _ => intro hc; simp [compC] at hc
 | scope a _ => intro hc; simp [compC] at hc
 | goto l => intro hc; simp [compC] at hc
 | refuse r => intro hc; simp [compC] at hc
theorem roundIn_of_wpInP {F : Fence} {n : Nat} {l : Nat} {f : FuncId} {fn : Func} {tmps : Array Value} {assign body : Code} {w : World} {R : Ending → World → Prop} (hf : P.funcs[f]? = some fn) (hF : F.fn f)
  (h : assign.wpIn (F.inRound l) n P (Exit.then (fun a₁ w₁ => ∃ w₂, (Instr.beginRound l).run P w₁ = .ok () w₂ ∧ body.wpIn (F.inRound l) n P (fun e a w => match e with
   | .panic ch => LeavesInM (F.inRound l) n P fn a.tmps (fun e w => (∃ ch', e = .panicked ch') ∧ R e w) a.defers (.panicking ch) w
   | _ => False) a₁ w₂) (fun _ _ _ => False)) { tmps := tmps, defers := [] } w) :
  RoundIn F n P l f tmps assign body w R := by
 refine ⟨hF, fun c cs hr => ?_⟩
 let b : Frame := { (default : Frame) with fn := f, kind := .normal, roundOf := some l }
 have hb0 : Frame.round l f tmps assign body .normal = b.atR { tmps := tmps, defers := [] } [.code assign, .beginRound, .code body] := by
  simp [Frame.round, Frame.atR, b]
 have hr' : (F.inRound l).room ((c :: cs).length + 1 + n) := hr
 have hF' : (F.inRound l).fn b.fn := hF
 obtain ⟨e, a₁, w₁, hq, harr⟩ := h b [.beginRound, .code body] (c :: cs) rfl hF' hr'
 rw [← hb0] at harr
 cases e with
 | normal =>
  obtain ⟨w₂, hbr, hbody⟩ := hq
  have s1 : StepsIn (Machine.fenced P (F.inRound l)) P (lone (b.atR a₁ [.beginRound, .code body]) (c :: cs) w₁) (lone (b.atR a₁ [.code body]) (c :: cs) w₂) :=
   .one (fenced_calm (fr := b.atR a₁ [.beginRound, .code body]) hF' hr' rfl) (stepR_beginRound rfl hbr)
  obtain ⟨e₂, a₂, w₃, hq₂, harr₂⟩ := hbody b [] (c :: cs) rfl hF' hr'
  cases e₂ with
  | panic ch =>
   obtain ⟨todo, hs₀⟩ := harr₂
   obtain ⟨e', w'', fr', ⟨⟨ch', rfl⟩, hR⟩, hs, hfn, hl⟩ := leaves_stepsInM a₂.defers (.panicking ch) w₃ { b.atR a₂ todo with mode := .panicking ch } (c :: cs) rfl rfl rfl hf rfl hF' hr' hq₂
   have hlv : (lone fr' (c :: cs) w'').fenced P (F.inRound l) := fenced_leaving (by rw [hfn]; exact hF') hr' hl
   exact ⟨.panicked ch', w'', hR, (StepsIn.trans harr s1).trans (StepsIn.trans hs₀ (StepsIn.trans hs (.one hlv (step_leave_panicked hl))))⟩
  | normal => exact hq₂.elim
  | ret => exact hq₂.elim
  | exit id => exact hq₂.elim
  | goto t => exact hq₂.elim
  | outgrown => exact hq₂.elim
 | exit id => exact hq.elim
 | goto t => exact hq.elim
 | ret => exact hq.elim
 | panic chain => exact hq.elim
 | outgrown => exact hq.elim
theorem YCp_of_round {l : Nat} {σ : List AObj} {r : ALoop} {args : List AV} {ch : List PanicEntry} {Q : List AObj → Prop} {f : FuncId} {fn : Func} (hl : σ[l]? = some (.loop r)) (hfi : r.fi = some f) (hfn : P.funcs[f]? = some fn) (hargs : args.length = r.params.length) (hvn : r.vars.Nodup) (hpv : ∀ t ∈ r.params, t ∈ r.vars) (hpN : ∀ t ∈ r.params, t < r.ntmps)
  (h : W P ⟨r.vars, r.ntmps, some l, σ.length⟩ r.assign ⟨putPars r.vars r.params args r.vals, σ⟩ fun e s1 => match e with
   | .normal => ∃ r1, s1.heap[l]? = some (.loop r1) ∧ r1.state = .ready ∧
     W P ⟨r.vars, r.ntmps, some l, σ.length⟩ r.body ⟨s1.vals, setLoop s1.heap l r1 .busy r1.pending⟩ fun e s2 => match e with
      | .panic ch' => ch' = ch ∧ Q s2.heap
      | _ => False
   | _ => False) : YCp P l args σ ch Q := by
 intro m X w cargs b hb ha hh
 have hrl := hh.obj l _ hl
 rw [hb] at hrl
 simp only [ORel] at hrl
 obtain ⟨tmps, d, fi, h1, h2, h3, h4⟩ := hrl
 have hlen := ha.length
 have hff := h4.2 f hfi
 subst hff
 refine ⟨_, h3, by simp; omega, ?_⟩
 obtain ⟨g1, g2, g3⟩ := putPars_rel hvn r.params args cargs r.vals tmps hargs ha (fun t ht => by rw [h1]; exact hpN t ht) hpv h4.1 h2
 have hzip : (r.params.toArray.zip cargs.toArray).foldl (fun tmps (x : Nat × Value) => tmps.setIfInBounds x.1 x.2) tmps = (r.params.zip cargs).foldl (fun tmps (x : Nat × Value) => tmps.setIfInBounds x.1 x.2) tmps := by
  simp
 have hlσ : l < σ.length := (hh.dom l b hb).1
 have hs0 : SRel ⟨r.vars, r.ntmps, some l, σ.length⟩ m X ⟨w.heap.size, []⟩ ⟨putPars r.vars r.params args r.vals, σ⟩ { tmps := (r.params.zip cargs).foldl (fun tmps (x : Nat × Value) => tmps.setIfInBounds x.1 x.2) tmps, defers := [] } w :=
  ⟨by rw [g2]; exact h1, g1, ⟨[], rfl, List.nodup_nil, by simp⟩, hh, Nat.le_refl _, Nat.le_refl _⟩
 have hrok : rok ⟨r.vars, r.ntmps, some l, σ.length⟩ m := by intro x hx; cases hx; exact ⟨hlσ, b, hb⟩
 have hfen : fen m (some l) = Fence.wide.inRound b := by simp [fen, Fence.inRound, hb]
 refine roundIn_of_wpInP (F := Fence.wide) (n := 0) hfn trivial ?_
 dsimp only
 rw [hzip]
 have key := h m X ⟨w.heap.size, []⟩ _ w hs0 hrok
 rw [show fen m (Fx.r ⟨r.vars, r.ntmps, some l, σ.length⟩) = Fence.wide.inRound b from hfen] at key
 refine wpIn_mono key ?_
 rintro e a1 w1 ⟨s1, m1, hq, hs1, hst1⟩
 cases e with
 | normal =>
  obtain ⟨r1, hl1, hr1, hbody⟩ := hq
  have hb1 : m1 l = some b := by rw [hst1.keep l hlσ]; exact hb
  obtain ⟨tm1, d1, fi1, k1, k2, k3, k4⟩ := hs1.heap.loop hb1 hl1
  rw [hr1] at k3
  refine ⟨_, run_beginRound k3 rfl, ?_⟩
  obtain ⟨u1, u2, u3⟩ := hs1.heap.setLoop hb1 hl1 (by rw [← hr1] at k3; exact k3) .busy r1.pending
  have hs1' := hs1.of_heap u1 u2 (by simp [AM.setLoop])
  have e1 : ({ ({ state := r1.state, pending := r1.pending, fn := fi1, tmps := tm1, params := r1.params.toArray, assign := r1.assign, body := r1.body, defers := d1 } : Loop) with state := .busy, pending := r1.pending } : Loop) = { ({ state := .ready, pending := r1.pending, fn := fi1, tmps := tm1, params := r1.params.toArray, assign := r1.assign, body := r1.body, defers := d1 } : Loop) with state := .busy } := rfl
  rw [e1] at hs1' u1 u2 u3
  have hst1' := hst1.trans (u2.less hs1.base)
  have key2 := W.later hbody hrok hs1' hst1'
  rw [show fen m (Fx.r ⟨r.vars, r.ntmps, some l, σ.length⟩) = Fence.wide.inRound b from hfen] at key2
  refine wpIn_mono key2 ?_
  rintro e a2 w2 ⟨s2, m2, hq2, hs2, hst2⟩
  cases e with
  | panic ch' =>
   obtain ⟨rfl, hQ⟩ := hq2
   obtain ⟨bs, hbs, hnd, hall⟩ := hs2.defs
   rw [List.append_nil] at hbs
   dsimp only
   rw [hbs]
   refine leaves_marksP (e := w.heap.size) (w := w2) bs w2 (Taken.refl _ _) hnd (fun b hb => ⟨(hall b hb).1, (hall b hb).2.2.1⟩) ?_
   intro w3 ht
   exact ⟨⟨_, rfl⟩, s2.heap, m2, rfl, hQ, hs2.heap.taken ht, hst2.taken ht (Nat.le_refl _), hs2.base⟩
  | normal => exact hq2.elim
  | ret => exact hq2.elim
  | exit i => exact hq2.elim
  | goto t => exact hq2.elim
  | outgrown => exact hq2.elim
 | ret => exact hq.elim
 | exit i => exact hq.elim
 | goto t => exact hq.elim
 | panic c => exact hq.elim
 | outgrown => exact hq.elim
end Go.Proofs.YtpnghcaccfnngaaGreatDoor.AM
namespace Go.Proofs.YtpnghcaccfnngaaGreatDoor.AM
variable [Dr]
open Go
variable {P : Program} {fx : Fx} {s : St} {Q : Exit → St → Prop} {f : FuncId}
def InF (f : FuncId) (F : Fence) (n : Nat) (P : Program) (c : Code) (Q : Exit → Act → World → Prop) (a : Act) (w : World) : Prop :=
 ∀ (b : Frame) (k : List Item) (cs : List Frame), b.fn = f → b.roundOf = F.round → F.fn b.fn → F.room (cs.length + 1 + n) →
  ∃ e a' w', Q e a' w' ∧ ArrivesIn (Machine.fenced P F) P (lone (b.atR a (.code c :: k)) cs w) b k cs e a' w'
theorem InF.of {F : Fence} {n : Nat} {c : Code} {Q : Exit → Act → World → Prop} {a : Act} {w : World} (h : c.wpIn F n P Q a w) : InF f F n P c Q a w := fun b k cs _ h1 h2 h3 => h b k cs h1 h2 h3
theorem InF.mono {F : Fence} {n : Nat} {c : Code} {Q Q' : Exit → Act → World → Prop} {a : Act} {w : World} (h : InF f F n P c Q a w) (hq : ∀ e a w, Q e a w → Q' e a w) : InF f F n P c Q' a w :=
 fun b k cs h0 h1 h2 h3 => let ⟨e, a', w', q, r⟩ := h b k cs h0 h1 h2 h3; ⟨e, a', w', hq _ _ _ q, r⟩
theorem InF_seq {F : Fence} {n : Nat} {x y : Code} {Q : Exit → Act → World → Prop} {a : Act} {w : World} (h : InF f F n P x (Exit.then (InF f F n P y Q) Q) a w) : InF f F n P (.seq x y) Q a w := by
 intro b k cs hbf hro hb hr
 have h0 : (lone (b.atR a (.code (.seq x y) :: k)) cs w).fenced P F := fenced_calm hb hr rfl
 obtain ⟨e, a₁, w₁, hq, harr⟩ := h b (.code y :: k) cs hbf hro hb hr
 cases e with
 | normal =>
  obtain ⟨e₂, a₂, w₂, hq₂, harr₂⟩ := hq b k cs hbf hro hb hr
  exact ⟨e₂, a₂, w₂, hq₂, .of_steps (.head h0 stepR_seq harr) harr₂⟩
 | exit id => exact ⟨_, a₁, w₁, hq, .of_steps (.one h0 stepR_seq) (.pass (x := .code y) rfl (fun _ _ => .inl (by simp)) harr)⟩
 | goto l => exact ⟨_, a₁, w₁, hq, .of_steps (.one h0 stepR_seq) (.pass (x := .code y) rfl (fun _ _ => .inl (by simp)) harr)⟩
 | ret => exact ⟨_, a₁, w₁, hq, .of_steps (.one h0 stepR_seq) (.pass (x := .code y) rfl (fun _ _ => .inl (by simp)) harr)⟩
 | panic ch => exact ⟨_, a₁, w₁, hq, .of_steps (.one h0 stepR_seq) (.pass (x := .code y) rfl (fun _ _ => .inl (by simp)) harr)⟩
 | outgrown => exact ⟨_, a₁, w₁, hq, .of_steps (.one h0 stepR_seq) (.pass (x := .code y) rfl (fun _ _ => .inl (by simp)) harr)⟩
def WB (f : FuncId) (P : Program) (fx : Fx) (c : Code) (s : St) (Q : Exit → St → Prop) : Prop :=
 ∀ m X en ac w, SRel fx m X en s ac w → rok fx m → InF f (fen m fx.r) 0 P c (Lift fx m X en w Q) ac w
theorem WB.of {c : Code} (h : W P fx c s Q) : WB f P fx c s Q := fun m X en ac w hs hr => InF.of (h m X en ac w hs hr)
theorem WB.mono {c : Code} {Q' : Exit → St → Prop} (h : WB f P fx c s Q) (hq : ∀ e s', Q e s' → Q' e s') : WB f P fx c s Q' :=
 fun m X en ac w hs hr => InF.mono (h m X en ac w hs hr) fun e ac' w' ⟨s', m', h1, h2⟩ => ⟨s', m', hq _ _ h1, h2⟩
theorem WB.later {m : LM} {X : Nat → Prop} {en : En} {w : World} {c : Code} {s' : St} {m' : LM} {w' : World} {ac' : Act} (h : WB f P fx c s' Q) (hr : rok fx m) (hs' : SRel fx m' X en s' ac' w') (hst : Step fx.n0 m X w m' w') :
  InF f (fen m fx.r) 0 P c (Lift fx m X en w Q) ac' w' := by
 rw [← fen_step hr hst]
 exact InF.mono (h m' X en ac' w' hs' (rok_step hr hst)) fun e ac2 w2 ⟨s2, m2, h1, h2, h3⟩ => ⟨s2, m2, h1, h2, hst.trans h3⟩
theorem WB_seq {x y : Code} (h : WB f P fx x s fun e s' => match e with | .normal => WB f P fx y s' Q | e => Q e s') : WB f P fx (.seq x y) s Q := by
 intro m X en ac w hs hr
 refine InF_seq (InF.mono (h m X en ac w hs hr) ?_)
 rintro e ac' w' ⟨s', m', hq, hs', hst⟩
 cases e with
 | normal => exact WB.later hq hr hs' hst
 | _ => exact ⟨s', m', hq, hs', hst⟩
def newLoopF (f : FuncId) (fx : Fx) (vals : List AV) (ps : Array Nat) (assign body : Code) : ALoop := { newLoop fx vals ps assign body with fi := some f }
theorem InF_rangeFunc {F : Fence} {n : Nat} {g : Operand} {ps : Array Nat} {assign body : Code} {Q : Exit → Act → World → Prop} {a : Act} {w : World}
  (h : ∃ (l : Nat) (mark : List Deferred) (w₁ : World) (d : Deferred) (w₁' : World) (g' : FuncId) (args : Array Value) (w₂ : World),
   (Instr.enterLoop f a.tmps ps assign body F.round).run P w = .ok (l, mark) w₁ ∧
   (resolve a.eval (rangeCall g l) 0).run P w₁ = .ok d w₁' ∧
   (∀ f', Target.leads P w₁' d.target d.args = some f' → F.fn f') ∧
   (invoke d.target d.args).run P w₁' = .ok (.enter g' args) w₂ ∧
   (F.depth.isSome = true → 1 ≤ n) ∧
   CallsIn F (n - 1) P g' args w₂ (rangePost F n P l Q { a with defers := mark ++ a.defers })) :
  InF f F n P (.rangeFunc g ps assign body) Q a w := by
 intro b k cs hbf hro hb hr
 obtain ⟨l, mark, w₁, d, w₁', g', args, w₂, he, hres, hlead, hinv, hn, hF, hcall⟩ := h
 rw [← hro, ← hbf] at he
 have h0 : (lone (b.atR a (.code (.rangeFunc g ps assign body) :: k)) cs w).fenced P F := by
  refine fenced_lone (.inl hb) (fun f' hf' => hlead f' ?_) (Fence.room_le hr (by omega))
  have hev := Frame.eval_atR b a (.code (.rangeFunc g ps assign body) :: k)
  simp only [Frame.atR] at hev
  simp only [Frame.about, Frame.atR, he, hev, hres] at hf'
  exact hf'
 have henter := stepR_rangeFunc (P := P) (b := b) (a := a) (k := k) (cs := cs) (w := w) he hres hinv
 have hroom : F.room ((b.atR { a with defers := mark ++ a.defers } (.inRangeFunc l :: k) :: cs).length + 1 + (n - 1)) := Fence.room_enter hr hn
 obtain ⟨e, w₃, fr, hR, hsteps, hfn, hleave⟩ := hcall (b.atR { a with defers := mark ++ a.defers } (.inRangeFunc l :: k) :: cs) hroom
 cases e with
 | outgrown =>
  obtain ⟨a₀, w₀, hq⟩ := hR
  exact ⟨.outgrown, a₀, w₀, hq, .inr (Outgrown.of_steps (.one henter) hsteps)⟩
 | returned v =>
  have hl : (lone fr (b.atR { a with defers := mark ++ a.defers } (.inRangeFunc l :: k) :: cs) w₃).fenced P F := fenced_leaving (hfn ▸ hF) hroom hleave
  obtain ⟨jump, w₄, hend, hj⟩ := hR
  have sback : StepsIn (Machine.fenced P F) P (lone (b.atR a (.code (.rangeFunc g ps assign body) :: k)) cs w) (lone (b.atR { a with defers := mark ++ a.defers } ((jump.map Item.code).toList ++ k)) cs w₄) := by
   refine .head h0 henter (StepsIn.trans hsteps (.head hl ?_ (.one (fenced_calm (fr := b.atR { a with defers := mark ++ a.defers } (.endRangeFunc l :: k)) hb hr rfl) (stepR_endRangeFunc hend))))
   rw [← finish_atR_inRangeFunc l v]; exact step_leave_returned hleave
  cases jump with
  | none => exact ⟨.normal, _, w₄, hj, sback⟩
  | some c =>
   obtain ⟨e', a'', w₅, hq, harr⟩ := hj b k cs hro hb hr
   exact ⟨e', a'', w₅, hq, .of_steps sback harr⟩
 | panicked chain =>
  have hl : (lone fr (b.atR { a with defers := mark ++ a.defers } (.inRangeFunc l :: k) :: cs) w₃).fenced P F := fenced_leaving (hfn ▸ hF) hroom hleave
  refine ⟨.panic chain, _, w₃, hR, .inRangeFunc l :: k, .head h0 henter (StepsIn.trans hsteps (.one hl ?_))⟩
  rw [← Frame.raise_atR]; exact step_leave_panicked hleave
theorem WB_rangeFunc {g : Operand} {ps : Array Nat} {assign body : Code} {gf : FuncId} {cap : List AV} {opd : Opd} (hgo : compOpd fx.vars [] g = opd) (hg : evalO s.vals [] opd = .fn (.func gf) cap) (hvl : s.vals.length ≤ fx.vars.length)
  (hfr : fx.r = none)
  (h : (AC P gf (.yld s.heap.length :: cap) (s.heap ++ [.loop (newLoopF f fx s.vals ps assign body)]) fun _ σ' => afterLoop P fx s.vals s.heap.length Q σ') ∨
   ∃ ch, ACp P gf (.yld s.heap.length :: cap) (s.heap ++ [.loop (newLoopF f fx s.vals ps assign body)]) ch fun σ' => Q (.panic ch) ⟨s.vals, σ'⟩) :
  WB f P fx (.rangeFunc g ps assign body) s Q := by
 intro m X en ac w hs hr
 have hgv : VRel m X w (.fn (.func gf) cap) (ac.eval g) := by
  have := evalO_rel (ops := []) (ρ := []) (ds := ac.defers) (tmps := ac.tmps) hs.vars (fun j t hj _ => by simp at hj) g
  simp only [List.map_nil] at this
  rw [hgo, hg] at this; exact this
 simp only [VRel] at hgv
 obtain ⟨vs, hge, hcap⟩ := hgv
 refine InF_rangeFunc ?_
 have rest : ∀ (w1 : World) (mark : List Deferred) (d : Nat), HRel m X s.heap w1 → Step s.heap.length m X w m w1 → Mono m X w m X w1 → DRel m X en w1 (mark ++ ac.defers) →
   ∀ w2, w2 = w1.alloc (.loop { state := .ready, pending := none, fn := f, tmps := ac.tmps, params := ps, assign, body, defers := d }) →
   ∃ (dd : Deferred) (w₁' : World) (gg : FuncId) (args : Array Value) (w₂ : World),
   (resolve ac.eval (rangeCall g w1.heap.size) 0).run P w2 = .ok dd w₁' ∧ (∀ f', Target.leads P w₁' dd.target dd.args = some f' → (fen m fx.r).fn f') ∧ (invoke dd.target dd.args).run P w₁' = .ok (.enter gg args) w₂ ∧
   ((fen m fx.r).depth.isSome = true → 1 ≤ 0) ∧ CallsIn (fen m fx.r) (0 - 1) P gg args w₂ (rangePost (fen m fx.r) 0 P w1.heap.size (Lift fx m X en w Q) { ac with defers := mark ++ ac.defers }) := by
  intro w1 mark d hh1 hst1 hm1 hd1 w2 hw2
  obtain ⟨k1, k2, k3⟩ := hh1.alloc (.loop { state := .ready, pending := none, fn := f, tmps := ac.tmps, params := ps, assign, body, defers := d }) (.loop (newLoopF f fx s.vals ps assign body)) (fun hm => by
   simp only [ORel, newLoopF, newLoop]
   exact ⟨ac.tmps, d, f, hs.size, (hs.vars.mono hm1).mono hm, by rw [heap_alloc_new], hvl, fun f' h => by cases h; rfl⟩)
  rw [← hw2] at k1 k2 k3
  have hst2 := hst1.trans k2
  refine ⟨{ target := .fn (.func gf) vs.toArray, args := #[.func (.yield w1.heap.size) #[] #[]] }, w2, gf, (Value.func (.yield w1.heap.size) #[] #[] :: vs).toArray, w2, ?_, fun _ _ => trivial, ?_, by simp [fen, Fence.wide], ?_⟩
  ·have : Act.eval ac (.const (.func (.yield w1.heap.size) #[] #[])) = .func (.yield w1.heap.size) #[] #[] := rfl
   simp [resolve, rangeCall, hge, Deferred.ofValue, this]
  ·simp only [invoke]
   rcases h with h | ⟨ch, h⟩
   ·rw [h.1]; simp
   ·rw [h.1]; simp
  ·rcases h with h | ⟨ch, h⟩
   rotate_left
   ·have hcall := h.2 _ X w2 (Value.func (.yield w1.heap.size) #[] #[] :: vs) (by
     simp only [VRels, VRel]
     exact ⟨⟨w1.heap.size, LM.put_same _ _ _, rfl⟩, (hcap.mono hm1).mono k3⟩) k1
    refine CallsIn.mono (F := fen m fx.r) (n := 0) hcall ?_
    rintro e w3 ⟨σ', m', rfl, hq, hh3, hst3, hle⟩
    simp only [rangePost]
    have hmono3 := k1.mono_of_step hst3 (Nat.le_refl _)
    have hb := hs.base
    have a1 := hst2.less hb
    have a2 := hst3.less (show fx.n0 ≤ (s.heap ++ [AObj.loop (newLoopF f fx s.vals ps assign body)]).length by simp; omega)
    refine ⟨_, m', hq, ⟨hs.size, (((hs.vars.mono hm1).mono k3).mono hmono3), (hd1.step k2).step hst3, hh3, ?_, ?_⟩, a1.trans a2⟩
    ·simp at hle; dsimp only; omega
    ·have := hs.entry; have h1 := hst1.size; have h2 := k2.size; have h3 := hst3.size; omega
   ·have hcall := h.2 _ X w2 (Value.func (.yield w1.heap.size) #[] #[] :: vs) (by
     simp only [VRels, VRel]
     exact ⟨⟨w1.heap.size, LM.put_same _ _ _, rfl⟩, (hcap.mono hm1).mono k3⟩) k1
    refine CallsIn.mono (F := fen m fx.r) (n := 0) hcall ?_
    rintro e w3 ⟨c, rv, σ', m', rfl, ⟨r2, hl2, hnb, hq⟩, hv, hh3, hst3, hle⟩
    simp only [rangePost]
    have hlt : s.heap.length < (s.heap ++ [AObj.loop (newLoopF f fx s.vals ps assign body)]).length := by simp
    have hb3 : m' s.heap.length = some w1.heap.size := by rw [hst3.keep _ hlt]; exact LM.put_same _ _ _
    have hmono3 := k1.mono_of_step hst3 (Nat.le_refl _)
    obtain ⟨tm2, d2, fi2, v1, v2, v3, v4⟩ : ∃ (tmps : Array Value) (d fi : Nat), tmps.size = r2.ntmps ∧ ARel m' X w3 r2.vars r2.vals tmps ∧ w3.heap[w1.heap.size]? = some (.loop { state := r2.state, pending := r2.pending, fn := fi, tmps, params := r2.params.toArray, assign := r2.assign, body := r2.body, defers := d }) ∧ r2.vals.length ≤ r2.vars.length ∧ ∀ f, r2.fi = some f → fi = f := by
     have := hh3.obj _ _ hl2; rw [hb3] at this; simpa only [ORel] using this
    refine ⟨r2.pending, _, run_endLoop v3 hnb, ?_⟩
    obtain ⟨x1, x2, x3⟩ := hh3.setLoop hb3 hl2 v3 .exhausted r2.pending
    have hst4 : Step fx.n0 m X w m' (w3.putObj w1.heap.size (.loop { ({ state := r2.state, pending := r2.pending, fn := fi2, tmps := tm2, params := r2.params.toArray, assign := r2.assign, body := r2.body, defers := d2 } : Loop) with state := .exhausted })) := by
     have hb := hs.base
     have a1 := hst2.less hb
     have a2 := hst3.less (show fx.n0 ≤ (s.heap ++ [AObj.loop (newLoopF f fx s.vals ps assign body)]).length by simp; omega)
     have a3 := x2.less (show fx.n0 ≤ σ'.length by simp at hle; omega)
     exact (a1.trans a2).trans a3
    have hs4 : SRel fx m' X en ⟨s.vals, AM.setLoop σ' s.heap.length r2 .exhausted r2.pending⟩ { ac with defers := mark ++ ac.defers } (w3.putObj w1.heap.size (.loop { ({ state := r2.state, pending := r2.pending, fn := fi2, tmps := tm2, params := r2.params.toArray, assign := r2.assign, body := r2.body, defers := d2 } : Loop) with state := .exhausted })) := by
     refine ⟨hs.size, ((((hs.vars.mono hm1).mono k3).mono hmono3).mono x3), ?_, x1, ?_, ?_⟩
     ·exact ((hd1.step k2).step hst3).step x2
     ·have := hs.base; simp [AM.setLoop] at hle ⊢; omega
     ·have := hs.entry; have h1 := hst1.size; have h2 := k2.size; have h3 := hst3.size; simp; omega
    cases hp : r2.pending with
    | none =>
     rw [hp] at hq hs4 hst4
     dsimp only
     exact ⟨_, m', hq, hs4, hst4⟩
    | some cj =>
     rw [hp] at hq hs4 hst4
     dsimp only at hq ⊢
     exact W.later hq hr hs4 hst4
 obtain ⟨a1, a2, a3⟩ := hs.heap.alloc0 (.deferred (some []))
 have hd1 : DRel m X en (w.alloc (.deferred (some []))) ([{ target := .collected w.heap.size, args := #[] }] ++ ac.defers) := by
  obtain ⟨bs, g1, g2, g3⟩ := hs.defs.step a2
  refine ⟨w.heap.size :: bs, by simp [g1], ?_, ?_⟩
  ·refine List.nodup_cons.2 ⟨fun hmem => ?_, g2⟩
   obtain ⟨bs0, q1, q2, q3⟩ := hs.defs
   have : bs0 = bs := by
    have e := q1.symm.trans g1
    have inj : ∀ (x y : List Nat), x.map (fun b => ({ target := .collected b, args := #[] } : Deferred)) = y.map (fun b => { target := .collected b, args := #[] }) → x = y := by
     intro x
     induction x with
     | nil => intro y hy; cases y with
      | nil => rfl
      | cons => simp at hy
     | cons a x ih => intro y hy; cases y with
      | nil => simp at hy
      | cons b y => simp at hy; rw [hy.1, ih y (by simpa using hy.2)]
    exact inj _ _ (List.append_cancel_right e)
   subst this
   have := (q3 _ hmem).2.1; omega
  ·intro b hb
   rcases List.mem_cons.1 hb with rfl | hb
   ·refine ⟨hs.entry, by simp, heap_alloc_new _ _, ?_⟩
    rintro (hx | ⟨l, hl⟩)
    ·have := hs.heap.xb _ hx; omega
    ·have := (hs.heap.dom l _ hl).2; omega
   ·exact g3 b hb
 obtain ⟨dd, w₁', gg, args, w₂, r1, r2, r3, r4, r5⟩ := rest (w.alloc (.deferred (some []))) [{ target := .collected w.heap.size, args := #[] }] w.heap.size a1 a2 a3 hd1 _ rfl
 have hsz : (w.alloc (.deferred (some []))).heap.size = w.heap.size + 1 := by simp
 rw [hsz] at r1 r5
 have hro : (fen m fx.r).round = none := by rw [hfr]; rfl
 refine ⟨w.heap.size + 1, [{ target := .collected w.heap.size, args := #[] }], _, dd, w₁', gg, args, w₂, ?_, r1, r2, r3, r4, r5⟩
 rw [hro]; exact run_enterLoop_outer f ac.tmps ps assign body
end Go.Proofs.YtpnghcaccfnngaaGreatDoor.AM
namespace Go.Proofs.YtpnghcaccfnngaaGreatDoor.AM
variable [Dr]
open Go
variable {P : Program} {fx : Fx}
theorem callsIn_of_InF {F : Fence} {n : Nat} {f : FuncId} {fn : Func} {c : Code} {args : Array Value} {w : World} {R : Ending → World → Prop}
  (hf : P.funcs[f]? = some fn) (hb : fn.body = some c) (hF : F.fn f)
  (h : InF f F n P c (bodyPostM F n P fn R) { tmps := args ++ Array.replicate (fn.ntmps - args.size) undef, defers := [] } w) (hro : F.round = none := by rfl) : CallsIn F n P f args w R := by
 refine ⟨hF, fun cs hr => ?_⟩
 let b : Frame := { (default : Frame) with fn := f, kind := .normal, roundOf := none }
 have henter : Frame.enter P f args .normal =
   b.atR { tmps := args ++ Array.replicate (fn.ntmps - args.size) undef, defers := [] } [.code c] := by
  simp [Frame.enter, Frame.atR, hf, hb, b]
 obtain ⟨e, a', w', hq, harr⟩ := h b [] cs rfl hro.symm hF hr
 rw [← henter] at harr
 cases e with
 | normal =>
  obtain ⟨e', w'', fr', hR, hs, hfn, hl⟩ := leaves_stepsInM a'.defers .returning w' { b.atR a' [] with mode := .returning } cs rfl rfl rfl hf rfl hF hr hq
  exact ⟨e', w'', fr', hR, ComesIn.of_steps (StepsIn.trans harr (.one (fenced_calm (fr := b.atR a' []) hF hr rfl) (stepR_end rfl))) hs, hfn, hl⟩
 | ret =>
  obtain ⟨todo, hs₀⟩ := harr.1 rfl
  obtain ⟨e', w'', fr', hR, hs, hfn, hl⟩ := leaves_stepsInM a'.defers .returning w' { b.atR a' todo with mode := .returning } cs rfl rfl rfl hf rfl hF hr hq
  exact ⟨e', w'', fr', hR, ComesIn.of_steps hs₀ hs, hfn, hl⟩
 | panic chain =>
  obtain ⟨todo, hs₀⟩ := harr
  obtain ⟨e', w'', fr', hR, hs, hfn, hl⟩ := leaves_stepsInM a'.defers (.panicking chain) w' { b.atR a' todo with mode := .panicking chain } cs rfl rfl rfl hf rfl hF hr hq
  exact ⟨e', w'', fr', hR, ComesIn.of_steps hs₀ hs, hfn, hl⟩
 | exit id => exact hq.elim
 | goto l => exact hq.elim
 | outgrown => exact ⟨.outgrown, w', b, hq, harr.resolve_left (by simp [b]), rfl, trivial⟩
theorem leaves_marksD {F : Fence} {n : Nat} {fn : Func} {tmps : Array Value} {R : Ending → World → Prop} {e : Nat} {w : World} {u : FrameMode} {ds : List Deferred} (hu : u ≠ .run) : ∀ (bs : List Nat) (w1 : World), Taken w w1 e → bs.Nodup → (∀ b ∈ bs, e ≤ b ∧ w1.heap[b]? = some (.deferred (some []))) →
  (∀ w2, Taken w w2 e → LeavesInM F n P fn tmps R ds u w2) → LeavesInM F n P fn tmps R ((bs.map fun b => { target := .collected b, args := #[] }) ++ ds) u w1
 | [], w1, ht, _, _, h => by
  simp only [List.map_nil, List.nil_append]
  exact h w1 ht
 | b :: bs, w1, ht, hnd, hall, h => by
  simp only [List.map_cons, List.cons_append, LeavesInM]
  obtain ⟨hb1, hb2⟩ := hall b (by simp)
  refine ⟨hu, .inl ⟨b, w1.putObj b (.deferred none), rfl, run_takeDeferred hb2, ?_⟩⟩
  refine leaves_marksD hu bs _ (ht.put hb1 hb2 none) (List.nodup_cons.1 hnd).2 ?_ h
  intro b' hb'
  have hne : b' ≠ b := by rintro rfl; exact (List.nodup_cons.1 hnd).1 hb'
  refine ⟨(hall b' (by simp [hb'])).1, ?_⟩
  rw [World.putObj_heap_other hne]; exact (hall b' (by simp [hb'])).2
theorem start_rel {f : FuncId} {fn : Func} {args : List AV} {cargs : List Value} {σ : List AObj} {vars : List Nat} {m : LM} {X : Nat → Prop} {w : World} (ha : VRels m X w args cargs) (hh : HRel m X σ w) (hargs : args.length ≤ fn.ntmps) :
  SRel ⟨vars, fn.ntmps, none, σ.length⟩ m X ⟨w.heap.size, []⟩ ⟨initVals vars args, σ⟩ { tmps := cargs.toArray ++ Array.replicate (fn.ntmps - cargs.toArray.size) Go.undef, defers := [] } w := by
 have hlen := ha.length
 refine ⟨by simp; omega, ?_, ⟨[], rfl, List.nodup_nil, by simp⟩, hh, Nat.le_refl _, Nat.le_refl _⟩
 intro i t hi
 have e1 : (initVals vars args).getD i .undef = args.getD t .undef := by
  simp only [initVals, List.getD, List.getElem?_map]
  rw [show vars[i]? = some t from hi]; rfl
 rw [e1]
 rw [Array.getD_eq_getD_getElem?]
 by_cases ht : t < cargs.length
 ·have e2 : (cargs.toArray ++ Array.replicate (fn.ntmps - cargs.toArray.size) Go.undef)[t]? = some cargs[t] := by
   rw [Array.getElem?_append_left (by simpa using ht)]; simp [ht]
  rw [e2]
  have := ha.getD t Go.undef
  simpa [List.getD, ht] using this
 ·have : args.getD t .undef = .undef := by simp [List.getD, List.getElem?_eq_none (show args.length ≤ t by omega)]
  rw [this]; simp [VRel]
end Go.Proofs.YtpnghcaccfnngaaGreatDoor.AM
namespace Go.Proofs.YtpnghcaccfnngaaGreatDoor.AM
variable [Dr]
open Go
variable {P : Program}
def PF (a : AV) : Prop := ∀ m X w m' X' w' v, VRel m X w a v → VRel m' X' w' a v
theorem PF_int {k : IntKind} {z : Int} : PF (.cv (.int k z)) := fun m X w m' X' w' v h => by simpa only [VRel, CV.rep] using h
theorem PF_ints {k : IntKind} : ∀ {zs : List Int}, PF (.agg (zs.map fun z => .cv (.int k z))) := by
 intro zs m X w m' X' w' v h
 simp only [VRel] at h ⊢
 obtain ⟨vs, rfl, h⟩ := h
 refine ⟨vs, rfl, ?_⟩
 induction zs generalizing vs with
 | nil => rw [VRels.nil' h]; simp [VRels]
 | cons z zs ih =>
  obtain ⟨u, us, rfl, h1, h2⟩ := h.cons
  simp only [List.map_cons, VRels]
  exact ⟨PF_int m X w m' X' w' u h1, ih us h2⟩
theorem AC_map {f : FuncId} {fn : Func} {c : Code} {vars : List Nat} {l : Nat} {σ : List AObj} {es : List (AV × AV)} {R : AV → Prop} (hf : P.funcs[f]? = some fn) (hb : fn.body = some c) (hen : Enter P f) (hargs : 1 ≤ fn.ntmps)
  (hl : σ[l]? = some (.map es)) (hes : ∀ p ∈ es, PF p.1 ∧ PF p.2)
  (h : ∀ bm ces clock, WX P ⟨vars, fn.ntmps, none, 1⟩ (GM 0 bm es ces clock) c ⟨initVals vars [.map 0], [.dead]⟩ fun e s' => match e with
   | .normal | .ret => ∃ r, resAll P vars s'.vals s'.heap fn.results.toList = some r ∧ ∃ v, FrzV scl s'.heap r v ∧ R v
   | _ => False) : AC P f [.map l] σ fun r τ => R r ∧ τ = σ := by
 refine ⟨hen, fun m X w cargs ha hh => ?_⟩
 refine callsIn_of_wp_marks hf hb trivial ?_
 have hlen := ha.length
 obtain ⟨v0, us, rfl, hv0, h2⟩ := ha.cons
 have h3 := VRels.nil' h2
 subst h3
 simp only [VRel] at hv0
 obtain ⟨bm, hbm, rfl⟩ := hv0
 have ho := hh.obj l _ hl
 rw [hbm] at ho
 simp only [ORel] at ho
 obtain ⟨ces, clock, hmp, hborn, hnd, hsz, hrel⟩ := ho
 have hbl : bm < w.heap.size := (hh.dom l bm hbm).2
 let m0 : LM := fun l' => if l' = 0 then some bm else none
 let X1 : Nat → Prop := fun b => X b ∨ b = bm
 have hm0 : ∀ l' b, m0 l' = some b → l' = 0 ∧ b = bm := fun l' b h => by
  show l' = 0 ∧ b = bm
  by_cases h0 : l' = 0
  ·subst h0; simp [m0] at h; exact ⟨rfl, h.symm⟩
  ·simp [m0, h0] at h
 have hh0 : HRel m0 X1 [.dead] w := by
  refine ⟨?_, ?_, ?_, ?_, ?_⟩
  ·rintro b (hb | rfl)
   ·exact hh.xb b hb
   ·exact hbl
  ·intro l' b h; obtain ⟨rfl, rfl⟩ := hm0 l' b h; exact ⟨by simp, hbl⟩
  ·intro l' b o h ho hv; obtain ⟨rfl, rfl⟩ := hm0 l' b h; simp at ho; subst ho; exact hv.elim
  ·intro l1 l2 b o h h' ho hv; obtain ⟨rfl, _⟩ := hm0 l1 b h; exact Nat.zero_le _
  ·intro l' o ho
   cases l' with
   | zero => simp at ho; subst ho; simp [ORel]
   | succ l' => simp at ho
 have hs0 : SRel ⟨vars, fn.ntmps, none, 1⟩ m0 X1 ⟨w.heap.size, []⟩ ⟨initVals vars [.map 0], [.dead]⟩ { tmps := #[Value.map (some bm)] ++ Array.replicate (fn.ntmps - #[Value.map (some bm)].size) Go.undef, defers := [] } w := by
  have := start_rel (f := f) (fn := fn) (vars := vars) (args := [.map 0]) (cargs := [.map (some bm)]) (σ := [.dead]) (m := m0) (X := X1) (w := w) (by simp only [VRels, VRel]; exact ⟨⟨bm, by simp [m0], rfl⟩, trivial⟩) hh0 (by simpa using hargs)
  exact this
 have key := h bm ces clock m0 X1 ⟨w.heap.size, []⟩ _ w hs0 (by intro l hl; cases hl) ⟨by simp [m0], .inr rfl, hmp, hborn, hnd, hsz, fun i k a hi => by
  obtain ⟨e, g1, g2, g3⟩ := hrel i k a hi
  obtain ⟨p1, p2⟩ := hes (k, a) (List.mem_of_getElem? hi)
  exact ⟨e, g1, fun m' X' w' => p1 _ _ _ _ _ _ _ g2, fun m' X' w' => p2 _ _ _ _ _ _ _ g3⟩⟩
 refine wpIn_mono key ?_
 rintro e ac' w' ⟨s', m', hq, hs', hst⟩
 have fin : (∃ r, resAll P vars s'.vals s'.heap fn.results.toList = some r ∧ ∃ v, FrzV scl s'.heap r v ∧ R v) → LeavesInM Fence.wide 0 P fn ac'.tmps (CPost m X w σ fun r τ => R r ∧ τ = σ) ac'.defers .returning w' := by
  rintro ⟨r, hr, v, hfr, hR⟩
  obtain ⟨bs, hbs, hnd', hall⟩ := hs'.defs
  rw [hbs, List.append_nil]
  refine leaves_marks (e := w.heap.size) (w := w') bs w' (Taken.refl _ _) hnd' (fun b hb => ⟨(hall b hb).1, (hall b hb).2.2.1⟩) ?_
  intro w2 ht
  have hh2 := hs'.heap.taken ht
  have hst2 := hst.taken ht (Nat.le_refl _)
  have hs2 : SRel ⟨vars, fn.ntmps, none, 1⟩ m' X1 ⟨0, []⟩ s' { ac' with defers := [] } w2 :=
   ⟨hs'.size, hs'.vars.mono ht.mono, ⟨[], rfl, List.nodup_nil, by simp⟩, hh2, hs'.base, Nat.zero_le _⟩
  obtain ⟨cv, k1, k2⟩ := res_sound (fx := ⟨vars, fn.ntmps, none, 1⟩) (fn := fn) hs2 hr
  have hsame : ∀ b, b < w.heap.size → w2.heap[b]? = w.heap[b]? := fun b hb => by
   by_cases hbb : b = bm
   ·subst hbb; exact hst2.fr _ hb (.inl (.inr rfl))
   ·exact hst2.fr b hb (.inr fun l' hl' => hbb (hm0 l' b hl').2)
  refine ⟨cv, k1, cv, v, σ, m, rfl, ⟨hR, rfl⟩, ?_, hh.below hst2.size hsame, ?_, Nat.le_refl _⟩
  ·refine frz_rel hh2 (fun c v hp h => scl_rep c v hp h) ?_ hfr cv k2
   intro l' b o hl' ho hlive hb
   have hbs : b < w.heap.size := by
    rcases hb with hb | ⟨l2, hl2⟩
    ·exact hh.xb b hb
    ·exact (hh.dom l2 b hl2).2
   rcases hst2.new l' b hl' with ⟨l2, hl2⟩ | hge
   ·obtain ⟨_, rfl⟩ := hm0 l2 b hl2
    exact hh2.own l' _ o hl' ho hlive (.inr rfl)
   ·omega
  ·exact ⟨fun _ _ => rfl, fun l b hl => .inl ⟨l, hl⟩, hst2.size, fun b hb _ => hsame b hb, hst2.shp, hst2.os, hst2.tape, hst2.output, hst2.drawn⟩
 cases e with
 | normal => exact fin hq
 | ret => exact fin hq
 | exit i => exact hq.elim
 | goto l => exact hq.elim
 | panic ch => exact hq.elim
 | outgrown => exact hq.elim
end Go.Proofs.YtpnghcaccfnngaaGreatDoor.AM
namespace Go.Proofs.YtpnghcaccfnngaaGreatDoor.AM
variable [Dr]
open Go
variable {P : Program} {fx : Fx} {m m' : LM} {X X' : Nat → Prop} {en : En} {w w' : World} {s : St} {ac : Act}
theorem wp_op1 {ro : Option Nat} {ops : Array Oper} {Q : Exit → Act → World → Prop} {l : List Nat} {i : Nat} {o : Oper} {v : Value} (ho : ops[i]? = some o) (hg : o.guard = none) (hnd : ∀ c, o.op ≠ .defer c)
  (hrun : (execOp ac.eval o).run P w = .ok (.value v) w' ∨ ((execOp ac.eval o).run P w = .ok .skip w' ∧ v = Go.undef)) (h : wpOpsIn (wfen ro) 0 P ops Q l (ac.put o.dst v) w') : wpOpsIn (wfen ro) 0 P ops Q (i :: l) ac w := by
 have hw : Region.wanted o (yielded ops ac.tmps) = true := by simp [Region.wanted, hg]
 simp only [wpOpsIn, ho, hw, if_true]
 refine ⟨fun _ _ => trivial, ?_⟩
 rcases hrun with hrun | ⟨hrun, rfl⟩
 ·rw [Oper.semAt_eq _ _ _ hnd, hrun]
  exact h
 ·rw [Oper.semAt_eq _ _ _ hnd, hrun]
  exact h
theorem wp_sched {ro : Option Nat} {ops : Array Oper} {Q : Exit → Act → World → Prop} {dir : Nat → List Nat} {n : Nat} (Inv : List Nat → Act → World → Prop)
  (hstep : ∀ D i ac w, i < n → i ∉ D → (∀ e ∈ dir i, e ∈ D) → Inv D ac w → ∃ (o : Oper) (v : Value) (w' : World), ops[i]? = some o ∧ o.guard = none ∧ (∀ c, o.op ≠ .defer c) ∧
   ((execOp ac.eval o).run P w = .ok (.value v) w' ∨ ((execOp ac.eval o).run P w = .ok .skip w' ∧ v = Go.undef)) ∧ Inv (i :: D) (ac.put o.dst v) w')
  (hend : ∀ D ac w, (∀ i, i < n → i ∈ D) → Inv D ac w → Q .normal ac w) : ∀ (l D : List Nat) (ac : Act) (w : World), Sched dir n D l → Inv D ac w → wpOpsIn (wfen ro) 0 P ops Q l ac w := by
 intro l
 induction l with
 | nil =>
  intro D ac w hs hi
  cases hs with
  | nil h => exact hend D ac w h hi
 | cons i l ih =>
  intro D ac w hs hi
  cases hs with
  | cons h1 h2 h3 h4 =>
   obtain ⟨o, v, w', g1, g2, g3, g4, g5⟩ := hstep D i ac w h1 h2 h3 hi
   exact wp_op1 g1 g2 g3 g4 (ih (i :: D) _ _ h4 g5)
theorem compAll_get {vars : List Nat} {dsts : List (Option Nat)} : ∀ {os : List Oper} {is : List Ins}, compAll P vars dsts os = some is → os.length = is.length ∧ ∀ (j : Nat) (i : Ins), is[j]? = some i → ∃ o, os[j]? = some o ∧ compIns P vars dsts o = some i
 | [], is, h => by simp [compAll] at h; subst h; simp
 | o :: os, is, h => by
  simp only [compAll] at h
  split at h
  ·cases h
  ·rename_i i hi
   split at h
   ·cases h
   ·rename_i is' his
    cases h
    obtain ⟨h1, h2⟩ := compAll_get his
    refine ⟨by simp [h1], fun j i' hj => ?_⟩
    cases j with
    | zero => simp at hj; subst hj; exact ⟨o, by simp, hi⟩
    | succ j => simpa using h2 j i' (by simpa using hj)
def opShape (P : Program) (o : Oper) (io : IOp) (os : List Operand) : Prop :=
 match io with
 | .lookup ks z ok => ∃ t x ix kt e, o.op = .lookup t x ix ok ∧ P.underlying t = some (.map kt e) ∧ keyK P kt = some ks ∧ zeroOf P e = some z ∧ os = [x, ix]
 | .mapent ks z => ∃ t x k kt e, o.op = .mapEntry t x k ∧ P.underlying t = some (.map kt e) ∧ keyK P kt = some ks ∧ zeroOf P e = some z ∧ os = [x, k]
 | .entst => ∃ t x st v, o.op = .entryStore t x st v ∧ os = [x, st, v]
 | _ => True
theorem compBuiltin_shape {b : Builtin} {ats : List TypeId} {io : IOp} (h : compBuiltin P b ats = some io) (o : Oper) (os : List Operand) : opShape P o io os := by
 unfold compBuiltin at h
 split at h
 all_goals (repeat' (split at h))
 all_goals first
  | (cases h; done)
  | (cases h; trivial)
  | (simp only [Option.map_eq_some_iff] at h; obtain ⟨_, _, he⟩ := h; cases he; trivial)
  | (simp only [Option.bind_eq_some_iff] at h; obtain ⟨_, _, _, _, he⟩ := h; split at he <;> first | (cases he; done) | (cases he; trivial))
theorem compOp_shape {cm : Bool} {o : Oper} {io : IOp} {os : List Operand} (h : compOp P cm o = some (io, os)) : opShape P o io os := by
 unfold compOp at h
 split at h
 all_goals (repeat' (split at h))
 all_goals first
  | (cases h; done)
  | (cases h; trivial)
  | (rename_i ho; simp only [Option.map_eq_some_iff] at h; obtain ⟨_, hb, he⟩ := h; cases he; exact compBuiltin_shape hb _ _)
  | (simp only [Option.map_eq_some_iff] at h; obtain ⟨_, _, he⟩ := h; cases he; trivial)
  | (simp only [Option.bind_eq_some_iff, Option.map_eq_some_iff] at h; obtain ⟨_, _, _, _, he⟩ := h; cases he; trivial)
  | (simp only [Option.bind_eq_some_iff, Option.map_eq_some_iff] at h; obtain ⟨_, _, he⟩ := h; split at he <;> first | (cases he; done) | (cases he; trivial))
  | (simp only [Option.bind_eq_some_iff, Option.map_eq_some_iff] at h; obtain ⟨_, _, _, _, he⟩ := h; split at he <;> first | (cases he; done) | (cases he; trivial))
  | skip
 ·rename_i ho
  simp only [Option.bind_eq_some_iff] at h
  obtain ⟨g, _, he⟩ := h
  split at he
  ·simp only [Option.map_eq_some_iff] at he; obtain ⟨_, _, he⟩ := he; cases he; trivial
  ·cases he; trivial
 ·rename_i ho _ _ _ hu
  simp only [Option.bind_eq_some_iff, Option.map_eq_some_iff] at h
  obtain ⟨ks, hk, z, hz, he⟩ := h
  cases he
  exact ⟨_, _, _, _, _, ho, hu, hk, hz, rfl⟩
 ·simp only [Option.bind_eq_some_iff, Option.map_eq_some_iff] at h
  obtain ⟨_, _, _, _, _, _, he⟩ := h
  cases he; trivial
 ·rename_i ho _ _ _ hu
  simp only [Option.bind_eq_some_iff, Option.map_eq_some_iff] at h
  obtain ⟨ks, hk, z, hz, he⟩ := h
  cases he
  exact ⟨_, _, _, _, _, ho, hu, hk, hz, rfl⟩
 ·rename_i ho
  cases h
  exact ⟨_, _, _, _, ho, rfl⟩
theorem ERels.pf {es : List (AV × AV)} {ces : List MapEntry} (h : ERels m X w es ces) (hp : ∀ p ∈ es, PF p.1 ∧ PF p.2) : ∀ m' X' w', ERels m' X' w' es ces := by
 intro m' X' w'
 induction es generalizing ces with
 | nil => cases ces with
  | nil => trivial
  | cons c cs => exact h.elim
 | cons p es ih =>
  obtain ⟨k, a⟩ := p
  cases ces with
  | nil => simp [ERels] at h
  | cons c cs =>
   obtain ⟨h1, h2, h3⟩ := h
   have := hp (k, a) (by simp)
   exact ⟨this.1 _ _ _ _ _ _ _ h1, this.2 _ _ _ _ _ _ _ h2, ih h3 fun q hq => hp q (by simp [hq])⟩
theorem ERels.append {es es' : List (AV × AV)} {ces ces' : List MapEntry} (h : ERels m X w es ces) (h' : ERels m X w es' ces') : ERels m X w (es ++ es') (ces ++ ces') := by
 induction es generalizing ces with
 | nil => cases ces with
  | nil => exact h'
  | cons c cs => exact h.elim
 | cons p es ih =>
  obtain ⟨k, a⟩ := p
  cases ces with
  | nil => simp [ERels] at h
  | cons c cs => exact ⟨h.1, h.2.1, ih h.2.2⟩
theorem findKey_append {ks : Bool × List KK} {k z : AV} (hk : keyEqK ks k k = some true) : ∀ (es : List (AV × AV)) (i : Nat), findKey ks k es i = some none → findKey ks k (es ++ [(k, z)]) i = some (some (i + es.length, z))
 | [], i, _ => by simp [findKey, hk]
 | (k', a) :: es, i, h => by
  simp only [findKey] at h
  split at h
  ·cases h
  ·rename_i hr
   have := findKey_append (z := z) hk es (i + 1) h
   simp only [List.cons_append, findKey, hr, this, List.length_cons]
   congr 3; omega
  ·cases h
theorem modify_borns {ces : Array MapEntry} {j : Nat} {v : Value} : (ces.modify j fun e => { e with val := v }).toList.map (·.born) = ces.toList.map (·.born) := by
 apply List.ext_getElem?
 intro q
 simp only [List.getElem?_map, Array.getElem?_toList, Array.getElem?_modify]
 split <;> cases ces[q]? <;> simp
theorem entry_run {t kt e : TypeId} {ks : Bool × List KK} {z k : AV} {y : Value} {es : List (AV × AV)} {ces : Array MapEntry} {clock bm : Nat} {res : Option (Nat × AV)}
  (hu : P.underlying t = some (.map kt e)) (hks : keyK P kt = some ks) (hz : zeroOf P e = some z) (hzp : PF z) (hi : keyIs ks k = true) (hkk : keyEqK ks k k = some true) (hk : ∀ m X w, VRel m X w k y)
  (hmp : w.heap[bm]? = some (.map ces clock)) (hborn : ∀ e ∈ ces, e.born < clock) (hnd : (ces.toList.map (·.born)).Nodup) (hsz : ces.size = es.length) (hE : ∀ m X w, ERels m X w es ces.toList)
  (hg : ∀ (i : Nat) (k a : AV), es[i]? = some (k, a) → ∃ e : MapEntry, ces[i]? = some e ∧ (∀ m X w, VRel m X w k e.key) ∧ ∀ m X w, VRel m X w a e.val) (hres : findKey ks k es 0 = some res) :
  ∃ (ces1 : Array MapEntry) (clk1 j born : Nat) (v0 : Value), (Instr.mapEntry t (.map (some bm)) y).run P w = .ok (.tuple #[v0, .int .i64 born]) (w.putObj bm (.map ces1 clk1)) ∧ (∀ m X w, VRel m X w ((res.map (·.2)).getD z) v0) ∧
   (∃ es1 res1, findKey ks k es1 0 = some res1 ∧ (res1.map (·.2)).getD z = (res.map (·.2)).getD z ∧ ∀ m X w, ERels m X w es1 ces1.toList) ∧
   (∀ (t' : TypeId) (w' : World) (nv : Value), w'.heap[bm]? = some (.map ces1 clk1) → (Instr.entryStore t' (.map (some bm)) (.int .i64 born) nv).run P w' = .ok () (w'.putObj bm (.map (ces1.modify j fun e => { e with val := nv }) clk1))) ∧
   (∀ (a' : AV) (nv : Value), (∀ m X w, VRel m X w a' nv) → (∀ e ∈ (ces1.modify j fun e => { e with val := nv }), e.born < clk1) ∧ ((ces1.modify j fun e => { e with val := nv }).toList.map (·.born)).Nodup ∧
    (ces1.modify j fun e => { e with val := nv }).size = (mapPut es k a' res).length ∧
    ∀ (i : Nat) (k' a'' : AV), (mapPut es k a' res)[i]? = some (k', a'') → ∃ e : MapEntry, (ces1.modify j fun e => { e with val := nv })[i]? = some e ∧ (∀ m X w, VRel m X w k' e.key) ∧ ∀ m X w, VRel m X w a'' e.val) := by
 obtain ⟨res', h1, h2⟩ := findKey_sound (P := P) (m := fun _ => none) (X := fun _ => False) (w := w) hks (hk _ _ _) (hE _ _ _) hres
 have hck := checkKey_sound (P := P) (m := fun _ => none) (X := fun _ => False) (w := w) hks hi (hk _ _ _) false
 have hbm : bm < w.heap.size := (Array.getElem?_eq_some_iff.1 hmp).1
 have store : ∀ (ces1 : Array MapEntry) (clk1 j : Nat) (e1 : MapEntry), (ces1.toList.map (·.born)).Nodup → ces1[j]? = some e1 → ∀ (t' : TypeId) (w' : World) (nv : Value), w'.heap[bm]? = some (.map ces1 clk1) → (Instr.entryStore t' (.map (some bm)) (.int .i64 e1.born) nv).run P w' = .ok () (w'.putObj bm (.map (ces1.modify j fun e => { e with val := nv }) clk1)) := by
  intro ces1 clk1 j e1 hn1 hj t' w' nv hw'
  have hidx : ces1.findIdx? (fun e => (e.born : Int) == (e1.born : Int)) = some j := by
   rw [Array.findIdx?_eq_some_iff_getElem]
   obtain ⟨hj1, hj2⟩ := Array.getElem?_eq_some_iff.1 hj
   refine ⟨hj1, by rw [hj2]; simp, fun q hq => ?_⟩
   have hq1 : ces1[q]? = some (ces1[q]'(by omega)) := Array.getElem?_eq_getElem _
   have : ¬ (ces1[q]'(by omega)).born = e1.born := fun h => by
    have := born_inj hn1 hq1 hj h
    omega
   have h' : ¬ (((ces1[q]'(by omega)).born : Int) = (e1.born : Int)) := by omega
   simpa using h'
  simp [Instr.entryStore, MapKept.run_getObj_map hw', asInt, asIntOf, hidx, run_setObj' hw']
 cases res with
 | none =>
  cases res' with
  | some q => exact h2.elim
  | none =>
   unfold zeroOf at hz
   cases hin : P.info? e with
   | none => rw [hin] at hz; cases hz
   | some inf =>
   rw [hin] at hz
   simp only [Option.bind_some, Option.map_eq_some_iff] at hz
   obtain ⟨z0, hz0, rfl⟩ := hz
   have hzr : ∀ m X w, VRel m X w (ofConst z0) z0 := fun m X w => ofConst_rel z0
   have hnd1 : ((ces.push { key := y, val := z0, born := clock }).toList.map (·.born)).Nodup := by
    simp only [Array.toList_push, List.map_append, List.map_cons, List.map_nil]
    refine List.nodup_append.2 ⟨hnd, by simp, ?_⟩
    intro p hp q hq
    simp only [List.mem_singleton] at hq
    subst hq
    obtain ⟨e', he', rfl⟩ := List.mem_map.1 hp
    exact Nat.ne_of_lt (hborn e' (by simpa using he'))
   have hat : (ces.push { key := y, val := z0, born := clock })[ces.size]? = some { key := y, val := z0, born := clock } := by simp
   refine ⟨ces.push { key := y, val := z0, born := clock }, clock + 1, ces.size, clock, z0, ?_, hzr, ⟨es ++ [(k, ofConst z0)], some (es.length, ofConst z0), ?_, rfl, ?_⟩, store _ _ _ _ hnd1 hat, ?_⟩
   ·simp [Instr.mapEntry, rUnderlying hu, MapKept.run_getObj_map hmp, hck, h1, rZero hin hz0, run_setObj' hmp, goInt]
   ·have := findKey_append (z := ofConst z0) hkk es 0 hres
    simpa using this
   ·intro m X w
    rw [Array.toList_push]
    exact (hE m X w).append ⟨hk m X w, hzr m X w, trivial⟩
   ·intro a' nv hnv
    refine ⟨?_, by rw [modify_borns]; exact hnd1, by simp [mapPut, hsz], ?_⟩
    ·intro e' he'
     have : e'.born ∈ (ces.push { key := y, val := z0, born := clock }).toList.map (·.born) := by
      rw [← modify_borns]; exact List.mem_map.2 ⟨e', Array.mem_toList_iff.2 he', rfl⟩
     obtain ⟨e2, p1, p2⟩ := List.mem_map.1 this
     rcases Array.mem_push.1 (Array.mem_toList_iff.1 p1) with h | rfl
     ·have := hborn e2 h; omega
     ·simp at p2; omega
    ·intro i k' a'' hia
     simp only [mapPut] at hia
     rcases Nat.lt_or_ge i es.length with hlt | hge
     ·rw [List.getElem?_append_left hlt] at hia
      obtain ⟨e', p1, p2, p3⟩ := hg i k' a'' hia
      refine ⟨e', ?_, p2, p3⟩
      rw [Array.getElem?_modify, if_neg (by omega), Array.getElem?_push, if_neg (by omega)]; exact p1
     ·rw [List.getElem?_append_right hge] at hia
      have hil : i = es.length := by
       have := (List.getElem?_eq_some_iff.1 hia).1
       simp at this; omega
      subst hil
      simp at hia
      obtain ⟨rfl, rfl⟩ := hia
      exact ⟨{ key := y, val := nv, born := clock }, by rw [Array.getElem?_modify, if_pos hsz, Array.getElem?_push, if_pos hsz.symm]; rfl, hk, hnv⟩
 | some p =>
  cases res' with
  | none => exact h2.elim
  | some p' =>
   obtain ⟨j, a0⟩ := p; obtain ⟨j', v0⟩ := p'
   obtain ⟨rfl, _, e0, hj, rfl, hav, hkey⟩ := h2
   have hj' : ces[j]? = some e0 := by simpa using hj
   have hj1 := (Array.getElem?_eq_some_iff.1 hj').1
   have hst : ∀ w : World, (Instr.keyThatStays y y).run P w = .ok y w := fun w => key_stays hks hi (hk (fun _ => none) (fun _ => False) w)
   have hsame : (ces.modify j fun e => { e with key := y }) = ces := by
    apply Array.ext_getElem?
    intro q
    rw [Array.getElem?_modify]
    split
    ·rename_i hq; subst hq; rw [hj']; simp [← hkey]
    ·rfl
   obtain ⟨e0', g1, g2, g3⟩ := hg j (es[j]'(by omega)).1 (es[j]'(by omega)).2 (by rw [List.getElem?_eq_getElem (by omega)])
   rw [hj'] at g1; cases g1
   have hfa : (es[j]'(by omega)).2 = a0 := by
    have : ∀ (es : List (AV × AV)) (i : Nat), findKey ks k es i = some (some (j, a0)) → i ≤ j ∧ ∃ kk, es[j - i]? = some (kk, a0) := by
     intro es
     induction es with
     | nil => intro i h; simp [findKey] at h
     | cons q es ih =>
      obtain ⟨k', a'⟩ := q
      intro i h
      simp only [findKey] at h
      split at h
      ·cases h; exact ⟨Nat.le_refl _, k', by simp⟩
      ·obtain ⟨h1, kk, h2⟩ := ih (i + 1) h
       exact ⟨by omega, kk, by rw [show j - i = (j - (i + 1)) + 1 by omega]; simpa using h2⟩
      ·cases h
    obtain ⟨_, kk, hkk'⟩ := this es 0 hres
    rw [Nat.sub_zero, List.getElem?_eq_getElem (by omega)] at hkk'
    rw [Option.some.inj hkk']
   refine ⟨ces, clock, j, e0.born, e0.val, ?_, by simp only [Option.map_some, Option.getD_some]; rw [← hfa]; exact g3, ⟨es, _, hres, rfl, hE⟩, store _ _ _ _ hnd hj', ?_⟩
   ·have hcs : w.putObj bm (.map ces clock) = w.putObj bm (.map (ces.modify j fun e => { e with key := y }) clock) := by rw [hsame]
    rw [hcs]
    simp [Instr.mapEntry, rUnderlying hu, MapKept.run_getObj_map hmp, hck, h1, hj', hkey, hst, run_setObj' hmp, goInt]
   ·intro a' nv hnv
    refine ⟨?_, by rw [modify_borns]; exact hnd, by simp [mapPut, hsz], ?_⟩
    ·intro e' he'
     have : e'.born ∈ ces.toList.map (·.born) := by
      rw [← modify_borns (j := j) (v := nv)]; exact List.mem_map.2 ⟨e', Array.mem_toList_iff.2 he', rfl⟩
     obtain ⟨e2, p1, p2⟩ := List.mem_map.1 this
     have := hborn e2 (Array.mem_toList_iff.1 p1)
     omega
    ·intro i k' a'' hia
     simp only [mapPut] at hia
     rw [List.getElem?_set] at hia
     by_cases hij : j = i
     ·subst hij
      rw [if_pos rfl] at hia
      split at hia
      ·simp at hia
       obtain ⟨rfl, rfl⟩ := hia
       exact ⟨{ e0 with val := nv }, by rw [Array.getElem?_modify, if_pos rfl, hj']; rfl, by intro m X w; dsimp only; rw [hkey]; exact hk m X w, hnv⟩
      ·cases hia
     ·rw [if_neg hij] at hia
      obtain ⟨e', p1, p2, p3⟩ := hg i k' a'' hia
      exact ⟨e', by rw [Array.getElem?_modify, if_neg hij]; exact p1, p2, p3⟩
def rhoD (r : Nat → AV) (D : List Nat) (b : Nat) : List AV := (List.range 13).map fun j => if j ∈ D then (if j = 10 then .tup [r 8, .i b] else if j = 11 then .i b else r j) else .undef
theorem rhoD_get {r : Nat → AV} {D : List Nat} {b j : Nat} (hj : j < 13) : (rhoD r D b).getD j .undef = if j ∈ D then (if j = 10 then .tup [r 8, .i b] else if j = 11 then .i b else r j) else .undef := by
 simp [rhoD, hj]
theorem rhoD_out {r : Nat → AV} {D : List Nat} {b j : Nat} (hj : ¬ j < 13) : (rhoD r D b).getD j .undef = .undef := by
 simp only [rhoD, List.getD, List.getElem?_map]
 rw [List.getElem?_eq_none (by simp; omega)]; rfl
theorem rhoD_b {r : Nat → AV} {D : List Nat} {b b' : Nat} (h0 : 10 ∉ D) (h1 : 11 ∉ D) : rhoD r D b = rhoD r D b' := by
 unfold rhoD
 apply List.map_congr_left
 intro j _
 by_cases hj : j ∈ D
 ·have : j ≠ 10 := fun h => h0 (h ▸ hj)
  have : j ≠ 11 := fun h => h1 (h ▸ hj)
  simp [*]
 ·simp [hj]
theorem TRel_put {vars : List Nat} {N : Nat} {ops : List Oper} {r : Nat → AV} {D : List Nat} {b i : Nat} {o : Oper} {c : Value} (hok : regOk vars N ops = true) (ho : ops[i]? = some o) (hi : i < 13) (hsz : ac.tmps.size = N) (ht : TRel m X w vars ops (rhoD r D b) ac.tmps)
  (hc : VRel m X w ((rhoD r (i :: D) b).getD i .undef) c) : TRel m X w vars ops (rhoD r (i :: D) b) (ac.put o.dst c).tmps := by
 unfold regOk at hok
 simp only [Bool.and_eq_true, decide_eq_true_eq, List.all_eq_true] at hok
 obtain ⟨⟨⟨⟨hnd, hvn⟩, hlt⟩, hvlt⟩, hg⟩ := hok
 intro j t hj htv
 by_cases hji : j = i
 ·subst hji
  have hd : o.dst = some t := by rw [ho] at hj; simpa using hj
  have htN : t < ac.tmps.size := by
   rw [hsz]; have := hlt t (List.mem_filterMap.2 ⟨o, List.mem_of_getElem? ho, hd⟩); simpa using this
  have : (ac.put o.dst c).tmps.getD t Go.undef = c := by
   simp [Act.put, hd, Array.getD_eq_getD_getElem?, htN]
  rw [this]; exact hc
 ·have e1 : (rhoD r (i :: D) b).getD j .undef = (rhoD r D b).getD j .undef := by
   by_cases h13 : j < 13
   ·rw [rhoD_get h13, rhoD_get h13]; simp [hji]
   ·rw [rhoD_out h13, rhoD_out h13]
  have e2 : (ac.put o.dst c).tmps.getD t Go.undef = ac.tmps.getD t Go.undef := by
   cases hd : o.dst with
   | none => rfl
   | some t' =>
    have : t ≠ t' := by
     rintro rfl
     exact hji (dst_inj htv ops hnd j i hj (by rw [ho]; simpa using hd))
    simp only [Act.put, Array.getD_eq_getD_getElem?]
    rw [Array.getElem?_setIfInBounds_ne (fun h => this h.symm)]
  rw [e1, e2]; exact ht j t hj htv
theorem SRel.put_dst {dst : Option Nat} {v : Value} (hd : compDst fx.vars dst = none) (hs : SRel fx m X en s ac w) : SRel fx m X en s (ac.put dst v) w := by
 cases dst with
 | none => exact hs
 | some t => exact hs.put_other (idxOf?_none hd)
theorem TRel.mono' {vars : List Nat} {ops : List Oper} {ρ : List AV} {tmps : Array Value} (hm : Mono m X w m' X' w') (h : TRel m X w vars ops ρ tmps) : TRel m' X' w' vars ops ρ tmps := fun j t h1 h2 => VRel.mono hm _ _ (h j t h1 h2)
theorem SRel.takeMap {l bm : Nat} {es : List (AV × AV)} (hs : SRel fx m X en s ac w) (hml : m l = some bm) (hl : s.heap[l]? = some (.map es)) :
  SRel { fx with n0 := s.heap.length } m (fun b => X b ∨ b = bm) en ⟨s.vals, s.heap.set l .dead⟩ ac w := by
 have hm : Mono m X w m (fun b => X b ∨ b = bm) w := ⟨fun _ _ h => h, fun b hb _ => ⟨rfl, by
  rintro ((hx | rfl) | h)
  ·exact hb (.inl hx)
  ·exact hb (.inr ⟨l, hml⟩)
  ·exact hb (.inr h)⟩, fun b c e h => ⟨c, h, rfl⟩⟩
 have hlt : l < s.heap.length := (hs.heap.dom l bm hml).1
 have hobj : ∀ (l' : Nat) (o' : AObj), (s.heap.set l AObj.dead)[l']? = some o' → o' = .dead ∨ (l' ≠ l ∧ s.heap[l']? = some o') := by
  intro l' o' h
  by_cases hl' : l = l'
  ·subst hl'; rw [List.getElem?_set_self hlt] at h; cases h; exact .inl rfl
  ·rw [List.getElem?_set_ne hl'] at h; exact .inr ⟨fun h => hl' h.symm, h⟩
 refine ⟨hs.size, hs.vars.mono hm, ?_, ⟨?_, fun l' b h => by simpa using hs.heap.dom l' b h, ?_, ?_, ?_⟩, by simp, hs.entry⟩
 ·obtain ⟨bs, h1, h2, h3⟩ := hs.defs
  refine ⟨bs, h1, h2, fun b hb => ?_⟩
  obtain ⟨g1, g2, g3, g4⟩ := h3 b hb
  refine ⟨g1, g2, g3, ?_⟩
  rintro ((hx | rfl) | h)
  ·exact g4 (.inl hx)
  ·exact g4 (.inr ⟨l, hml⟩)
  ·exact g4 (.inr h)
 ·rintro b (hb | rfl)
  ·exact hs.heap.xb b hb
  ·exact (hs.heap.dom l b hml).2
 ·intro l' b o' h ho hv
  rcases hobj l' o' ho with rfl | ⟨h1, h2⟩
  ·exact hv.elim
  ·rintro (hx | rfl)
   ·exact hs.heap.own l' b o' h h2 hv hx
   ·exact h1 (hs.heap.inj2 l' l b o' _ h hml h2 hl hv trivial)
 ·intro l1 l2 b o' h h' ho hv
  rcases hobj l2 o' ho with rfl | ⟨h1, h2⟩
  ·exact hv.elim
  ·exact hs.heap.inj l1 l2 b o' h h' h2 hv
 ·intro l' o' ho
  rcases hobj l' o' ho with rfl | ⟨h1, h2⟩
  ·simp [ORel]
  ·have := hs.heap.obj l' o' h2
   cases hml' : m l' with
   | none => rw [hml'] at this; cases o' <;> simp [ORel] at this ⊢
   | some b => rw [hml'] at this; exact ORel.mono hm rfl this
theorem SRel.giveMap {l bm n0 : Nat} {es : List (AV × AV)} {vals : List AV} {σ : List AObj} {ces : Array MapEntry} {clock : Nat} (hs : SRel fx m (fun b => X b ∨ b = bm) en ⟨vals, σ⟩ ac w) (hl : l < σ.length) (hml : m l = some bm) (hnx : ¬ X bm) (hfst : ∀ l', m l' = some bm → l' ≤ l) (hn : n0 ≤ σ.length)
  (hmp : w.heap[bm]? = some (.map ces clock)) (hborn : ∀ e ∈ ces, e.born < clock) (hnd : (ces.toList.map (·.born)).Nodup) (hsz : ces.size = es.length)
  (hg : ∀ (i : Nat) (k a : AV), es[i]? = some (k, a) → ∃ e : MapEntry, ces[i]? = some e ∧ (∀ m X w, VRel m X w k e.key) ∧ ∀ m X w, VRel m X w a e.val) : SRel { fx with n0 := n0 } m X en ⟨vals, σ.set l (.map es)⟩ ac w := by
 have hs1 := SRel.lessX (X := X) (fun b h => .inl h) hs
 refine ⟨hs1.size, hs1.vars, hs1.defs, ⟨hs1.heap.xb, fun l' b h => by simpa using hs1.heap.dom l' b h, ?_, ?_, ?_⟩, by simpa using hn, hs1.entry⟩
 ·intro l' b o' h ho hv
  by_cases hl' : l = l'
  ·subst hl'; rw [hml] at h; cases h; exact hnx
  ·rw [List.getElem?_set_ne hl'] at ho; exact hs1.heap.own l' b o' h ho hv
 ·intro l1 l2 b o' h h' ho hv
  by_cases hl' : l = l2
  ·subst hl'; rw [hml] at h'; cases h'; exact hfst l1 h
  ·rw [List.getElem?_set_ne hl'] at ho; exact hs1.heap.inj l1 l2 b o' h h' ho hv
 ·intro l' o' ho
  by_cases hl' : l = l'
  ·subst hl'
   rw [List.getElem?_set_self hl] at ho; cases ho
   rw [hml]
   refine ⟨ces, clock, hmp, hborn, hnd, hsz, fun i k a hi => ?_⟩
   obtain ⟨e, g1, g2, g3⟩ := hg i k a hi
   exact ⟨e, g1, g2 _ _ _, g3 _ _ _⟩
  ·rw [List.getElem?_set_ne hl'] at ho; exact hs1.heap.obj l' o' ho
set_option maxHeartbeats 1000000 in
theorem DW_incr {Q : Exit → St → Prop} {dirs : List (List Nat)} {is : List Ins} {lm : Nat} {es : List (AV × AV)} {ks : Bool × List KK} {z k : AV} {res : Option (Nat × AV)} (r : Nat → AV)
  (hmix : P.follows .mixedOrders = true) (hdl : dirs.length = 13) (hback : ∀ i, i < 13 → ∀ e ∈ dirs.getD i [], e < i)
  (i8 : is[8]? = some ⟨none, none, .prim (.lookup ks z false), [.t 0, .t 7]⟩) (i10 : is[10]? = some ⟨none, none, .prim (.mapent ks z), [.t 0, .t 7]⟩) (i11 : is[11]? = some ⟨none, none, .prim (.extract 1), [.t 10]⟩) (i12 : is[12]? = some ⟨none, none, .prim .entst, [.t 0, .t 11, .t 9]⟩)
  (d8 : 0 ∈ dirs.getD 8 [] ∧ 7 ∈ dirs.getD 8 []) (d10 : 0 ∈ dirs.getD 10 [] ∧ 7 ∈ dirs.getD 10 []) (d11 : 10 ∈ dirs.getD 11 []) (d12 : ∀ i, i < 12 → i ∈ dirs.getD 12 [])
  (hp : ∀ j, j < 8 ∨ j = 9 → ∃ io args, is[j]? = some ⟨none, none, .prim io, args⟩ ∧ (∀ e, Opd.t e ∈ args → e ∈ dirs.getD j []) ∧ stepF io (args.map (evalO s.vals ((List.range 13).map r))) (s.heap.set lm .dead) = some (r j, s.heap.set lm .dead))
  (r0 : r 0 = .map lm) (r12 : r 12 = .undef) (r7 : r 7 = k) (r8 : r 8 = (res.map (·.2)).getD z) (r9 : PF (r 9)) (hl : s.heap[lm]? = some (.map es)) (hes : ∀ p ∈ es, PF p.1 ∧ PF p.2) (hzp : PF z) (hkp : PF k) (hi : keyIs ks k = true) (hkk : keyEqK ks k k = some true) (hres : findKey ks k es 0 = some res)
  (hQ : Q .normal ⟨s.vals, s.heap.set lm (.map (mapPut es k (r 9) res))⟩) : DW P fx dirs is s Q := by
 intro id ops hdirs hc m X en ac w hs hr
 unfold compReg at hc
 split at hc
 rotate_left
 ·cases hc
 rename_i hok
 obtain ⟨hlen, hget⟩ := compAll_get hc
 have hsz13 : ops.size = 13 := by rw [← hdl, ← hdirs]; simp [dirsOf]
 have hdir : ∀ i, i < 13 → dirOf ops i = dirs.getD i [] := fun i hi => by rw [← hdirs]; simp [dirsOf, List.getD, hsz13, hi]
 obtain ⟨bm, ces, clock, hml, hl', hmp0, hborn, hnd, hsz, hE0, hg0⟩ := hs.heap.mapRow (l := lm) (es := es) (by simp [mapOf, hl])
 have hnx : ¬ X bm := hs.heap.own lm bm _ hml hl trivial
 have hfst : ∀ l', m l' = some bm → l' ≤ lm := fun l' h => hs.heap.inj l' lm bm _ h hml hl trivial
 have hlt : lm < s.heap.length := (hs.heap.dom lm bm hml).1
 have hE := hE0.pf hes
 have hg : ∀ (i : Nat) (k a : AV), es[i]? = some (k, a) → ∃ e : MapEntry, ces[i]? = some e ∧ (∀ m X w, VRel m X w k e.key) ∧ ∀ m X w, VRel m X w a e.val := fun i k a hi => by
  obtain ⟨e, g1, g2, g3⟩ := hg0 i k a hi
  obtain ⟨p1, p2⟩ := hes (k, a) (List.mem_of_getElem? hi)
  exact ⟨e, g1, fun m' X' w' => p1 _ _ _ _ _ _ _ g2, fun m' X' w' => p2 _ _ _ _ _ _ _ g3⟩
 have hvk : ∀ i, (s.vals.getD i .undef) = (s.vals.getD i .undef) := fun _ => rfl
 let X' : Nat → Prop := fun b => X b ∨ b = bm
 let σd : List AObj := s.heap.set lm .dead
 let fx' : Fx := { fx with n0 := s.heap.length }
 have hσl : σd.length = s.heap.length := by simp [σd]
 have hs0 : SRel fx' m X' en ⟨s.vals, σd⟩ ac w.drew := (hs.takeMap hml hl).drew
 let After : Array MapEntry → Nat → Nat → Prop := fun ces' clk' b => ∃ j, (∀ (t' : TypeId) (w' : World) (nv : Value), w'.heap[bm]? = some (.map ces' clk') → (Instr.entryStore t' (.map (some bm)) (.int .i64 b) nv).run P w' = .ok () (w'.putObj bm (.map (ces'.modify j fun e => { e with val := nv }) clk'))) ∧
   (∀ (a' : AV) (nv : Value), (∀ m X w, VRel m X w a' nv) → (∀ e ∈ (ces'.modify j fun e => { e with val := nv }), e.born < clk') ∧ ((ces'.modify j fun e => { e with val := nv }).toList.map (·.born)).Nodup ∧
    (ces'.modify j fun e => { e with val := nv }).size = (mapPut es k a' res).length ∧
    ∀ (i : Nat) (k' a'' : AV), (mapPut es k a' res)[i]? = some (k', a'') → ∃ e : MapEntry, (ces'.modify j fun e => { e with val := nv })[i]? = some e ∧ (∀ m X w, VRel m X w k' e.key) ∧ ∀ m X w, VRel m X w a'' e.val)
 let Look : Array MapEntry → Prop := fun ces' => ∃ es1 res1, findKey ks k es1 0 = some res1 ∧ (res1.map (·.2)).getD z = (res.map (·.2)).getD z ∧ ∀ m X w, ERels m X w es1 ces'.toList
 let Fin : Array MapEntry → Nat → Prop := fun ces' clk' => (∀ e ∈ ces', e.born < clk') ∧ (ces'.toList.map (·.born)).Nodup ∧ ces'.size = (mapPut es k (r 9) res).length ∧
    ∀ (i : Nat) (k' a'' : AV), (mapPut es k (r 9) res)[i]? = some (k', a'') → ∃ e : MapEntry, ces'[i]? = some e ∧ (∀ m X w, VRel m X w k' e.key) ∧ ∀ m X w, VRel m X w a'' e.val
 let Inv : List Nat → Act → World → Prop := fun D ac1 w1 => SRel fx' m X' en ⟨s.vals, σd⟩ ac1 w1 ∧ Step s.heap.length m X w m w1 ∧ (∀ i ∈ D, ∀ e ∈ dirs.getD i [], e ∈ D) ∧ ∃ (ces' : Array MapEntry) (clk' b : Nat), w1.heap[bm]? = some (.map ces' clk') ∧ TRel m X' w1 fx.vars ops.toList (rhoD r D b) ac1.tmps ∧
  (12 ∈ D → Fin ces' clk') ∧ (12 ∉ D → Look ces') ∧ (10 ∉ D → ces' = ces ∧ clk' = clock) ∧ (10 ∈ D → 12 ∉ D → After ces' clk' b)
 refine wpIn_region_draw fun t => ?_
 have hsch : Region.schedule (P.follows .mixedOrders) ops t = Region.linearise .any ops t := by simp [Region.schedule, hmix]
 rw [hsch]
 have hdirOut : ∀ i, ∀ e ∈ dirOf ops i, i < 13 := fun i e he => by
  by_cases h : i < 13
  ·exact h
  ·have : ops[i]? = none := Array.getElem?_eq_none (by omega)
   simp [dirOf, this] at he
 refine wp_sched (ro := fx.r.bind m) (n := 13) (dir := dirOf ops) Inv ?_ ?_ _ [] ac w.drew (by have := sched_of_linearise (ops := ops) (fun i hi e he => by rw [hdir i (by omega)] at he; exact hback i (by omega) e he) t; rwa [hsz13] at this) ?_
 rotate_left
 · -- the end
  rintro D ac1 w1 hall ⟨h1, h2, h3, ces', clk', b, h4, h5, h6, h7, h8, h9⟩
  obtain ⟨f1, f2, f3, f4⟩ := h6 (hall 12 (by omega))
  have hs2 : SRel fx m X en ⟨s.vals, σd.set lm (.map (mapPut es k (r 9) res))⟩ ac1 w1 := by
   have := SRel.giveMap (n0 := fx.n0) (es := mapPut es k (r 9) res) h1 (by rw [hσl]; exact hlt) hml hnx hfst (by rw [hσl]; exact hs.base) h4 f1 f2 f3 f4
   exact this
  refine ⟨_, m, hQ, ?_, h2.less hs.base⟩
  have : σd.set lm (.map (mapPut es k (r 9) res)) = s.heap.set lm (.map (mapPut es k (r 9) res)) := by simp [σd, List.set_set]
  rw [this] at hs2
  exact hs2
 · -- the start
  refine ⟨hs0, Step.of_heap rfl rfl rfl rfl (Nat.le_succ _), by simp, ces, clock, 0, hmp0, ?_, by simp, fun _ => ⟨es, res, hres, rfl, hE⟩, fun _ => ⟨rfl, rfl⟩, by simp⟩
  intro j u hj _
  by_cases h13 : j < 13
  ·rw [rhoD_get h13]; simp [VRel]
  ·rw [rhoD_out h13]; simp [VRel]
 rintro D i ac1 w1 hi13 hiD hdep ⟨h1, h2, h3, ces', clk', b, h4, h5, h6, h7, h8, h9⟩
 rw [hdir i hi13] at hdep
 have h12 : 12 ∉ D := fun h => by
  have : i < 12 := by
   rcases Nat.lt_or_ge i 12 with h' | h'
   ·exact h'
   ·have : i = 12 := by omega
    subst this; exact absurd h hiD
  exact hiD (h3 12 h i (d12 i this))
 have hcl : ∀ j ∈ i :: D, ∀ e ∈ dirs.getD j [], e ∈ i :: D := fun j hj e he => by
  rcases List.mem_cons.1 hj with rfl | hj
  ·exact List.mem_cons_of_mem _ (hdep e he)
  ·exact List.mem_cons_of_mem _ (h3 j hj e he)
 have hsz1 := h1.size
 have hev : ∀ (D : List Nat) (b : Nat) (args : List Opd), (∀ e, Opd.t e ∈ args → e ∈ D ∧ e < 10) → args.map (evalO s.vals (rhoD r D b)) = args.map (evalO s.vals ((List.range 13).map r)) := by
  intro D b args ha
  apply List.map_congr_left
  intro x hx
  cases x with
  | v i => rfl
  | c a => rfl
  | t e =>
   obtain ⟨q1, q2⟩ := ha e hx
   simp only [evalO]
   rw [rhoD_get (by omega), if_pos q1, if_neg (by omega), if_neg (by omega)]
   simp [show e < 13 by omega]
 have hv0 : ∀ x : Operand, compOpd fx.vars (ops.toList.map (·.dst)) x = .t 0 → 0 ∈ D → ac1.eval x = .map (some bm) := fun x hx h0 => by
  have := evalO_rel (ds := ac1.defers) (fx := fx) h1.vars h5 x
  rw [hx] at this
  simp only [evalO] at this
  rw [rhoD_get (by omega), if_pos h0, if_neg (by omega), if_neg (by omega), r0] at this
  simp only [VRel] at this
  obtain ⟨b', hb', he⟩ := this
  rw [hml] at hb'; cases hb'
  exact he
 have hv7 : ∀ x : Operand, compOpd fx.vars (ops.toList.map (·.dst)) x = .t 7 → 7 ∈ D → ∀ m X w, VRel m X w k (ac1.eval x) := fun x hx h0 m1 X1 w2 => by
  have := evalO_rel (ds := ac1.defers) (fx := fx) h1.vars h5 x
  rw [hx] at this
  simp only [evalO] at this
  rw [rhoD_get (by omega), if_pos h0, if_neg (by omega), if_neg (by omega), r7] at this
  exact hkp _ _ _ _ _ _ _ this
 have two : ∀ {os : List Operand} {a c : Opd}, [a, c] = os.map (compOpd fx.vars (ops.toList.map (·.dst))) → ∃ x y, os = [x, y] ∧ compOpd fx.vars (ops.toList.map (·.dst)) x = a ∧ compOpd fx.vars (ops.toList.map (·.dst)) y = c := by
  intro os a c h
  match os, h with
  | [x, y], h => simp at h; exact ⟨x, y, rfl, h.1.symm, h.2.symm⟩
 have hopd : ∀ (o : Oper) (i0 : Ins), ops.toList[i]? = some o → compIns P fx.vars (ops.toList.map (·.dst)) o = some i0 → i0.dst = none → i0.gd = none → compDst fx.vars o.dst = none ∧ o.guard = none := fun o i0 _ h hd hgd => by
  obtain ⟨q1, q2⟩ := compIns_dst h
  exact ⟨by rw [← q1]; exact hd, by rw [← q2]; exact hgd⟩
 by_cases hpure : i < 8 ∨ i = 9
 · -- an operation that only reckons
  obtain ⟨io, args, g1, g2, g3⟩ := hp i hpure
  obtain ⟨o, ho, hci⟩ := hget i _ g1
  obtain ⟨hd1, hgd⟩ := hopd o _ ho hci rfl rfl
  obtain ⟨os, hco, hargs, _, _⟩ := compIns_prim hci rfl
  have hlt10 : i < 10 := by omega
  have he := hev D b args fun e he => ⟨hdep e (g2 e he), by have := hback i hi13 e (g2 e he); omega⟩
  have hrel := evalOs_rel (fx := fx') (a := ac1) h1.vars h5 os
  dsimp only at hargs
  rw [← he, hargs] at g3
  obtain ⟨nx, w2, m2, hrun, hres2, hh2, hst2⟩ := prim_sound hco h1.heap hrel g3
  have hm2 : m2 = m := by
   funext l'
   by_cases hl' : l' < σd.length
   ·exact hst2.keep l' hl'
   ·have e1 : m l' = none := by
     cases h : m l' with
     | none => rfl
     | some b' => exact absurd (h1.heap.dom l' b' h).1 hl'
    have e2 : m2 l' = none := by
     cases h : m2 l' with
     | none => rfl
     | some b' => exact absurd (hh2.dom l' b' h).1 hl'
    rw [e1, e2]
  subst hm2
  have hmo := h1.heap.mono_of_step hst2 (Nat.le_refl _)
  have hsame : w2.heap[bm]? = some (.map ces' clk') := by
   rw [hst2.fr bm (Array.getElem?_eq_some_iff.1 h4).1 (.inl (.inr rfl))]; exact h4
  have hs2 : SRel fx' m2 X' en ⟨s.vals, σd⟩ ac1 w2 := h1.of_heap hh2 hst2 (Nat.le_refl _)
  have hst2' : Step s.heap.length m2 X' w1 m2 w2 := by rw [← hσl]; exact hst2
  have hstep2 : Step s.heap.length m2 X w m2 w2 := h2.trans (hst2'.lessX (X := X) fun b h => Or.inl h)
  have key : ∀ c, VRel m2 X' w2 (r i) c → Inv (i :: D) (ac1.put o.dst c) w2 := by
   intro c hc'
   refine ⟨SRel.put_dst (fx := fx') hd1 hs2, hstep2, hcl, ces', clk', b, hsame, ?_, ?_, ?_, ?_, ?_⟩
   ·refine TRel_put (N := fx.N) hok ho hi13 hsz1 (h5.mono' hmo) ?_
    rw [rhoD_get hi13, if_pos (by simp), if_neg (by omega), if_neg (by omega)]
    exact hc'
   ·intro h; simp at h; rcases h with h | h
    ·omega
    ·exact absurd h h12
   ·intro _; exact h7 h12
   ·intro h; exact h8 fun h' => h (List.mem_cons_of_mem _ h')
   ·intro h _; simp at h; rcases h with h | h
    ·omega
    ·exact h9 h h12
  rcases hres2 with ⟨c, rfl, hv⟩ | ⟨rfl, hu⟩
  ·exact ⟨o, c, w2, by simpa using ho, hgd, compOp_not_defer hco, .inl hrun, key c hv⟩
  ·exact ⟨o, Go.undef, w2, by simpa using ho, hgd, compOp_not_defer hco, .inr ⟨hrun, rfl⟩, key _ (by rw [hu]; simp [VRel])⟩
 have hcase : i = 8 ∨ i = 10 ∨ i = 11 ∨ i = 12 := by omega
 rcases hcase with rfl | rfl | rfl | rfl
 · -- the look-up
  obtain ⟨o, ho, hci⟩ := hget 8 _ i8
  obtain ⟨hd1, hgd⟩ := hopd o _ ho hci rfl rfl
  obtain ⟨os, hco, hargs, _, _⟩ := compIns_prim hci rfl
  obtain ⟨t1, x, ix, kt, e, hop, hu, hks, hz, hos⟩ : opShape P o (.lookup ks z false) os := compOp_shape hco
  obtain ⟨x', y', hos', hx0, hx7⟩ := two hargs
  rw [hos] at hos'; cases hos'
  have hx := hv0 x hx0 (hdep 0 d8.1)
  have hy := hv7 ix hx7 (hdep 7 d8.2)
  obtain ⟨es1, res1, q1, q2, q3⟩ := h7 h12
  have hsnd := snd_lookup (P := P) (m := m) (X := X') (w := w1) (t := t1) (kt := kt) (e := e) (ks := ks) (z := z) (ok := false) (x := .map (some bm)) (y := ac1.eval ix) (avs := [.map lm, k]) (σ := σd) (r := .undef) (σ' := σd)
  obtain ⟨res', p1, p2⟩ := findKey_sound (P := P) (m := m) (X := X') (w := w1) hks (hy _ _ _) (q3 _ _ _) q1
  have hck := checkKey_sound (P := P) (m := m) (X := X') (w := w1) hks hi (hy _ _ _) ces'.isEmpty
  have hlook : ∃ v, (Instr.lookup t1 (.map (some bm)) (ac1.eval ix) false).run P w1 = .ok v w1 ∧ VRel m X' w1 (r 8) v := by
   rw [r8, ← q2]
   unfold zeroOf at hz
   cases hin : P.info? e with
   | none => rw [hin] at hz; cases hz
   | some inf =>
   rw [hin] at hz
   simp only [Option.bind_some, Option.map_eq_some_iff] at hz
   obtain ⟨z0, hz0, rfl⟩ := hz
   cases res1 with
   | none =>
    cases res' with
    | some q => exact p2.elim
    | none =>
     refine ⟨z0, ?_, ofConst_rel z0⟩
     simp [Instr.lookup, rUnderlying hu, MapKept.run_getObj_map h4, hck, p1, rZero hin hz0]
   | some p =>
    cases res' with
    | none => exact p2.elim
    | some p' =>
     obtain ⟨j, a⟩ := p; obtain ⟨j', v⟩ := p'
     obtain ⟨rfl, _, e', _, rfl, hav, _⟩ := p2
     refine ⟨e'.val, ?_, hav⟩
     simp [Instr.lookup, rUnderlying hu, MapKept.run_getObj_map h4, hck, p1]
  obtain ⟨v, hrun, hv⟩ := hlook
  refine ⟨o, v, w1, by simpa using ho, hgd, compOp_not_defer hco, .inl ?_, SRel.put_dst (fx := fx') hd1 h1, h2, hcl, ces', clk', b, h4, ?_, ?_, ?_, ?_, ?_⟩
  ·simp only [execOp, hop, hx]
   simp [hrun]
  ·refine TRel_put (N := fx.N) hok ho hi13 hsz1 h5 ?_
   rw [rhoD_get hi13, if_pos (by simp), if_neg (by omega), if_neg (by omega)]
   exact hv
  ·intro h; simp at h; exact absurd h h12
  ·intro _; exact h7 h12
  ·intro h; exact h8 fun h' => h (List.mem_cons_of_mem _ h')
  ·intro h _; simp at h; exact h9 h h12
 · -- the entry is made
  obtain ⟨o, ho, hci⟩ := hget 10 _ i10
  obtain ⟨hd1, hgd⟩ := hopd o _ ho hci rfl rfl
  obtain ⟨os, hco, hargs, _, _⟩ := compIns_prim hci rfl
  obtain ⟨t1, x, ix, kt, e, hop, hu, hks, hz, hos⟩ : opShape P o (.mapent ks z) os := compOp_shape hco
  obtain ⟨x', y', hos', hx0, hx7⟩ := two hargs
  rw [hos] at hos'; cases hos'
  have hx := hv0 x hx0 (hdep 0 d10.1)
  have hy := hv7 ix hx7 (hdep 7 d10.2)
  obtain ⟨rfl, rfl⟩ := h8 hiD
  have h11 : 11 ∉ D := fun h => hiD (h3 11 h 10 d11)
  obtain ⟨ces1, clk1, j, born, v0, hrun, hv0', hlook, hstore, hfin⟩ := entry_run (w := w1) hu hks hz hzp hi hkk hy h4 hborn hnd hsz hE hg hres
  have hbm : bm < w1.heap.size := (Array.getElem?_eq_some_iff.1 h4).1
  have hx' : X' bm := .inr rfl
  have hmo : Mono m X' w1 m X' (w1.putObj bm (.map ces1 clk1)) := Mono.putX hx' h4 (by intro c e; simp)
  refine ⟨o, .tuple #[v0, .int .i64 born], w1.putObj bm (.map ces1 clk1), by simpa using ho, hgd, compOp_not_defer hco, .inl ?_, SRel.put_dst (fx := fx') hd1 (SRel.putX hx' h4 (by intro c e; simp) h1), ?_, hcl, ces1, clk1, born, World.putObj_heap_same hbm, ?_, ?_, ?_, ?_, ?_⟩
  ·simp only [execOp, hop, hx]
   simp [hrun]
  ·have ht : Turned w1 (w1.putObj bm (.map ces1 clk1)) bm := Turned.obj w1 _ h4 (by simp)
   exact h2.trans (ht.step (X := X) s.heap.length hml hnx)
  ·refine TRel_put (N := fx.N) hok ho hi13 hsz1 ?_ ?_
   ·rw [rhoD_b (b' := b) hiD h11]; exact h5.mono' hmo
   ·rw [rhoD_get hi13, if_pos (by simp), if_pos rfl]
    simp only [VRel]
    refine ⟨_, rfl, ?_⟩
    simp only [VRels]
    exact ⟨by rw [r8]; exact hv0' _ _ _, by simp [VRel, CV.rep], trivial⟩
  ·intro h; simp at h; exact absurd h h12
  ·intro _; exact hlook
  ·intro h; simp at h
  ·intro _ _; exact ⟨j, hstore, hfin⟩
 · -- its stamp is read
  obtain ⟨o, ho, hci⟩ := hget 11 _ i11
  obtain ⟨hd1, hgd⟩ := hopd o _ ho hci rfl rfl
  obtain ⟨os, hco, hargs, _, _⟩ := compIns_prim hci rfl
  have hrel := evalOs_rel (fx := fx') (a := ac1) h1.vars h5 os
  rw [← hargs] at hrel
  have h10 : 10 ∈ D := hdep 10 d11
  simp only [List.map_cons, List.map_nil, evalO] at hrel
  rw [rhoD_get (by omega), if_pos h10, if_pos rfl] at hrel
  obtain ⟨nx, w2, m2, hrun, hres2, hh2, hst2⟩ := prim_sound (r := .i b) (σ' := σd) hco h1.heap hrel (by simp [stepF, f_extract])
  have hm2 : m2 = m := by
   funext l'
   by_cases hl' : l' < σd.length
   ·exact hst2.keep l' hl'
   ·have e1 : m l' = none := by
     cases h : m l' with
     | none => rfl
     | some b' => exact absurd (h1.heap.dom l' b' h).1 hl'
    have e2 : m2 l' = none := by
     cases h : m2 l' with
     | none => rfl
     | some b' => exact absurd (hh2.dom l' b' h).1 hl'
    rw [e1, e2]
  subst hm2
  have hmo := h1.heap.mono_of_step hst2 (Nat.le_refl _)
  have hsame : w2.heap[bm]? = some (.map ces' clk') := by
   rw [hst2.fr bm (Array.getElem?_eq_some_iff.1 h4).1 (.inl (.inr rfl))]; exact h4
  have hs2 : SRel fx' m2 X' en ⟨s.vals, σd⟩ ac1 w2 := h1.of_heap hh2 hst2 (Nat.le_refl _)
  have hst2' : Step s.heap.length m2 X' w1 m2 w2 := by rw [← hσl]; exact hst2
  have hstep2 : Step s.heap.length m2 X w m2 w2 := h2.trans (hst2'.lessX (X := X) fun b h => Or.inl h)
  rcases hres2 with ⟨c, rfl, hv⟩ | ⟨rfl, hu⟩
  rotate_left
  ·cases hu
  refine ⟨o, c, w2, by simpa using ho, hgd, compOp_not_defer hco, .inl hrun, SRel.put_dst (fx := fx') hd1 hs2, hstep2, hcl, ces', clk', b, hsame, ?_, ?_, ?_, ?_, ?_⟩
  ·refine TRel_put (N := fx.N) hok ho hi13 hsz1 (h5.mono' hmo) ?_
   rw [rhoD_get hi13, if_pos (by simp), if_neg (by omega), if_pos rfl]
   exact hv
  ·intro h; simp at h; exact absurd h h12
  ·intro _; exact h7 h12
  ·intro h; exact h8 fun h' => h (List.mem_cons_of_mem _ h')
  ·intro h _; simp at h; exact h9 h h12
 · -- it is written
  obtain ⟨o, ho, hci⟩ := hget 12 _ i12
  obtain ⟨hd1, hgd⟩ := hopd o _ ho hci rfl rfl
  obtain ⟨os, hco, hargs, _, _⟩ := compIns_prim hci rfl
  obtain ⟨t1, x, st, v, hop, hos⟩ : opShape P o .entst os := compOp_shape hco
  rw [hos] at hargs
  simp only [List.map_cons, List.map_nil, List.cons.injEq, and_true] at hargs
  obtain ⟨hx0, hx11, hx9⟩ := hargs
  have hx := hv0 x hx0.symm (hdep 0 (d12 0 (by omega)))
  have h10 : 10 ∈ D := hdep 10 (d12 10 (by omega))
  have hst : ac1.eval st = .int .i64 b := by
   have := evalO_rel (ds := ac1.defers) (fx := fx) h1.vars h5 st
   rw [← hx11] at this
   simp only [evalO] at this
   rw [rhoD_get (by omega), if_pos (hdep 11 (d12 11 (by omega))), if_neg (by omega), if_pos rfl] at this
   simpa only [VRel, CV.rep] using this
  have hnv : ∀ m X w, VRel m X w (r 9) (ac1.eval v) := by
   have := evalO_rel (ds := ac1.defers) (fx := fx) h1.vars h5 v
   rw [← hx9] at this
   simp only [evalO] at this
   rw [rhoD_get (by omega), if_pos (hdep 9 (d12 9 (by omega))), if_neg (by omega), if_neg (by omega)] at this
   intro m1 X1 w2
   exact r9 _ _ _ _ _ _ _ this
  obtain ⟨j, hstore, hfin⟩ := h9 h10 h12
  have hrun := hstore t1 w1 (ac1.eval v) h4
  have hbm : bm < w1.heap.size := (Array.getElem?_eq_some_iff.1 h4).1
  have hx' : X' bm := .inr rfl
  have hmo : Mono m X' w1 m X' (w1.putObj bm (.map (ces'.modify j fun e => { e with val := ac1.eval v }) clk')) := Mono.putX hx' h4 (by intro c e; simp)
  refine ⟨o, Go.undef, w1.putObj bm (.map (ces'.modify j fun e => { e with val := ac1.eval v }) clk'), by simpa using ho, hgd, compOp_not_defer hco, .inr ⟨?_, rfl⟩, SRel.put_dst (fx := fx') hd1 (SRel.putX hx' h4 (by intro c e; simp) h1), ?_, hcl, _, clk', b, World.putObj_heap_same hbm, ?_, ?_, ?_, ?_, ?_⟩
  ·simp only [execOp, hop, hx, hst]
   simp [hrun]
  ·have ht : Turned w1 (w1.putObj bm (.map (ces'.modify j fun e => { e with val := ac1.eval v }) clk')) bm := Turned.obj w1 _ h4 (by simp)
   exact h2.trans (ht.step (X := X) s.heap.length hml hnx)
  ·refine TRel_put (N := fx.N) hok ho hi13 hsz1 (h5.mono' hmo) ?_
   rw [rhoD_get hi13, if_pos (by simp), if_neg (by omega), if_neg (by omega), r12]
   simp [VRel]
  ·intro _; exact hfin (r 9) _ hnv
  ·intro h; simp at h
  ·intro h; exact absurd (List.mem_cons_of_mem _ h10) h
  ·intro _ h; simp at h
end Go.Proofs.YtpnghcaccfnngaaGreatDoor.AM

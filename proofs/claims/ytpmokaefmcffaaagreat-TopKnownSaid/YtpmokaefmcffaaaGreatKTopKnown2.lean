/- Parts of the proof of TopKnown. -/
import Derived.Test.YtpmokaefmcffaaaGreatKTopKnown1
set_option linter.unusedVariables false
set_option linter.unusedSimpArgs false
set_option linter.unusedSectionVars false
namespace Go.Proofs.YtpmokaefmcffaaaGreat.AM
variable [Dr]
open Go
def Move1 (g:Nat→Nat) (k:Nat) (σ:List AObj) (a b:AV):Prop:=(a=ren g b∧QR k b=true)∨FrzV anyC σ a b
inductive PH (g:Nat→Nat) (k:Nat) (σ:List AObj):List AV→List AV→Prop
 | nil:PH g k σ [] []
 | cons {a b:AV} {as_ bs:List AV}:Move1 g k σ a b→PH g k σ as_ bs→PH g k σ (a::as_) (b::bs)
theorem PH.len {g:Nat→Nat} {k:Nat} {σ:List AObj} {as_ bs:List AV} (h:PH g k σ as_ bs):as_.length=bs.length:=by
 induction h with
 | nil=>rfl
 | cons _ _ ih=>simp[ih]
theorem PH.get {g:Nat→Nat} {k:Nat} {σ:List AObj} {as_ bs:List AV} (h:PH g k σ as_ bs):∀ i,Move1 g k σ (as_.getD i .undef) (bs.getD i .undef):=by
 induction h with
 | nil=>intro i;exact .inl ⟨by simp[List.getD,ren],by simp[List.getD,QR]⟩
 | cons h _ ih =>
  intro i
  cases i with
  | zero=>simpa[List.getD] using h
  | succ i=>simpa[List.getD] using ih i
theorem HRel.forgetF {m:LM} {X:Nat→Prop} {σ σf:List AObj} {w:World} (h:HRel m X σ w) (hl:σf.length=σ.length) (hf:∀ (l:Nat) o,σf[l]? = some o→o=.dead∨σ[l]? = some o):HRel m X σf w:=by
 have hlv:∀ (l:Nat) o,σf[l]? = some o→o.live→σ[l]? = some o:=fun l o ho hv=>by
  rcases hf l o ho with rfl | h
  ·exact hv.elim
  ·exact h
 refine ⟨h.xb,fun l b hb=>by rw[hl];exact h.dom l b hb,fun l b o hb ho hv=>h.own l b o hb (hlv l o ho hv) hv,fun l l' b o' hb hb' ho' hv=>h.inj l l' b o' hb hb' (hlv l' o' ho' hv) hv,fun l o ho=>?_,h.gl⟩
 rcases hf l o ho with rfl | h2
 ·cases m l <;> simp[ORel]
 ·exact h.obj l o h2
theorem Weak.move {fx:Fx} {vals vals2:List AV} {σ σ2 σf:List AObj} {g:Nat→Nat} (h0:fx.n0=0) (hg:∀ a b,a<b→b<σ2.length→g a<g b) (hfl:σf.length=σ.length)
  (hf:∀ (l:Nat) o,σf[l]? = some o→o=.dead∨(σ[l]? = some o∧∀ l2,l2<σ2.length→g l2≠l)) (hv:PH g σ2.length σf vals vals2)
  (ho:∀ (l:Nat) (o2:AObj),σ2[l]? = some o2→∃ o,σ[g l]? = some o∧o.live∧((o=renO g o2∧Z3 σ2.length o2=true)∨∃ as_ bs,o=.cells as_∧o2=.cells bs∧PH g σ2.length σf as_ bs)) :
  Weak fx ⟨vals,σ⟩ ⟨vals2,σ2⟩:=by
 intro m X en ac w hs
 have hh:=hs.heap
 let m2:LM:=fun l=>if l<σ2.length then m (g l) else none
 have hm2:∀ l,l<σ2.length→m2 l=m (g l):=fun l hl=>by simp only[m2];rw[if_pos hl]
 have hm2s:∀ l b,m2 l=some b→l<σ2.length∧m (g l)=some b:=fun l b hl=>by
  simp only[m2] at hl
  split at hl
  ·rename_i h;exact ⟨h,hl⟩
  ·cases hl
 have how:∀ b,Own m2 X b→Own m X b:=by
  rintro b (hx | ⟨l,hl⟩)
  ·exact .inl hx
  ·exact .inr ⟨g l,(hm2s l b hl).2⟩
 have hlv:∀ l,l<σ2.length→∃ o,σ[g l]? = some o∧o.live:=fun l hl=>by
  obtain ⟨o,h1,h2,_⟩:=ho l _ (QI hl)
  exact ⟨o,h1,h2⟩
 have hnot:∀ (l b:Nat) (o:AObj),m l=some b→σf[l]? = some o→o.live→¬ Own m2 X b:=by
  intro l b o hb hlo hlive hown
  rcases hf l o hlo with rfl | ⟨h1,h2⟩
  ·exact hlive.elim
  ·rcases hown with hx | ⟨l2,h3⟩
   ·exact hh.own l b o hb h1 hlive hx
   ·obtain ⟨h4,h5⟩:=hm2s l2 b h3
    obtain ⟨o2,h6,h7⟩:=hlv l2 h4
    have a1:=hh.inj l (g l2) b _ hb h5 h6 h7
    have a2:=hh.inj (g l2) l b _ h5 hb h1 hlive
    exact h2 l2 h4 (by omega)
 have hhf:=hh.forgetF hfl fun l o h=>(hf l o h).imp id fun h=>h.1
 have one:∀ {a b:AV},Move1 g σ2.length σf a b→∀ v,VRel m X w a v→VRel m2 X w b v:=by
  rintro a b (⟨rfl,h⟩ | h) v hv
  ·exact VRel.ren hm2 how b v h hv
  ·exact RX hhf (fun c v _ h=>CV.rep_less how c v h) hnot h v hv
 have many:∀ {as_ bs:List AV},PH g σ2.length σf as_ bs→∀ vs,QK m X w as_ vs→QK m2 X w bs vs:=by
  intro as_ bs h
  induction h with
  | nil=>intro vs hv;rw[QK.nil' hv];simp[QK]
  | cons h1 _ ih =>
   intro vs hv
   obtain ⟨v,us,rfl,g1,g2⟩:=hv.cons
   exact ⟨one h1 v g1,ih us g2⟩
 refine ⟨m2,⟨hs.size,?_,?_,⟨hh.xb,?_,?_,?_,?_,hh.gl.less how⟩,by rw[h0];exact QF _,hs.entry⟩,?_⟩
 ·intro i t hi
  exact one (hv.get i) _ (hs.vars i t hi)
 ·obtain ⟨bs,h1,h2,h3⟩:=hs.defs
  exact ⟨bs,h1,h2,fun b hb=>let ⟨g1,g2,g3,g4⟩:=h3 b hb;⟨g1,g2,g3,fun hx=>g4 (how b hx)⟩⟩
 ·intro l b hl
  obtain ⟨h1,h2⟩:=hm2s l b hl
  exact ⟨h1,(hh.dom (g l) b h2).2⟩
 ·intro l b o hl hlo hv
  obtain ⟨h1,h2⟩:=hm2s l b hl
  obtain ⟨o',h3,h4⟩:=hlv l h1
  exact hh.own (g l) b o' h2 h3 h4
 ·intro l l' b o' hl hl' hlo hv
  obtain ⟨h1,h2⟩:=hm2s l b hl
  obtain ⟨h1',h2'⟩:=hm2s l' b hl'
  obtain ⟨o2,h3,h4⟩:=hlv l' h1'
  have:=hh.inj (g l) (g l') b o2 h2 h2' h3 h4
  rcases ZB l' l with hlt | hge
  ·have:=hg l' l hlt h1;omega
  ·exact hge
 ·intro l o2 hlo
  obtain ⟨o,h1,h2,h3⟩:=ho l o2 hlo
  have hlt:l<σ2.length:=(QH.1 hlo).1
  have hob:=hh.obj (g l) o h1
  rw[hm2 l hlt]
  rcases h3 with ⟨rfl,hc⟩ | ⟨as_,bs,rfl,rfl,ht⟩
  ·exact ORel.ren hm2 how hc hob
  ·cases hm:m (g l) with
   | none=>rw[hm] at hob;exact hob.elim
   | some b =>
    rw[hm] at hob
    obtain ⟨c,e,g1,g2,g3⟩:=hob
    refine ⟨c,e,g1,by rw[← ht.len];exact g2,?_⟩
    rw[← ht.len]
    exact many ht _ g3
 ·rw[h0]
  exact ⟨fun l hl=>absurd hl (W5 _),fun l b hl=>.inl ⟨g l,(hm2s l b hl).2⟩,QG _,fun _ _ _=>rfl,fun b c e hb=>⟨c,hb,rfl⟩,rfl,rfl,rfl,fun _=>QG _⟩
end Go.Proofs.YtpmokaefmcffaaaGreat.AM
namespace Go.Proofs.YtpmokaefmcffaaaGreat.AM
variable [Dr]
open Go
variable {P:Program} {fx:Fx} {m m':LM} {X X':Nat→Prop} {en:En} {w w':World} {s:St} {ac:Act}
theorem Mono.lessX (h:∀ b,X b→X' b):Mono m X' w m X w :=
 ⟨fun _ _ h=>h,fun b hb _=>⟨rfl,fun ho=>hb (ho.imp (h b) id)⟩,fun b c e h=>⟨c,h,rfl⟩⟩
theorem SRel.lessX (h:∀ b,X b→X' b) (hs:SRel fx m X' en s ac w):SRel fx m X en s ac w:=by
 refine ⟨hs.size,hs.vars.mono (Mono.lessX h),?_,?_,hs.base,hs.entry⟩
 ·obtain ⟨bs,h1,h2,h3⟩:=hs.defs
  exact ⟨bs,h1,h2,fun b hb=>let ⟨g1,g2,g3,g4⟩:=h3 b hb;⟨g1,g2,g3,fun ho=>g4 (ho.imp (h b) id)⟩⟩
 ·refine ⟨fun b hb=>hs.heap.xb b (h b hb),hs.heap.dom,fun l b o hl ho hv hx=>hs.heap.own l b o hl ho hv (h b hx),hs.heap.inj,fun l o ho=>?_,hs.heap.gl.mono (Mono.lessX h)⟩
  have:=hs.heap.obj l o ho
  cases hml:m l with
  | none=>rw[hml] at this;cases o <;> simp[ORel] at this ⊢
  | some b=>rw[hml] at this;exact ORel.mono (Mono.lessX h) rfl this
theorem Step.lessX {n0:Nat} (h:∀ b,X b→X' b) (hs:Step n0 m X' w m' w'):Step n0 m X w m' w':={ hs with fr:=fun b hb hno=>hs.fr b hb (hno.imp (h b) id) }
theorem Step.putX {n0 r:Nat} {o:Obj} (hs:Step n0 m X w m' w') (hr:w.heap.size≤r):Step n0 m X w m' (w'.putObj r o) where
 keep:=hs.keep
 new:=hs.new
 size:=by have:=hs.size;simpa[World.putObj] using this
 fr b hb hno:=by rw[World.putObj_heap_other (by omega)];exact hs.fr b hb hno
 shp b c e hb:=by
  obtain ⟨c',h1,h2⟩:=hs.shp b c e hb
  have:=(Q3.1 hb).1
  exact ⟨c',by rw[World.putObj_heap_other (by omega)];exact h1,h2⟩
 os:=hs.os
 tape:=hs.tape
 output:=hs.output
 drawn:=hs.drawn
theorem Step.drew {n0:Nat} (hs:Step n0 m X w m' w'):Step n0 m X w m' w'.drew:={ hs with drawn:=fun o=>Nat.le_succ_of_le (hs.drawn o) }
theorem Mono.putX {r:Nat} {o o0:Obj} (hx:X r) (hr:w.heap[r]? = some o0) (h0:∀ c e,o0≠.cells c e (0,0)):Mono m X w m X (w.putObj r o) :=
 ⟨fun _ _ h=>h,fun b hb _=>⟨World.putObj_heap_other (show b≠r from fun h=>hb (.inl (by rw[h];exact hx))),hb⟩,fun b c e h=>⟨c,by
  rw[World.putObj_heap_other];exact h
  rintro rfl
  rw[hr] at h;cases h;exact h0 _ _ rfl,rfl⟩⟩
theorem SRel.putX {r:Nat} {o o0:Obj} (hx:X r) (hr:w.heap[r]? = some o0) (h0:∀ c e,o0≠.cells c e (0,0)) (hs:SRel fx m X en s ac w):SRel fx m X en s ac (w.putObj r o):=by
 have hm:Mono m X w m X (w.putObj r o):=Mono.putX hx hr h0
 refine ⟨hs.size,hs.vars.mono hm,?_,?_,hs.base,by simpa[World.putObj] using hs.entry⟩
 ·obtain ⟨bs,h1,h2,h3⟩:=hs.defs
  refine ⟨bs,h1,h2,fun b hb=>?_⟩
  obtain ⟨g1,g2,g3,g4⟩:=h3 b hb
  exact ⟨g1,by simpa[World.putObj] using g2,by rw[World.putObj_heap_other (show b≠r from fun h=>g4 (.inl (by rw[h];exact hx)))];exact g3,g4⟩
 ·refine ⟨fun b hb=>by simpa[World.putObj] using hs.heap.xb b hb,fun l b hl=>by simpa[World.putObj] using hs.heap.dom l b hl,hs.heap.own,hs.heap.inj,fun l o' ho=>?_,hs.heap.gl.mono hm⟩
  have h1:=hs.heap.obj l o' ho
  cases hml:m l with
  | none=>rw[hml] at h1;cases o' <;> simp[ORel] at h1 ⊢
  | some b =>
   rw[hml] at h1
   by_cases hv:o'.live
   ·exact ORel.mono hm (World.putObj_heap_other (show b≠r from fun h=>hs.heap.own l b o' hml ho hv (by rw[h];exact hx))) h1
   ·cases o' <;> simp[AObj.live] at hv
    simp[ORel]
theorem SRel.put_other {t:Nat} {v:Value} (ht:t∉fx.vars) (hs:SRel fx m X en s ac w):SRel fx m X en s (ac.put (some t) v) w:=by
 refine ⟨by simpa[Act.put] using hs.size,fun i u hi=>?_,hs.defs,hs.heap,hs.base,hs.entry⟩
 have hne:u≠t:=by rintro rfl;exact ht (QZ hi)
 have:=hs.vars i u hi
 simp only[Act.put,QV] at this ⊢
 rw[W2 (fun h=>hne h.symm)];exact this
theorem SRel.put_var {t i:Nat} {v:Value} {a:AV} (hn:fx.vars.Nodup) (ht:fx.vars[i]? = some t) (htN:t<fx.N) (hv:VRel m X w a v) (hs:SRel fx m X en s ac w):SRel fx m X en ⟨s.vals.set i a,s.heap⟩ (ac.put (some t) v) w:=by
 refine ⟨by simpa[Act.put] using hs.size,fun j u hj=>?_,hs.defs,hs.heap,hs.base,hs.entry⟩
 have hsz:=hs.size
 have hold:=hs.vars j u hj
 by_cases hji:j=i
 ·subst hji
  rw[ht] at hj;cases hj
  have e1:(ac.put (some t) v).tmps.getD t Go.undef=v:=by
   simp[Act.put,QV,hsz,htN]
  rw[e1]
  rcases ZB j s.vals.length with h | h
  ·simpa[List.getD,h] using hv
  ·rw[KE h];simp[List.getD,QN h,VRel]
 ·have hne:u≠t:=by
   rintro rfl
   exact hji ((List.getElem?_inj (QH.1 hj).1 hn).1 (hj.trans ht.symm))
  have e1:(s.vals.set i a).getD j .undef=s.vals.getD j .undef:=by
   simp only[List.getD];rw[QU (fun h=>hji h.symm)]
  have e2:(ac.put (some t) v).tmps.getD u Go.undef=ac.tmps.getD u Go.undef:=by
   simp only[Act.put,QV];rw[W2 (fun h=>hne h.symm)]
  show VRel m X w ((s.vals.set i a).getD j .undef) _
  rw[e1,e2];exact hold
theorem PQ {ro:Option Nat} {ops:Array Oper} {Q:Exit→Act→World→Prop} {l:List Nat} {i:Nat} {o:Oper} {v:Value} (ho:ops[i]? = some o) (hg:o.guard=none) (hnd:∀ c,o.op≠.defer c)
  (hrun:(execOp ac.eval o).run P w=.ok (.value v) w') (h:wpOpsIn (wfen ro) 0 P ops Q l (ac.put o.dst v) w'):wpOpsIn (wfen ro) 0 P ops Q (i::l) ac w:=by
 have hw:Region.wanted o (yielded ops ac.tmps)=true:=by simp[Region.wanted,hg]
 simp only[wpOpsIn,ho,hw,if_true]
 refine ⟨fun _ _=>trivial,?_⟩
 rw[Oper.semAt_eq _ _ _ hnd,hrun]
 exact h
structure MIt (m:LM) (X:Nat→Prop) (w:World) (lit l:Nat) (es:List (AV × AV)) (dn:List Nat) (r bm:Nat) (ces:Array MapEntry) (clock:Nat):Prop where
 mi:m lit=some r
 ml:m l=some bm
 xr:X r
 xm:X bm
 it:∃ c0,c0=clock∧w.heap[r]? = some (.mapIter (some bm) clock ((dn.map fun i=>(ces[i]?.map (·.born)).getD 0).toArray) c0)
 mp:w.heap[bm]? = some (.map ces clock)
 born:∀ e∈ces,e.born<clock
 nd:(ces.toList.map (·.born)).Nodup
 sz:ces.size=es.length
 rel:∀ (i:Nat) (k a:AV),es[i]? = some (k,a)→∃ e:MapEntry,ces[i]? = some e∧(∀ m X w,VRel m X w k e.key)∧∀ m X w,VRel m X w a e.val
 dd:dn.Nodup
 dl:∀ i∈dn,i<es.length
theorem MIt.step {lit l:Nat} {es:List (AV × AV)} {dn:List Nat} {r bm:Nat} {ces:Array MapEntry} {clock n0:Nat} (h:MIt m X w lit l es dn r bm ces clock) (hs:Step n0 m X w m' w') (h1:lit<n0) (h2:l<n0):MIt m' X w' lit l es dn r bm ces clock:=by
 obtain ⟨c0,hc,hit⟩:=h.it
 refine ⟨by rw[hs.keep _ h1];exact h.mi,by rw[hs.keep _ h2];exact h.ml,h.xr,h.xm,⟨c0,hc,?_⟩,?_,h.born,h.nd,h.sz,h.rel,h.dd,h.dl⟩
 ·rw[hs.fr r (Q3.1 hit).1 (.inl h.xr)];exact hit
 ·rw[hs.fr bm (Q3.1 h.mp).1 (.inl h.xm)];exact h.mp
theorem born_inj {ces:Array MapEntry} (hn:(ces.toList.map (·.born)).Nodup) {i j:Nat} {e e':MapEntry} (hi:ces[i]? = some e) (hj:ces[j]? = some e') (h:e.born=e'.born):i=j:=by
 have h1:(ces.toList.map (·.born))[i]? = some e.born:=by simp[hi]
 have h2:(ces.toList.map (·.born))[j]? = some e'.born:=by simp[hj]
 have hl:i<(ces.toList.map (·.born)).length:=(QH.1 h1).1
 exact (List.getElem?_inj hl hn).1 (by rw[h1,h2,h])
theorem MIt.next {lit l:Nat} {es:List (AV × AV)} {dn:List Nat} {r bm:Nat} {ces:Array MapEntry} {clock:Nat} (h:MIt m X w lit l es dn r bm ces clock) (ty:TypeId) :
  (dn.Perm (List.range es.length)∧(Instr.next (.pointer (some ⟨r,0,none⟩)) false ty).run P w=.ok (.tuple #[.bool false]) w) ∨
  ∃ (i:Nat) (k a:AV) (e:MapEntry) (w1:World) (c0:Nat),i∉dn∧i<es.length∧es[i]? = some (k,a)∧ces[i]? = some e∧(∀ m X w,VRel m X w k e.key)∧(∀ m X w,VRel m X w a e.val)∧(w1=w∨w1=w.drew)∧clock≤c0 ∧
   (Instr.next (.pointer (some ⟨r,0,none⟩)) false ty).run P w=.ok (.tuple #[.bool true,e.key,e.val]) (w1.putObj r (.mapIter (some bm) clock (((dn++[i]).map fun i=>(ces[i]?.map (·.born)).getD 0).toArray) c0)) ∧
   MIt m X (w1.putObj r (.mapIter (some bm) clock (((dn++[i]).map fun i=>(ces[i]?.map (·.born)).getD 0).toArray) c0)) lit l es (dn++[i]) r bm ces clock:=by
 obtain ⟨c0,hc,hit⟩:=h.it
 have hmem:∀ i e,ces[i]? = some e→((dn.map fun i=>(ces[i]?.map (·.born)).getD 0).toArray.contains e.born=true↔i∈dn):=by
  intro i e he
  simp only[List.contains_toArray,XS,ZP]
  constructor
  ·rintro ⟨j,hj,hb⟩
   have hjl:=h.dl j hj
   obtain ⟨e',he'⟩:∃ e',ces[j]? = some e':=⟨ces[j]'(by rw[h.sz];exact hjl),by rw[Q7]⟩
   rw[he'] at hb
   have:i=j:=born_inj h.nd he he' (by simpa using hb.symm)
   exact this ▸ hj
  ·intro hi
   exact ⟨i,hi,by simp[he]⟩
 rcases run_next_at (P:=P) w ty r bm clock c0 _ ces clock hit h.mp (fun x hx=>h.born x (by simpa using hx)) (by omega) with ⟨h0,hrun⟩ | ⟨e,he,w1,hw1,hrun⟩
 ·left
  refine ⟨?_,hrun⟩
  have hall:∀ i,i<es.length→i∈dn:=by
   intro i hi
   have hic:i<ces.size:=by rw[h.sz];exact hi
   have h2:ces[i]? = some ces[i]:=Q7 hic
   rw[← hmem i _ h2]
   have h3:leftOf ces ((dn.map fun i=>(ces[i]?.map (·.born)).getD 0).toArray) = #[]:=Array.eq_empty_of_size_eq_zero h0
   unfold leftOf at h3
   rw[Array.filter_eq_empty_iff] at h3
   have:=h3 ces[i] (Array.getElem_mem hic)
   simpa using this
  refine (List.perm_ext_iff_of_nodup h.dd List.nodup_range).2 fun i=>?_
  rw[ZI]
  exact ⟨h.dl i,hall i⟩
 ·right
  unfold leftOf at he
  simp only[Array.toList_filter,YB,Z0,XG] at he
  obtain ⟨he1,he2⟩:=he
  obtain ⟨i,hi,rfl⟩:=Array.mem_iff_getElem.1 he1
  have hic:ces[i]? = some ces[i]:=Q7 hi
  have hil:i<es.length:=by rw[← h.sz];exact hi
  have hid:i∉dn:=by
   intro hd
   rw[(hmem i _ hic).2 hd] at he2
   cases he2
  obtain ⟨e',g1,g2,g3⟩:=h.rel i (es[i]).1 (es[i]).2 (by rw[QI hil])
  rw[hic] at g1;cases g1
  have hseen:(((dn++[i]).map fun i=>(ces[i]?.map (·.born)).getD 0).toArray)=((dn.map fun i=>(ces[i]?.map (·.born)).getD 0).toArray).push (ces[i]).born:=by
   simp[hic]
  have hsb:∀ (u:World) o,ChangeMaps.setBlock u r o=u.putObj r o:=fun _ _=>rfl
  have hr1:w1.heap=w.heap:=by rcases hw1 with rfl | rfl <;> rfl
  have hrlt:r<w1.heap.size:=by rw[hr1];exact (Q3.1 hit).1
  have hne:bm≠r:=by rintro rfl;have hmp:=h.mp;rw[hit] at hmp;cases hmp
  refine ⟨i,(es[i]).1,(es[i]).2,ces[i],w1,clock,hid,hil,by rw[QI hil],hic,g2,g3,hw1,QG _,by rw[hseen];exact hrun,?_⟩
  refine ⟨h.mi,h.ml,h.xr,h.xm,⟨clock,rfl,World.putObj_heap_same hrlt⟩,by rw[World.putObj_heap_other hne,hr1];exact h.mp,h.born,h.nd,h.sz,h.rel,?_,?_⟩
  ·exact List.nodup_append.2 ⟨h.dd,by simp,fun a ha b hb=>by simp at hb;subst hb;rintro rfl;exact hid ha⟩
  ·intro j hj
   rcases YV.1 hj with hj | hj
   ·exact h.dl j hj
   ·simp at hj;subst hj;exact hil
structure GM (l bm:Nat) (es:List (AV × AV)) (ces:Array MapEntry) (clock:Nat) (m:LM) (X:Nat→Prop) (w:World):Prop where
 ml:m l=some bm
 xm:X bm
 mp:w.heap[bm]? = some (.map ces clock)
 born:∀ e∈ces,e.born<clock
 nd:(ces.toList.map (·.born)).Nodup
 sz:ces.size=es.length
 rel:∀ (i:Nat) (k a:AV),es[i]? = some (k,a)→∃ e:MapEntry,ces[i]? = some e∧(∀ m X w,VRel m X w k e.key)∧∀ m X w,VRel m X w a e.val
theorem GM.step {l bm:Nat} {es:List (AV × AV)} {ces:Array MapEntry} {clock n0:Nat} (h:GM l bm es ces clock m X w) (hs:Step n0 m X w m' w') (hl:l<n0):GM l bm es ces clock m' X w' :=
 ⟨by rw[hs.keep _ hl];exact h.ml,h.xm,by rw[hs.fr bm (Q3.1 h.mp).1 (.inl h.xm)];exact h.mp,h.born,h.nd,h.sz,h.rel⟩
def WX (P:Program) (fx:Fx) (G:LM→(Nat→Prop)→World→Prop) (c:Code) (s:St) (Q:Exit→St→Prop):Prop :=
 ∀ m X en ac w,SRel fx m X en s ac w→rok fx m→G m X w→c.wpIn (fen m fx.r) 0 P (Lift fx m X en w Q) ac w
theorem WX.of {G:LM→(Nat→Prop)→World→Prop} {c:Code} {Q:Exit→St→Prop} (h:W P fx c s Q):WX P fx G c s Q:=fun m X en ac w hs hr _=>h m X en ac w hs hr
theorem C6 {G:LM→(Nat→Prop)→World→Prop} (hG:∀ m X w m' w',G m X w→Step fx.n0 m X w m' w'→G m' X w') {x y:Code} {Q:Exit→St→Prop} (h:WX P fx G x s fun e s'=>match e with | .normal=>WX P fx G y s' Q | e=>Q e s'):WX P fx G (.seq x y) s Q:=by
 intro m X en ac w hs hr hg
 refine wpIn_seq (wpIn_mono (h m X en ac w hs hr hg) ?_)
 rintro e ac' w' ⟨s',m',hq,hs',hst⟩
 cases e with
 | normal =>
  have:=hq m' X en ac' w' hs' (EH hr hst) (hG _ _ _ _ _ hg hst)
  rw[EQ hr hst] at this
  exact wpIn_mono this fun e ac2 w2 ⟨s2,m2,h1,h2,h3⟩=>⟨s2,m2,h1,h2,hst.trans h3⟩
 | _=>exact ⟨s',m',hq,hs',hst⟩
set_option maxHeartbeats 1000000 in
theorem QdL {l bm:Nat} {es:List (AV × AV)} {ces:Array MapEntry} {clock:Nat} {tm tit tn tok te iit bi bj id2 id3 id4 T K E:Nat} {o20 o21 o30 o31 o4:Oper} {ops4:Array Oper} {is4:List Ins} {B:Code} {x:Operand} {Q:Exit→St→Prop}
  (hl0:l<fx.n0) (hx:WY s.vals [] (XA fx.vars [] x)=.map l) (hT:P.underlying T=some (.map K E)) (hnd:fx.vars.Nodup)
  (g20:o20.dst=some tm∧o20.op=.move x∧o20.guard=none) (g21:o21.dst=some tit∧o21.op=.range T (.tmp tm)∧o21.guard=none)
  (g30:o30.dst=some tn∧o30.op=.next (.tmp tit) false∧o30.guard=none) (g31:o31.dst=some tok∧o31.op=.extract (.tmp tn) 0∧o31.guard=none)
  (g4:ops4[0]? = some o4∧o4.dst=some te∧o4.op=.entry (.tmp tit)∧o4.guard=none)
  (hok4:GU fx.vars fx.N ops4.toList=true) (hc4:HK P fx.vars (ops4.toList.map (·.dst)) (ops4.toList.drop 1)=some is4)
  (hit:fx.vars[iit]? = some tit) (hv:tm∉fx.vars∧tn∉fx.vars∧tok∉fx.vars∧te∉fx.vars) (hN:tm<fx.N∧tit<fx.N∧tn<fx.N∧tok<fx.N∧te<fx.N)
  (I:List Nat→St→Prop) (h0:I [] ⟨s.vals.set iit (.ptr s.heap.length 0),s.heap++[.dead]⟩)
  (hI:∀ dn s',I dn s'→s'.vals.getD iit .undef=.ptr s.heap.length 0)
  (hround:∀ dn s' i k a,I dn s'→i∉dn→es[i]? = some (k,a)→RG P is4 s'.vals [.tup [k,a]] s'.heap fun vals _ σ=>W P { fx with n0:=s.heap.length+1 } B ⟨vals,σ⟩ fun e s2=>match e with
   | .normal=>∃ s3,Weak { fx with n0:=s.heap.length+1 } s2 s3∧I (dn++[i]) s3
   | _=>False)
  (hend:∀ dn s',I dn s'→dn.Perm (List.range es.length)→Q .normal s') :
  WX P fx (GM l bm es ces clock) (.seq (.region id2 #[o20,o21] false) (.block bi (.loop (.seq (.region id3 #[o30,o31] false) (.seq (.cond (.tmp tok) .skip (.exit bi)) (.block bj (.seq (.region id4 ops4 false) B))))))) s Q:=by
 intro m X en ac w hs hr hg
 have hbase:fx.n0≤s.heap.length:=hs.base
 have hbl:bm<w.heap.size:=(Q3.1 hg.mp).1
 have hxv:ac.eval x=.map (some bm):=by
  have:=U7 (ops:=[]) (ρ:=[]) (ds:=ac.defers) (tmps:=ac.tmps) hs.heap.gl hs.vars (fun j t hj _=>by simp at hj) x
  simp only[WS] at this
  rw[hx] at this
  simp only[VRel] at this
  obtain ⟨b,hb,he⟩:=this
  rw[hg.ml] at hb;cases hb
  exact he
 have hro:fen m fx.r=wfen (fx.r.bind m):=rfl
 refine wpIn_seq (wpIn_region ?_)
 show wpOpsIn (wfen (fx.r.bind m)) 0 P #[o20,o21] _ [0,1] ac w
 refine PQ (o:=o20) (v:=.map (some bm)) (w':=w) rfl g20.2.2 (by rw[g20.2.1];simp) (by simp[execOp,g20.2.1,hxv]) ?_
 rw[g20.1]
 have hsz:=hs.size
 have ev1:(ac.put (some tm) (.map (some bm))).eval (.tmp tm)=.map (some bm):=by
  simp[Act.eval,Act.put,QV,hsz,hN.1]
 refine PQ (o:=o21) (v:=.pointer (some ⟨w.heap.size,0,none⟩)) (w':=w.alloc (.mapIter (some bm) clock #[] clock)) rfl g21.2.2 (by rw[g21.2.1];simp) (by
  simp only[execOp,g21.2.1,ev1]
  simp[run_range_map w T K E bm ces clock hT hg.mp]) ?_
 rw[g21.1]
 simp only[wpOpsIn,Exit.then]
 refine wpIn_block (D6 ?_)
 obtain ⟨a1,a2,a3⟩:=hs.heap.alloc (.mapIter (some bm) clock #[] clock) .dead (fun _=>by simp[ORel])
 have hm1:Mono m X w (m.put s.heap.length w.heap.size) (fun b=>X b∨b=w.heap.size) (w.alloc (.mapIter (some bm) clock #[] clock)):=by
  refine ⟨a3.sub,fun b hb hc=>⟨(a3.cl b hb hc).1,?_⟩,a3.shp⟩
  rintro ((hx | rfl) | ⟨l',hl'⟩)
  ·exact hb (.inl hx)
  ·exact absurd hc.lt (Nat.lt_irrefl _)
  ·exact (a3.cl b hb hc).2 (.inr ⟨l',hl'⟩)
 have hs1:SRel { fx with n0:=s.heap.length+1 } (m.put s.heap.length w.heap.size) (fun b=>X b∨b=w.heap.size) en ⟨s.vals,s.heap++[.dead]⟩ ac (w.alloc (.mapIter (some bm) clock #[] clock)):=by
  refine ⟨hs.size,hs.vars.mono hm1,?_,⟨?_,a1.dom,?_,a1.inj,?_,hs.heap.gl.mono hm1⟩,by simp,by have:=hs.entry;simp;omega⟩
  ·obtain ⟨bs,h1,h2,h3⟩:=hs.defs
   refine ⟨bs,h1,h2,fun b hb=>?_⟩
   obtain ⟨q1,q2,q3,q4⟩:=h3 b hb
   refine ⟨q1,by simp;omega,by rw[heap_alloc_old w _ q2];exact q3,?_⟩
   rintro ((hx | rfl) | ⟨l',hl'⟩)
   ·exact q4 (.inl hx)
   ·exact Nat.lt_irrefl _ q2
   ·by_cases hll:l'=s.heap.length
    ·subst hll;rw[LM.put_same] at hl';cases hl';exact Nat.lt_irrefl _ q2
    ·rw[LM.put_other m hll] at hl';exact q4 (.inr ⟨l',hl'⟩)
  ·rintro b (hb | rfl)
   ·exact a1.xb b hb
   ·simp
  ·intro l' b o hl' ho hvv
   rintro (hb | rfl)
   ·exact a1.own l' b o hl' ho hvv hb
   ·by_cases hll:l'=s.heap.length
    ·subst hll
     rw[QS (QG _)] at ho
     simp at ho;subst ho;exact hvv
    ·rw[LM.put_other m hll] at hl'
     exact Nat.lt_irrefl _ (hs.heap.dom l' _ hl').2
  ·intro l' o ho
   have hh:=a1.obj l' o ho
   have hgrow:Mono (m.put s.heap.length w.heap.size) X (w.alloc (.mapIter (some bm) clock #[] clock)) (m.put s.heap.length w.heap.size) (fun b=>X b∨b=w.heap.size) (w.alloc (.mapIter (some bm) clock #[] clock)):=by
    refine ⟨fun _ _ h=>h,fun b hb hc=>⟨rfl,?_⟩,fun b c e h=>⟨c,h,rfl⟩⟩
    rintro ((hx | rfl) | ⟨l',hl'⟩)
    ·exact hb (.inl hx)
    ·exact hb (.inr ⟨s.heap.length,LM.put_same _ _ _⟩)
    ·exact hb (.inr ⟨l',hl'⟩)
   cases hml:(m.put s.heap.length w.heap.size) l' with
   | none=>rw[hml] at hh;cases o <;> simp[ORel] at hh ⊢
   | some b=>rw[hml] at hh;exact ORel.mono hgrow rfl hh
 have hs2:=SRel.put_var (fx:={ fx with n0:=s.heap.length+1 }) (v:=.pointer (some ⟨w.heap.size,0,none⟩)) (a:=.ptr s.heap.length 0) hnd hit hN.2.1 (by simp only[VRel];exact ⟨_,LM.put_same _ _ _,rfl⟩) (SRel.put_other (fx:={ fx with n0:=s.heap.length+1 }) (t:=tm) (v:=.map (some bm)) hv.1 hs1)
 have hM0:MIt (m.put s.heap.length w.heap.size) (fun b=>X b∨b=w.heap.size) (w.alloc (.mapIter (some bm) clock #[] clock)) s.heap.length l es [] w.heap.size bm ces clock :=
  ⟨LM.put_same _ _ _,by rw[LM.put_other m (by omega)];exact hg.ml,.inr rfl,.inl hg.xm,⟨clock,rfl,by rw[heap_alloc_new];rfl⟩,by rw[heap_alloc_old w _ hbl];exact hg.mp,hg.born,hg.nd,hg.sz,hg.rel,YU,by simp⟩
 have hst0:Step fx.n0 m X w (m.put s.heap.length w.heap.size) (w.alloc (.mapIter (some bm) clock #[] clock)):=a2.less hbase
 have key:∀ (n:Nat) (dn:List Nat) (s':St) (m1:LM) (ac1:Act) (w1:World),es.length-dn.length=n→I dn s'→SRel { fx with n0:=s.heap.length+1 } m1 (fun b=>X b∨b=w.heap.size) en s' ac1 w1 →
   MIt m1 (fun b=>X b∨b=w.heap.size) w1 s.heap.length l es dn w.heap.size bm ces clock→Step fx.n0 m X w m1 w1 →
   RA (fen m fx.r) P (.seq (.region id3 #[o30,o31] false) (.seq (.cond (.tmp tok) .skip (.exit bi)) (.block bj (.seq (.region id4 ops4 false) B)))) (Exit.inBlock bi (Lift fx m X en w Q)) ac1 w1:=by
  intro n
  induction n using Nat.strongRecOn with
  | _ n ih =>
  intro dn s' m1 ac1 w1 hn hId hsr hmi hst
  have hsz1:=hsr.size
  have hiv:ac1.eval (.tmp tit)=.pointer (some ⟨w.heap.size,0,none⟩):=by
   have:=hsr.vars iit tit hit
   rw[hI dn s' hId] at this
   simp only[VRel] at this
   obtain ⟨b,hb,he⟩:=this
   rw[hmi.mi] at hb;cases hb
   exact he
  have hr1:rok { fx with n0:=s.heap.length+1 } m1:=by
   intro l' hl'
   obtain ⟨k1,b,k2⟩:=EH hr hst l' hl'
   exact ⟨by show l'<s.heap.length+1;omega,b,k2⟩
  refine L4 (wpIn_seq (wpIn_region ?_))
  show wpOpsIn (wfen (fx.r.bind m)) 0 P #[o30,o31] _ [0,1] ac1 w1
  rcases hmi.next (P:=P) o30.type with ⟨hperm,hrun⟩ | ⟨i,k,a,e,w2,c0,hid,hil,hei,hci,hk,ha,hw2,hc0,hrun,hmi2⟩
  ·refine PQ (o:=o30) (v:=.tuple #[.bool false]) (w':=w1) rfl g30.2.2 (by rw[g30.2.1];simp) (by simp[execOp,g30.2.1,hiv,hrun]) ?_
   rw[g30.1]
   have ev2:(ac1.put (some tn) (.tuple #[.bool false])).eval (.tmp tn)=.tuple #[.bool false]:=by
    simp[Act.eval,Act.put,QV,hsz1,hN.2.2.1]
   refine PQ (o:=o31) (v:=.bool false) (w':=w1) rfl g31.2.2 (by rw[g31.2.1];simp) (by simp[execOp,g31.2.1,ev2,Instr.extract]) ?_
   rw[g31.1]
   simp only[wpOpsIn,Exit.then]
   refine wpIn_seq (wpIn_cond_false (by simp[Act.eval,Act.put,QV,hsz1,hN.2.2.2.1]) (wpIn_exit ?_))
   simp only[Exit.then,Exit.inBlock,if_true]
   have hs3:=SRel.put_other (fx:={ fx with n0:=s.heap.length+1 }) (t:=tok) (v:=.bool false) hv.2.2.1 (SRel.put_other (fx:={ fx with n0:=s.heap.length+1 }) (t:=tn) (v:=.tuple #[.bool false]) hv.2.1 hsr)
   have hs4:=SRel.lessX (X:=X) (fun b h=>.inl h) hs3
   exact ⟨s',m1,hend dn s' hId hperm,⟨hs4.size,hs4.vars,hs4.defs,hs4.heap,by have:=hs4.base;dsimp only at this ⊢;omega,hs4.entry⟩,hst⟩
  ·refine PQ (o:=o30) (v:=.tuple #[.bool true,e.key,e.val]) (w':=(w2.putObj w.heap.size (.mapIter (some bm) clock (((dn++[i]).map fun i=>(ces[i]?.map (·.born)).getD 0).toArray) c0))) rfl g30.2.2 (by rw[g30.2.1];simp) (by simp only[execOp,g30.2.1,hiv];simp only[Sem.run_bind,hrun,Result.andThen_ok,Sem.run_pure]) ?_
   rw[g30.1]
   have ev2:(ac1.put (some tn) (.tuple #[.bool true,e.key,e.val])).eval (.tmp tn)=.tuple #[.bool true,e.key,e.val]:=by
    simp[Act.eval,Act.put,QV,hsz1,hN.2.2.1]
   refine PQ (o:=o31) (v:=.bool true) (w':=(w2.putObj w.heap.size (.mapIter (some bm) clock (((dn++[i]).map fun i=>(ces[i]?.map (·.born)).getD 0).toArray) c0))) rfl g31.2.2 (by rw[g31.2.1];simp) (by simp[execOp,g31.2.1,ev2,Instr.extract]) ?_
   rw[g31.1]
   simp only[wpOpsIn,Exit.then]
   refine wpIn_seq (wpIn_cond_true (by simp[Act.eval,Act.put,QV,hsz1,hN.2.2.2.1]) (wpIn_skip ?_))
   simp only[Exit.then]
   refine wpIn_block (wpIn_seq (wpIn_region ?_))
   obtain ⟨c1,hc1,hiter⟩:=hmi.it
   have hx1:(fun b=>X b∨b=w.heap.size) w.heap.size:=.inr rfl
   have hs2':SRel { fx with n0:=s.heap.length+1 } m1 (fun b=>X b∨b=w.heap.size) en s' ac1 w2:=by
    rcases hw2 with rfl | rfl
    ·exact hsr
    ·exact hsr.drew
   have hiter2:w2.heap[w.heap.size]? = some (.mapIter (some bm) clock ((dn.map fun i=>(ces[i]?.map (·.born)).getD 0).toArray) c1):=by
    rcases hw2 with rfl | rfl <;> exact hiter
   have hst2:Step fx.n0 m X w m1 w2:=by
    rcases hw2 with rfl | rfl
    ·exact hst
    ·exact hst.drew
   have hs3:=SRel.put_other (fx:={ fx with n0:=s.heap.length+1 }) (t:=tok) (v:=.bool true) hv.2.2.1 (SRel.put_other (fx:={ fx with n0:=s.heap.length+1 }) (t:=tn) (v:=.tuple #[.bool true,e.key,e.val]) hv.2.1 (SRel.putX (o:=.mapIter (some bm) clock (((dn++[i]).map fun i=>(ces[i]?.map (·.born)).getD 0).toArray) c0) hx1 hiter2 (by intro c e;simp) hs2'))
   have hst3:=hst2.putX (r:=w.heap.size) (o:=.mapIter (some bm) clock (((dn++[i]).map fun i=>(ces[i]?.map (·.born)).getD 0).toArray) c0) (QG _)
   generalize hw3:(w2.putObj w.heap.size (.mapIter (some bm) clock (((dn++[i]).map fun i=>(ces[i]?.map (·.born)).getD 0).toArray) c0))=w3 at hs3 hst3 hmi2 hrun
   have hsz3:=hs3.size
   have hiv3:((ac1.put (some tn) (.tuple #[.bool true,e.key,e.val])).put (some tok) (.bool true)).eval (.tmp tit)=.pointer (some ⟨w.heap.size,0,none⟩):=by
    have:=hs3.vars iit tit hit
    rw[hI dn s' hId] at this
    simp only[VRel] at this
    obtain ⟨b,hb,he⟩:=this
    rw[hmi.mi] at hb;cases hb
    exact he
   generalize hac3:((ac1.put (some tn) (.tuple #[.bool true,e.key,e.val])).put (some tok) (.bool true))=ac3 at hs3 hiv3 hsz3
   have hentry:(Instr.entry (.pointer (some ⟨w.heap.size,0,none⟩))).run P w3=.ok (.tuple #[e.key,e.val]) w3:=by
    obtain ⟨c2,hc2,hit2⟩:=hmi2.it
    have hseen:(((dn++[i]).map fun i=>(ces[i]?.map (·.born)).getD 0).toArray)=((dn.map fun i=>(ces[i]?.map (·.born)).getD 0).toArray).push e.born:=by
     simp[hci]
    rw[hseen,hc2] at hit2
    have hemem:e∈ces.toList:=by
     rw[XG];exact Array.mem_of_getElem? hci
    have hf:ces.find? (·.born == e.born)=some e:=by rw[← Array.find?_toList];exact find_born e ces.toList hg.nd hemem
    simp only[Instr.entry,getObj,Sem.run_bind,Sem.run,hit2,hmi2.mp,Result.andThen,Array.back?_push,bne_self_eq_false,QT,if_false,hf]
    rfl
   have hlt4:0<ops4.size:=(Q3.1 g4.1).1
   have hrange:List.range ops4.size=0::List.range' 1 (ops4.size-1):=by
    rw[List.range_eq_range']
    have:ops4.size=(ops4.size-1)+1:=by omega
    rw[this,List.range'_succ]
    simp
   rw[hrange]
   refine PQ (ro:=fx.r.bind m) (o:=o4) (v:=.tuple #[e.key,e.val]) (w':=w3) g4.1 g4.2.2.2 (by rw[g4.2.2.1];simp) (by simp[execOp,g4.2.2.1,hiv3,hentry]) ?_
   rw[g4.2.1]
   have hs4:=SRel.put_other (fx:={ fx with n0:=s.heap.length+1 }) (t:=te) (v:=.tuple #[e.key,e.val]) hv.2.2.2 hs3
   have hrm:fx.r.bind m=fx.r.bind m1:=by
    have:=EQ hr hst
    rw[fen_eq,fen_eq] at this
    have:=congrArg Fence.round this
    simpa[wfen] using this.symm
   refine C8 (fx:={ fx with n0:=s.heap.length+1 }) (X:=fun b=>X b∨b=w.heap.size) (en:=en) hok4 is4 1 m1 w3 s'.vals [.tup [k,a]] s'.heap _ _ (by rw[← UV];exact hc4) rfl (hround dn s' i k a hId hid hei) hs4 ?_ ?_
   ·intro j t hj htv
    cases j with
    | zero =>
     have h0:ops4.toList[0]? = some o4:=by simpa using g4.1
     rw[h0] at hj
     simp only[Option.bind_some,g4.2.1,Option.some.injEq] at hj
     subst hj
     have:(ac3.put (some te) (.tuple #[e.key,e.val])).tmps.getD te Go.undef=.tuple #[e.key,e.val]:=by
      simp[Act.put,QV,hsz3,hN.2.2.2.2]
     rw[this]
     simp only[List.getD_cons_zero,VRel]
     exact ⟨_,rfl,by simp only[QK];exact ⟨hk _ _ _,ha _ _ _,trivial⟩⟩
    | succ j=>simp[VRel]
   ·intro m4 ac4 w4 vals4 ρ4 σ4 hW hs5 hst5
    simp only[Exit.then]
    have hr4:=EH (fx:={ fx with n0:=s.heap.length+1 }) hr1 hst5
    have hmi4:=hmi2.step hst5 (Nat.lt_succ_self _) (by show l<s.heap.length+1;omega)
    have hstA:Step fx.n0 m X w m4 w4:=hst3.trans ((hst5.less (by show fx.n0≤s.heap.length+1;omega)).lessX fun b h=>.inl h)
    have hB:=hW m4 (fun b=>X b∨b=w.heap.size) en ac4 w4 hs5 hr4
    have hfen4:fen m4 (Fx.r { fx with n0:=s.heap.length+1 })=wfen (fx.r.bind m):=by
     show fen m4 fx.r=_
     rw[EQ hr hstA];rfl
    rw[hfen4] at hB
    refine wpIn_mono hB ?_
    rintro e6 ac6 w6 ⟨s6,m6,hq6,hs6,hst6⟩
    cases e6 with
    | normal =>
     obtain ⟨s7,hwk,hI7⟩:=hq6
     obtain ⟨m7,hs7,hst7⟩:=hwk m6 _ en ac6 w6 hs6
     have hmi7:=(hmi4.step hst6 (Nat.lt_succ_self _) (by show l<s.heap.length+1;omega)).step hst7 (Nat.lt_succ_self _) (by show l<s.heap.length+1;omega)
     have hstB:Step fx.n0 m X w m7 w6:=hstA.trans (((hst6.trans hst7).less (by show fx.n0≤s.heap.length+1;omega)).lessX fun b h=>.inl h)
     have hdl:=hmi7.dd.length_le_of_subset (l₂:=List.range es.length) fun i hi=>ZI.2 (hmi7.dl i hi)
     simp only[QM,List.length_cons,List.length_nil,List.length_range] at hdl
     exact ih (es.length-(dn++[i]).length) (by simp;omega) (dn++[i]) s7 m7 ac6 w6 rfl hI7 hs7 hmi7 hstB
    | _=>exact hq6.elim
 exact key _ [] _ _ _ _ rfl h0 hs2 hM0 hst0
end Go.Proofs.YtpmokaefmcffaaaGreat.AM
namespace Go.Proofs.YtpmokaefmcffaaaGreat.AM
variable [Dr]
open Go
variable {P:Program} {fx:Fx}
theorem SZ {f:FuncId} {fn:Func} {args:List AV} {cargs:List Value} {σ:List AObj} {vars:List Nat} {m:LM} {X:Nat→Prop} {w:World} (ha:QK m X w args cargs) (hh:HRel m X σ w) (hargs:args.length≤fn.ntmps) :
  SRel ⟨vars,fn.ntmps,none,σ.length⟩ m X ⟨w.heap.size,[]⟩ ⟨Y5 vars args,σ⟩ { tmps:=cargs.toArray++Array.replicate (fn.ntmps-cargs.toArray.size) Go.undef,defers:=[] } w:=by
 have hlen:=ha.length
 refine ⟨by simp;omega,?_,⟨[],rfl,YU,by simp⟩,hh,QG _,QG _⟩
 intro i t hi
 have e1:(Y5 vars args).getD i .undef=args.getD t .undef:=by
  simp only[Y5,List.getD,ZR]
  rw[show vars[i]? = some t from hi];rfl
 rw[e1]
 rw[QV]
 by_cases ht:t<cargs.length
 ·have e2:(cargs.toArray++Array.replicate (fn.ntmps-cargs.toArray.size) Go.undef)[t]? = some cargs[t]:=by
   rw[JF (by simpa using ht)];simp[ht]
  rw[e2]
  have:=ha.getD t Go.undef
  simpa[List.getD,ht] using this
 ·have:args.getD t .undef=.undef:=by simp[List.getD,QN (show args.length≤t by omega)]
  rw[this];simp[VRel]
end Go.Proofs.YtpmokaefmcffaaaGreat.AM
namespace Go.Proofs.YtpmokaefmcffaaaGreat.AM
variable [Dr]
open Go
variable {P:Program}
def PF (a:AV):Prop:=∀ m X w m' X' w' v,VRel m X w a v→VRel m' X' w' a v
theorem QbP {k:IntKind} {z:Int}:PF (.cv (.int k z)):=fun m X w m' X' w' v h=>by simpa only[VRel,CV.rep] using h
theorem QeL {k:IntKind}:∀ {zs:List Int},PF (.agg (zs.map fun z=>.cv (.int k z))):=by
 intro zs m X w m' X' w' v h
 simp only[VRel] at h ⊢
 obtain ⟨vs,rfl,h⟩:=h
 refine ⟨vs,rfl,?_⟩
 induction zs generalizing vs with
 | nil=>rw[QK.nil' h];simp[QK]
 | cons z zs ih =>
  obtain ⟨u,us,rfl,h1,h2⟩:=h.cons
  simp only[Q0,QK]
  exact ⟨QbP m X w m' X' w' u h1,ih us h2⟩
theorem AC_map {f:FuncId} {fn:Func} {c:Code} {vars:List Nat} {l:Nat} {σ:List AObj} {es:List (AV × AV)} {R:AV→Prop} (hf:P.funcs[f]? = some fn) (hb:fn.body=some c) (hen:PI P f) (hargs:1≤fn.ntmps)
  (hl:σ[l]? = some (.map es)) (hes:∀ p∈es,PF p.1∧PF p.2)
  (h:∀ bm ces clock,WX P ⟨vars,fn.ntmps,none,1⟩ (GM 0 bm es ces clock) c ⟨Y5 vars [.map 0],[.dead]⟩ fun e s'=>match e with
   | .normal | .ret=>∃ r,UB P vars s'.vals s'.heap fn.results.toList=some r∧∃ v,FrzV scl s'.heap r v∧R v
   | _=>False):AC P f [.map l] σ fun r τ=>R r∧τ=σ:=by
 refine ⟨hen,fun m X w cargs ha hh=>?_⟩
 refine callsIn_of_wp_marks hf hb trivial ?_
 have hlen:=ha.length
 obtain ⟨v0,us,rfl,hv0,h2⟩:=ha.cons
 have h3:=QK.nil' h2
 subst h3
 simp only[VRel] at hv0
 obtain ⟨bm,hbm,rfl⟩:=hv0
 have ho:=hh.obj l _ hl
 rw[hbm] at ho
 simp only[ORel] at ho
 obtain ⟨ces,clock,hmp,hborn,hnd,hsz,hrel⟩:=ho
 have hbl:bm<w.heap.size:=(hh.dom l bm hbm).2
 let m0:LM:=fun l'=>if l'=0 then some bm else none
 let X1:Nat→Prop:=fun b=>X b∨b=bm
 have hm0:∀ l' b,m0 l'=some b→l'=0∧b=bm:=fun l' b h=>by
  show l'=0∧b=bm
  by_cases h0:l'=0
  ·subst h0;simp[m0] at h;exact ⟨rfl,h.symm⟩
  ·simp[m0,h0] at h
 have hh0:HRel m0 X1 [.dead] w:=by
  refine ⟨?_,?_,?_,?_,?_,hh.gl.less ?_⟩
  rotate_right
  ·rintro b ((hb | rfl) | ⟨l',hl'⟩)
   ·exact .inl hb
   ·exact .inr ⟨l,hbm⟩
   ·obtain ⟨_,rfl⟩:=hm0 l' b hl';exact .inr ⟨l,hbm⟩
  ·rintro b (hb | rfl)
   ·exact hh.xb b hb
   ·exact hbl
  ·intro l' b h;obtain ⟨rfl,rfl⟩:=hm0 l' b h;exact ⟨by simp,hbl⟩
  ·intro l' b o h ho hv;obtain ⟨rfl,rfl⟩:=hm0 l' b h;simp at ho;subst ho;exact hv.elim
  ·intro l1 l2 b o h h' ho hv;obtain ⟨rfl,_⟩:=hm0 l1 b h;exact QF _
  ·intro l' o ho
   cases l' with
   | zero=>simp at ho;subst ho;simp[ORel]
   | succ l'=>simp at ho
 have hs0:SRel ⟨vars,fn.ntmps,none,1⟩ m0 X1 ⟨w.heap.size,[]⟩ ⟨Y5 vars [.map 0],[.dead]⟩ { tmps:=#[Value.map (some bm)]++Array.replicate (fn.ntmps - #[Value.map (some bm)].size) Go.undef,defers:=[] } w:=by
  have:=SZ (f:=f) (fn:=fn) (vars:=vars) (args:=[.map 0]) (cargs:=[.map (some bm)]) (σ:=[.dead]) (m:=m0) (X:=X1) (w:=w) (by simp only[QK,VRel];exact ⟨⟨bm,by simp[m0],rfl⟩,trivial⟩) hh0 (by simpa using hargs)
  exact this
 have key:=h bm ces clock m0 X1 ⟨w.heap.size,[]⟩ _ w hs0 (by intro l hl;cases hl) ⟨by simp[m0],.inr rfl,hmp,hborn,hnd,hsz,fun i k a hi=>by
  obtain ⟨e,g1,g2,g3⟩:=hrel i k a hi
  obtain ⟨p1,p2⟩:=hes (k,a) (QZ hi)
  exact ⟨e,g1,fun m' X' w'=>p1 _ _ _ _ _ _ _ g2,fun m' X' w'=>p2 _ _ _ _ _ _ _ g3⟩⟩
 refine wpIn_mono key ?_
 rintro e ac' w' ⟨s',m',hq,hs',hst⟩
 have fin:(∃ r,UB P vars s'.vals s'.heap fn.results.toList=some r∧∃ v,FrzV scl s'.heap r v∧R v)→LeavesInM Fence.wide 0 P fn ac'.tmps (OT m X w σ fun r τ=>R r∧τ=σ) ac'.defers .returning w':=by
  rintro ⟨r,hr,v,hfr,hR⟩
  obtain ⟨bs,hbs,hnd',hall⟩:=hs'.defs
  rw[hbs,ZU]
  refine G1 (e:=w.heap.size) (w:=w') bs w' (HA.refl _ _) hnd' (fun b hb=>⟨(hall b hb).1,(hall b hb).2.2.1⟩) ?_
  intro w2 ht
  have hh2:=hs'.heap.taken ht
  have hst2:=hst.taken ht (QG _)
  have hs2:SRel ⟨vars,fn.ntmps,none,1⟩ m' X1 ⟨0,[]⟩ s' { ac' with defers:=[] } w2 :=
   ⟨hs'.size,hs'.vars.mono ht.mono,⟨[],rfl,YU,by simp⟩,hh2,hs'.base,QF _⟩
  obtain ⟨cv,k1,k2⟩:=O1 (fx:=⟨vars,fn.ntmps,none,1⟩) (fn:=fn) hs2 hr
  have hsame:∀ b,b<w.heap.size→w2.heap[b]? = w.heap[b]? := fun b hb=>by
   by_cases hbb:b=bm
   ·subst hbb;exact hst2.fr _ hb (.inl (.inr rfl))
   ·exact hst2.fr b hb (.inr fun l' hl'=>hbb (hm0 l' b hl').2)
  refine ⟨cv,k1,cv,v,σ,m,rfl,⟨hR,rfl⟩,?_,hh.below hst2.size hsame,?_,QG _⟩
  ·refine RX hh2 (fun c v hp h=>Qa2 c v hp h) ?_ hfr cv k2
   intro l' b o hl' ho hlive hb
   have hbs:b<w.heap.size:=by
    rcases hb with hb | ⟨l2,hl2⟩
    ·exact hh.xb b hb
    ·exact (hh.dom l2 b hl2).2
   rcases hst2.new l' b hl' with ⟨l2,hl2⟩ | hge
   ·obtain ⟨_,rfl⟩:=hm0 l2 b hl2
    exact hh2.own l' _ o hl' ho hlive (.inr rfl)
   ·omega
  ·exact ⟨fun _ _=>rfl,fun l b hl=>.inl ⟨l,hl⟩,hst2.size,fun b hb _=>hsame b hb,hst2.shp,hst2.os,hst2.tape,hst2.output,hst2.drawn⟩
 cases e with
 | normal=>exact fin hq
 | ret=>exact fin hq
 | exit i=>exact hq.elim
 | goto l=>exact hq.elim
 | panic ch=>exact hq.elim
 | outgrown=>exact hq.elim
end Go.Proofs.YtpmokaefmcffaaaGreat.AM
namespace Go.Proofs.YtpmokaefmcffaaaGreat.AM
variable [Dr]
open Go Pl
def regOps:Code→Array Oper
 | .region _ ops _=>ops
 | _=>#[]
def Qba (c:Code) (i:Nat):Oper:=(regOps c)[i]?.getD default
theorem hb113:Tryz.f156.body=some (Tryz.f156.body.getD .skip):=by kernel_rfl
theorem sh72:(Tryz.f156.body.getD .skip)=.seq (nav [0] (Tryz.f156.body.getD .skip)) (.seq (nav [1,0] (Tryz.f156.body.getD .skip)) (.seq (.seq (.region 2 #[Qba (nav [1,1,0,0] (Tryz.f156.body.getD .skip)) 0,Qba (nav [1,1,0,0] (Tryz.f156.body.getD .skip)) 1] false) (.block 0 (.loop (.seq (.region 3 #[Qba (nav [1,1,0,1,0,0,0] (Tryz.f156.body.getD .skip)) 0,Qba (nav [1,1,0,1,0,0,0] (Tryz.f156.body.getD .skip)) 1] false)
  (.seq (.cond (.tmp 8) .skip (.exit 0)) (.block 1 (.seq (.region 4 (regOps (nav [1,1,0,1,0,0,1,1,0,0] (Tryz.f156.body.getD .skip))) false) (nav [1,1,0,1,0,0,1,1,0,1] (Tryz.f156.body.getD .skip))))))))) (.seq (nav [1,1,1,0] (Tryz.f156.body.getD .skip)) (.seq (nav [1,1,1,1,0] (Tryz.f156.body.getD .skip)) .ret)))):=by kernel_rfl
abbrev vs156:List Nat:=[0,2,3,4,6]
def ic72a:IC:=.region [⟨some 1,none,.prim .mv,[.c (.cv .nilf)]⟩]
def ic72b:IC:=.region [⟨some 2,none,.prim .mv,[.c (.cv .nils)]⟩]
def is72:List Ins:=[⟨none,none,.prim (.extract 0),[.t 0]⟩,⟨some 3,none,.prim (.alloc [.cv (.int .i64 0),.cv (.int .i64 0)]),[]⟩,⟨none,none,.prim (.store 2),[.v 3,.t 1]⟩]
def ic72c:IC:=.region [⟨none,none,.prim .mv,[.v 2]⟩,⟨none,none,.prim (.loadN 2),[.v 3]⟩,⟨none,none,.prim (.bslice 2 1 [.cv (.int .i64 0),.cv (.int .i64 0)] [(0,2)]),[.t 1]⟩,⟨none,none,.prim (.append 2 16),[.t 0,.t 2]⟩,⟨some 2,none,.prim .mv,[.t 3]⟩]
def ic72d:IC:=.region [⟨none,none,.prim .mv,[.v 2]⟩,⟨none,none,.call,[.c (.fn (.func 168) []),.t 0,.c (.fn (.func 169) [])]⟩]
def ic72e:IC:=.region [⟨none,none,.prim .mv,[.v 2]⟩,⟨none,none,.call,[.c (.fn (.func 170) []),.t 0]⟩,⟨some 1,none,.prim .mv,[.t 1]⟩]
theorem cc72a:QL Tryz.prog vs156 19 (nav [0] (Tryz.f156.body.getD .skip))=some ic72a:=by kernel_rfl
theorem cc72b:QL Tryz.prog vs156 19 (nav [1,0] (Tryz.f156.body.getD .skip))=some ic72b:=by kernel_rfl
theorem cc72c:QL Tryz.prog vs156 19 (nav [1,1,0,1,0,0,1,1,0,1] (Tryz.f156.body.getD .skip))=some ic72c:=by kernel_rfl
theorem cc72d:QL Tryz.prog vs156 19 (nav [1,1,1,0] (Tryz.f156.body.getD .skip))=some ic72d:=by kernel_rfl
theorem cc72e:QL Tryz.prog vs156 19 (nav [1,1,1,1,0] (Tryz.f156.body.getD .skip))=some ic72e:=by kernel_rfl
def mapE (es:List (Rt × Int)):List (AV × AV):=es.map fun e=>(rgV e.1,AV.i e.2)
def Z4 (es:List (Rt × Int)):List Rt:=es.map (·.1)
theorem Qda (es:List (Rt × Int)):∀ p∈mapE es,PF p.1∧PF p.2:=by
 intro p hp
 simp only[mapE,ZP] at hp
 obtain ⟨e,_,rfl⟩:=hp
 exact ⟨QeL (zs:=[e.1.1,e.1.2]),QbP⟩
abbrev TU (ks:List Rt):AV:=.fn (.func 175) [.cv (.rp [.rsl (ks.flatMap rgC) ks.length] 0)]
theorem AccS.push {e n:Nat} {σ:List AObj} {v:AV} {cs:List CV} (h:AccS e σ v n cs) (o:AObj):AccS e (σ++[o]) v n cs:=by
 rcases h with h | ⟨l,h1,h2,h3⟩
 ·exact .inl h
 ·exact .inr ⟨l,h1,h2,FU h3 o⟩
theorem QfD {p:CV→Prop} {e n:Nat} {σ:List AObj} {v:AV} {cs:List CV} (h:AccS e σ v n cs) (hp:∀ c∈cs,p c):FrzC p σ v (.rsl cs n):=by
 rcases h with ⟨rfl,rfl,rfl⟩ | ⟨l,rfl,hl,hr⟩
 ·exact .nl
 ·refine .sl l 0 n e _ _ hr (by simp[hl]) ?_
  rw[YO,Q5 (by simp[hl])]
  exact TP hp
theorem Qe1:V2 []=[]:=by simp[V2]
theorem c99 (v:AV) (σ:List AObj) (hv:v.isUndef=false∧cellsOf v=[v]):AC Tryz.prog 170 [v] σ fun r τ=>r=.fn (.func 175) [.ptr σ.length 0]∧τ=σ++[.cells [v]]:=by
 refine ZF (fok170 true) (QC rfl) ?_
 simp only[ic170,WI,hv,evA,simprocAttr]
theorem c72 {es:List (Rt × Int)} (hlen:es.length<2 ^ 38) {σ:List AObj} {l:Nat} (hl:σ[l]? = some (.map (mapE es))):AC Tryz.prog 156 [.map l] σ fun r τ=>r=TU (V2 (Z4 es))∧τ=σ:=by
 have hp:(2:Nat) ^ 38=274877906944:=by decide
 have hp2:(2:Nat) ^ 44=17592186044416:=by decide
 have hm:(mapE es).length=es.length:=by simp[mapE]
 refine AC_map (fn:=Tryz.f156) (vars:=vs156) Tryz.func156 hb113 (RE Tryz.func156 (by kernel_rfl) hb113) (QC (by kernel_rfl)) hl (Qda es) fun bm ces clock=>?_
 have hG:∀ m X w m' w',GM 0 bm (mapE es) ces clock m X w→Step 1 m X w m' w'→GM 0 bm (mapE es) ces clock m' X w':=fun m X w m' w' h hs=>h.step hs (Nat.zero_lt_one)
 have hN:Tryz.f156.ntmps=19:=by kernel_rfl
 rw[hN,sh72]
 refine C6 hG (WX.of (W.mono (Y6 _ ic72a _ _ cc72a (VT _ _ (fun e s'=>e=.normal∧s'=⟨[.map 0,.cv .nilf,.undef,.undef,.undef],[.dead]⟩) .mk .mk ?_)) ?_))
 ·simp only[ic72a,evA,simprocAttr]
 rintro e s' ⟨rfl,rfl⟩
 refine C6 hG (WX.of (W.mono (Y6 _ ic72b _ _ cc72b (VT _ _ (fun e s'=>e=.normal∧s'=⟨[.map 0,.cv .nilf,.cv .nils,.undef,.undef],[.dead]⟩) .mk .mk ?_)) ?_))
 ·simp only[ic72b,evA,simprocAttr]
 rintro e s' ⟨rfl,rfl⟩
 refine C6 hG ?_
 refine QdL (l:=0) (tm:=5) (tit:=6) (tn:=7) (tok:=8) (te:=9) (iit:=4) (T:=234) (K:=179) (E:=3) (x:=.tmp 0) (is4:=is72) (o4:=Qba (nav [1,1,0,1,0,0,1,1,0,0] (Tryz.f156.body.getD .skip)) 0) (Nat.zero_lt_one) rfl Tryz.underlying234 (by decide)
  ⟨by kernel_rfl,by kernel_rfl,by kernel_rfl⟩ ⟨by kernel_rfl,by kernel_rfl,by kernel_rfl⟩ ⟨by kernel_rfl,by kernel_rfl,by kernel_rfl⟩ ⟨by kernel_rfl,by kernel_rfl,by kernel_rfl⟩ ⟨by kernel_rfl,by kernel_rfl,by kernel_rfl,by kernel_rfl⟩
  (by kernel_rfl) (by kernel_rfl) rfl (by decide) (by decide)
  (fun dn s=>dn.Nodup∧(∀ i∈dn,i<es.length)∧∃ v2 v3 τ,(dn=[]→v2=.cv .nils)∧AccS 2 τ v2 dn.length ((dn.map fun i=>(Z4 es)[i]?.getD (0,0)).flatMap rgC)∧s=⟨[.map 0,.cv .nilf,v2,v3,.ptr 1 0],τ⟩)
  ⟨YU,by simp,.cv .nils,.undef,_,fun _=>rfl,AccS.nil _ _,rfl⟩ ?_ ?_ ?_
 ·rintro dn s' ⟨_,_,v2,v3,τ,_,_,rfl⟩
  rfl
 ·rintro dn s' i k a ⟨hnd,hdl,v2,v3,τ,hz,hA,rfl⟩ hid hi
  have hil:i<es.length:=by have:=(QH.1 hi).1;omega
  have hki:k=rgV ((Z4 es)[i]?.getD (0,0)):=by
   simp only[mapE,ZR,QA] at hi
   obtain ⟨e,he,h⟩:=hi
   cases h
   simp[Z4,he]
  have hdn:dn.length≤es.length:=by
   have:=hnd.length_le_of_subset (l₂:=List.range es.length) fun i hi=>ZI.2 (hdl i hi)
   simpa using this
  have hmap:((dn++[i]).map fun i=>(Z4 es)[i]?.getD (0,0)).flatMap rgC=(dn.map fun i=>(Z4 es)[i]?.getD (0,0)).flatMap rgC++rgC ((Z4 es)[i]?.getD (0,0)):=by simp
  generalize (Z4 es)[i]?.getD (0,0)=kr at hki hmap
  subst hki
  have hA1:AccS 2 (τ++[AObj.cells [.i kr.1,.i kr.2]]) v2 dn.length ((dn.map fun i=>(Z4 es)[i]?.getD (0,0)).flatMap rgC):=hA.push _
  obtain ⟨v',σ',happ,hA'⟩:=QcM (by_:=16) (x:=rgC kr) hA1 rfl (by omega) (by omega)
  have happ':ZX 2 16 [v2,.sl (τ++[AObj.cells [.i kr.1,.i kr.2]]).length 0 1 2] ((τ++[AObj.cells [.i kr.1,.i kr.2]])++[AObj.cells [.i kr.1,.i kr.2]])=some (v',σ'):=happ
  refine T2 _ _ _ _ _ .mk .mk ?_
  simp only[is72,WW,VW,evA,simprocAttr]
  refine W.mono (Y6 _ ic72c _ _ cc72c (VT _ _ (fun e s'=>e=.normal∧s'=⟨[.map 0,.cv .nilf,v',.ptr τ.length 0,.ptr 1 0],σ'⟩) .mk .mk ?_)) ?_
  ·simp only[ic72c,WW,VW,happ',evA,simprocAttr]
  rintro e s2 ⟨rfl,rfl⟩
  refine ⟨_,Weak.refl _ _,?_,?_,v',_,σ',(fun h=>absurd h (by simp)),?_,rfl⟩
  ·exact List.nodup_append.2 ⟨hnd,by simp,fun a ha b hb=>by simp at hb;subst hb;rintro rfl;exact hid ha⟩
  ·intro j hj
   rcases YV.1 hj with hj | hj
   ·exact hdl j hj
   ·simp at hj;subst hj;exact hil
  ·rw[QM,hmap]
   exact hA'
 ·rintro dn s' ⟨hnd,hdl,v2,v3,τ,hz,hA,rfl⟩ hperm
  rw[hm] at hperm
  have hks:(dn.map fun i=>(Z4 es)[i]?.getD (0,0)).Perm (Z4 es):=by
   have:=hperm.map fun i=>(Z4 es)[i]?.getD (0,0)
   have hl:es.length=(Z4 es).length:=by simp[Z4]
   rw[hl,L3] at this
   exact this
  have hsr:=NR hks
  have hdl':dn.length=(dn.map fun i=>(Z4 es)[i]?.getD (0,0)).length:=by simp
  rw[hdl'] at hA
  generalize (dn.map fun i=>(Z4 es)[i]?.getD (0,0))=ks at hA hks hsr hdl'
  have hkl:ks.length=es.length:=by have:=hperm.length_eq;simp at this;omega
  rw[← hsr]
  have sorted:∃ τ',AC Tryz.prog 168 [v2,.fn (.func 169) []] τ (fun r τ2=>r=.tup []∧τ2=τ')∧AccS 2 τ' v2 (V2 ks).length ((V2 ks).flatMap rgC):=by
   rcases hA with ⟨rfl,h0,_⟩ | ⟨l,rfl,_,hr⟩
   ·have:ks=[]:=ZT h0
    subst this
    exact ⟨τ,c95n τ,by rw[Qe1];exact AccS.nil _ _⟩
   ·by_cases hk0:0<ks.length
    ·refine ⟨_,c95 hk0 (by omega) hr,.inr ⟨l,by rw[EE],by rw[UG IR],?_⟩⟩
     exact W0 hr
    ·have hd0:dn=[]:=ZT (by omega)
     cases hz hd0
  obtain ⟨τ',hsort,hA2⟩:=sorted
  refine C6 hG (WX.of (W.mono (Y6 _ ic72d _ _ cc72d (VT _ _ (fun e s'=>e=.normal∧s'=⟨[.map 0,.cv .nilf,v2,v3,.ptr 1 0],τ'⟩) .mk .mk ?_)) ?_))
  ·simp only[ic72d,evA,simprocAttr]
   refine hsort.run ?_
   simp only[evA,simprocAttr]
  rintro e s' ⟨rfl,rfl⟩
  refine C6 hG (WX.of (W.mono (Y6 _ ic72e _ _ cc72e (VT _ _ (fun e s'=>e=.normal∧s'=⟨[.map 0,.fn (.func 175) [.ptr τ'.length 0],v2,v3,.ptr 1 0],τ'++[.cells [v2]]⟩) .mk .mk ?_)) ?_))
  ·simp only[ic72e,evA,simprocAttr]
   refine (c99 v2 τ' ?_).run ?_
   ·rcases hA2 with ⟨rfl,_⟩ | ⟨l,rfl,_⟩ <;> exact ⟨rfl,rfl⟩
   simp only[evA,simprocAttr]
  rintro e s' ⟨rfl,rfl⟩
  refine WX.of (QcP ⟨.fn (.func 175) [.ptr τ'.length 0],rfl,TU (V2 ks),?_,rfl⟩)
  refine .fn (.cons (.c (.ptr _ _ [v2] _ (by rw[WW];rfl) (.cons (QfD (hA2.push _) (MN _)) .nil))) .nil)
structure Cls where
 nm:ByteArray
 inc:List Int
 need:Int
 age:Int
 term:Int
deriving Inhabited
structure Sys where
 cl:List Cls
 co:List ByteArray
deriving Inhabited
abbrev clsC (c:Cls):List CV:=[.str c.nm,.rsl (c.inc.map (.int .i64)) c.inc.length,.int .i64 c.need,.int .i64 c.age,.int .i64 c.term]
abbrev clsA (c:Cls):AV:=.agg [.cv (.str c.nm),ints c.inc,.i c.need,.i c.age,.i c.term]
def DZ (cs:List Cls):List CV:=cs.flatMap clsC
abbrev clsR (cs:List Cls):CV:=.rsl (DZ cs) cs.length
abbrev strR (co:List ByteArray):CV:=.rsl (co.map .str) co.length
abbrev sysV (s:Sys):AV:=.agg [.cv (clsR s.cl),.cv (strR s.co)]
theorem TW (c:Cls):(clsC c).length=5:=rfl
theorem QaE (cs:List Cls):(DZ cs).length=cs.length*5:=UG TW cs
section
variable {cs:List Cls} {k:Nat}
theorem cls_0 (h:k<cs.length):(DZ cs)[k*5]? = some (.str (cs[k]!).nm):=flat_get TW h (j:=0) (by omega)
theorem CW (h:k<cs.length):(DZ cs)[k*5+1]? = some (.rsl ((cs[k]!).inc.map (.int .i64)) (cs[k]!).inc.length):=flat_get TW h (j:=1) (by omega)
theorem Qaz (h:k<cs.length) (σ:List AObj):YF 5 [.cv (.rp (DZ cs) (k*5))] σ=some (clsA cs[k]!,σ):=by
 have h1:k*5+5≤(DZ cs).length:=by rw[QaE];omega
 have h2:=G3 TW h
 simp only[YF,h1,if_true]
 unfold DZ;rw[h2];rfl
theorem cls_sl (h:k≤cs.length) (σ:List AObj):VG 5 false true [.cv (clsR cs),.cv (.int .i64 k)] σ=some (.cv (clsR (cs.take k)),σ):=by
 rw[Qc7 h (QaE cs)];unfold DZ;rw[A3 TW];simp[h,DZ,clsR]
theorem BK {co:List ByteArray} (h:k<co.length):(co.map CV.str)[k]? = some (.str co[k]!):=by simp[h]
theorem str_sl {co:List ByteArray} (h:k≤co.length) (σ:List AObj):VG 1 false true [.cv (strR co),.cv (.int .i64 k)] σ=some (.cv (strR (co.take k)),σ):=by
 rw[Qc7 h (by simp)];simp[h,strR,List.map_take]
end
theorem GR {cs:List Cls} {k:Nat} (h:k<cs.length) (σ:List AObj):VP 5 [.cv (clsR cs),.cv (.int .i64 k)] σ=some (.cv (.rp (DZ cs) (k*5)),σ):=XP h σ
structure SSz (s:Sys):Prop where
 cl:s.cl.length<2 ^ 63
 co:s.co.length<2 ^ 63
 nm:∀ i,i<s.cl.length→(s.cl[i]!).nm.size<2 ^ 63
 inc:∀ i,i<s.cl.length→(s.cl[i]!).inc.length<2 ^ 63
 cm:∀ i,i<s.co.length→(s.co[i]!).size<2 ^ 63
def XZ (g:Nat→Int):Nat→Nat→Int × Int
 | _,0=>(0,0)
 | i,k+1=>if g i=0 then XZ g (i+1) k else (i,g i)
theorem JY {g:Nat→Int}:∀ (k i:Nat),(∀ j,i≤j→j<i+k→g j=0)→XZ g i k=(0,0)
 | 0,_,_=>rfl
 | k+1,i,h=>by
  rw[XZ,if_pos (h i (QG _) (by omega))]
  exact JY k (i+1) fun j h1 h2=>h j (by omega) (by omega)
theorem VF {g:Nat→Int}:∀ (k i m:Nat),i≤m→m<i+k→(∀ j,i≤j→j<m→g j=0)→g m≠0→XZ g i k=((m:Int),g m)
 | 0,i,m,h1,h2,_,_=>by omega
 | k+1,i,m,h1,h2,h3,h4=>by
  rcases ZB i m with h | h
  ·rw[XZ,if_pos (h3 i (QG _) h)]
   exact VF k (i+1) m h (by omega) (fun j a b=>h3 j (by omega) b) h4
  ·have:i=m:=by omega
   subst this
   rw[XZ,if_neg h4]
theorem c103 (cs:List Cls) (p:CV) (g:Nat→Int) (hz:cs.length<2 ^ 63) (hf:∀ i,i<cs.length→∀ σ,AC Tryz.prog 121 [.cv p,.i i,clsA cs[i]!] σ fun r τ=>r=.i (g i)∧τ=σ) :
  PC Tryz.prog 120 [.cv (clsR cs),.bm 121 [.cv p]] (.tup [.i (XZ g 0 cs.length).1,.i (XZ g 0 cs.length).2]):=by
 refine ⟨ZF (fok120 true) (QC rfl) ?_,rfl⟩
 simp only[ic120,evA,simprocAttr]
 refine ZW cs.length (fun i s=>(∀ j,j<i→g j=0)∧∃ v2 v3 v4 v5 v9 v10,s=⟨[.cv (clsR cs),.bm 121 [.cv p],v2,v3,v4,v5,.cv (clsR cs),.i cs.length,.i i,v9,v10],[]⟩) ?_ 0 (QF _) ⟨by omega,_,_,_,_,_,_,rfl⟩
 rintro i s hi ⟨hall,v2,v3,v4,v5,v9,v10,rfl⟩
 by_cases h:i<cs.length
 ·simp only[ic120l0,QJ,h,GR h,Qaz h,evA,simprocAttr]
  refine (hf i h _).run ?_
  by_cases hg:g i=0
  ·have hb:(g i != 0)=false:=by simpa using hg
   simp only[hb,Q6 (show i+1<2 ^ 63 by omega),evA,simprocAttr]
   refine W1 [] _ rfl (by first | trivial | omega) (QF _) (by simp) ⟨fun j hj=>?_,_,_,_,_,_,_,rfl⟩
   rcases QQ.1 hj with hj | rfl
   ·exact hall j hj
   ·exact hg
  ·have hb:(g i != 0)=true:=by simpa using hg
   rw[VF cs.length 0 i (QF _) (by omega) (fun j _ hj=>hall j hj) hg]
   simp only[hb,evA,simprocAttr]
   exact frz
 ·have:i=cs.length:=by omega
  subst this
  rw[JY cs.length 0 fun j _ hj=>hall j (by omega)]
  simp only[ic120l0,QJ,h,evA,simprocAttr]
  exact frz
theorem c105 (co:List ByteArray) (p:CV) (g:Nat→Int) (hz:co.length<2 ^ 63) (hf:∀ i,i<co.length→∀ σ,AC Tryz.prog 123 [.cv p,.i i,.cv (.str co[i]!)] σ fun r τ=>r=.i (g i)∧τ=σ) :
  PC Tryz.prog 122 [.cv (strR co),.bm 123 [.cv p]] (.tup [.i (XZ g 0 co.length).1,.i (XZ g 0 co.length).2]):=by
 refine ⟨ZF (fok122 true) (QC rfl) ?_,rfl⟩
 simp only[ic122,evA,simprocAttr]
 refine ZW co.length (fun i s=>(∀ j,j<i→g j=0)∧∃ v2 v3 v4 v5 v9 v10,s=⟨[.cv (strR co),.bm 123 [.cv p],v2,v3,v4,v5,.cv (strR co),.i co.length,.i i,v9,v10],[]⟩) ?_ 0 (QF _) ⟨by omega,_,_,_,_,_,_,rfl⟩
 rintro i s hi ⟨hall,v2,v3,v4,v5,v9,v10,rfl⟩
 by_cases h:i<co.length
 ·simp only[ic122l0,QJ,h,XP h,BK h,evA,simprocAttr]
  refine (hf i h _).run ?_
  by_cases hg:g i=0
  ·have hb:(g i != 0)=false:=by simpa using hg
   simp only[hb,Q6 (show i+1<2 ^ 63 by omega),evA,simprocAttr]
   refine W1 [] _ rfl (by first | trivial | omega) (QF _) (by simp) ⟨fun j hj=>?_,_,_,_,_,_,_,rfl⟩
   rcases QQ.1 hj with hj | rfl
   ·exact hall j hj
   ·exact hg
  ·have hb:(g i != 0)=true:=by simpa using hg
   rw[VF co.length 0 i (QF _) (by omega) (fun j _ hj=>hall j hj) hg]
   simp only[hb,evA,simprocAttr]
   exact frz
 ·have:i=co.length:=by omega
  subst this
  rw[JY co.length 0 fun j _ hj=>hall j (by omega)]
  simp only[ic122l0,QJ,h,evA,simprocAttr]
  exact frz
def FP (co:List ByteArray) (x:ByteArray):Int:=idxN (fun i=>decide (co[i]! = x)) co.length
theorem c81 (co:List ByteArray) (x:ByteArray) (hz:co.length<2 ^ 63):PC Tryz.prog 165 [.cv (strR co),.cv (.str x)] (.i (FP co x)):=by
 refine ⟨ZF (fok165 true) (QC rfl) ?_,rfl⟩
 simp only[ic165,evA,simprocAttr]
 refine ZW co.length (fun i s=>(∀ j,j<i→decide (co[j]! = x)=false)∧∃ v3 v6 v7,s=⟨[.cv (strR co),.cv (.str x),.i 0,v3,.i co.length,.i i,v6,v7],[]⟩) ?_ 0 (QF _) ⟨by omega,_,_,_,rfl⟩
 rintro i s hi ⟨hall,v3,v6,v7,rfl⟩
 by_cases h:i<co.length
 ·have hc:(x.toList == (co[i]!).toList)=decide (co[i]! = x):=by rw[str_eq,Q8];simp;exact eq_comm
  simp only[ic165l0,QJ,h,XP h,BK h,binS,hc,evA,simprocAttr]
  cases hp:decide (co[i]! = x)
  ·simp only[Q6 (show i+1<2 ^ 63 by omega),evA,simprocAttr]
   refine ZL (by first | trivial | omega) ⟨fun j hj=>?_,_,_,_,rfl⟩
   rcases QQ.1 hj with hj | rfl
   ·exact hall j hj
   ·exact hp
  ·simp only[evA,simprocAttr]
   rw[show FP co x=(i:Int) from EK (p:=fun i=>decide (co[i]! = x)) h hall hp]
   exact frz
 ·simp only[ic165l0,QJ,h,evA,simprocAttr]
  have:i=co.length:=by omega
  subst this
  rw[show FP co x = -1 from EL (p:=fun i=>decide (co[i]! = x)) hall]
  exact frz
theorem c123 (co:List ByteArray) (x:ByteArray) (hz:co.length<2 ^ 63):PC Tryz.prog 153 [.cv (strR co),.cv (.str x)] (.b (anyN (fun i=>decide (co[i]! = x)) co.length)):=by
 refine ⟨ZF (fok153 true) (QC rfl) ?_,rfl⟩
 simp only[ic153,evA,simprocAttr]
 refine (c81 co x hz).call frz ?_
 simp only[FP,OA,evA,simprocAttr]
 exact frz
theorem c86 (co:List ByteArray) (x:ByteArray) (hz:co.length<2 ^ 63):PC Tryz.prog 66 [.cv (strR co),.cv (.str x)] (.i (FP co x)):=by
 refine ⟨ZF (fok66 true) (QC rfl) ?_,rfl⟩
 simp only[ic66,evA,simprocAttr]
 refine ZW co.length (fun i s=>(∀ j,j<i→decide (co[j]! = x)=false)∧∃ v4 v5,s=⟨[.cv (strR co),.cv (.str x),.i 0,.i i,v4,v5],[]⟩) ?_ 0 (QF _) ⟨by omega,_,_,rfl⟩
 rintro i s hi ⟨hall,v4,v5,rfl⟩
 by_cases h:i<co.length
 ·simp only[ic66l0,QJ,h,XP h,BK h,binS,str_eq,evA,simprocAttr]
  cases hp:decide (co[i]! = x)
  ·simp only[Q6 (show i+1<2 ^ 63 by omega),evA,simprocAttr]
   refine ZL (by first | trivial | omega) ⟨fun j hj=>?_,_,_,rfl⟩
   rcases QQ.1 hj with hj | rfl
   ·exact hall j hj
   ·exact hp
  ·simp only[evA,simprocAttr]
   rw[show FP co x=(i:Int) from EK (p:=fun i=>decide (co[i]! = x)) h hall hp]
   exact frz
 ·simp only[ic66l0,QJ,h,evA,simprocAttr]
  have:i=co.length:=by omega
  subst this
  rw[show FP co x = -1 from EL (p:=fun i=>decide (co[i]! = x)) hall]
  exact frz
theorem c79 (cs:List Cls) (fv:AV) (p:Nat→Bool) (hz:cs.length<2 ^ 63) (σ:List AObj) (hf:∀ i,i<cs.length→X0 Tryz.prog fv [clsA cs[i]!] σ fun r τ=>r=.b (p i)∧τ=σ) :
  AC Tryz.prog 164 [.cv (clsR cs),fv] σ fun r τ=>r=.i (idxN p cs.length)∧τ=σ:=by
 refine ZF (fok164 true) (QC rfl) ?_
 simp only[ic164,evA,simprocAttr]
 refine ZW cs.length (fun i s=>(∀ j,j<i→p j=false)∧∃ v3 v6 v7,s=⟨[.cv (clsR cs),fv,.i 0,v3,.i cs.length,.i i,v6,v7],σ⟩) ?_ 0 (QF _) ⟨by omega,_,_,_,rfl⟩
 rintro i s hi ⟨hall,v3,v6,v7,rfl⟩
 by_cases h:i<cs.length
 ·simp only[ic164l0,QJ,h,GR h,Qaz h,evA,simprocAttr]
  refine (hf i h).run ?_
  cases hp:p i
  ·simp only[Q6 (show i+1<2 ^ 63 by omega),evA,simprocAttr]
   refine ZL (by first | trivial | omega) ⟨fun j hj=>?_,_,_,_,rfl⟩
   rcases QQ.1 hj with hj | rfl
   ·exact hall j hj
   ·exact hp
  ·simp only[evA,simprocAttr]
   exact (EK h hall hp).symm
 ·simp only[ic164l0,QJ,h,evA,simprocAttr]
  have:i=cs.length:=by omega
  subst this
  exact (EL hall).symm
theorem c121 (cs:List Cls) (fv:AV) (p:Nat→Bool) (hz:cs.length<2 ^ 63) (σ:List AObj) (hf:∀ i,i<cs.length→X0 Tryz.prog fv [clsA cs[i]!] σ fun r τ=>r=.b (p i)∧τ=σ) :
  AC Tryz.prog 151 [.cv (clsR cs),fv] σ fun r τ=>r=.b (anyN p cs.length)∧τ=σ:=by
 refine ZF (fok151 true) (QC rfl) ?_
 simp only[ic151,evA,simprocAttr]
 refine (c79 cs fv p hz _ hf).run ?_
 simp only[evA,simprocAttr,OA]
end Go.Proofs.YtpmokaefmcffaaaGreat.AM
namespace Go.Proofs.YtpmokaefmcffaaaGreat.AM
variable [Dr]
open Go
def lowB (x:UInt8):Bool:=decide (97≤x.toNat∧x.toNat≤122)
def digB (x:UInt8):Bool:=decide (48≤x.toNat∧x.toNat≤57)
def JH (s:ByteArray):Bool:=decide (1≤s.size∧s.size≤16)&&(match s.data.toList with | []=>false | x::_=>lowB x)&&s.data.toList.all fun x=>lowB x||digB x
theorem c59i (n lo hi:Int):PC Tryz.prog 63 [.i n,.i lo,.i hi] (.b (inB n lo hi)):=by
 have h:=c59 n lo hi
 rw[inD_iff] at h
 exact h
def chk (s:ByteArray) (i:Nat):Bool:=match s.data[i]? with | none=>false | some x=>lowB x||(decide (i≠0)&&digB x)
theorem E3 (s:ByteArray):JH s=true↔(1≤s.size∧s.size≤16)∧∀ i,i<s.size→chk s i=true:=by
 have hsz:s.size=s.data.toList.length:=(Array.length_toList).symm
 have hg:∀ i,s.data[i]? = s.data.toList[i]? := fun i=>(Y7).symm
 unfold JH chk
 simp only[hg,hsz]
 generalize s.data.toList=l
 simp only[QD,decide_eq_true_eq,Q1,and_assoc]
 refine and_congr_right fun h1=>and_congr_right fun h2=>?_
 constructor
 ·rintro ⟨h3,h4⟩ i hi
  rw[QI hi]
  simp only
  cases i with
  | zero =>
   cases l with
   | nil=>simp at h1
   | cons x l=>simpa using h3
  | succ i=>have:=h4 _ (Q2 hi);simpa using this
 ·intro h
  refine ⟨?_,?_⟩
  ·cases l with
   | nil=>simp at h1
   | cons x l=>simpa using h 0 (by simp)
  ·intro x hx
   obtain ⟨i,hi,rfl⟩:=WN.1 hx
   have:=h i hi
   rw[QI hi] at this
   simp only[WR,QD] at this ⊢
   rcases this with h | h
   ·exact .inl h
   ·exact .inr h.2
theorem Qck {s:ByteArray} (h:¬ (1≤s.size∧s.size≤16)):JH s=false:=by
 cases hn:JH s with
 | false=>rfl
 | true=>exact absurd ((E3 s).1 hn).1 h
theorem H3 {s:ByteArray} {i:Nat} (hi:i<s.size) (h:chk s i=false):JH s=false:=by
 cases hn:JH s with
 | false=>rfl
 | true=>rw[((E3 s).1 hn).2 i hi] at h;cases h
theorem CF {s:ByteArray} {i:Nat} (h:i<s.size) (σ:List AObj):G5 [.cv (.str s),.cv (.int .i64 i)] σ=some (.cv (.int .u8 ((s.data[i]'h).toNat:Nat)),σ):=by
 have:s.data[i]? = some (s.data[i]'h):=Q7 h
 simp[G5,this]
theorem Qes {s:ByteArray} (h:0<s.size) (σ:List AObj):G5 [.cv (.str s),.cv (.int .i64 0)] σ=some (.cv (.int .u8 ((s.data[0]'h).toNat:Nat)),σ):=CF h σ
theorem NK {s:ByteArray} {i:Nat} (h:i<s.size):chk s i=(lowB (s.data[i]'h)||(decide (i≠0)&&digB (s.data[i]'h))):=by
 have:s.data[i]? = some (s.data[i]'h):=Q7 h
 simp[chk,this]
theorem Qdk (x:UInt8):inB (x.toNat:Nat) 97 122=lowB x:=by
 unfold inB lowB;rw[Q8];simp;omega
theorem inB_dig (x:UInt8):inB (x.toNat:Nat) 48 57=digB x:=by
 unfold inB digB;rw[Q8];simp;omega
theorem c21 (s:ByteArray) (hs:s.size<2 ^ 63):PC Tryz.prog 65 [.cv (.str s)] (.b (JH s)):=by
 refine ⟨ZF (fok65 true) (QC rfl) ?_,rfl⟩
 have hw:∀ x:UInt8,IntKind.i64.wrap (x.toNat:Nat)=(x.toNat:Nat):=fun x=>ZC (by have:=x.toNat_lt;omega)
 simp only[ic65,evA,simprocAttr]
 refine (c59i s.size 1 16).call frz ?_
 cases h1:inB s.size 1 16
 ·have:JH s=false:=Qck fun h=>by rw[VB.2 (by omega)] at h1;cases h1
  simp only[this,evA,simprocAttr]
  exact frz
 have h1':=VB.1 h1
 have h0:0<s.size:=by omega
 simp only[Qes h0,hw,evA,simprocAttr]
 refine (c59i _ 97 122).call frz ?_
 rw[Qdk]
 cases h2:lowB (s.data[0]'h0)
 ·have:JH s=false:=H3 h0 (by rw[NK h0];simp[h2])
  simp only[this,evA,simprocAttr]
  exact frz
 simp only[evA,simprocAttr]
 refine ZW s.size (fun i s'=>(∀ j,j<i→chk s j=true)∧∃ v3 v4 v5,s'=⟨[.cv (.str s),.b false,.i i,v3,v4,v5],[]⟩) ?_ 0 (QF _) ⟨by omega,_,_,_,rfl⟩
 rintro i s' hi ⟨hall,v3,v4,v5,rfl⟩
 by_cases h:i<s.size
 rotate_left
 ·have:JH s=true:=(E3 s).2 ⟨by omega,fun j hj=>hall j (by omega)⟩
  simp only[ic65l0,QJ,h,this,evA,simprocAttr]
  exact frz
 simp only[ic65l0,QJ,h,CF h,hw,evA,simprocAttr]
 refine (c59i _ 97 122).call frz ?_
 rw[Qdk]
 have hgo:chk s i=true→∀ j,j<i+1→chk s j=true:=fun hc j hj=>by
  rcases QQ.1 hj with hj | rfl
  ·exact hall j hj
  ·exact hc
 cases h3:lowB (s.data[i]'h)
 ·simp only[CF h,hw,evA,simprocAttr]
  refine (c59i _ 48 57).call frz ?_
  rw[inB_dig]
  cases h4:digB (s.data[i]'h)
  ·have:JH s=false:=H3 h (by rw[NK h];simp[h3,h4])
   simp only[this,evA,simprocAttr]
   exact frz
  ·simp only[evA,simprocAttr]
   have hc:chk s i=true:=by
    rw[NK h,h3,h4]
    have:i≠0:=by rintro rfl;rw[h2] at h3;cases h3
    simp[this]
   exact ZL (by first | trivial | omega) ⟨hgo hc,_,_,_,by rw[ZC (by omega)];rfl⟩
 ·simp only[evA,simprocAttr]
  have hc:chk s i=true:=by rw[NK h,h3];rfl
  exact ZL (by first | trivial | omega) ⟨hgo hc,_,_,_,by rw[ZC (by omega)];rfl⟩
theorem Qdr {s:ByteArray} {i:Nat} (h:i<s.size):s.get! i=s.data[i]'h:=by
 show s.data[i]! = _
 exact getElem!_pos s.data i h
theorem QdA {s:ByteArray} {i:Nat} (h:i<s.size) (hb:(s.data[i]'h).toNat<128):Utf8.decode s i=((s.data[i]'h).toNat,1):=by
 unfold Utf8.decode
 simp only[Nat.add_zero,Qdr h]
 rw[if_pos hb]
theorem decode_high {s:ByteArray} {i:Nat} (h:i<s.size) (hb:¬ (s.data[i]'h).toNat<128):128≤(Utf8.decode s i).1:=by
 unfold Utf8.decode Utf8.runeError
 simp only[Nat.add_zero,Qdr h]
 rw[if_neg hb]
 split
 ·split
  ·assumption
  ·decide
 ·split
  ·split
   ·rename_i hc;simp only[QD,decide_eq_true_eq] at hc;omega
   ·decide
  ·split
   ·split
    ·rename_i hc;simp only[QD,decide_eq_true_eq] at hc;omega
    ·decide
   ·decide
theorem QbY {s:ByteArray} {i:Nat} (h:i<s.size):KX [.ptr 0 0] [.siter s i]=some (.tup [.b true,.i i,.cv (.int .i32 ((Utf8.decode s i).1:Nat))],[.siter s (i+(Utf8.decode s i).2)]):=by
 simp[KX,RH,h]
theorem Qe2 {s:ByteArray} {i:Nat} (h:¬ i<s.size):KX [.ptr 0 0] [.siter s i]=some (.tup [.b false],[.siter s i]):=by
 simp[KX,RH,h]
theorem c20 (s:ByteArray) (hs:s.size<2 ^ 63):PC Tryz.prog 150 [.cv (.str s)] (.b (JH s)):=by
 refine ⟨ZF (fok150 true) (QC rfl) ?_,rfl⟩
 simp only[ic150,evA,simprocAttr]
 refine ZW s.size (fun i s'=>(∀ j,j<i→chk s j=true)∧∃ v2 v3 v5 v6 v7,s'=⟨[.cv (.str s),.b false,v2,v3,.ptr 0 0,v5,v6,v7],[.siter s i]⟩) ?_ 0 (QF _) ⟨by omega,_,_,_,_,_,rfl⟩
 rintro i s' hi ⟨hall,v2,v3,v5,v6,v7,rfl⟩
 by_cases h:i<s.size
 rotate_left
 ·simp only[ic150l0,Qe2 h,V4,evA,simprocAttr]
  refine (c56 1 16 [s.size] (by simp)).call frz ?_
  rw[FW]
  have:(!(!inB s.size 1 16))=JH s:=by
   rw[Bool.not_not,Q8,VB,E3]
   exact ⟨fun h1=>⟨by omega,fun j hj=>hall j (by omega)⟩,fun h1=>by omega⟩
  simp only[this,evA,simprocAttr]
  exact frz
 have hgo:chk s i=true→∀ j,j<i+1→chk s j=true:=fun hc j hj=>by
  rcases QQ.1 hj with hj | rfl
  ·exact hall j hj
  ·exact hc
 by_cases hb:(s.data[i]'h).toNat<128
 ·simp only[ic150l0,QbY h,QdA h hb,evA,simprocAttr]
  have hc:=NK h
  generalize s.data[i]'h=x at hb hc ⊢
  by_cases h1:((x.toNat:Nat):Int)<97
  ·simp only[h1,evA,simprocAttr]
   by_cases h0:(i:Int)=0
   ·have:JH s=false:=H3 h (by
     rw[hc]
     have:i=0:=by omega
     simp[this,lowB];omega)
    simp only[h0,this,evA,simprocAttr]
    exact frz
   ·have h0':((i:Int) == 0)=false:=by simp;omega
    simp only[h0',evA,simprocAttr]
    by_cases h2:((x.toNat:Nat):Int)<48
    ·have:JH s=false:=H3 h (by rw[hc];simp[lowB,digB];omega)
     simp only[h2,this,evA,simprocAttr]
     exact frz
    ·simp only[h2,evA,simprocAttr]
     by_cases h3:((x.toNat:Nat):Int)>57
     ·have:JH s=false:=H3 h (by rw[hc];simp[lowB,digB];omega)
      simp only[h3,this,evA,simprocAttr]
      exact frz
     ·simp only[h3,evA,simprocAttr]
      exact ZL (by first | trivial | omega) ⟨hgo (by rw[hc];simp[lowB,digB];omega),_,_,_,_,_,rfl⟩
  ·simp only[h1,evA,simprocAttr]
   by_cases h1b:((x.toNat:Nat):Int)>122
   ·simp only[h1b,evA,simprocAttr]
    have hno:JH s=false:=H3 h (by rw[hc];simp[lowB,digB];omega)
    by_cases h0:(i:Int)=0
    ·simp only[h0,hno,evA,simprocAttr]
     exact frz
    ·have h0':((i:Int) == 0)=false:=by simp;omega
     have h2:¬ ((x.toNat:Nat):Int)<48:=by omega
     have h3:((x.toNat:Nat):Int)>57:=by omega
     simp only[h0',h2,h3,hno,evA,simprocAttr]
     exact frz
   ·simp only[h1b,evA,simprocAttr]
    exact ZL (by first | trivial | omega) ⟨hgo (by rw[hc];simp[lowB,digB];omega),_,_,_,_,_,rfl⟩
 ·have hd:=decode_high h hb
  have hno:JH s=false:=H3 h (by rw[NK h];simp[lowB,digB];omega)
  simp only[ic150l0,QbY h,evA,simprocAttr]
  generalize Utf8.decode s i=p at hd ⊢
  have h1:¬ ((p.1:Nat):Int)<97:=by omega
  have h1b:((p.1:Nat):Int)>122:=by omega
  have h2:¬ ((p.1:Nat):Int)<48:=by omega
  have h3:((p.1:Nat):Int)>57:=by omega
  by_cases h0:(i:Int)=0
  ·simp only[h0,h1,h1b,hno,evA,simprocAttr]
   exact frz
  ·have h0':((i:Int) == 0)=false:=by simp;omega
   simp only[h0',h1,h1b,h2,h3,hno,evA,simprocAttr]
   exact frz
end Go.Proofs.YtpmokaefmcffaaaGreat.AM
namespace Go.Proofs.YtpmokaefmcffaaaGreat.AM
variable [Dr]
open Go Pl
def VR (s:Sys) (i:Nat):Int :=
 if JH (s.cl[i]!).nm=false then 6
 else if anyN (fun k=>decide ((s.cl[k]!).nm=(s.cl[i]!).nm)) i=true then 5
 else if ((s.cl[i]!).inc.length:Int)>s.cl.length then 3
 else if (outF 0 ((s.cl.length:Int)-1) (s.cl[i]!).inc || !inB (s.cl[i]!).need (-1) ((s.cl.length:Int)-1))=true then 4
 else if ((s.cl[i]!).need == (i:Int))=true then 2
 else if outF 0 100 [(s.cl[i]!).age,(s.cl[i]!).term]=true then 7
 else 0
def KM (s:Sys) (i:Nat):Int :=
 if JH s.co[i]! = false then 6
 else if anyN (fun k=>decide (s.co[k]! = s.co[i]!)) i=true then 5
 else 0
theorem c122 (x c:Cls) (σ:List AObj) (l:Nat) (hl:rowOf σ l=some [.cv (.str c.nm),ints c.inc,.i c.need,.i c.age,.i c.term]):AC Tryz.prog 152 [clsA x,.ptr l 0] σ fun r τ=>r=.b (decide (x.nm=c.nm))∧τ=σ:=by
 refine AC.cutF ?_ rfl
 refine ZF (fok152 true) (QC rfl) ?_
 have hl2:=ZH hl [.cells [.cv (.str x.nm),ints x.inc,.i x.need,.i x.age,.i x.term]]
 simp only[ic152,WI,cellsOf,WW,hl2,binS,str_eq,evA,simprocAttr]
 exact ⟨_,rfl⟩
theorem c104 (s:Sys) (hs:SSz s) (cov:CV) (i:Nat) (hi:i<s.cl.length):PC Tryz.prog 121 [.cv (.rp [clsR s.cl,strR s.co,cov] 0),.i i,clsA s.cl[i]!] (.i (VR s i)):=by
 refine ⟨ZF (fok121 true) (QC rfl) ?_,rfl⟩
 have hcl:=hs.cl
 have hnm:=hs.nm i hi
 have hin:=hs.inc i hi
 have hw:IntKind.i64.wrap ((s.cl.length:Int)-1)=(s.cl.length:Int)-1:=ZC (by omega)
 have hsl:∀ σ,VG 5 false true [.cv (clsR s.cl),.cv (.int .i64 i)] σ=some (.cv (clsR (s.cl.take i)),σ):=cls_sl (by omega)
 have htl:(s.cl.take i).length=i:=by simp;omega
 have htk:∀ k,k<i→(s.cl.take i)[k]! = s.cl[k]! := fun k hk=>by
  rw[getElem!_pos _ k (by omega),getElem!_pos _ k (by omega),List.getElem_take]
 have h20:=c20 (s.cl[i]!).nm hnm
 have hA:∀ σ,rowOf σ 0=some [.cv (.str (s.cl[i]!).nm),ints (s.cl[i]!).inc,.i (s.cl[i]!).need,.i (s.cl[i]!).age,.i (s.cl[i]!).term]→AC Tryz.prog 151 [.cv (clsR (s.cl.take i)),.fn (.func 152) [.ptr 0 0]] σ fun r τ=>r=.b (anyN (fun k=>decide ((s.cl[k]!).nm=(s.cl[i]!).nm)) i)∧τ=σ:=fun σ hσ=>by
  have:=c121 (s.cl.take i) (.fn (.func 152) [.ptr 0 0]) (fun k=>decide ((s.cl[k]!).nm=(s.cl[i]!).nm)) (by omega) σ fun k hk=>by
   rw[htk k (by omega)]
   exact c122 s.cl[k]! s.cl[i]! σ 0 hσ
  rwa [htl] at this
 unfold VR
 generalize s.cl[i]! = c at *
 simp only[ic121,WI,cellsOf,hw,evA,simprocAttr]
 refine h20.call frz ?_
 cases h1:JH c.nm with
 | false =>
  rw[if_pos rfl]
  simp only[evA,simprocAttr]
  exact frz
 | true =>
 rw[if_neg (by decide)]
 simp only[hsl,evA,simprocAttr]
 refine (hA _ rfl).run ?_
 cases h2:anyN (fun k=>decide ((s.cl[k]!).nm=c.nm)) i with
 | true =>
  rw[if_pos rfl]
  simp only[evA,simprocAttr]
  exact frz
 | false =>
 rw[if_neg (by decide)]
 simp only[evA,simprocAttr]
 refine DW_s [] [] hmix (by kernel_rfl) rfl ?_
 simp only[evA,simprocAttr]
 by_cases h3:(c.inc.length:Int)>s.cl.length
 ·rw[if_pos h3]
  simp only[h3,evA,simprocAttr]
  exact frz
 rw[if_neg h3]
 simp only[h3,evA,simprocAttr]
 refine (c56 0 ((s.cl.length:Int)-1) c.inc hin).call frz ?_
 cases h4:outF 0 ((s.cl.length:Int)-1) c.inc with
 | true =>
  rw[US,if_pos rfl]
  simp only[evA,simprocAttr]
  exact frz
 | false =>
 rw[Y3]
 simp only[evA,simprocAttr]
 refine (c56 (-1) ((s.cl.length:Int)-1) [c.need] (by simp)).call frz ?_
 rw[FW]
 cases h5:inB c.need (-1) ((s.cl.length:Int)-1) with
 | false =>
  rw[if_pos (show (!false)=true from rfl)]
  simp only[evA,simprocAttr]
  exact frz
 | true =>
 rw[if_neg (show ¬ ((!true)=true) by decide)]
 simp only[evA,simprocAttr]
 cases h6:(c.need == (i:Int)) with
 | true =>
  rw[if_pos rfl]
  simp only[evA,simprocAttr]
  exact frz
 | false =>
 rw[if_neg (by decide)]
 simp only[evA,simprocAttr]
 refine (c56 0 100 [c.age,c.term] (by simp)).call frz ?_
 cases h7:outF 0 100 [c.age,c.term] with
 | true =>
  rw[if_pos rfl]
  simp only[evA,simprocAttr]
  exact frz
 | false =>
  rw[if_neg (by decide)]
  simp only[evA,simprocAttr]
  exact frz
theorem c106 (s:Sys) (hs:SSz s) (cov:CV) (i:Nat) (hi:i<s.co.length):PC Tryz.prog 123 [.cv (.rp [clsR s.cl,strR s.co,cov] 0),.i i,.cv (.str s.co[i]!)] (.i (KM s i)):=by
 refine ⟨ZF (fok123 true) (QC rfl) ?_,rfl⟩
 have hco:=hs.co
 have hnm:=hs.cm i hi
 have hsl:∀ σ,VG 1 false true [.cv (strR s.co),.cv (.int .i64 i)] σ=some (.cv (strR (s.co.take i)),σ):=str_sl (by omega)
 have htl:(s.co.take i).length=i:=by simp;omega
 have h123:=c123 (s.co.take i) s.co[i]! (by omega)
 have he:anyN (fun k=>decide ((s.co.take i)[k]! = s.co[i]!)) (s.co.take i).length=anyN (fun k=>decide (s.co[k]! = s.co[i]!)) i:=by
  rw[htl,Q8,U8,U8]
  constructor <;> rintro ⟨k,hk,h⟩ <;> refine ⟨k,hk,?_⟩
  ·rwa [getElem!_pos _ k (by omega),List.getElem_take,← getElem!_pos s.co k (by omega)] at h
  ·rw[getElem!_pos _ k (by omega),List.getElem_take,← getElem!_pos s.co k (by omega)];exact h
 rw[he] at h123
 unfold KM
 simp only[ic123,evA,simprocAttr]
 refine (c20 s.co[i]! hnm).call frz ?_
 cases h1:JH s.co[i]! with
 | false =>
  rw[if_pos rfl]
  simp only[evA,simprocAttr]
  exact frz
 | true =>
 rw[if_neg (by decide)]
 simp only[hsl,evA,simprocAttr]
 refine h123.call frz ?_
 cases h2:anyN (fun k=>decide (s.co[k]! = s.co[i]!)) i with
 | true =>
  rw[if_pos rfl]
  simp only[evA,simprocAttr]
  exact frz
 | false =>
  rw[if_neg (by decide)]
  simp only[evA,simprocAttr]
  exact frz
theorem c85 (s:Sys) (hs:SSz s) (i:Nat) (hi:i<s.cl.length):PC Tryz.prog 64 [sysV s,.i i] (.i (VR s i)):=by
 refine ⟨ZF (fok64 true) (QC rfl) ?_,rfl⟩
 have hcl:=hs.cl
 have hnm:=hs.nm i hi
 have hin:=hs.inc i hi
 have hw:IntKind.i64.wrap ((s.cl.length:Int)-1)=(s.cl.length:Int)-1:=ZC (by omega)
 have hld:∀ σ,YF 5 [.cv (.rp (DZ s.cl) (i*5))] σ=some (clsA s.cl[i]!,σ):=Qaz hi
 have hia:∀ σ,VP 5 [.cv (clsR s.cl),.cv (.int .i64 i)] σ=some (.cv (.rp (DZ s.cl) (i*5)),σ):=GR hi
 have h21:=c21 (s.cl[i]!).nm hnm
 unfold VR
 generalize s.cl[i]! = c at *
 simp only[ic64,WI,cellsOf,hld,hia,hw,evA,simprocAttr]
 refine h21.call frz ?_
 cases h1:JH c.nm with
 | false =>
  rw[if_pos rfl]
  simp only[evA,simprocAttr]
  exact frz
 | true =>
 rw[if_neg (by decide)]
 simp only[evA,simprocAttr]
 refine ZW i (fun k s'=>(∀ j,j<k→decide ((s.cl[j]!).nm=c.nm)=false)∧∃ v6 v7 v9 v10 v11 v12 v13 v14 v15 v16,s'=⟨[sysV s,.i i,.ptr 0 0,.i 0,.ptr 1 0,.i k,v6,v7,.b false,v9,v10,v11,v12,v13,v14,v15,v16],[.cells [.cv (clsR s.cl),.cv (strR s.co)],.cells [.cv (.str c.nm),ints c.inc,.i c.need,.i c.age,.i c.term]]⟩) ?_ 0 (QF _) ⟨by omega,_,_,_,_,_,_,_,_,_,_,rfl⟩
 rintro k s' hk ⟨hall,v6,v7,v9,v10,v11,v12,v13,v14,v15,v16,rfl⟩
 by_cases hki:k<i
 ·have hk2:k<s.cl.length:=by omega
  simp only[ic64l1,QJ,hki,evA,simprocAttr]
  refine DW_s [] [] hmix (by kernel_rfl) rfl ?_
  simp only[GR hk2,cls_0 hk2,binS,str_eq,evA,simprocAttr]
  cases h2:decide ((s.cl[k]!).nm=c.nm) with
  | true =>
   rw[if_pos (U8.2 ⟨k,hki,h2⟩)]
   simp only[evA,simprocAttr]
   exact frz
  | false =>
   simp only[Q6 (show k+1<2 ^ 63 by omega),evA,simprocAttr]
   refine ZL (by first | trivial | omega) ⟨fun j hj=>?_,_,_,_,_,_,_,_,_,_,_,rfl⟩
   rcases QQ.1 hj with hj | rfl
   ·exact hall j hj
   ·exact h2
 have hki':k=i:=by omega
 subst hki'
 have h2:anyN (fun j=>decide ((s.cl[j]!).nm=c.nm)) k=false:=F8.2 hall
 rw[if_neg (by rw[h2];decide)]
 by_cases h3:s.cl.length<c.inc.length
 ·rw[if_pos (show (c.inc.length:Int)>s.cl.length by omega)]
  simp only[ic64l1,QJ,hki,hw,gt_iff_lt,h3,evA,simprocAttr]
  exact frz
 rw[if_neg (show ¬ (c.inc.length:Int)>s.cl.length by omega)]
 simp only[ic64l1,QJ,hki,hw,gt_iff_lt,h3,evA,simprocAttr]
 refine ZW c.inc.length (fun m s'=>(∀ j,j<m→inB (c.inc[j]?.getD 0) 0 ((s.cl.length:Int)-1)=true)∧∃ v9 v10 v12 v13 v14 v15 v16,s'=⟨[sysV s,.i k,.ptr 0 0,.i 0,.ptr 1 0,.i k,.i ((s.cl.length:Int)-1),.i m,.b false,v9,v10,.b false,v12,v13,v14,v15,v16],[.cells [.cv (clsR s.cl),.cv (strR s.co)],.cells [.cv (.str c.nm),ints c.inc,.i c.need,.i c.age,.i c.term]]⟩) ?_ 0 (QF _) ⟨by omega,_,_,_,_,_,_,_,rfl⟩
 rintro m s' hm ⟨hal2,v9,v10,v12,v13,v14,v15,v16,rfl⟩
 by_cases hmi:m<c.inc.length
 ·simp only[ic64l0,QJ,hmi,evA,simprocAttr]
  refine (c59i (c.inc[m]?.getD 0) 0 ((s.cl.length:Int)-1)).call frz ?_
  cases h4:inB (c.inc[m]?.getD 0) 0 ((s.cl.length:Int)-1) with
  | false =>
   rw[if_pos (by rw[Qeg hmi h4];rfl)]
   simp only[evA,simprocAttr]
   exact frz
  | true =>
   simp only[Q6 (show m+1<2 ^ 63 by omega),evA,simprocAttr]
   refine ZL (by first | trivial | omega) ⟨fun j hj=>?_,_,_,_,_,_,_,_,rfl⟩
   rcases QQ.1 hj with hj | rfl
   ·exact hal2 j hj
   ·exact h4
 have hmi':m=c.inc.length:=by omega
 subst hmi'
 rw[PW.2 hal2,Y3]
 simp only[ic64l0,QJ,hmi,evA,simprocAttr]
 refine (c59i c.need (-1) ((s.cl.length:Int)-1)).call frz ?_
 cases h5:inB c.need (-1) ((s.cl.length:Int)-1) with
 | false =>
  rw[if_pos (show (!false)=true from rfl)]
  simp only[evA,simprocAttr]
  exact frz
 | true =>
 rw[if_neg (show ¬ ((!true)=true) by decide)]
 simp only[evA,simprocAttr]
 cases h6:(c.need == (k:Int)) with
 | true =>
  rw[if_pos rfl]
  simp only[evA,simprocAttr]
  exact frz
 | false =>
 rw[if_neg (by decide)]
 have ho:outF 0 100 [c.age,c.term]=(!inB c.age 0 100 || !inB c.term 0 100):=by
  have e1:=FW 0 100 c.age
  have e2:=FW 0 100 c.term
  simp only[outF,List.any_cons,List.any_nil,Bool.or_false] at e1 e2 ⊢
  rw[e1,e2]
 rw[ho]
 simp only[evA,simprocAttr]
 refine (c59i c.age 0 100).call frz ?_
 cases h7:inB c.age 0 100 with
 | false =>
  rw[if_pos (show (!false || !inB c.term 0 100)=true from rfl)]
  simp only[evA,simprocAttr]
  exact frz
 | true =>
 simp only[evA,simprocAttr]
 refine (c59i c.term 0 100).call frz ?_
 cases h8:inB c.term 0 100 with
 | false =>
  rw[if_pos (show (!true || !false)=true from rfl)]
  simp only[evA,simprocAttr]
  exact frz
 | true =>
  rw[if_neg (show ¬ ((!true || !true)=true) by decide)]
  simp only[evA,simprocAttr]
  exact frz
abbrev QaJ (o:List Bool):CV:=.rsl (o.map .bool) o.length
abbrev XT (o:List Bool):List AV:=o.map AV.b
def nx (s:Sys) (i:Nat):List Nat:=(s.cl[i]!).inc.map Int.toNat
def OkI (s:Sys):Prop:=∀ i,i<s.cl.length→∀ z∈(s.cl[i]!).inc,0≤z∧z<s.cl.length
theorem OkI.inN {s:Sys} (h:OkI s):InN (nx s) s.cl.length:=fun i hi z hz=>by
 obtain ⟨y,hy,rfl⟩:=ZP.1 hz
 have:=h i hi y hy
 omega
abbrev cov (s:Sys) (c:Nat):List Bool:=covG (nx s) s.cl.length c
theorem M4 {s:Sys} {c:Nat}:(cov s c).length=s.cl.length:=CR
theorem B6 {n:Nat} (h:n<2 ^ 40) (σ:List AObj):XB 1 1 [.cv (.bool false)] [.i n,.i n] σ=some (.sl σ.length 0 n 1,σ++[.cells (XT (List.replicate n false))]):=by
 have e:(2:Int) ^ 46=70368744177664:=by decide
 have e2:(2:Nat) ^ 40=1099511627776:=by decide
 have h1:0≤(n:Int)∧True∧(n:Int)*(1:Nat)≤2 ^ 46∧(n:Int)≤2 ^ 46∧[AV.cv (.bool false)].length=1:=by
  refine ⟨by omega,trivial,by omega,by omega,rfl⟩
 simp only[XB]
 rw[if_pos h1]
 simp[YW]
theorem OX {o:List Bool} {k:Nat}:(XT o).set k (.cv (.bool true))=XT (setT o k):=by
 unfold setT;exact List.map_set.symm
theorem NB {o:List Bool} {k:Nat} (h:k<o.length):(XT o)[k]? = some (.b (o[k]?.getD false)):=by simp[h]
theorem AZ {p:CV→Prop} (hp:∀ z,p (.bool z)) {σ:List AObj} {o:List Bool} {l n:Nat} (hn:n=o.length) (hr:rowOf σ l=some (XT o)):FrzV p σ (.sl l 0 n 1) (.cv (QaJ o)):=by
 subst hn
 have:XT o=(o.map CV.bool).map AV.cv:=by simp
 refine sl_frz (cs:=o.map CV.bool) (rest:=[]) (by rw[hr,this];simp) (by simp) ?_
 intro c hc
 obtain ⟨b,_,rfl⟩:=ZP.1 hc
 exact hp b
theorem Qb9 {g:Nat→List Nat} {o:List Bool} {i k:Nat} (h:o[i]?.getD false=true):(((g i).take k).foldl setT o)[i]?.getD false=true:=(Qds _ _).2 (.inl h)
theorem c51 (s:Sys) (hs:SSz s) (hn:s.cl.length<2 ^ 40) (hok:OkI s) (c:Nat) (hc:c<s.cl.length):PC Tryz.prog 67 [sysV s,.i c] (.cv (QaJ (cov s c))):=by
 have e40:(2:Nat) ^ 40=1099511627776:=by decide
 refine ⟨ZF (fok67 true) (QC rfl) ?_,rfl⟩
 have hsl:∀ σ,VP 1 [.sl 1 0 s.cl.length 1,.cv (.int .i64 c)] σ=some (.ptr 1 (0+c),σ):=W9 hc
 have hrep:c+1≤(List.replicate s.cl.length false).length:=by simp;omega
 simp only[ic67,WI,cellsOf,B6 hn,hsl,ZV,OX,hrep,evA,simprocAttr]
 refine ZW s.cl.length (fun t s'=>∃ v6 v7 v8 v9 v10,s'=⟨[sysV s,.i c,.ptr 0 0,.cv .nils,.sl 1 0 s.cl.length 1,.i t,v6,v7,v8,v9,v10],[.cells [.cv (clsR s.cl),.cv (strR s.co)],.cells (XT (covN (nx s) s.cl.length c t))]⟩) ?_ 0 (QF _) ⟨_,_,_,_,_,rfl⟩
 rintro t s' ht ⟨v6,v7,v8,v9,v10,rfl⟩
 by_cases htn:t<s.cl.length
 ·simp only[ic67l2,QJ,htn,evA,simprocAttr]
  have hcl:=GF (g:=nx s) (n:=s.cl.length) (c:=c) t
  have hcov:covN (nx s) s.cl.length c (t+1)=GO (nx s) (covN (nx s) s.cl.length c t) s.cl.length:=rfl
  generalize covN (nx s) s.cl.length c t=o at hcl hcov
  refine ZW s.cl.length (fun i s'=>∃ v7 v9 v10,s'=⟨[sysV s,.i c,.ptr 0 0,.cv .nils,.sl 1 0 s.cl.length 1,.i t,.i i,v7,.b true,v9,v10],[.cells [.cv (clsR s.cl),.cv (strR s.co)],.cells (XT (GO (nx s) o i))]⟩) ?_ 0 (QF _) ⟨_,_,_,rfl⟩
  rintro i s' hi ⟨v7,v9,v10,rfl⟩
  by_cases hin:i<s.cl.length
  ·have hinc:=hs.inc i hin
   have hrl:(GO (nx s) o i).length=s.cl.length:=by rw[GO,B1,hcl]
   have hstep:GO (nx s) o (i+1)=GP (nx s) (GO (nx s) o i) i:=by simp[GO,WM]
   generalize hq:GO (nx s) o i=q at hrl hstep
   simp only[ic67l1,QJ,hin,evA,simprocAttr]
   refine ZW (s.cl[i]!).inc.length (fun k s'=>(k=0∨q[i]?.getD false=true)∧∃ v10,s'=⟨[sysV s,.i c,.ptr 0 0,.cv .nils,.sl 1 0 s.cl.length 1,.i t,.i i,.i k,.b true,.b true,v10],[.cells [.cv (clsR s.cl),.cv (strR s.co)],.cells (XT (((nx s i).take k).foldl setT q))]⟩) ?_ 0 (QF _) ⟨.inl rfl,_,rfl⟩
   rintro k s' hk ⟨hkq,v10,rfl⟩
   have hnx:(nx s i).length=(s.cl[i]!).inc.length:=by simp[nx]
   by_cases hki:k<(s.cl[i]!).inc.length
   ·have hz:(nx s i)[k]? = some ((s.cl[i]!).inc[k]?.getD 0).toNat:=by rw[nx,ZR,QI hki];rfl
    have hzr:=hok i hin ((s.cl[i]!).inc[k]?.getD 0) (by rw[QI hki];exact Q2 hki)
    have hfl:(((nx s i).take k).foldl setT q).length=s.cl.length:=by rw[A1,hrl]
    have hgb:=NB (o:=((nx s i).take k).foldl setT q) (k:=i) (by omega)
    have hbit:(((nx s i).take k).foldl setT q)[i]?.getD false=q[i]?.getD false:=by
     rcases hkq with rfl | h
     ·simp
     ·rw[h];exact Qb9 h
    rw[hbit] at hgb
    have hsli:∀ σ,VP 1 [.sl 1 0 s.cl.length 1,.cv (.int .i64 i)] σ=some (.ptr 1 (0+i),σ):=W9 hin
    simp only[ic67l0,QJ,hki,GR hin,CW hin,hsli,ZV,hgb,evA,simprocAttr]
    cases hb:q[i]?.getD false with
    | false =>
     have hk0:k=0:=by
      rcases hkq with h | h
      ·exact h
      ·rw[hb] at h;cases h
     subst hk0
     simp only[Q6 (show i+1<2 ^ 63 by omega),evA,simprocAttr]
     have hst:GO (nx s) o (i+1)=q:=by rw[hstep,GP,if_neg (by rw[hb];decide)]
     exact ZL (by first | trivial | omega) ⟨_,_,_,by rw[hst];rfl⟩
    | true =>
     obtain ⟨z,hze⟩:∃ z:Nat,(s.cl[i]!).inc[k]?.getD 0=(z:Int):=⟨((s.cl[i]!).inc[k]?.getD 0).toNat,by omega⟩
     rw[hze,Int.toNat_natCast] at hz
     have hslz:∀ σ,VP 1 [.sl 1 0 s.cl.length 1,.cv (.int .i64 z)] σ=some (.ptr 1 (0+z),σ):=W9 (by omega)
     have hzl:z+1≤(((nx s i).take k).foldl setT q).length:=by omega
     simp only[ic67l0,QJ,hki,GR hin,CW hin,hze,hzl,hslz,ZV,OX,Q6 (show k+1<2 ^ 63 by omega),evA,simprocAttr]
     have hst:((nx s i).take (k+1)).foldl setT q=setT (((nx s i).take k).foldl setT q) z:=by
      rw[JC,hz,List.foldl_append]
      rfl
     exact ZL (by first | trivial | omega) ⟨.inr trivial,_,by rw[hst]⟩
   ·have hkl:k=(s.cl[i]!).inc.length:=by omega
    simp only[ic67l0,QJ,hki,GR hin,CW hin,Q6 (show i+1<2 ^ 63 by omega),evA,simprocAttr]
    have hst:GO (nx s) o (i+1)=((nx s i).take k).foldl setT q:=by
     rw[hstep,hkl,← hnx,X7,GP]
     split
     ·rfl
     ·rename_i hb
      have hk0:k=0:=by
       rcases hkq with h | h
       ·exact h
       ·exact absurd h hb
      have:nx s i=[]:=ZT (by omega)
      rw[this];rfl
    exact ZL (by first | trivial | omega) ⟨_,_,_,by rw[hst]⟩
  ·have hin':i=s.cl.length:=by omega
   subst hin'
   simp only[ic67l1,QJ,hin,Q6 (show t+1<2 ^ 63 by omega),evA,simprocAttr]
   exact ZL (by first | trivial | omega) ⟨_,_,_,_,_,by rw[hcov]⟩
 ·have htn':t=s.cl.length:=by omega
  subst htn'
  simp only[ic67l2,QJ,htn,evA,simprocAttr]
  exact AZ (fun _=>trivial) (by rw[M4]) rfl
theorem nx_get {s:Sys} {c k:Nat} (hk:k<(s.cl[c]!).inc.length):(nx s c)[k]? = some ((s.cl[c]!).inc[k]?.getD 0).toNat:=by rw[nx,ZR,QI hk];rfl
theorem nx_lenC {s:Sys} {c:Nat}:(nx s c).length=(s.cl[c]!).inc.length:=by simp[nx]
structure DfsH (s:Sys) (σ:List AObj) (A B D L R:Nat):Prop where
 a:rowOf σ A=some [.sl R 0 s.cl.length 1]
 b:rowOf σ B=some [.ptr L 0]
 d:rowOf σ D=some [.fn (.func 154) [.ptr A 0,.ptr B 0,.ptr D 0]]
 l:∃ v,rowOf σ L=some [.cv (clsR s.cl),.cv (strR s.co),v]
 ra:R≠A
 rb:R≠B
 rd:R≠D
 rl:R≠L
 rr:R<σ.length
theorem DfsH.set {s:Sys} {σ:List AObj} {A B D L R:Nat} (h:DfsH s σ A B D L R) (x:AObj):DfsH s (σ.set R x) A B D L R :=
 ⟨by rw[QX h.ra];exact h.a,by rw[QX h.rb];exact h.b,by rw[QX h.rd];exact h.d,by rw[QX h.rl];exact h.l,h.ra,h.rb,h.rd,h.rl,by simpa using h.rr⟩
theorem cntT_set {M:List Bool} {c:Nat} (hc:c<M.length) (h:¬ T M c):cntT M<cntT (setT M c) :=
 (M6 (D9 M c).symm fun k hk=>R6.2 (.inl hk)).2 c (R6.2 (.inr ⟨rfl,hc⟩)) h
theorem c124 (s:Sys) (hs:SSz s) (hok:OkI s) (A B D L R:Nat):∀ (m:Nat) (σ:List AObj) (M:List Bool) (c:Nat),DfsH s σ A B D L R→M.length=s.cl.length→c<s.cl.length→s.cl.length-cntT M<m →
  AC Tryz.prog 154 [.i c,.ptr A 0,.ptr B 0,.ptr D 0] (σ.set R (.cells (XT M))) fun r τ=>r=.tup []∧∃ M',Dfs (nx s) c M M'∧τ=σ.set R (.cells (XT M'))
 | 0,_,_,_,_,_,_,hm=>absurd hm (W5 _)
 | m + 1,σ,M,c,hσ,hM,hc,hm=>by
  have hH:=fun (o:List Bool)=>hσ.set (.cells (XT o))
  obtain ⟨lv,hL⟩:=hσ.l
  have hA:∀ o:List Bool,rowOf (σ.set R (.cells (XT o))) A=some [.sl R 0 s.cl.length 1]:=fun o=>(hH o).a
  have hB:∀ o:List Bool,rowOf (σ.set R (.cells (XT o))) B=some [.ptr L 0]:=fun o=>(hH o).b
  have hD:∀ o:List Bool,rowOf (σ.set R (.cells (XT o))) D=some [.fn (.func 154) [.ptr A 0,.ptr B 0,.ptr D 0]]:=fun o=>(hH o).d
  have hLL:∀ o:List Bool,rowOf (σ.set R (.cells (XT o))) L=some [.cv (clsR s.cl),.cv (strR s.co),lv]:=fun o=>by rw[QX hσ.rl];exact hL
  have hR:∀ o:List Bool,rowOf (σ.set R (.cells (XT o))) R=some (XT o):=fun o=>by simp[rowOf,hσ.rr]
  have hgc:=NB (o:=M) (k:=c) (by omega)
  have hslc:∀ σ',VP 1 [.sl R 0 s.cl.length 1,.cv (.int .i64 c)] σ'=some (.ptr R (0+c),σ'):=W9 hc
  refine ZF (fok154 true) (QC rfl) ?_
  by_cases hT:M[c]?.getD false=true
  ·rw[hT] at hgc
   simp only[ic154,hA,hR,hslc,ZV,hgc,evA,simprocAttr]
   exact ⟨M,⟨rfl,fun k h=>h,hT,fun k h=>.inl h,fun a z h1 h2=>absurd h1 h2⟩,rfl⟩
  ·have hTf:M[c]?.getD false=false:=by simpa using hT
   rw[hTf] at hgc
   have hcl:c+1≤M.length:=by omega
   have hsz:=cntT_set (c:=c) (by omega) (show ¬ T M c from hT)
   have hinc:=hs.inc c hc
   have hle:=QcE (setT M c)
   rw[D9] at hle
   have hM1:(setT M c).length=s.cl.length:=by rw[D9,hM]
   simp only[ic154,hA,hB,hLL,hR,hslc,ZV,hgc,hcl,OX,List.set_set,GR hc,CW hc,evA,simprocAttr]
   refine ZW (s.cl[c]!).inc.length (fun k s'=>∃ v4 v9 M2,(M2.length=s.cl.length∧(∀ j,T (setT M c) j→T M2 j)∧(∀ j,T M2 j→T (setT M c) j∨Rch (nx s) c j)∧(∀ a z,T M2 a→¬ T (setT M c) a→z∈nx s a→T M2 z)∧∀ j z,j<k→(nx s c)[j]? = some z→T M2 z)∧s'=⟨[.i c,.ptr A 0,.ptr B 0,.ptr D 0,v4,.b false,.cv (.rsl ((s.cl[c]!).inc.map (.int .i64)) (s.cl[c]!).inc.length),.i (s.cl[c]!).inc.length,.i k,v9],σ.set R (.cells (XT M2))⟩) ?_ 0 (QF _) ⟨_,_,setT M c,⟨hM1,fun _ h=>h,fun _ h=>.inl h,fun a z h1 h2=>absurd h1 h2,by omega⟩,rfl⟩
   rintro k s' hk ⟨v4,v9,M2,⟨q1,q2,q3,q4,q5⟩,rfl⟩
   by_cases hki:k<(s.cl[c]!).inc.length
   ·have hz:=nx_get hki
    have hzr:=hok c hc ((s.cl[c]!).inc[k]?.getD 0) (by rw[QI hki];exact Q2 hki)
    obtain ⟨z,hze⟩:∃ z:Nat,(s.cl[c]!).inc[k]?.getD 0=(z:Int):=⟨((s.cl[c]!).inc[k]?.getD 0).toNat,by omega⟩
    rw[hze,Int.toNat_natCast] at hz
    have hcnt:cntT (setT M c)≤cntT M2:=(M6 (by rw[hM1,q1]) q2).1
    have ih:=c124 s hs hok A B D L R m σ M2 z hσ q1 (by omega) (by omega)
    have hzm:z∈nx s c:=QZ hz
    simp only[ic154l0,QJ,hki,hD,hze,evA,simprocAttr]
    refine ih.mono ?_
    rintro r τ ⟨rfl,M3,hd,rfl⟩
    simp only[Q6 (show k+1<2 ^ 63 by omega),evA,simprocAttr]
    refine ZL (by first | trivial | omega) ⟨_,_,M3,⟨by rw[hd.len,q1],fun j h=>hd.mono j (q2 j h),fun j h=>?_,fun a y h1 h2 h3=>?_,fun j y hj hy=>?_⟩,rfl⟩
    ·rcases hd.new j h with h | h
     ·exact q3 j h
     ·exact .inr (Rch.head hzm h)
    ·by_cases hm2:T M2 a
     ·exact hd.mono y (q4 a y hm2 h2 h3)
     ·exact hd.clo a y h1 hm2 h3
    ·rcases QQ.1 hj with hj | rfl
     ·exact hd.mono y (q5 j y hj hy)
     ·rw[hz] at hy;cases hy;exact hd.has
   ·have hkl:k=(s.cl[c]!).inc.length:=by omega
    simp only[ic154l0,QJ,hki,evA,simprocAttr]
    refine ⟨M2,⟨by rw[q1,hM],fun j h=>q2 j (R6.2 (.inl h)),q2 c (R6.2 (.inr ⟨rfl,by omega⟩)),fun j h=>?_,fun a z h1 h2 h3=>?_⟩,rfl⟩
    ·rcases q3 j h with h | h
     ·rcases R6.1 h with h | ⟨rfl,_⟩
      ·exact .inl h
      ·exact .inr .refl
     ·exact .inr h
    ·by_cases hac:a=c
     ·subst hac
      obtain ⟨j,hj,hje⟩:=WN.1 h3
      rw[nx_lenC] at hj
      exact q5 j z (by omega) (by rw[QI (by rw[nx_lenC];exact hj),hje])
     ·exact q4 a z h1 (fun h=>by
       rcases R6.1 h with h | ⟨h,_⟩
       ·exact h2 h
       ·exact hac h) h3
def CovV (s:Sys) (b:Nat) (τ:List AObj) (v:AV) (i:Nat):Prop :=
 (v=.cv .nils∧i=0)∨∃ (q:Nat) (a:Nat→Nat),b≤q∧v=.sl q 0 i 1∧rowOf τ q=some ((List.range i).map fun k=>AV.sl (a k) 0 s.cl.length 1)∧∀ k,k<i→b≤a k∧a k≠q∧rowOf τ (a k)=some (XT (cov s k))
structure LookH (s:Sys) (σ:List AObj) (L i:Nat) (τ:List AObj):Prop where
 len:σ.length≤τ.length
 frame:∀ l,l<σ.length→l≠L→τ[l]? = σ[l]?
 sys:∃ v,rowOf τ L=some [.cv (clsR s.cl),.cv (strR s.co),v]∧CovV s (σ.length+1) τ v i
theorem set_row {σ:List AObj} {l:Nat} {cs:List AV} (h:rowOf σ l=some cs):σ.set l (.cells cs)=σ:=by
 have:=WO h
 apply Z1
 intro i
 rw[ZO]
 split
 ·rename_i e;subst e
  obtain ⟨h1,h2⟩:=QH.1 this
  rw[if_pos h1,this]
 ·rfl
theorem RJ {X τ:List AObj} {l:Nat} (h:X[l]? = τ[l]?):rowOf X l=rowOf τ l:=by unfold rowOf;rw[h]
theorem AH {s:Sys} {σ τ X:List AObj} {L i Q qo:Nat} {a:Nat→Nat} {v:AV} (hlb:σ.length<τ.length) (h2:∀ l,l<σ.length→l≠L→τ[l]? = σ[l]?)
  (h3:rowOf τ L=some [.cv (clsR s.cl),.cv (strR s.co),v]) (h5:rowOf τ σ.length=some [.ptr L 0]) (hLl:L<σ.length) (hqo:σ.length+1≤qo)
  (hX:∀ l,l<τ.length→l≠qo→X[l]? = τ[l]?) (hXl:τ.length≤X.length)
  (hQ:rowOf X Q=some ((List.range (i+1)).map fun k=>AV.sl (a k) 0 s.cl.length 1)) (hQl:τ.length<Q)
  (ha:∀ k,k<i→σ.length+1≤a k∧a k<τ.length∧a k≠qo∧rowOf τ (a k)=some (XT (cov s k))) (hai:a i=τ.length) (hR:rowOf X τ.length=some (XT (cov s i))) :
  LookH s σ L (i+1) (X.set L (.cells [.cv (clsR s.cl),.cv (strR s.co),.sl Q 0 (i+1) 1]))∧rowOf (X.set L (.cells [.cv (clsR s.cl),.cv (strR s.co),.sl Q 0 (i+1) 1])) σ.length=some [.ptr L 0]:=by
 have hXL:rowOf X L=some [.cv (clsR s.cl),.cv (strR s.co),v]:=by rw[RJ (hX L (by omega) (by omega))];exact h3
 refine ⟨⟨by simp;omega,fun l h4 h6=>?_,_,W0 hXL,.inr ⟨Q,a,by omega,rfl,?_,fun k hk=>?_⟩⟩,?_⟩
 ·rw[QU (Ne.symm h6),hX l (by omega) (by omega),h2 l h4 h6]
 ·rw[QX (by omega)];exact hQ
 ·rcases QQ.1 hk with hk | rfl
  ·obtain ⟨a1,a2,a3,a4⟩:=ha k hk
   refine ⟨a1,by omega,?_⟩
   rw[QX (by omega),RJ (hX _ a2 a3)];exact a4
  ·rw[hai]
   refine ⟨by omega,by omega,?_⟩
   rw[QX (by omega)];exact hR
 ·rw[QX (by omega),RJ (hX _ hlb (by omega))];exact h5
theorem c107 (s:Sys) (hs:SSz s) (hn12:s.cl.length≤12) (hok:OkI s) (L:Nat) (σ:List AObj) (hL:rowOf σ L=some [.cv (clsR s.cl),.cv (strR s.co),.cv .nils]) :
  AC Tryz.prog 124 [.ptr L 0] σ fun r τ=>r=.tup []∧LookH s σ L s.cl.length τ:=by
 have e40:(2:Nat) ^ 40=1099511627776:=by decide
 have hn:s.cl.length<2 ^ 40:=by omega
 have hLl:L<σ.length:=(QH.1 (WO hL)).1
 refine ZF (fok124 true) (QC rfl) ?_
 simp only[ic124,WI,cellsOf,WW,ZH hL,evA,simprocAttr]
 refine ZW s.cl.length (fun i s'=>∃ v2 v3 v4 v7 τ,LookH s σ L i τ∧rowOf τ σ.length=some [.ptr L 0]∧s'=⟨[.ptr L 0,.ptr σ.length 0,v2,v3,v4,.i s.cl.length,.i i,v7],τ⟩) ?_ 0 (QF _) ⟨_,_,_,_,_,⟨by simp,fun l h1 h2=>QE h1,_,ZH hL _,.inl ⟨rfl,rfl⟩⟩,by rw[WW];rfl,rfl⟩
 ·rintro i s' hi ⟨v2,v3,v4,v7,τ,⟨h1,h2,v,h3,h4⟩,h5,rfl⟩
  have hlb:σ.length<τ.length:=(QH.1 (WO h5)).1
  have hwi:IntKind.i64.wrap ((i:Int)+1)=((i+1:Nat):Int):=Q6 (by omega)
  by_cases hin:i<s.cl.length
  ·have hvn:v.isUndef=false:=by
    rcases h4 with ⟨rfl,_⟩ | ⟨q,a,_,rfl,_⟩ <;> rfl
   have g5:=fun J=>ZH h5 J
   have g3:=fun J=>ZH h3 J
   simp only[ic124l0,QJ,hin,h5,h3,g5,g3,B6 hn,WW,X9,VW,EZ,QW,QM,evA,simprocAttr]
   have hdfs:=c124 s hs hok (τ.length+1) σ.length (τ.length+2) L τ.length (s.cl.length+1) (τ++[AObj.cells (XT (List.replicate s.cl.length false)),AObj.cells [AV.sl τ.length 0 s.cl.length 1],AObj.cells [AV.fn (Fn.func 154) [AV.ptr (τ.length+1) 0,AV.ptr σ.length 0,AV.ptr (τ.length+2) 0]]]) (List.replicate s.cl.length false) i ⟨by rw[X9];rfl,g5 _,by rw[X9];rfl,⟨v,g3 _⟩,by omega,by omega,by omega,by omega,by simp⟩ (by simp) hin (by omega)
   rw[set_row (by rw[WW];rfl)] at hdfs
   refine hdfs.mono ?_
   rintro r τ1 ⟨rfl,M',hd,rfl⟩
   rw[hd.all hok.inN hin]
   simp only[VW,evA,simprocAttr]
   refine DW_s [] [(0,6),(0,7),(1,6),(4,6)] hmix (by kernel_rfl) rfl ?_
   have k5:=fun J=>Qdq h5 J
   have kL:=fun J=>Qdq h3 J
   have hsrc:∀ (x0 x1 x2:AObj) (J:List AObj),Z9 (τ++(x0::x1::x2::AObj.cells [AV.sl τ.length 0 s.cl.length 1]::J)) 1 (.sl (τ.length+3) 0 1 1)=some [AV.sl τ.length 0 s.cl.length 1]:=fun x0 x1 x2 J=>by
    simp only[Z9,if_true,X9];rfl
   rcases h4 with ⟨rfl,rfl⟩ | ⟨q,a,hq1,rfl,hq2,hq3⟩
   ·simp only[h5,h3,g5,g3,k5,kL,hsrc,ZX,lenF,WW,X9,VW,EZ,QW,QM,evA,simprocAttr]
    have hst:=AH (s:=s) (σ:=σ) (τ:=τ) (L:=L) (i:=0) (Q:=τ.length+4) (qo:=τ.length) (a:=fun _=>τ.length) (X:=τ++[AObj.cells (XT (cov s 0)),AObj.cells [AV.sl τ.length 0 s.cl.length 1],AObj.cells [AV.fn (Fn.func 154) [AV.ptr (τ.length+1) 0,AV.ptr σ.length 0,AV.ptr (τ.length+2) 0]],AObj.cells [AV.sl τ.length 0 s.cl.length 1],AObj.cells [AV.sl τ.length 0 s.cl.length 1]]) hlb h2 h3 h5 hLl (by omega) (fun l hl _=>QE hl) (by simp) (by rw[X9];rfl) (by omega) (fun k hk=>by omega) rfl (by rw[WW];rfl)
    exact ZL trivial ⟨_,_,_,_,_,hst.1,hst.2,rfl⟩
   ·have hql:q<τ.length:=(QH.1 (WO hq2)).1
    have gq:=fun J=>ZH hq2 J
    have hap:∀ (J J':List AObj) (x:AObj) (l:Nat),l<τ.length→l≠q→((τ++J).set q x++J')[l]? = τ[l]? := fun J J' x l hl hne=>by
     rw[QE (by simp;omega),QU (Ne.symm hne),QE hl]
    have m5:∀ (J J':List AObj) (x:AObj),((τ++J).set q x++J')[σ.length]? = some (.cells [.ptr L 0]):=fun J J' x=>by rw[hap _ _ _ _ hlb (by omega)];exact WO h5
    have mL:∀ (J J':List AObj) (x:AObj),((τ++J).set q x++J')[L]? = some (.cells [.cv (clsR s.cl),.cv (strR s.co),.sl q 0 i 1]):=fun J J' x=>by rw[hap _ _ _ _ (by omega) (by omega)];exact WO h3
    have rL:∀ (J J':List AObj) (x:AObj),rowOf ((τ++J).set q x++J') L=some [.cv (clsR s.cl),.cv (strR s.co),.sl q 0 i 1]:=fun J J' x=>by rw[RJ (hap _ _ _ _ (by omega) (by omega))];exact h3
    have hrow:((List.range i).map fun k=>AV.sl (a k) 0 s.cl.length 1).length=i:=by simp
    have htk:((List.range i).map fun k=>AV.sl (a k) 0 s.cl.length 1).take i=(List.range i).map fun k=>AV.sl (a k) 0 s.cl.length 1:=by rw[Q5 (by simp)]
    have hc1:i≤(List.range i).length:=by simp
    have hc2:(i+1)*24≤2 ^ 44:=by
     have:(2:Nat) ^ 44=17592186044416:=by decide
     omega
    have hc3:i+1≤2 ^ 44:=by omega
    simp only[hwi,h5,h3,g5,g3,k5,kL,m5,mL,rL,gq,hc1,hc2,hc3,htk,hsrc,ZX,lenF,WW,X9,VW,EZ,QW,QM,evA,simprocAttr]
    obtain ⟨a',ha',hai'⟩:∃ a':Nat→Nat,(∀ k,k<i→a' k=a k)∧a' i=τ.length:=⟨fun k=>if k<i then a k else τ.length,fun k hk=>by simp[hk],by simp⟩
    have hrow':((List.range i).map fun k=>AV.sl (a k) 0 s.cl.length 1)++[AV.sl τ.length 0 s.cl.length 1]=(List.range (i+1)).map fun k=>AV.sl (a' k) 0 s.cl.length 1:=by
     rw[WM,ZS]
     congr 1
     ·apply JI
      intro k hk
      rw[ha' k (ZI.1 hk)]
     ·simp[hai']
    rw[hrow']
    have hlen4:((τ++[AObj.cells (XT (cov s i)),AObj.cells [AV.sl τ.length 0 s.cl.length 1],AObj.cells [AV.fn (Fn.func 154) [AV.ptr (τ.length+1) 0,AV.ptr σ.length 0,AV.ptr (τ.length+2) 0]],AObj.cells [AV.sl τ.length 0 s.cl.length 1]]).set q AObj.dead).length=τ.length+4:=by simp
    have hst:=AH (s:=s) (σ:=σ) (τ:=τ) (L:=L) (i:=i) (Q:=τ.length+4) (qo:=q) (a:=a') (X:=(τ++[AObj.cells (XT (cov s i)),AObj.cells [AV.sl τ.length 0 s.cl.length 1],AObj.cells [AV.fn (Fn.func 154) [AV.ptr (τ.length+1) 0,AV.ptr σ.length 0,AV.ptr (τ.length+2) 0]],AObj.cells [AV.sl τ.length 0 s.cl.length 1]]).set q AObj.dead++[AObj.cells ((List.range (i+1)).map fun k=>AV.sl (a' k) 0 s.cl.length 1)]) hlb h2 h3 h5 hLl hq1 (fun l hl hne=>hap _ _ _ _ hl hne) (by simp;omega) (by rw[← hlen4,WW];rfl) (by omega) (fun k hk=>?_) hai' ?_
    ·exact ZL trivial ⟨_,_,_,_,_,hst.1,hst.2,rfl⟩
    ·obtain ⟨b1,b2,b3⟩:=hq3 k hk
     rw[ha' k hk]
     exact ⟨b1,(QH.1 (WO b3)).1,b2,b3⟩
    ·have:((τ++[AObj.cells (XT (cov s i)),AObj.cells [AV.sl τ.length 0 s.cl.length 1],AObj.cells [AV.fn (Fn.func 154) [AV.ptr (τ.length+1) 0,AV.ptr σ.length 0,AV.ptr (τ.length+2) 0]],AObj.cells [AV.sl τ.length 0 s.cl.length 1]]).set q AObj.dead++[AObj.cells ((List.range (i+1)).map fun k=>AV.sl (a' k) 0 s.cl.length 1)])[τ.length]? = some (.cells (XT (cov s i))):=by
      rw[QE (by simp),QU (by omega),Qau];rfl
     unfold rowOf;rw[this]
  ·have hin':i=s.cl.length:=by omega
   subst hin'
   simp only[ic124l0,QJ,hin,evA,simprocAttr]
   exact ⟨h1,h2,v,h3,h4⟩
theorem c111i (zs:List Int) (fv:AV) (p:Nat→Bool) (hz:zs.length<2 ^ 63) (hf:∀ i,i<zs.length→∀ σ,X0 Tryz.prog fv [.i (zs[i]?.getD 0)] σ fun r τ=>r=.b (p i)∧τ=σ) (σ:List AObj) :
  AC Tryz.prog 104 [ints zs,fv] σ fun r τ=>r=.i (idxN p zs.length)∧τ=σ:=by
 refine ZF (fok104 true) (QC rfl) ?_
 simp only[ic104,evA,simprocAttr]
 refine ZW zs.length (fun i s=>(∀ j,j<i→p j=false)∧∃ v3 v6 v7,s=⟨[ints zs,fv,.i 0,v3,.i zs.length,.i i,v6,v7],σ⟩) ?_ 0 (QF _) ⟨by omega,_,_,_,rfl⟩
 rintro i s hi ⟨hall,v3,v6,v7,rfl⟩
 by_cases h:i<zs.length
 ·simp only[ic104l0,QJ,h,evA,simprocAttr]
  refine (hf i h _).run ?_
  cases hp:p i
  ·simp only[evA,simprocAttr]
   refine ZL (by first | trivial | omega) ⟨fun j hj=>?_,_,_,_,by rw[ZC (by omega)];rfl⟩
   rcases QQ.1 hj with hj | rfl
   ·exact hall j hj
   ·exact hp
  ·simp only[evA,simprocAttr]
   exact (EK h hall hp).symm
 ·simp only[ic104l0,QJ,h,evA,simprocAttr]
  have:i=zs.length:=by omega
  subst this
  exact (EL hall).symm
theorem c87i (zs:List Int) (fv:AV) (p:Nat→Bool) (hz:zs.length<2 ^ 63) (hf:∀ i,i<zs.length→∀ σ,X0 Tryz.prog fv [.i (zs[i]?.getD 0)] σ fun r τ=>r=.b (p i)∧τ=σ):PC Tryz.prog 83 [ints zs,fv] (.b (anyN p zs.length)):=by
 refine ⟨ZF (fok83 true) (QC rfl) ?_,rfl⟩
 simp only[ic83,evA,simprocAttr]
 refine (c111i zs fv p hz hf _).run ?_
 simp only[evA,simprocAttr,OA]
 exact frz
def Qdw (s:Sys):List CV:=(List.range s.cl.length).map fun k=>QaJ (cov s k)
abbrev covR (s:Sys):CV:=.rsl (Qdw s) s.cl.length
abbrev sysR (s:Sys):List CV:=[clsR s.cl,strR s.co,covR s]
abbrev sysP (s:Sys):AV:=.cv (.rp (sysR s) 0)
def covB (s:Sys) (c k:Nat):Bool:=(cov s c)[k]?.getD false
theorem FD {s:Sys} {k:Nat} (hk:k<s.cl.length):(Qdw s)[k]? = some (QaJ (cov s k)):=by simp[Qdw,hk]
theorem DN {s:Sys} {c k:Nat} (hk:k<s.cl.length):((cov s c).map CV.bool)[k]? = some (.bool (covB s c k)):=by
 have:=M4 (s:=s) (c:=c)
 rw[ZR,QI (by omega)]
 unfold covB;rw[QI (by omega)];rfl
theorem P1 {s:Sys} {c k:Nat} (hk:k<s.cl.length) (σ:List AObj):VP 1 [.cv (QaJ (cov s c)),.cv (.int .i64 k)] σ=some (.cv (.rp ((cov s c).map CV.bool) (k*1)),σ):=XP (by rw[M4];exact hk) σ
theorem c108 (s:Sys) (z i:Nat) (hz:z<s.cl.length) (hi:i<s.cl.length):PC Tryz.prog 125 [.i z,.cv (.rp [.rp (sysR s) 0] 0),.cv (.rp [.int .i64 i] 0)] (.b (covB s z i)):=by
 refine ⟨ZF (fok125 true) (QC rfl) ?_,rfl⟩
 simp only[ic125,evA,simprocAttr]
 refine DW_s [] [] hmix (by kernel_rfl) rfl ?_
 simp only[XP hz,W3,FD hz,P1 hi,DN hi,evA,simprocAttr]
 exact frz
def dnB (s:Sys) (i:Nat):Bool:=anyN (fun k=>covB s ((s.cl[i]!).inc[k]?.getD 0).toNat i) (s.cl[i]!).inc.length
def dnE (s:Sys) (i:Nat):Int:=if dnB s i then 9 else 0
def sysE (s:Sys):Int × Int × Int :=
 if (!inB s.cl.length 1 12||decide ((s.co.length:Int)>8))=true then (1,0,3)
 else if (XZ (VR s) 0 s.cl.length).2≠0 then (2,XZ (VR s) 0 s.cl.length)
 else if (XZ (KM s) 0 s.co.length).2≠0 then (3,XZ (KM s) 0 s.co.length)
 else if (XZ (dnE s) 0 s.cl.length).2≠0 then (4,XZ (dnE s) 0 s.cl.length)
 else (0,0,0)
theorem NF {g:Nat→Int}:∀ (k i:Nat),(XZ g i k).2=0→∀ j,i≤j→j<i+k→g j=0
 | 0,i,_,j,h1,h2=>by omega
 | k+1,i,h,j,h1,h2=>by
  rw[XZ] at h
  by_cases hg:g i=0
  ·rw[if_pos hg] at h
   rcases ZB i j with hl | hl
   ·exact NF k (i+1) h j hl (by omega)
   ·have:j=i:=by omega
    subst this;exact hg
  ·rw[if_neg hg] at h;exact absurd h hg
theorem Qew {s:Sys} {i:Nat} (h:VR s i=0):∀ z∈(s.cl[i]!).inc,0≤z∧z<s.cl.length:=by
 unfold VR at h
 split at h;· cases h
 split at h;· cases h
 split at h;· cases h
 split at h;· cases h
 rename_i h4
 intro z hz
 have h5:outF 0 ((s.cl.length:Int)-1) (s.cl[i]!).inc=false:=by
  cases hh:outF 0 ((s.cl.length:Int)-1) (s.cl[i]!).inc with
  | false=>rfl
  | true=>rw[hh,US] at h4;exact absurd rfl h4
 rw[PW] at h5
 obtain ⟨j,hj,rfl⟩:=WN.1 hz
 have:=h5 j hj
 rw[QI hj,VB,Option.getD_some] at this
 omega
theorem Qch {s:Sys} (h:(XZ (VR s) 0 s.cl.length).2=0):OkI s:=fun i hi=>Qew (NF _ _ h i (QF _) (by omega))
def sysO (s:Sys):AV:=.tup [if (sysE s).2.2=0 then sysP s else .cv .nilp,.i (sysE s).1,.i (sysE s).2.1,.i (sysE s).2.2]
theorem c75 (s:Sys) (hs:SSz s):PA Tryz.prog 99 [sysV s] (sysO s):=by
 refine ⟨ZF (fok99 true) (QC rfl) ?_,by unfold sysO;split <;> rfl,rfl⟩
 have hcl:=hs.cl
 have hco:=hs.co
 have h56:=c56 1 12 [(s.cl.length:Int)] (by simp)
 rw[FW] at h56
 unfold sysO
 simp only[ic99,WI,cellsOf,evA,simprocAttr]
 refine h56.call frz ?_
 cases h1:inB s.cl.length 1 12 with
 | false =>
  have he:sysE s=(1,0,3):=by unfold sysE;rw[h1];rfl
  rw[he]
  simp only[ZY,evA,simprocAttr]
  exact frz
 | true =>
 cases h2:decide ((s.co.length:Int)>8) with
 | true =>
  have he:sysE s=(1,0,3):=by unfold sysE;rw[h1,h2];rfl
  rw[he]
  simp only[Y2,h2,evA,simprocAttr]
  exact frz
 | false =>
 have hn12:s.cl.length≤12:=by rw[VB] at h1;omega
 simp only[Y2,h2,evA,simprocAttr]
 refine DW_s [7] [] hmix (by kernel_rfl) rfl ?_
 simp only[evA,simprocAttr]
 refine YE ((c103 s.cl (.rp [clsR s.cl,strR s.co,.nils] 0) (VR s) hcl fun i hi σ=>(c104 s hs .nils i hi).call frz ⟨rfl,rfl⟩).call frz ⟨rfl,rfl⟩) rfl ?_
 have hok0:=Qch (s:=s)
 have e1:sysE s=if (XZ (VR s) 0 s.cl.length).2≠0 then (2,XZ (VR s) 0 s.cl.length) else if (XZ (KM s) 0 s.co.length).2≠0 then (3,XZ (KM s) 0 s.co.length) else if (XZ (dnE s) 0 s.cl.length).2≠0 then (4,XZ (dnE s) 0 s.cl.length) else (0,0,0):=by
  unfold sysE;rw[h1,h2];rfl
 rw[e1]
 generalize XZ (VR s) 0 s.cl.length=fc at hok0 e1
 obtain ⟨ca,ce⟩:=fc
 by_cases hce:ce=0
 rotate_left
 ·have hb:(ce != 0)=true:=by simpa using hce
  rw[if_pos hce,if_neg hce]
  simp only[hb,evA,simprocAttr]
  exact frz
 have hok:=hok0 hce
 have hb:(ce != 0)=false:=by simpa using hce
 rw[if_neg (show ¬ (ce≠0) from fun h=>h hce)]
 simp only[hb,evA,simprocAttr]
 refine DW_s [7] [] hmix (by kernel_rfl) rfl ?_
 simp only[evA,simprocAttr]
 refine YE ((c105 s.co (.rp [clsR s.cl,strR s.co,.nils] 0) (KM s) hco fun i hi σ=>(c106 s hs .nils i hi).call frz ⟨rfl,rfl⟩).call frz ⟨rfl,rfl⟩) rfl ?_
 generalize XZ (KM s) 0 s.co.length=fd
 obtain ⟨da,de⟩:=fd
 by_cases hde:de=0
 rotate_left
 ·have hb:(de != 0)=true:=by simpa using hde
  rw[if_pos hde,if_neg hde]
  simp only[hb,evA,simprocAttr]
  exact frz
 have hb2:(de != 0)=false:=by simpa using hde
 rw[if_neg (show ¬ (de≠0) from fun h=>h hde)]
 simp only[hb2,evA,simprocAttr]
 refine (c107 s hs hn12 hok 2 [AObj.cells [AV.cv (clsR s.cl),AV.cv (strR s.co)],AObj.cells [AV.ptr 2 0],AObj.cells [AV.cv (clsR s.cl),AV.cv (strR s.co),AV.cv CV.nils],AObj.cells [AV.i ↑s.cl.length]] rfl).mono ?_
 rintro r τ ⟨rfl,hlen,hfr,v,hv,hcv⟩
 have f0:=hfr 0 (by simp) (by omega)
 have f1:=hfr 1 (by simp) (by omega)
 match τ,hlen with
 | x0::x1::x2::x3::J,_ =>
 have g0:x0=.cells [AV.cv (clsR s.cl),AV.cv (strR s.co)]:=by simpa using f0
 have g1:x1=.cells [.ptr 2 0]:=by simpa using f1
 have g2:x2=.cells [.cv (clsR s.cl),.cv (strR s.co),v]:=by
  have:=WO hv
  simpa using this
 subst g0 g1 g2
 have hvr:FrzV anyC (List.replicate 3 .dead++(x3::J)) v (.cv (covR s)):=by
  rcases hcv with ⟨rfl,h0⟩ | ⟨q,a,hq1,rfl,hq2,hq3⟩
  ·rw[VB] at h1;omega
  ·have hsh:∀ l,5≤l→∀ cs,rowOf (AObj.cells [AV.cv (clsR s.cl),AV.cv (strR s.co)] :: .cells [.ptr 2 0] :: .cells [.cv (clsR s.cl),.cv (strR s.co),.sl q 0 s.cl.length 1]::x3::J) l=some cs→rowOf (List.replicate 3 AObj.dead++(x3::J)) l=some cs:=fun l hl cs h=>by
    obtain ⟨m,rfl⟩:∃ m,l=m+3:=⟨l-3,by omega⟩
    exact h
   refine .c (.sl q 0 s.cl.length 1 _ _ (hsh q hq1 _ hq2) (by simp) ?_)
   have hl2:((List.range s.cl.length).map fun k=>AV.sl (a k) 0 s.cl.length 1).length=s.cl.length:=by simp
   rw[YO,W3,Q5 (by omega)]
   unfold Qdw
   have key:∀ (ks:List Nat),(∀ k∈ks,k<s.cl.length)→HL anyC (List.replicate 3 AObj.dead++(x3::J)) (ks.map fun k=>AV.sl (a k) 0 s.cl.length 1) (ks.map fun k=>QaJ (cov s k)):=by
    intro ks
    induction ks with
    | nil=>intro _;exact .nil
    | cons k ks ih =>
     intro h
     obtain ⟨b1,b2,b3⟩:=hq3 k (h k (by simp))
     have hrk:=hsh (a k) b1 _ b3
     have hfb:=AZ (p:=anyC) (fun _=>trivial) (n:=s.cl.length) (by rw[M4]) hrk
     refine .cons ?_ (ih fun k' hk'=>h k' (by simp[hk']))
     cases hfb with
     | c h=>exact h
   exact key _ fun k hk=>ZI.1 hk
 simp only[evA,simprocAttr]
 refine IL.weak (Weak.turn (τ:=[.cells [.cv (clsR s.cl),.cv (strR s.co)],.cells [.ptr 2 0],.cells [.cv (clsR s.cl),.cv (strR s.co),v]]) (τ2:=[.cells [.cv (clsR s.cl),.cv (strR s.co)],.cells [.ptr 2 0],.cells [.cv (clsR s.cl),.cv (strR s.co),.cv (covR s)]]) (J:=x3::J) rfl rfl (vals2:=[sysV s,.ptr 0 0,.ptr 1 0,.i 0,.i da,.i de,.undef,.undef,.b false,.b false,.b false,.cv (clsR s.cl),.i s.cl.length,.i 0,.undef,.undef]) ?_ ?_) ?_
 ·repeat (first | exact .nil | refine .cons (.inl ⟨rfl,rfl⟩) ?_)
 ·intro l o2 hl
  match l with
  | 0=>cases hl;exact ⟨_,rfl,trivial,.inl ⟨rfl,rfl⟩⟩
  | 1=>cases hl;exact ⟨_,rfl,trivial,.inl ⟨rfl,rfl⟩⟩
  | 2=>cases hl;exact ⟨_,rfl,trivial,.inr ⟨_,_,rfl,rfl,.cons (.inl ⟨rfl,rfl⟩) (.cons (.inl ⟨rfl,rfl⟩) (.cons (.inr hvr) .nil))⟩⟩
  | l+3=>simp at hl
 have he2:∀ i,dnB s i=true→dnE s i≠0:=fun i h=>by unfold dnE;rw[if_pos h];decide
 have he3:∀ i,dnB s i=false→dnE s i=0:=fun i h=>by unfold dnE;rw[if_neg (by rw[h];decide)]
 refine ZW s.cl.length (fun i s'=>(∀ j,j<i→dnB s j=false)∧∃ v6 v7 v14 v15,s'=⟨[sysV s,.ptr 0 0,.ptr 1 0,.i 0,.i da,.i de,v6,v7,.b false,.b false,.b false,.cv (clsR s.cl),.i s.cl.length,.i i,v14,v15],[.cells [.cv (clsR s.cl),.cv (strR s.co)],.cells [.ptr 2 0],.cells [.cv (clsR s.cl),.cv (strR s.co),.cv (covR s)]]⟩) ?_ 0 (QF _) ⟨by omega,_,_,_,_,rfl⟩
 rintro i s' hi ⟨hall,v6,v7,v14,v15,rfl⟩
 by_cases hin:i<s.cl.length
 ·have hinc:=hs.inc i hin
  have h87:=c87i (s.cl[i]!).inc (.fn (.func 125) [.cv (.rp [.rp (sysR s) 0] 0),.cv (.rp [.int .i64 i] 0)]) (fun k=>covB s ((s.cl[i]!).inc[k]?.getD 0).toNat i) hinc fun k hk σ=>by
   have hzr:=hok i hin ((s.cl[i]!).inc[k]?.getD 0) (by rw[QI hk];exact Q2 hk)
   obtain ⟨z,hze⟩:∃ z:Nat,(s.cl[i]!).inc[k]?.getD 0=(z:Int):=⟨((s.cl[i]!).inc[k]?.getD 0).toNat,by omega⟩
   rw[hze,Int.toNat_natCast]
   exact (c108 s z i (by omega) hin).call frz ⟨rfl,rfl⟩
  simp only[ic99l0,QJ,hin,GR hin,Qaz hin,evA,simprocAttr]
  refine h87.call frz ?_
  cases hd:dnB s i with
  | true =>
   have hd':anyN (fun k=>covB s ((s.cl[i]!).inc[k]?.getD 0).toNat i) (s.cl[i]!).inc.length=true:=hd
   have hfe:=VF s.cl.length 0 i (QF _) (by omega) (fun j _ hj=>he3 j (hall j hj)) (he2 i hd)
   have hne:dnE s i=9:=by unfold dnE;rw[if_pos hd]
   rw[hne] at hfe
   rw[hd',hfe]
   simp only[evA,simprocAttr]
   refine DW_s [] [(0,1)] hmix (by kernel_rfl) rfl ?_
   simp only[evA,simprocAttr]
   exact frz
  | false =>
   have hd':anyN (fun k=>covB s ((s.cl[i]!).inc[k]?.getD 0).toNat i) (s.cl[i]!).inc.length=false:=hd
   rw[hd']
   simp only[Q6 (show i+1<2 ^ 63 by omega),evA,simprocAttr]
   refine W1 [.cells [.cv (clsR s.cl),.cv (strR s.co)],.cells [.ptr 2 0],.cells [.cv (clsR s.cl),.cv (strR s.co),.cv (covR s)]] _ rfl (by first | trivial | omega) (QF _) ?_ ⟨fun j hj=>?_,_,_,_,_,rfl⟩
   ·intro o ho
    simp only[ZD,WK,or_false] at ho
    rcases ho with rfl | rfl | rfl <;> rfl
   ·rcases QQ.1 hj with hj | rfl
    ·exact hall j hj
    ·exact hd
 ·have hin':i=s.cl.length:=by omega
  subst hin'
  have hfe:=JY (g:=dnE s) s.cl.length 0 fun j _ hj=>he3 j (hall j (by omega))
  rw[hfe]
  simp only[ic99l0,QJ,hin,evA,simprocAttr]
  exact frz
abbrev chkV (s:Sys):AV:=.tup [.i (sysE s).1,.i (sysE s).2.1,.i (sysE s).2.2]
theorem c53 (s:Sys) (hs:SSz s):PC Tryz.prog 75 [sysV s] (chkV s):=by
 refine ⟨ZF (fok75 true) (QC rfl) ?_,rfl⟩
 unfold chkV
 simp only[ic75,WI,cellsOf,evA,simprocAttr]
 refine (c75 s hs).call ?_
 unfold sysO
 have hP:∀ b:Prop,[Decidable b]→(if b then sysP s else AV.cv CV.nilp).isUndef=false:=fun b _=>by split <;> rfl
 generalize sysE s=e
 obtain ⟨e1,e2,e3⟩:=e
 simp only[hP,evA,simprocAttr]
 exact frz
theorem codIx {s:Sys} {i:Nat} (hi:i<s.co.length):decide (FP (s.co.take i) s.co[i]!≥0)=anyN (fun k=>decide (s.co[k]! = s.co[i]!)) i:=by
 have htl:(s.co.take i).length=i:=by simp;omega
 rw[FP,OA,htl,Q8,U8,U8]
 constructor <;> rintro ⟨k,hk,h⟩ <;> refine ⟨k,hk,?_⟩
 ·rwa [getElem!_pos _ k (by omega),List.getElem_take,← getElem!_pos s.co k (by omega)] at h
 ·rw[getElem!_pos _ k (by omega),List.getElem_take,← getElem!_pos s.co k (by omega)];exact h
theorem c54 (s:Sys) (hs:SSz s):PC Tryz.prog 22 [sysV s] (chkV s):=by
 refine ⟨ZF (fok22 true) (QC rfl) ?_,rfl⟩
 have hcl:=hs.cl
 have hco:=hs.co
 have he2:∀ i,dnB s i=true→dnE s i=9:=fun i h=>by unfold dnE;rw[if_pos h]
 have he3:∀ i,dnB s i=false→dnE s i=0:=fun i h=>by unfold dnE;rw[if_neg (by rw[h];decide)]
 unfold chkV
 simp only[ic22,WI,cellsOf,evA,simprocAttr]
 refine (c59i s.cl.length 1 12).call frz ?_
 cases h1:inB s.cl.length 1 12 with
 | false =>
  have he:sysE s=(1,0,3):=by unfold sysE;rw[h1];rfl
  rw[he]
  simp only[ZY,evA,simprocAttr]
  exact frz
 | true =>
 cases h2:decide ((s.co.length:Int)>8) with
 | true =>
  have he:sysE s=(1,0,3):=by unfold sysE;rw[h1,h2];rfl
  rw[he]
  simp only[Y2,h2,evA,simprocAttr]
  exact frz
 | false =>
 have hn12:s.cl.length≤12:=by rw[VB] at h1;omega
 have e1:sysE s=if (XZ (VR s) 0 s.cl.length).2≠0 then (2,XZ (VR s) 0 s.cl.length) else if (XZ (KM s) 0 s.co.length).2≠0 then (3,XZ (KM s) 0 s.co.length) else if (XZ (dnE s) 0 s.cl.length).2≠0 then (4,XZ (dnE s) 0 s.cl.length) else (0,0,0):=by
  unfold sysE;rw[h1,h2];rfl
 rw[e1]
 simp only[Y2,h2,evA,simprocAttr]
 refine ZW s.cl.length (fun i s'=>(∀ j,j<i→VR s j=0)∧∃ v2 v3 v4 v6 v7 v8 v9 v11 v12 v13 v14 v15 v16 v17 v18,s'=⟨[sysV s,.ptr 0 0,v2,v3,v4,.i i,v6,v7,v8,v9,.b false,v11,v12,v13,v14,v15,v16,v17,v18],[.cells [.cv (clsR s.cl),.cv (strR s.co)]]⟩) ?_ 0 (QF _) ⟨by omega,_,_,_,_,_,_,_,_,_,_,_,_,_,_,_,rfl⟩
 rintro i s' hi ⟨hall,v2,v3,v4,v6,v7,v8,v9,v11,v12,v13,v14,v15,v16,v17,v18,rfl⟩
 by_cases hin:i<s.cl.length
 ·simp only[ic22l3,QJ,hin,evA,simprocAttr]
  refine (c85 s hs i hin).call frz ?_
  by_cases hg:VR s i=0
  ·have hb:(VR s i != 0)=false:=by simpa using hg
   simp only[hb,Q6 (show i+1<2 ^ 63 by omega),evA,simprocAttr]
   refine ZL (by first | trivial | omega) ⟨fun j hj=>?_,_,_,_,_,_,_,_,_,_,_,_,_,_,_,_,rfl⟩
   rcases QQ.1 hj with hj | rfl
   ·exact hall j hj
   ·exact hg
  ·have hb:(VR s i != 0)=true:=by simpa using hg
   rw[VF s.cl.length 0 i (QF _) (by omega) (fun j _ hj=>hall j hj) hg,if_pos hg]
   simp only[hb,evA,simprocAttr]
   exact frz
 have hin':i=s.cl.length:=by omega
 subst hin'
 have hok:OkI s:=Qch (by rw[JY s.cl.length 0 fun j _ hj=>hall j (by omega)])
 rw[JY s.cl.length 0 fun j _ hj=>hall j (by omega),if_neg (show ¬ ((0:Int)≠0) by decide)]
 simp only[ic22l3,QJ,hin,evA,simprocAttr]
 refine ZW s.co.length (fun i s'=>(∀ j,j<i→KM s j=0)∧∃ v2 v3 v4 v5 v6 v8 v9 v11 v12 v13 v14 v15 v16 v17 v18,s'=⟨[sysV s,.ptr 0 0,v2,v3,v4,v5,v6,.i i,v8,v9,.b false,v11,v12,v13,v14,v15,v16,v17,v18],[.cells [.cv (clsR s.cl),.cv (strR s.co)]]⟩) ?_ 0 (QF _) ⟨by omega,_,_,_,_,_,_,_,_,_,_,_,_,_,_,_,rfl⟩
 rintro i s' hi ⟨hal2,v2,v3,v4,v5,v6,v8,v9,v11,v12,v13,v14,v15,v16,v17,v18,rfl⟩
 by_cases hio:i<s.co.length
 ·have hnm:=hs.cm i hio
  have hix:=codIx hio
  have hge:KM s i=if JH s.co[i]! = false then 6 else if decide (FP (s.co.take i) s.co[i]!≥0)=true then 5 else 0:=by rw[hix];rfl
  have hsl:∀ σ,VG 1 false true [.cv (strR s.co),.cv (.int .i64 i)] σ=some (.cv (strR (s.co.take i)),σ):=str_sl (by omega)
  simp only[ic22l2,QJ,hio,XP hio,BK hio,evA,simprocAttr]
  refine (c21 s.co[i]! hnm).call frz ?_
  cases hn:JH s.co[i]! with
  | false =>
   have hg:KM s i=6:=by rw[hge,hn];rfl
   have hfe:=VF s.co.length 0 i (QF _) (by omega) (fun j _ hj=>hal2 j hj) (g:=KM s) (by rw[hg];decide)
   rw[hg] at hfe
   rw[hfe,if_pos (fun h=>by cases h)]
   simp only[evA,simprocAttr]
   exact frz
  | true =>
  simp only[evA,simprocAttr]
  refine DW_s [9] [] hmix (by kernel_rfl) rfl ?_
  simp only[hsl,XP hio,BK hio,evA,simprocAttr]
  refine YE ((c86 (s.co.take i) s.co[i]! (by simp;omega)).call frz ⟨rfl,rfl⟩) rfl ?_
  cases hx:decide (FP (s.co.take i) s.co[i]!≥0) with
  | true =>
   have hg:KM s i=5:=by rw[hge,hn,hx];rfl
   have hfe:=VF s.co.length 0 i (QF _) (by omega) (fun j _ hj=>hal2 j hj) (g:=KM s) (by rw[hg];decide)
   rw[hg] at hfe
   rw[hfe,if_pos (fun h=>by cases h)]
   simp only[hx,evA,simprocAttr]
   exact frz
  | false =>
   have hg:KM s i=0:=by rw[hge,hn,hx];rfl
   simp only[hx,Q6 (show i+1<2 ^ 63 by omega),evA,simprocAttr]
   refine ZL (by first | trivial | omega) ⟨fun j hj=>?_,_,_,_,_,_,_,_,_,_,_,_,_,_,_,_,rfl⟩
   rcases QQ.1 hj with hj | rfl
   ·exact hal2 j hj
   ·exact hg
 have hio':i=s.co.length:=by omega
 subst hio'
 rw[JY s.co.length 0 fun j _ hj=>hal2 j (by omega),if_neg (show ¬ ((0:Int)≠0) by decide)]
 simp only[ic22l2,QJ,hio,evA,simprocAttr]
 refine ZW s.cl.length (fun i s'=>(∀ j,j<i→dnB s j=false)∧∃ v2 v3 v4 v5 v6 v7 v9 v11 v12 v13 v14 v15 v16 v17 v18,s'=⟨[sysV s,.ptr 0 0,v2,v3,v4,v5,v6,v7,.i i,v9,.b false,v11,v12,v13,v14,v15,v16,v17,v18],[.cells [.cv (clsR s.cl),.cv (strR s.co)]]⟩) ?_ 0 (QF _) ⟨by omega,_,_,_,_,_,_,_,_,_,_,_,_,_,_,_,rfl⟩
 rintro i s' hi ⟨hal3,v2,v3,v4,v5,v6,v7,v9,v11,v12,v13,v14,v15,v16,v17,v18,rfl⟩
 by_cases hin:i<s.cl.length
 ·have hinc:=hs.inc i hin
  simp only[ic22l1,QJ,hin,evA,simprocAttr]
  refine ZW (s.cl[i]!).inc.length (fun k s'=>(∀ j,j<k→covB s ((s.cl[i]!).inc[j]?.getD 0).toNat i=false)∧∃ v17 v18,s'=⟨[sysV s,.ptr 0 0,v2,v3,v4,v5,v6,v7,.i i,.i k,.b false,v11,v12,v13,v14,v15,.b true,v17,v18],[.cells [.cv (clsR s.cl),.cv (strR s.co)]]⟩) ?_ 0 (QF _) ⟨by omega,_,_,rfl⟩
  rintro k s' hk ⟨hal4,v17,v18,rfl⟩
  by_cases hki:k<(s.cl[i]!).inc.length
  ·have hzr:=hok i hin ((s.cl[i]!).inc[k]?.getD 0) (by rw[QI hki];exact Q2 hki)
   obtain ⟨z,hze⟩:∃ z:Nat,(s.cl[i]!).inc[k]?.getD 0=(z:Int):=⟨((s.cl[i]!).inc[k]?.getD 0).toNat,by omega⟩
   have e40:(2:Nat) ^ 40=1099511627776:=by decide
   simp only[ic22l0,QJ,hki,GR hin,CW hin,evA,simprocAttr]
   refine DW_s [10] [] hmix (by kernel_rfl) rfl ?_
   simp only[QJ,hki,GR hin,CW hin,hze,evA,simprocAttr]
   refine YE ((c51 s hs (by omega) hok z (by omega)).call frz ⟨rfl,rfl⟩) rfl ?_
   simp only[P1 hin,W3,DN hin,evA,simprocAttr]
   cases hb:covB s z i with
   | true =>
    have hd:dnB s i=true:=U8.2 ⟨k,hki,by rw[hze];exact hb⟩
    have hg:=he2 i hd
    have hfe:=VF s.cl.length 0 i (QF _) (by omega) (fun j _ hj=>he3 j (hal3 j hj)) (g:=dnE s) (by rw[hg];decide)
    rw[hg] at hfe
    rw[hfe,if_pos (fun h=>by cases h)]
    simp only[evA,simprocAttr]
    exact frz
   | false =>
    simp only[Q6 (show k+1<2 ^ 63 by omega),evA,simprocAttr]
    refine ZL (by first | trivial | omega) ⟨fun j hj=>?_,_,_,rfl⟩
    rcases QQ.1 hj with hj | rfl
    ·exact hal4 j hj
    ·rw[hze];exact hb
  have hkl:k=(s.cl[i]!).inc.length:=by omega
  have hd:dnB s i=false:=F8.2 fun j hj=>hal4 j (by omega)
  simp only[ic22l0,QJ,hki,GR hin,CW hin,Q6 (show i+1<2 ^ 63 by omega),evA,simprocAttr]
  refine ZL (by first | trivial | omega) ⟨fun j hj=>?_,_,_,_,_,_,_,_,_,_,_,_,_,_,_,_,rfl⟩
  rcases QQ.1 hj with hj | rfl
  ·exact hal3 j hj
  ·exact hd
 have hin':i=s.cl.length:=by omega
 subst hin'
 rw[JY s.cl.length 0 fun j _ hj=>he3 j (hal3 j (by omega)),if_neg (show ¬ ((0:Int)≠0) by decide)]
 simp only[ic22l1,QJ,hin,evA,simprocAttr]
 exact frz
theorem QaV {s:Sys} (h:(sysE s).2.2=0):(1≤s.cl.length∧s.cl.length≤12)∧s.co.length≤8∧OkI s:=by
 unfold sysE at h
 split at h;· cases h
 rename_i h1
 split at h;· exact absurd h (by assumption)
 rename_i h2
 have h1':(!inB (s.cl.length:Int) 1 12||decide ((s.co.length:Int)>8))=false:=by simpa using h1
 rw[X8] at h1'
 have h3:inB (s.cl.length:Int) 1 12=true:=by
  have:=h1'.1
  cases hh:inB (s.cl.length:Int) 1 12 with
  | true=>rfl
  | false=>rw[hh] at this;cases this
 rw[VB] at h3
 have h4:=of_decide_eq_false h1'.2
 have h2':(XZ (VR s) 0 s.cl.length).2=0:=Decidable.byContradiction fun hh=>h2 hh
 exact ⟨by omega,by omega,Qch h2'⟩
abbrev setN (s:Sys):Int:=2 ^ s.co.length
theorem HF {m:Nat} (h:m≤8):1≤(2:Int) ^ m∧(2:Int) ^ m≤256:=by
 match m,h with
 | 0,_ | 1,_ | 2,_ | 3,_ | 4,_ | 5,_ | 6,_ | 7,_ | 8,_=>decide
theorem c64 (s:Sys) (cov:CV) (hm:s.co.length≤8):PC Tryz.prog 132 [.cv (.rp [clsR s.cl,strR s.co,cov] 0)] (.i (setN s)):=by
 refine ⟨ZF (fok132 true) (QC rfl) ?_,rfl⟩
 have hb:=HF hm
 have hsh:VK .shl .i64 1 s.co.length=some (.cv (.int .i64 (setN s))):=by
  unfold VK
  rw[if_neg (by omega),Int.toNat_natCast,show min s.co.length IntKind.i64.bits=s.co.length by simp[IntKind.bits];omega,Int.one_mul,ZC (by omega)]
 simp only[ic132,hsh,evA,simprocAttr]
 exact frz
theorem c49 (m:Nat) (hm:m≤8):PC Tryz.prog 72 [.i m] (.i (2 ^ m)):=by
 refine ⟨ZF (fok72 true) (QC rfl) ?_,rfl⟩
 simp only[ic72,evA,simprocAttr]
 refine ZW m (fun i s'=>∃ v4,s'=⟨[.i m,.i 0,.i (2 ^ i),.i i,v4],[]⟩) ?_ 0 (QF _) ⟨_,rfl⟩
 rintro i s' hi ⟨v4,rfl⟩
 by_cases h:i<m
 ·have hb:=HF (show i≤8 by omega)
  have hw:IntKind.i64.wrap (2*2 ^ i)=2 ^ (i+1):=by rw[ZC (by omega),Int.pow_succ,Int.mul_comm]
  simp only[ic72l0,QJ,h,hw,Q6 (show i+1<2 ^ 63 by omega),evA,simprocAttr]
  exact ZL (by first | trivial | omega) ⟨_,rfl⟩
 ·have:i=m:=by omega
  subst this
  simp only[ic72l0,QJ,h,evA,simprocAttr]
  exact frz
def HU (s:Sys) (r:Rt):Int:=if inB r.1 0 ((s.cl.length:Int)-1)=false then 4 else if inB r.2 0 (setN s-1)=false then 7 else 0
def rgsE (s:Sys) (l:List Rt):Int:=if (l.length:Int)>40 then 3 else (XZ (fun i=>HU s l[i]!) 0 l.length).2
theorem S3 {l:List Rt} {k:Nat} (h:k<l.length) (σ:List AObj):YF 2 [.cv (.rp (l.flatMap rgC) (k*2))] σ=some (rgV l[k]!,σ):=by
 have h1:k*2+2≤(l.flatMap rgC).length:=by rw[UG IR];omega
 have h2:=G3 IR h
 simp only[YF,h1,if_true]
 rw[h2];rfl
theorem rg_0 {l:List Rt} {k:Nat} (h:k<l.length):(l.flatMap rgC)[k*2]? = some (.int .i64 (l[k]!).1):=flat_get IR h (j:=0) (by omega)
theorem rg_1 {l:List Rt} {k:Nat} (h:k<l.length):(l.flatMap rgC)[k*2+1]? = some (.int .i64 (l[k]!).2):=flat_get IR h (j:=1) (by omega)
theorem L6 {l:List Rt} {k:Nat} (h:k<l.length) (σ:List AObj):VP 2 [rgL l,.cv (.int .i64 k)] σ=some (.cv (.rp (l.flatMap rgC) (k*2)),σ):=XP h σ
theorem c113 (s:Sys) (hs:SSz s) (cov:CV) (hm:s.co.length≤8) (i:Int) (r:Rt):PC Tryz.prog 167 [.i i,rgV r,.cv (.rp [.rp [clsR s.cl,strR s.co,cov] 0] 0)] (.i (HU s r)):=by
 refine ⟨ZF (fok167 true) (QC rfl) ?_,rfl⟩
 have hcl:=hs.cl
 have hb:=HF hm
 have hw:IntKind.i64.wrap ((s.cl.length:Int)-1)=(s.cl.length:Int)-1:=ZC (by omega)
 have hw2:IntKind.i64.wrap (setN s-1)=setN s-1:=ZC (by unfold setN;omega)
 have h1:=c56 0 ((s.cl.length:Int)-1) [r.1] (by simp)
 have h2:=c56 0 (setN s-1) [r.2] (by simp)
 rw[FW] at h1 h2
 unfold HU
 simp only[ic167,WI,cellsOf,evA,simprocAttr]
 refine DW_s [10] [(0,9),(4,9)] hmix (by kernel_rfl) rfl ?_
 simp only[hw,evA,simprocAttr]
 refine YE (h1.call frz ⟨rfl,rfl⟩) rfl ?_
 cases g1:inB r.1 0 ((s.cl.length:Int)-1) with
 | false =>
  rw[if_pos rfl]
  simp only[ZY,evA,simprocAttr]
  exact frz
 | true =>
 rw[if_neg (by decide)]
 simp only[Y2,evA,simprocAttr]
 refine DW_s [1,6] [(0,5),(1,5)] hmix (by kernel_rfl) rfl ?_
 simp only[evA,simprocAttr]
 refine YE ((c64 s cov hm).call frz ⟨rfl,rfl⟩) rfl ?_
 simp only[hw2,evA,simprocAttr]
 refine YE (h2.call frz ⟨rfl,rfl⟩) rfl ?_
 cases g2:inB r.2 0 (setN s-1) with
 | false =>
  rw[if_pos rfl]
  simp only[ZY,evA,simprocAttr]
  exact frz
 | true =>
  rw[if_neg (by decide)]
  simp only[Y2,evA,simprocAttr]
  exact frz
theorem c112 (l:List Rt) (p:CV) (g:Nat→Int) (hz:l.length<2 ^ 63) (hf:∀ i,i<l.length→∀ σ,AC Tryz.prog 167 [.i i,rgV l[i]!,.cv p] σ fun r τ=>r=.i (g i)∧τ=σ) :
  PC Tryz.prog 166 [rgL l,.fn (.func 167) [.cv p]] (.tup [.i (XZ g 0 l.length).1,.i (XZ g 0 l.length).2]):=by
 refine ⟨ZF (fok166 true) (QC rfl) ?_,rfl⟩
 simp only[ic166,evA,simprocAttr]
 refine ZW l.length (fun i s=>(∀ j,j<i→g j=0)∧∃ v2 v3 v4 v5 v9 v10,s=⟨[rgL l,.fn (.func 167) [.cv p],v2,v3,v4,v5,rgL l,.i l.length,.i i,v9,v10],[]⟩) ?_ 0 (QF _) ⟨by omega,_,_,_,_,_,_,rfl⟩
 rintro i s hi ⟨hall,v2,v3,v4,v5,v9,v10,rfl⟩
 by_cases h:i<l.length
 ·simp only[ic166l0,QJ,h,L6 h,S3 h,evA,simprocAttr]
  refine (hf i h _).run ?_
  by_cases hg:g i=0
  ·have hb:(g i != 0)=false:=by simpa using hg
   simp only[hb,Q6 (show i+1<2 ^ 63 by omega),evA,simprocAttr]
   refine W1 [] _ rfl (by first | trivial | omega) (QF _) (by simp) ⟨fun j hj=>?_,_,_,_,_,_,_,rfl⟩
   rcases QQ.1 hj with hj | rfl
   ·exact hall j hj
   ·exact hg
  ·have hb:(g i != 0)=true:=by simpa using hg
   rw[VF l.length 0 i (QF _) (by omega) (fun j _ hj=>hall j hj) hg]
   simp only[hb,evA,simprocAttr]
   exact frz
 ·have:i=l.length:=by omega
  subst this
  rw[JY l.length 0 fun j _ hj=>hall j (by omega)]
  simp only[ic166l0,QJ,h,evA,simprocAttr]
  exact frz
theorem c90 (s:Sys) (hs:SSz s) (cov:CV) (hm:s.co.length≤8) (l:List Rt) (hl:l.length<2 ^ 63):PC Tryz.prog 155 [.cv (.rp [clsR s.cl,strR s.co,cov] 0),rgL l] (.i (rgsE s l)):=by
 refine ⟨ZF (fok155 true) (QC rfl) ?_,rfl⟩
 unfold rgsE
 by_cases h:(l.length:Int)>40
 ·rw[if_pos h]
  simp only[ic155,WI,cellsOf,h,evA,simprocAttr]
  exact frz
 ·rw[if_neg h]
  simp only[ic155,WI,cellsOf,h,evA,simprocAttr]
  refine (c112 l (.rp [.rp [clsR s.cl,strR s.co,cov] 0] 0) (fun i=>HU s l[i]!) hl fun i hi σ=>(c113 s hs cov hm i l[i]!).call frz ⟨rfl,rfl⟩).call frz ?_
  simp only[evA,simprocAttr]
  exact frz
def rdE (s:Sys) (e:Int) (ls:List (List Rt)):Int:=ls.foldl (fun e l=>if e=0 then rgsE s l else e) e
theorem Qa4 (s:Sys):∀ (ls:List (List Rt)) (e:Int),e≠0→rdE s e ls=e
 | [],_,_=>rfl
 | l::ls,e,h=>by
  show rdE s (if e=0 then rgsE s l else e) ls=e
  rw[if_neg h];exact Qa4 s ls e h
abbrev sysQ (s:Sys):AV:=if (sysE s).2.2=0 then sysP s else .cv .nilp
theorem c63 (s:Sys) (hs:SSz s) (ls:List (List Rt)) (hls:∀ l∈ls,l.length<2 ^ 63) (hn:ls.length<2 ^ 60) (σ:List AObj) (l0:Nat) (h0:rowOf σ l0=some (ls.map fun l=>rgL l)) :
  AC Tryz.prog 130 [sysV s,.sl l0 0 ls.length 1] σ fun r τ=>r=.tup [sysQ s,.i (rdE s (sysE s).2.2 ls)]∧τ=σ:=by
 have hcl:QR 0 (.tup [sysQ s,.i (rdE s (sysE s).2.2 ls)])=true:=by unfold sysQ;split <;> rfl
 refine AC.cutF ?_ hcl
 refine ZF (fok130 true) (QC rfl) ?_
 have h75:=c75 s hs
 have hn0:=QaV (s:=s)
 have hq:sysQ s=.cv .nilp∨((sysE s).2.2=0∧sysQ s=sysP s):=by
  unfold sysQ;by_cases h:(sysE s).2.2=0
  ·right;exact ⟨h,if_pos h⟩
  ·left;exact if_neg h
 have hqn:(sysE s).2.2=0→sysQ s=sysP s:=fun h=>if_pos h
 have hQ:(sysQ s).isUndef=false:=by rcases hq with h | ⟨_,h⟩ <;> rw[h] <;> rfl
 have ho:sysO s=.tup [sysQ s,.i (sysE s).1,.i (sysE s).2.1,.i (sysE s).2.2]:=rfl
 rw[ho] at h75
 generalize sysQ s=Q at *
 generalize sysE s=e at *
 obtain ⟨e1,e2,e3⟩:=e
 have g0:=fun J=>ZH h0 J
 have hld:∀ k,k<ls.length→(ls.map fun l=>rgL l)[k]? = some (rgL ls[k]!):=fun k hk=>by
  rw[ZR,QI hk,getElem!_pos ls k hk];rfl
 simp only[ic130,WI,cellsOf,WW,evA,simprocAttr]
 refine h75.call ?_
 simp only[hQ,evA,simprocAttr]
 refine ZW ls.length (fun i s'=>∃ v7 v11 v12,s'=⟨[sysV s,.sl l0 0 ls.length 1,.ptr σ.length 0,.cv .nilp,.i 0,Q,.i (rdE s e3 (ls.take i)),v7,.sl l0 0 ls.length 1,.i ls.length,.i i,v11,v12],σ++[.cells [.cv (clsR s.cl),.cv (strR s.co)]]⟩) ?_ 0 (QF _) ⟨_,_,_,rfl⟩
 rintro i s' hi ⟨v7,v11,v12,rfl⟩
 by_cases hin:i<ls.length
 ·have hsl:∀ σ',VP 1 [.sl l0 0 ls.length 1,.cv (.int .i64 i)] σ'=some (.ptr l0 (0+i),σ'):=W9 hin
  have hst:rdE s e3 (ls.take (i+1))=if rdE s e3 (ls.take i)=0 then rgsE s ls[i]! else rdE s e3 (ls.take i):=by
   rw[JC,QI hin,getElem!_pos ls i hin]
   unfold rdE
   rw[List.foldl_append];rfl
  have hE0:rdE s e3 (ls.take i)=0→e3=0:=fun h=>Decidable.byContradiction fun hne=>by rw[Qa4 s _ _ hne] at h;exact hne h
  generalize rdE s e3 (ls.take i)=E at hst hE0
  simp only[ic130l0,QJ,hin,hsl,ZV,g0,hld i hin,evA,simprocAttr]
  by_cases hE:E=0
  ·have hb:(E == 0)=true:=by simpa using hE
   have he3:=hE0 hE
   have hQP:=hqn he3
   subst hQP
   obtain ⟨_,hm,_⟩:=hn0 he3
   rw[if_pos hE] at hst
   simp only[hb,evA,simprocAttr]
   refine (c90 s hs (covR s) hm ls[i]! (hls _ (by rw[getElem!_pos ls i hin];exact Q2 hin))).call frz ?_
   simp only[Q6 (show i+1<2 ^ 63 by omega),evA,simprocAttr]
   exact ZL (by first | trivial | omega) ⟨_,_,_,by rw[hst]⟩
  ·have hb:(E == 0)=false:=by simpa using hE
   rw[if_neg hE] at hst
   simp only[hb,Q6 (show i+1<2 ^ 63 by omega),evA,simprocAttr]
   exact ZL (by first | trivial | omega) ⟨_,_,_,by rw[hst]⟩
 ·have hin':i=ls.length:=by omega
  subst hin'
  simp only[ic130l0,QJ,hin,hQ,X7,evA,simprocAttr]
  exact ⟨_,rfl⟩
theorem c48 (s:Sys) (hs:SSz s) (hm:s.co.length≤8) (l:List Rt) (hl:l.length<2 ^ 63):PC Tryz.prog 71 [sysV s,rgL l] (.i (rgsE s l)):=by
 refine ⟨ZF (fok71 true) (QC rfl) ?_,rfl⟩
 have hcl:=hs.cl
 have hb:=HF hm
 have hw:IntKind.i64.wrap ((s.cl.length:Int)-1)=(s.cl.length:Int)-1:=ZC (by omega)
 have hw2:IntKind.i64.wrap (2 ^ s.co.length-1)=setN s-1:=ZC (by omega)
 unfold rgsE
 by_cases h:(l.length:Int)>40
 ·rw[if_pos h]
  simp only[ic71,WI,cellsOf,h,evA,simprocAttr]
  exact frz
 rw[if_neg h]
 simp only[ic71,WI,cellsOf,h,evA,simprocAttr]
 refine ZW l.length (fun i s'=>(∀ j,j<i→HU s l[j]! = 0)∧∃ v6 v7 v8,s'=⟨[sysV s,rgL l,.ptr 0 0,.i 0,.i i,.b false,v6,v7,v8],[.cells [.cv (clsR s.cl),.cv (strR s.co)]]⟩) ?_ 0 (QF _) ⟨by omega,_,_,_,rfl⟩
 rintro i s' hi ⟨hall,v6,v7,v8,rfl⟩
 by_cases hin:i<l.length
 ·have hfe:=fun hne=>VF (g:=fun i=>HU s l[i]!) l.length 0 i (QF _) (by omega) (fun j _ hj=>hall j hj) hne
  have h1:=c59i (l[i]!).1 0 ((s.cl.length:Int)-1)
  have h2:=c59i (l[i]!).2 0 (setN s-1)
  simp only[ic71l0,QJ,hin,evA,simprocAttr]
  refine DW_s [9] [] hmix (by kernel_rfl) rfl ?_
  simp only[L6 hin,rg_0 hin,hw,evA,simprocAttr]
  refine YE (h1.call frz ⟨rfl,rfl⟩) rfl ?_
  cases g1:inB (l[i]!).1 0 ((s.cl.length:Int)-1) with
  | false =>
   have hg:HU s l[i]! = 4:=by unfold HU;rw[g1];rfl
   have hfe':=hfe (by show HU s l[i]!≠0;rw[hg];decide)
   rw[hfe']
   show _
   rw[hg]
   simp only[evA,simprocAttr]
   exact frz
  | true =>
  simp only[evA,simprocAttr]
  refine DW_s [8,10] [] hmix (by kernel_rfl) rfl ?_
  simp only[L6 hin,rg_1 hin,evA,simprocAttr]
  refine YE ((c49 s.co.length hm).call frz ⟨rfl,rfl⟩) rfl ?_
  simp only[hw2,evA,simprocAttr]
  refine YE (h2.call frz ⟨rfl,rfl⟩) rfl ?_
  cases g2:inB (l[i]!).2 0 (setN s-1) with
  | false =>
   have hg:HU s l[i]! = 7:=by unfold HU;rw[g1,g2];rfl
   have hfe':=hfe (by show HU s l[i]!≠0;rw[hg];decide)
   rw[hfe']
   show _
   rw[hg]
   simp only[evA,simprocAttr]
   exact frz
  | true =>
   have hg:HU s l[i]! = 0:=by unfold HU;rw[g1,g2];rfl
   simp only[Q6 (show i+1<2 ^ 63 by omega),evA,simprocAttr]
   refine ZL (by first | trivial | omega) ⟨fun j hj=>?_,_,_,_,rfl⟩
   rcases QQ.1 hj with hj | rfl
   ·exact hall j hj
   ·exact hg
 ·have hin':i=l.length:=by omega
  subst hin'
  rw[JY (g:=fun i=>HU s l[i]!) l.length 0 fun j _ hj=>hall j (by omega)]
  simp only[ic71l0,QJ,hin,evA,simprocAttr]
  exact frz
theorem and_wrap {a b:Int} (ha:0≤a∧a<256) (hb:0≤b∧b<9223372036854775808):IntKind.i64.wrap (BitVec.ofInt IntKind.i64.bits a &&& BitVec.ofInt IntKind.i64.bits b).toNat=andI a b:=by
 have e1:(BitVec.ofInt 64 a).toNat=a.toNat:=by rw[BitVec.toNat_ofInt];omega
 have e2:(BitVec.ofInt 64 b).toNat=b.toNat:=by rw[BitVec.toNat_ofInt];omega
 have e3:(BitVec.ofInt IntKind.i64.bits a &&& BitVec.ofInt IntKind.i64.bits b).toNat=a.toNat &&& b.toNat:=by
  show (BitVec.ofInt 64 a &&& BitVec.ofInt 64 b).toNat=_
  rw[BitVec.toNat_and,e1,e2]
 have h1:=andI_lt (a:=a) (b:=b) (m:=8) (by omega)
 have h0:=QbI a b
 rw[e3]
 have:((a.toNat &&& b.toNat:Nat):Int)=andI a b:=rfl
 rw[this,ZC (by omega)]
theorem sub_wrap {a b:Int} (ha:0≤a∧a<256) (hb:0≤b∧b<9223372036854775808):IntKind.i64.wrap (BitVec.ofInt IntKind.i64.bits a &&& ~~~BitVec.ofInt IntKind.i64.bits b).toNat=subI a b:=by
 have e1:BitVec.ofInt 64 a=BitVec.ofNat 64 a.toNat:=by apply BitVec.eq_of_toNat_eq;rw[BitVec.toNat_ofInt,BitVec.toNat_ofNat];omega
 have e2:BitVec.ofInt 64 b=BitVec.ofNat 64 b.toNat:=by apply BitVec.eq_of_toNat_eq;rw[BitVec.toNat_ofInt,BitVec.toNat_ofNat];omega
 have e3:((BitVec.ofInt IntKind.i64.bits a &&& ~~~BitVec.ofInt IntKind.i64.bits b).toNat:Int)=subI a b:=by
  show ((BitVec.ofInt 64 a &&& ~~~BitVec.ofInt 64 b).toNat:Int)=_
  rw[e1,e2];rfl
 have h1:=QdS (a:=a) (b:=b) (m:=8) (by omega) (by omega)
 have h0:=MF a b
 rw[e3,ZC (by omega)]
def RgOk (s:Sys) (r:Rt):Prop:=(0≤r.1∧r.1<s.cl.length)∧0≤r.2∧r.2<setN s
theorem S4 {s:Sys} {r:Rt}:HU s r=0↔RgOk s r:=by
 unfold HU RgOk
 cases g1:inB r.1 0 ((s.cl.length:Int)-1) with
 | false =>
  rw[if_pos rfl]
  constructor
  ·intro h;cases h
  ·rintro ⟨h,_⟩
   have:inB r.1 0 ((s.cl.length:Int)-1)=true:=VB.2 (by omega)
   rw[g1] at this;cases this
 | true =>
  rw[if_neg (by decide)]
  rw[VB] at g1
  cases g2:inB r.2 0 (setN s-1) with
  | false =>
   rw[if_pos rfl]
   constructor
   ·intro h;cases h
   ·rintro ⟨_,h⟩
    have:inB r.2 0 (setN s-1)=true:=VB.2 (by omega)
    rw[g2] at this;cases this
  | true =>
   rw[if_neg (by decide)]
   rw[VB] at g2
   exact ⟨fun _=>⟨by omega,by omega⟩,fun _=>rfl⟩
theorem ML {s:Sys} {l:List Rt} (h:rgsE s l=0):l.length≤40∧∀ r∈l,RgOk s r:=by
 unfold rgsE at h
 split at h
 ·cases h
 ·rename_i h1
  refine ⟨by omega,fun r hr=>?_⟩
  obtain ⟨i,hi,rfl⟩:=WN.1 hr
  have:=NF _ _ h i (QF _) (by omega)
  rw[getElem!_pos l i hi] at this
  exact S4.1 this
def alw1 (s:Sys) (c f:Int) (r:Rt):Bool:=covB s r.1.toNat c.toNat&&(andI r.2 f == 0)
def alwB (s:Sys) (l:List Rt) (c f:Int):Bool:=l.any (alw1 s c f)
theorem QcK (s:Sys) (l:List Rt) (c f:Int):alwB s l c f=anyN (fun i=>alw1 s c f l[i]!) l.length:=by
 rw[Q8,U8,alwB,ZZ]
 constructor
 ·rintro ⟨r,hr,h⟩
  obtain ⟨i,hi,rfl⟩:=WN.1 hr
  exact ⟨i,hi,by rw[getElem!_pos l i hi];exact h⟩
 ·rintro ⟨i,hi,h⟩
  rw[getElem!_pos l i hi] at h
  exact ⟨_,Q2 hi,h⟩
theorem c93 (l:List Rt) (fv:AV) (p:Nat→Bool) (hz:l.length<2 ^ 63) (hf:∀ i,i<l.length→∀ σ,X0 Tryz.prog fv [rgV l[i]!] σ fun r τ=>r=.b (p i)∧τ=σ) (σ:List AObj) :
  AC Tryz.prog 172 [rgL l,fv] σ fun r τ=>r=.i (idxN p l.length)∧τ=σ:=by
 refine ZF (fok172 true) (QC rfl) ?_
 simp only[ic172,evA,simprocAttr]
 refine ZW l.length (fun i s=>(∀ j,j<i→p j=false)∧∃ v3 v6 v7,s=⟨[rgL l,fv,.i 0,v3,.i l.length,.i i,v6,v7],σ⟩) ?_ 0 (QF _) ⟨by omega,_,_,_,rfl⟩
 rintro i s hi ⟨hall,v3,v6,v7,rfl⟩
 by_cases h:i<l.length
 ·simp only[ic172l0,QJ,h,L6 h,S3 h,evA,simprocAttr]
  refine (hf i h _).run ?_
  cases hp:p i
  ·simp only[Q6 (show i+1<2 ^ 63 by omega),evA,simprocAttr]
   refine ZL (by first | trivial | omega) ⟨fun j hj=>?_,_,_,_,rfl⟩
   rcases QQ.1 hj with hj | rfl
   ·exact hall j hj
   ·exact hp
  ·simp only[evA,simprocAttr]
   exact (EK h hall hp).symm
 ·simp only[ic172l0,QJ,h,evA,simprocAttr]
  have:i=l.length:=by omega
  subst this
  exact (EL hall).symm
theorem c70 (l:List Rt) (fv:AV) (p:Nat→Bool) (hz:l.length<2 ^ 63) (hf:∀ i,i<l.length→∀ σ,X0 Tryz.prog fv [rgV l[i]!] σ fun r τ=>r=.b (p i)∧τ=σ):PC Tryz.prog 158 [rgL l,fv] (.b (anyN p l.length)):=by
 refine ⟨ZF (fok158 true) (QC rfl) ?_,rfl⟩
 simp only[ic158,evA,simprocAttr]
 refine (c93 l fv p hz hf _).run ?_
 simp only[evA,simprocAttr,OA]
 exact frz
theorem c91 (s:Sys) (r:Rt) (hm:s.co.length≤8) (hr:RgOk s r) (c:Nat) (hc:c<s.cl.length) (f:Int) (hf:0≤f∧f<9223372036854775808):PC Tryz.prog 159 [rgV r,.cv (.rp [.rp (sysR s) 0] 0),.cv (.rp [.int .i64 c] 0),.cv (.rp [.int .i64 f] 0)] (.b (alw1 s c f r)):=by
 refine ⟨ZF (fok159 true) (QC rfl) ?_,rfl⟩
 have hb:=HF hm
 obtain ⟨⟨h1,h2⟩,h3,h4⟩:=hr
 have h4':r.2<256:=by unfold setN at h4;omega
 obtain ⟨z,hz⟩:∃ z:Nat,r.1=(z:Int):=⟨r.1.toNat,by omega⟩
 have hzl:z<s.cl.length:=by omega
 unfold alw1
 rw[hz,Int.toNat_natCast,Int.toNat_natCast]
 simp only[ic159,WI,cellsOf,hz,evA,simprocAttr]
 refine DW_s [] [] hmix (by kernel_rfl) rfl ?_
 have haw:=and_wrap (a:=r.2) (b:=f) ⟨h3,h4'⟩ hf
 simp only[XP hzl,W3,FD hzl,P1 hc,DN hc,evA,simprocAttr]
 cases h5:covB s z c with
 | false =>
  simp only[evA,simprocAttr]
  exact frz
 | true =>
  simp only[haw,evA,simprocAttr]
  exact frz
theorem c65 (s:Sys) (l:List Rt) (hm:s.co.length≤8) (hl:l.length<2 ^ 63) (hr:∀ r∈l,RgOk s r) (c:Int) (hc:0≤c∧c<s.cl.length) (f:Int) (hf:0≤f∧f<9223372036854775808):PC Tryz.prog 133 [sysP s,rgL l,.i c,.i f] (.b (alwB s l c f)):=by
 refine ⟨ZF (fok133 true) (QC rfl) ?_,rfl⟩
 obtain ⟨k,rfl⟩:∃ k:Nat,c=(k:Int):=⟨c.toNat,by omega⟩
 rw[QcK]
 simp only[ic133,WI,cellsOf,evA,simprocAttr]
 refine (c70 l (.fn (.func 159) [.cv (.rp [.rp (sysR s) 0] 0),.cv (.rp [.int .i64 k] 0),.cv (.rp [.int .i64 f] 0)]) (fun i=>alw1 s k f l[i]!) hl fun i hi σ=>(c91 s l[i]! hm (hr _ (by rw[getElem!_pos l i hi];exact Q2 hi)) k (by omega) f hf).call frz ⟨rfl,rfl⟩).call frz ?_
 exact frz
def mayV (s:Sys) (l:List Rt) (c f:Int):AV :=
 if rdE s (sysE s).2.2 [l]≠0 then .tup [.b false,.i (rdE s (sysE s).2.2 [l])]
 else if inB c 0 ((s.cl.length:Int)-1)=false then .tup [.b false,.i 4]
 else if inB f 0 (setN s-1)=false then .tup [.b false,.i 7]
 else .tup [.b (alwB s l c f),.i 0]
theorem Qcd {s:Sys} {l:List Rt} (h:rdE s (sysE s).2.2 [l]=0):(sysE s).2.2=0∧rgsE s l=0:=by
 have hrd:rdE s (sysE s).2.2 [l]=if (sysE s).2.2=0 then rgsE s l else (sysE s).2.2:=rfl
 rw[hrd] at h
 by_cases h2:(sysE s).2.2=0
 ·rw[if_pos h2] at h;exact ⟨h2,h⟩
 ·rw[if_neg h2] at h;exact absurd h h2
theorem c29 (s:Sys) (hs:SSz s) (l:List Rt) (hl:l.length<2 ^ 63) (c f:Int):PC Tryz.prog 103 [sysV s,rgL l,.i c,.i f] (mayV s l c f):=by
 refine ⟨ZF (fok103 true) (QC rfl) ?_,by unfold mayV;repeat (split <;> try rfl)⟩
 have hcl:=hs.cl
 have h63:=fun σ l0 h0=>c63 s hs [l] (by simpa using hl) (by simp) σ l0 h0
 have hdec:=Qcd (s:=s) (l:=l)
 have hn0:=QaV (s:=s)
 have hQ:(sysQ s).isUndef=false:=by unfold sysQ;split <;> rfl
 have hQP:(sysE s).2.2=0→sysQ s=sysP s:=fun h=>if_pos h
 unfold mayV
 generalize rdE s (sysE s).2.2 [l]=e at *
 have hw:IntKind.i64.wrap ((s.cl.length:Int)-1)=(s.cl.length:Int)-1:=ZC (by omega)
 by_cases he:e=0
 rotate_left
 ·have hb:(e != 0)=true:=by simpa using he
  rw[if_pos he]
  simp only[ic103,WI,cellsOf,evA,simprocAttr]
  refine (h63 _ 1 rfl).run ?_
  generalize sysQ s=Q at *
  simp only[hQ,hb,evA,simprocAttr]
  exact frz
 have hb2:(e != 0)=false:=by simpa using he
 obtain ⟨k1,k2⟩:=hdec he
 obtain ⟨⟨hn1,hn12⟩,hm,hok⟩:=hn0 k1
 obtain ⟨hl40,hr⟩:=ML k2
 have hbp:=HF hm
 have hw2:IntKind.i64.wrap (setN s-1)=setN s-1:=ZC (by unfold setN;omega)
 rw[if_neg (show ¬ (e≠0) from fun h=>h he)]
 rw[hQP k1] at h63
 have h56:=c56 0 ((s.cl.length:Int)-1) [c] (by simp)
 have h56f:=c56 0 (setN s-1) [f] (by simp)
 rw[FW] at h56 h56f
 simp only[ic103,WI,cellsOf,evA,simprocAttr]
 refine (h63 _ 1 rfl).run ?_
 simp only[hb2,hw,evA,simprocAttr]
 refine h56.call frz ?_
 cases hc:inB c 0 ((s.cl.length:Int)-1) with
 | false =>
  rw[if_pos rfl]
  simp only[ZY,evA,simprocAttr]
  exact frz
 | true =>
 rw[if_neg (by decide)]
 simp only[Y2,evA,simprocAttr]
 refine (c64 s (covR s) hm).call frz ?_
 simp only[hw2,evA,simprocAttr]
 refine h56f.call frz ?_
 cases hf:inB f 0 (setN s-1) with
 | false =>
  rw[if_pos rfl]
  simp only[ZY,evA,simprocAttr]
  exact frz
 | true =>
 rw[if_neg (by decide)]
 rw[VB] at hc hf
 unfold setN at hf
 simp only[Y2,evA,simprocAttr]
 refine (c65 s l hm hl hr c (by omega) f (by omega)).call frz ?_
 simp only[evA,simprocAttr]
 exact frz
abbrev KR:Bool × List KK:=(true,[.int .i64,.int .i64])
abbrev RgW (r:Rt):Prop:=(-9223372036854775808≤r.1∧r.1≤9223372036854775807)∧-9223372036854775808≤r.2∧r.2≤9223372036854775807
theorem PR {n:Int} (h:-9223372036854775808≤n∧n≤9223372036854775807):(Lit.int .i64 n).wf=true:=by
 simp only[Lit.wf,QD,decide_eq_true_eq,IntKind.min,IntKind.max,IntKind.bits,IntKind.signed]
 simp;omega
theorem Qb6 {r:Rt} (h:RgW r):F4 KR (rgV r)=true:=by
 simp[F4,JK,rgV,Y4,kkOk,PR h.1,PR h.2]
theorem rg_eq {a b:Rt} (ha:RgW a) (hb:RgW b):JW KR (rgV a) (rgV b)=some (decide (a=b)):=by
 simp[JW,JK,rgV,Y4,kkOk,PR ha.1,PR ha.2,PR hb.1,PR hb.2,VZ,EB]
 rw[Q8]
 obtain ⟨a1,a2⟩:=a;obtain ⟨b1,b2⟩:=b
 simp
def putE (es:List (Rt × Int)) (r:Rt) (v:Int):List (Rt × Int):=if r∈Z4 es then es.map (fun e=>if e.1=r then (r,v) else e) else es++[(r,v)]
def delE (es:List (Rt × Int)) (x:Rt):List (Rt × Int):=es.filter fun e=>!decide (e.1=x)
theorem MY {r:Rt} (hr:RgW r):∀ (es:List (Rt × Int)) (s:Nat),(∀ e∈es,RgW e.1) →
  (findKey KR (rgV r) (mapE es) s=some none∧r∉Z4 es)∨∃ (j:Nat) (v:Int),es[j]? = some (r,v)∧findKey KR (rgV r) (mapE es) s=some (some (s+j,.i v))
 | [],s,_=>.inl ⟨rfl,by simp[Z4]⟩
 | t :: es,s,h=>by
  have hk:=rg_eq hr (h t (by simp))
  by_cases e:r=t.1
  ·refine .inr ⟨0,t.2,?_,?_⟩
   ·obtain ⟨a,n⟩:=t
    cases e;rfl
   ·rw[decide_eq_true e] at hk
    simp only[mapE,Q0,findKey,hk];rfl
  ·rw[decide_eq_false e] at hk
   rcases MY hr es (s+1) (fun t ht=>h t (by simp[ht])) with ⟨g1,g2⟩ | ⟨j,n,g1,g2⟩
   ·refine .inl ⟨?_,?_⟩
    ·simp only[mapE,Q0,findKey,hk];exact g1
    ·simp only[Z4,Q0,ZD,not_or]
     exact ⟨e,g2⟩
   ·refine .inr ⟨j+1,n,by simpa using g1,?_⟩
    simp only[mapE,Q0,findKey,hk]
    rw[show s+(j+1)=s+1+j by omega];exact g2
theorem nodup_at {es:List (Rt × Int)} (hn:(Z4 es).Nodup) {j:Nat} {r:Rt} {v:Int} (h:es[j]? = some (r,v)):∀ i e,es[i]? = some e→(e.1=r↔i=j):=by
 intro i e he
 constructor
 ·intro h2
  have h1:(Z4 es)[i]? = some r:=by simp[Z4,he,h2]
  have h3:(Z4 es)[j]? = some r:=by simp[Z4,h]
  obtain ⟨a1,a2⟩:=QH.1 h1
  obtain ⟨b1,b2⟩:=QH.1 h3
  have hp:=List.pairwise_iff_getElem.1 hn
  rcases Nat.lt_trichotomy i j with hl | he2 | hl
  ·exact absurd (a2.trans b2.symm) (hp i j a1 b1 hl)
  ·exact he2
  ·exact absurd (b2.trans a2.symm) (hp j i b1 a1 hl)
 ·rintro rfl
  rw[h] at he;cases he;rfl
theorem QdX {es:List (Rt × Int)} (hn:(Z4 es).Nodup) {j:Nat} {r:Rt} {v w:Int} (h:es[j]? = some (r,v)):es.set j (r,w)=putE es r w:=by
 have hm:r∈Z4 es:=by
  rw[Z4,ZP]
  exact ⟨_,QZ h,rfl⟩
 rw[putE,if_pos hm]
 apply Z1
 intro i
 rw[ZO,ZR]
 by_cases hij:j=i
 ·subst hij
  have hl:=(QH.1 h).1
  rw[if_pos rfl,if_pos hl,h]
  simp
 ·rw[if_neg hij]
  cases he:es[i]? with
  | none=>rfl
  | some e =>
   have:=nodup_at hn h i e he
   simp only[Option.map_some]
   rw[if_neg (fun h=>hij ((this.1 h).symm))]
theorem A9:∀ {es:List (Rt × Int)} (hn:(Z4 es).Nodup) {j:Nat} {r:Rt} {v:Int} (h:es[j]? = some (r,v)),es.eraseIdx j=delE es r
 | e::es,hn,0,r,v,h=>by
  simp only[List.getElem?_cons_zero,Option.some.injEq] at h
  subst h
  simp only[Z4,Q0,WQ] at hn
  rw[List.eraseIdx_cons_zero,delE,XK,if_neg (by simp)]
  symm
  rw[List.filter_eq_self]
  intro e he
  have:e.1≠r:=fun h=>hn.1 (by rw[ZP];exact ⟨e,he,h⟩)
  simp[this]
 | e::es,hn,j+1,r,v,h=>by
  simp only[List.getElem?_cons_succ] at h
  simp only[Z4,Q0,WQ] at hn
  have hne:e.1≠r:=fun h2=>hn.1 (by rw[ZP];exact ⟨(r,v),QZ h,h2.symm⟩)
  rw[List.eraseIdx_cons_succ,A9 hn.2 h,delE,delE,XK,if_pos (by simp[hne])]
theorem map_put {es:List (Rt × Int)} {r:Rt} {v:Int} (hn:(Z4 es).Nodup) (hw:∀ e∈es,RgW e.1) (hr:RgW r) {σ:List AObj} {l:Nat} (hm:mapOf σ l=some (mapE es)) :
  JZ KR [.map l,rgV r,.i v] σ=some (.undef,σ.set l (.map (mapE (putE es r v)))):=by
 rcases MY hr es 0 hw with ⟨g1,g2⟩ | ⟨j,n,g1,g2⟩
 ·have:mapE (putE es r v)=mapE es++[(rgV r,.i v)]:=by rw[putE,if_neg g2];simp[mapE]
  simp only[JZ,hm,Option.bind_some,Qb6 hr,g1,this]
  rfl
 ·have:mapE (putE es r v)=(mapE es).set j (rgV r,.i v):=by rw[← QdX hn g1];simp[mapE,List.map_set]
  simp only[JZ,hm,Option.bind_some,Qb6 hr,g2,this]
  simp[XU]
theorem map_del {es:List (Rt × Int)} {r:Rt} (hn:(Z4 es).Nodup) (hw:∀ e∈es,RgW e.1) (hr:RgW r) {σ:List AObj} {l:Nat} (hm:mapOf σ l=some (mapE es)) :
  J0 KR [.map l,rgV r] σ=some (.tup [],σ.set l (.map (mapE (delE es r)))):=by
 rcases MY hr es 0 hw with ⟨g1,g2⟩ | ⟨j,n,g1,g2⟩
 ·have:delE es r=es:=by
   rw[delE,List.filter_eq_self]
   intro e he
   have:e.1≠r:=fun h=>g2 (by rw[Z4,ZP];exact ⟨e,he,h⟩)
   simp[this]
  simp only[J0,hm,Option.bind_some,Qb6 hr,g1,this]
  rfl
 ·have:mapE (delE es r)=(mapE es).eraseIdx j:=by
   rw[← A9 hn g1]
   have:∀ (L:List (Rt × Int)) (j:Nat),mapE (L.eraseIdx j)=(mapE L).eraseIdx j:=by
    intro L
    induction L with
    | nil=>intro j;rfl
    | cons a L ih=>intro j;cases j with
     | zero=>rfl
     | succ j=>simp only[mapE,List.eraseIdx_cons_succ,Q0] at ih ⊢;rw[ih]
   exact this es j
  simp only[J0,hm,Option.bind_some,Qb6 hr,g2,this]
  simp[mapDel]
theorem Qbn (es:List (Rt × Int)) (r:Rt) (v:Int):Z4 (putE es r v)=if r∈Z4 es then Z4 es else Z4 es++[r]:=by
 unfold putE
 by_cases h:r∈Z4 es
 ·rw[if_pos h,if_pos h]
  unfold Z4
  rw[XW]
  apply JI
  intro e _
  simp only[Function.comp]
  split
  ·rename_i h;exact h.symm
  ·rfl
 ·rw[if_neg h,if_neg h];simp[Z4]
theorem S6 {es:List (Rt × Int)} {r:Rt} {v:Int} (h:(Z4 es).Nodup):(Z4 (putE es r v)).Nodup:=by
 rw[Qbn]
 split
 ·exact h
 ·rename_i hn
  rw[List.nodup_append]
  exact ⟨h,by simp,fun a ha b hb=>by simp at hb;subst hb;rintro rfl;exact hn ha⟩
theorem put_mem {es:List (Rt × Int)} {r x:Rt} {v:Int}:x∈Z4 (putE es r v)↔x∈Z4 es∨x=r:=by
 rw[Qbn]
 split
 ·rename_i h
  constructor
  ·exact .inl
  ·rintro (h2 | rfl) <;> assumption
 ·simp
theorem RR {p:Rt→Bool} (es:List (Rt × Int)):Z4 (es.filter fun e=>p e.1)=(Z4 es).filter p:=by
 unfold Z4
 induction es with
 | nil=>rfl
 | cons e es ih=>simp only[XK,Q0];split <;> simp[ih]
theorem key_w {es:List (Rt × Int)} (h:∀ r∈Z4 es,RgW r):∀ e∈es,RgW e.1:=fun e he=>h _ (by rw[Z4,ZP];exact ⟨e,he,rfl⟩)
def VH (b e:Nat) (σ:List AObj) (v:AV) (n:Nat) (cs:List CV):Prop:=(v=.cv .nils∧n=0∧cs=[])∨∃ l,b≤l∧v=.sl l 0 n e∧cs.length=n*e∧rowOf σ l=some (cs.map .cv)
theorem VH.acc {b e n:Nat} {σ:List AObj} {v:AV} {cs:List CV} (h:VH b e σ v n cs):AccS e σ v n cs:=h.imp id fun ⟨l,_,h1,h2,h3⟩=>⟨l,h1,h2,h3⟩
theorem VH.nu {b e n:Nat} {σ:List AObj} {v:AV} {cs:List CV} (h:VH b e σ v n cs):v.isUndef=false∧v.isSc=true∧cellsOf v=[v]:=by
 rcases h with ⟨rfl,_⟩ | ⟨l,_,rfl,_⟩ <;> exact ⟨rfl,rfl,rfl⟩
theorem K3 {b e by_ n:Nat} {σ:List AObj} {v:AV} {cs x:List CV} (hb0:b≤σ.length) (h:VH b e σ v n cs) (hx:x.length=e) (hb:(n+1)*by_≤2 ^ 44) (hn:n+1≤2 ^ 44) :
  ∃ (v':AV) (σ':List AObj),ZX e by_ [v,.sl σ.length 0 1 e] (σ++[AObj.cells (x.map .cv)])=some (v',σ')∧VH b e σ' v' (n+1) (cs++x)∧(∀ i,i<b→σ'[i]? = σ[i]?)∧σ.length≤σ'.length:=by
 have hsrc:Z9 (σ++[AObj.cells (x.map .cv)]) e (.sl σ.length 0 1 e)=some (x.map .cv):=by
  have h1:0+1*e≤(x.map AV.cv).length:=by simp[hx]
  simp only[Z9,if_true,XH,Option.bind_some]
  rw[if_pos h1,YO,Q5 (by simp[hx])]
 rcases h with ⟨rfl,rfl,rfl⟩ | ⟨l,hbl,rfl,hl,hr⟩
 ·refine ⟨.sl (σ++[AObj.cells (x.map .cv)]).length 0 1 e,(σ++[AObj.cells (x.map .cv)])++[AObj.cells (x.map .cv)],?_,.inr ⟨_,by simp;omega,rfl,by simp[hx],by rw[XH];simp⟩,fun i hi=>?_,by simp⟩
  ·have h1:1*e=(x.map AV.cv).length∧1*by_≤2 ^ 44∧1≤2 ^ 44∧(x.map AV.cv).all AV.isSc=true:=⟨by simp[hx],by omega,by omega,S2 x⟩
   simp only[ZX,hsrc,lenF,Option.bind_some]
   rw[if_neg (by omega),if_pos h1]
  ·rw[QW,QE (by omega)]
 ·have hr':=FU hr (AObj.cells (x.map .cv))
  refine ⟨.sl (σ++[AObj.cells (x.map .cv)]).length 0 (n+1) e,(σ++[AObj.cells (x.map .cv)]).set l AObj.dead++[AObj.cells (cs.map .cv++x.map .cv)],?_,.inr ⟨(σ++[AObj.cells (x.map .cv)]).length,by simp;omega,rfl,by rw[QM,hl,hx,XJ],?_⟩,fun i hi=>?_,by simp;omega⟩
  ·have h1:True∧n*e≤(cs.map AV.cv).length∧1*e=(x.map AV.cv).length∧(n+1)*by_≤2 ^ 44∧n+1≤2 ^ 44∧(x.map AV.cv).all AV.isSc=true:=⟨trivial,by simp[hl],by simp[hx],hb,hn,S2 x⟩
   simp only[ZX,hr',hsrc,lenF,Option.bind_some]
   rw[if_pos h1,Q5 (by simp[hl])]
  ·have:(σ++[AObj.cells (x.map .cv)]).length=((σ++[AObj.cells (x.map .cv)]).set l AObj.dead).length:=by simp
   rw[this,XH,ZS]
  ·rw[QE (by simp;omega),QU (by omega),QE (by omega)]
theorem c118 (l:List Rt) (L:Nat) (S:Nat→List AObj→Prop) (σ0:List AObj) (hl:l.length<2 ^ 63) (hL:L<σ0.length) (h0:S 0 σ0)
  (h:∀ n τ,n<l.length→S n τ→σ0.length≤τ.length→YC Tryz.prog L [rgV l[n]!] (τ++[.cells [.i (l[n]!).1,.i (l[n]!).2]]) fun r τ'=>r=.b true∧∃ τ2 J,τ'=τ2++J∧σ0.length≤τ2.length∧(J=[]∨∀ o∈τ2,Z3 τ2.length o=true)∧S (n+1) τ2) :
  AC Tryz.prog 175 [.yld L,.cv (.rp [.rsl (l.flatMap rgC) l.length] 0)] σ0 fun r τ=>r=.tup []∧S l.length τ:=by
 refine ZF (fok175 true) (QC rfl) ?_
 simp only[ic175,evA,simprocAttr]
 refine ZW l.length (fun i s=>∃ v2 v6 v7 τ,S i τ∧σ0.length≤τ.length∧s=⟨[.yld L,.cv (.rp [.rsl (l.flatMap rgC) l.length] 0),v2,rgL l,.i l.length,.i i,v6,v7],τ⟩) ?_ 0 (QF _) ⟨_,_,_,_,h0,QG _,rfl⟩
 rintro i s hi ⟨v2,v6,v7,τ,hS,hτ,rfl⟩
 by_cases hin:i<l.length
 ·simp only[ic175l0,QJ,hin,L6 hin,S3 hin,WW,VW,evA,simprocAttr]
  refine (h i τ hin hS hτ).mono ?_
  rintro r τ' ⟨rfl,τ2,J,rfl,hlen,hJ,hS2⟩
  simp only[Q6 (show i+1<2 ^ 63 by omega),evA,simprocAttr]
  rcases hJ with rfl | hJ
  ·rw[ZU]
   exact ZL (by first | trivial | omega) ⟨_,_,_,_,hS2,hlen,rfl⟩
  ·refine W1 τ2 J rfl (by first | trivial | omega) hlen hJ ?_
   have hy:QR τ2.length (.yld L)=true:=by simp[QR];omega
   exact ⟨_,_,_,_,hS2,hlen,by simp only[clip,hy,if_true];rfl⟩
 ·have hin':i=l.length:=by omega
  subst hin'
  simp only[ic175l0,QJ,hin,evA,simprocAttr]
  exact hS
def ia94:IC:=(.region [jw 4 (.alloc [(.cv (.int .i64 0)),(.cv (.int .i64 0))]) [],jq (.store 2) [.v 4,.v 6]])
def ib94:IC:=(.block 1 (.region [jL 2,jN 2 4,jq (.bslice 2 1 [(.cv (.int .i64 0)),(.cv (.int .i64 0))] [(0,2)]) [.t 1],jq (.append 2 16) [.t 0,.t 2],jq (.store 1) [.v 2,.t 3]]))
theorem ca94:QL Tryz.prog vs171 13 (nav [1,0,1,0,2] (Tryz.f171.body.getD .skip))=some ia94:=by kernel_rfl
theorem cb94:QL Tryz.prog vs171 13 (nav [1,0,1,0,3] (Tryz.f171.body.getD .skip))=some ib94:=by kernel_rfl
theorem ac94 (ks:List Rt) (hl:ks.length<2 ^ 38):AC Tryz.prog 171 [.cv .nils,TU ks] [] fun r τ=>AccS 2 τ r ks.length (ks.flatMap rgC):=by
 have hp2:(2:Nat) ^ 38=274877906944:=by decide
 have hp3:(2:Nat) ^ 44=17592186044416:=by decide
 refine ZF (fok171 true) (QC rfl) ?_
 simp only[ic171,WI,cellsOf,evA,simprocAttr]
 refine RW_s (gf:=175) (cap:=[.cv (.rp [.rsl (ks.flatMap rgC) ks.length] 0)]) rfl (QC rfl) (fun l h=>by cases h) ?_
 generalize hRR:VJ _ _ _ _ _=R
 simp only[evA,simprocAttr]
 have e1:R.vars=vs171:=by rw[← hRR];rfl
 have e2:R.ntmps=13:=by rw[← hRR];rfl
 have e3:R.params=[7]:=by rw[← hRR];rfl
 have e4:R.vals=[.cv .nils,TU ks,.ptr 0 0,.cv .nils,.undef,TU ks,.undef]:=by rw[← hRR];rfl
 have e5:R.state=.ready:=by rw[← hRR];rfl
 have e6:R.pending=none:=by rw[← hRR];rfl
 have e7:QL Tryz.prog vs171 13 R.assign=some ia94:=by rw[← hRR];exact ca94
 have e8:QL Tryz.prog vs171 13 R.body=some ib94:=by rw[← hRR];exact cb94
 have e9:({ { R with state:=.busy,pending:=none } with state:=.ready,pending:=none }:XC)=R:=by
  clear hRR;cases R;simp_all
 clear hRR
 refine (c118 ks 1 (fun n τ=>∃ acc τ',τ=.cells [acc] :: .loop R::τ'∧VH 2 2 τ acc n ((ks.take n).flatMap rgC)) [.cells [.cv .nils],.loop R] (by omega) (by simp) ⟨_,_,rfl,.inl ⟨rfl,rfl,rfl⟩⟩ ?_).mono ?_
 ·rintro n τ hn ⟨acc,τ',rfl,hA⟩ _
  have hnu:=hA.nu
  refine QeH (r:=R) ia94 ib94 rfl e5 (by rw[e3];rfl) (by rw[e1,e2,e3];rfl) (by rw[e1,e2];exact e7) (by rw[e1,e2];exact e8) ?_
  rw[e1,e2,e3,e4]
  have x7:vs171.idxOf? 7=some 6:=by decide
  have hst:(ks.take (n+1)).flatMap rgC=(ks.take n).flatMap rgC++rgC ks[n]! := by
   rw[JC,QI hn,getElem!_pos ks n hn,List.flatMap_append];simp
  generalize ks[n]! = kr at hst
  simp only[ia94,JM,x7,QW,QM,WW,X9,VW,EZ,Qau,CH,get_nz,get_ns,Qam,evA,simprocAttr]
  refine ⟨R,rfl,e5,?_⟩
  rw[e6]
  simp only[setLoop,evA,simprocAttr]
  have hA1:VH 2 2 (.cells [acc] :: .loop { R with state:=.busy,pending:=none }::(τ'++[AObj.cells [.i kr.1,.i kr.2],AObj.cells [.i kr.1,.i kr.2]])) acc n ((ks.take n).flatMap rgC):=by
   rcases hA with h | ⟨l,h1,h2,h3,h4⟩
   ·exact .inl h
   ·refine .inr ⟨l,h1,h2,h3,?_⟩
    obtain ⟨m,rfl⟩:∃ m,l=m+2:=⟨l-2,by omega⟩
    exact ZH (σ:=τ') h4 _
  obtain ⟨v',σ',happ,hA',hfr,hln⟩:=K3 (by_:=16) (x:=rgC kr) (by simp) hA1 rfl (by omega) (by omega)
  rw[hst]
  generalize hbz:({ R with state:=.busy,pending:=none }:XC)=RB at *
  have f0:=hfr 0 (by omega)
  have f1:=hfr 1 (by omega)
  match σ',hln with
  | x0::x1::σ2,_ =>
  have g0:x0=.cells [acc]:=by simpa using f0
  have g1:x1=.loop RB:=by simpa using f1
  subst g0 g1
  have hnu':=hA'.nu
  simp only[QW,QM,WW,X9,VW,EZ,Qau,CH,get_nz,get_ns,List.cons_append,List.nil_append,List.length_cons,List.length_nil,ZV,rgC,Q0,WS] at happ
  simp only[ib94,QW,QM,WW,X9,VW,EZ,Qau,CH,get_nz,get_ns,HE,MK,happ,hnu,hnu',P0,evA,simprocAttr]
  refine ⟨RB,rfl,?_⟩
  subst hbz
  simp only[setLoop,evA,simprocAttr]
  rw[e9]
  refine ⟨_,[],(ZU _).symm,QC rfl,.inl rfl,v',σ2,rfl,?_⟩
  rcases hA' with h | ⟨l,h1,h2,h3,h4⟩
  ·exact .inl h
  ·refine .inr ⟨l,h1,h2,h3,?_⟩
   obtain ⟨m,rfl⟩:∃ m,l=m+2:=⟨l-2,by omega⟩
   exact h4
 ·rintro r τ ⟨rfl,acc,τ',rfl,hA⟩
  refine ⟨R,rfl,(by rw[e5];intro h;cases h),?_⟩
  rw[e6]
  have hnu:=hA.nu
  simp only[setLoop,hnu,evA,simprocAttr]
  rw[X7] at hA
  rcases hA with h | ⟨l,h1,h2,h3,h4⟩
  ·exact .inl h
  ·refine .inr ⟨l,h2,h3,?_⟩
   obtain ⟨m,rfl⟩:∃ m,l=m+2:=⟨l-2,by omega⟩
   exact h4
theorem Qcb (g:Nat→Nat):∀ cs:List CV,rens g (cs.map .cv)=cs.map .cv
 | []=>rfl
 | c::cs=>by simp only[Q0,rens,ren,Qcb g cs]
theorem AC.accs {P:Program} {f:FuncId} {args:List AV} {e n:Nat} {cs:List CV} (h:AC P f args [] fun r τ=>AccS e τ r n cs) (hcl:QO 0 args=true) (hr:∀ g,rens g args=args) (σ:List AObj):AC P f args σ fun r τ=>AccS e τ r n cs:=by
 have:=AC.at (σ:=σ) [] h YU hcl trivial
 rw[hr] at this
 refine this.mono ?_
 rintro r τ ⟨r0,τ0,h1,_,rfl,rfl⟩
 rcases h1 with ⟨rfl,h1,h2⟩ | ⟨l,rfl,h1,h2⟩
 ·exact .inl ⟨rfl,h1,h2⟩
 ·refine .inr ⟨σ.length+l,by simp[ren,atF],h1,?_⟩
  have h3:=WO h2
  simp only[putL]
  unfold rowOf
  rw[QS (by omega),X6,ZR,h3]
  simp only[Option.map_some,renO,Qcb]
theorem AccS.nu {e n:Nat} {σ:List AObj} {v:AV} {cs:List CV} (h:AccS e σ v n cs):v.isUndef=false∧v.isSc=true∧cellsOf v=[v]:=by
 rcases h with ⟨rfl,_⟩ | ⟨l,rfl,_⟩ <;> exact ⟨rfl,rfl,rfl⟩
theorem ac71 (ks:List Rt) (hl:ks.length<2 ^ 38) (σ:List AObj):AC Tryz.prog 157 [TU ks] σ fun r τ=>AccS 2 τ r ks.length (ks.flatMap rgC):=by
 refine ZF (fok157 true) (QC rfl) ?_
 simp only[ic157,evA,simprocAttr]
 refine ((ac94 ks hl).accs rfl (fun g=>rfl) σ).mono ?_
 intro r τ h
 have hnu:=h.nu
 simp only[hnu,evA,simprocAttr]
 exact h
def Qdp:IC:=(.region [jw 7 (.alloc [(.cv (.int .i64 0)),(.cv (.int .i64 0))]) [],jq (.store 2) [.v 7,.v 14]])
def Qdm:IC:=(.block 5 (.seq (.dr [[],[],[0,1],[2],[3],[4,3],[5,3],[6,3],[3],[8,3],[7,9,3],[10,3],[3],[12,3],[11,13,3],[14,3],[3,15],[16,3],[17],[18,17],[17],[20,17],[19,21,17],[22,17],[17,23]] [jN 2 8,jN 2 7,jq (.eqS true (true,[(.int .i64),(.int .i64)])) [.t 0,.t 1],jt 2,jg 3 true .load1 [.v 2],jg 3 true .nilck [.t 4],jg 3 true (.fadd 2) [.t 5],ji 3 true 6,jg 3 true (.fadd 0) [.v 7],ji 3 true 8,jg 3 true (.iaS 1) [.t 7,.t 9],ji 3 true 10,jg 3 true (.fadd 0) [.v 8],ji 3 true 12,jg 3 true (.iaS 1) [.t 11,.t 13],ji 3 true 14,jq .pick [.t 3,.t 15,jB false],jt 16,jg 17 true (.fadd 1) [.v 7],ji 17 true 18,jg 17 true (.fadd 1) [.v 8],ji 17 true 20,jg 17 true (.bin .andNot .int) [.t 19,.t 21],jg 17 true (.bin .eql .int) [.t 22,jn 0],jw 17 .pick [.t 17,.t 23,jB false]])
 (.cond 17 (.region [jL 4,jN 2 8,jq (.mapdel (true,[(.int .i64),(.int .i64)])) [.t 0,.t 1]])
 .skip)))
def Qdo:IC:=(.region [jw 8 (.alloc [(.cv (.int .i64 0)),(.cv (.int .i64 0))]) [],jq (.store 2) [.v 8,.v 16]])
def Qdn (b67:Code):IC:=(.block 3 (.seq (.region [jL 4,jd 15 156 [.t 0]])
 (.block 4 (.rangef (.v 15) #[27] (nav [1,1,1,0,1,0,3,0,1,0,2] b67) (nav [1,1,1,0,1,0,3,0,1,0,3] b67) (.region [jw 8 (.alloc [(.cv (.int .i64 0)),(.cv (.int .i64 0))]) [],jq (.store 2) [.v 8,.v 16]])
 (.block 5 (.seq (.dr [[],[],[0,1],[2],[3],[4,3],[5,3],[6,3],[3],[8,3],[7,9,3],[10,3],[3],[12,3],[11,13,3],[14,3],[3,15],[16,3],[17],[18,17],[17],[20,17],[19,21,17],[22,17],[17,23]] [jN 2 8,jN 2 7,jq (.eqS true (true,[(.int .i64),(.int .i64)])) [.t 0,.t 1],jt 2,jg 3 true .load1 [.v 2],jg 3 true .nilck [.t 4],jg 3 true (.fadd 2) [.t 5],ji 3 true 6,jg 3 true (.fadd 0) [.v 7],ji 3 true 8,jg 3 true (.iaS 1) [.t 7,.t 9],ji 3 true 10,jg 3 true (.fadd 0) [.v 8],ji 3 true 12,jg 3 true (.iaS 1) [.t 11,.t 13],ji 3 true 14,jq .pick [.t 3,.t 15,jB false],jt 16,jg 17 true (.fadd 1) [.v 7],ji 17 true 18,jg 17 true (.fadd 1) [.v 8],ji 17 true 20,jg 17 true (.bin .andNot .int) [.t 19,.t 21],jg 17 true (.bin .eql .int) [.t 22,jn 0],jw 17 .pick [.t 17,.t 23,jB false]])
 (.cond 17 (.region [jL 4,jN 2 8,jq (.mapdel (true,[(.int .i64),(.int .i64)])) [.t 0,.t 1]])
 .skip)))))))
theorem ca67a:QL Tryz.prog vs131 58 (nav [1,1,1,0,1,0,2] (Tryz.f131.body.getD .skip))=some Qdp:=by kernel_rfl
theorem cb67a:QL Tryz.prog vs131 58 (nav [1,1,1,0,1,0,3] (Tryz.f131.body.getD .skip))=some (Qdn (Tryz.f131.body.getD .skip)):=by kernel_rfl
theorem ca67b:QL Tryz.prog vs131 58 (nav [1,1,1,0,1,0,3,0,1,0,2] (Tryz.f131.body.getD .skip))=some Qdo:=by kernel_rfl
theorem cb67b:QL Tryz.prog vs131 58 (nav [1,1,1,0,1,0,3,0,1,0,3] (Tryz.f131.body.getD .skip))=some Qdm:=by kernel_rfl
def wkB (s:Sys) (x r:Rt):Bool:=!decide (x=r)&&(covB s r.1.toNat x.1.toNat&&(subI r.2 x.2 == 0))
def esN (l:List Rt):Nat→List (Rt × Int)
 | 0=>[]
 | k+1=>putE (esN l k) l[k]! k
def ddR (l:List Rt):List Rt:=Z4 (esN l l.length)
def XV (s:Sys) (l:List Rt):List Rt:=(V2 (ddR l)).filter fun x=>!(ddR l).any fun r=>wkB s x r
theorem K0 (l:List Rt):∀ k,(Z4 (esN l k)).Nodup
 | 0=>YU
 | k+1=>S6 (K0 l k)
theorem Qax (l:List Rt) {x:Rt}:∀ k,k≤l.length→(x∈Z4 (esN l k)↔x∈l.take k)
 | 0,_=>by simp[esN,Z4]
 | k+1,h=>by
  have e:l.take (k+1)=l.take k++[l[k]!]:=by rw[JC,QI (by omega),getElem!_pos l k (by omega)];rfl
  rw[esN,put_mem,Qax l k (by omega),e,YV,WZ]
theorem Qdt (l:List Rt):∀ k,(esN l k).length≤k
 | 0=>QG _
 | k+1=>by
  have:=Qdt l k
  rw[esN,putE]
  split <;> simp <;> omega
def HR (s:Sys) (es:List (Rt × Int)) (rs:List Rt):List (Rt × Int):=es.filter fun e=>!rs.any fun r=>wkB s e.1 r
def HS (s:Sys) (es:List (Rt × Int)) (r:Rt) (xs:List Rt):List (Rt × Int):=es.filter fun e=>!(decide (e.1∈xs)&&wkB s e.1 r)
theorem wipe_nil (s:Sys) (es:List (Rt × Int)):HR s es []=es:=by simp[HR]
theorem QeS (s:Sys) (es:List (Rt × Int)) (r:Rt):HS s es r []=es:=by simp[HS]
theorem QeT (s:Sys) (es:List (Rt × Int)) (r:Rt) (rs xs:List Rt) (h:∀ e∈HR s es rs,e.1∈xs):HS s (HR s es rs) r xs=HR s es (rs++[r]):=by
 unfold HS
 have:(HR s es rs).filter (fun e=>!(decide (e.1∈xs)&&wkB s e.1 r))=(HR s es rs).filter fun e=>!wkB s e.1 r:=by
  apply JD
  intro e he
  have:=h e he
  simp[this]
 rw[this]
 unfold HR
 rw[List.filter_filter]
 apply JD
 intro e _
 simp[List.any_append,Bool.and_comm]
theorem QeR (s:Sys) (es:List (Rt × Int)) (r x:Rt) (xs:List Rt) (h:wkB s x r=true):delE (HS s es r xs) x=HS s es r (xs++[x]):=by
 unfold delE HS
 rw[List.filter_filter]
 apply JD
 intro e _
 by_cases he:e.1=x
 ·subst he;simp[h]
 ·simp[he]
theorem wipe1_no (s:Sys) (es:List (Rt × Int)) (r x:Rt) (xs:List Rt) (h:wkB s x r=false):HS s es r xs=HS s es r (xs++[x]):=by
 unfold HS
 apply JD
 intro e _
 by_cases he:e.1=x
 ·subst he;simp[h]
 ·simp[he]
theorem FX (k:Nat) (es:List (Rt × Int)):Z3 k (.map (mapE es))=true:=by
 simp only[Z3,Q1,QD]
 intro e he
 simp only[mapE,ZP] at he
 obtain ⟨x,_,rfl⟩:=he
 exact ⟨rfl,rfl⟩
theorem RgOk.w {s:Sys} {r:Rt} (h:RgOk s r) (hn:s.cl.length≤12) (hm:s.co.length≤8):RgW r:=by
 have hb:=HF hm
 obtain ⟨⟨h1,h2⟩,h3,h4⟩:=h
 unfold setN at h4
 exact ⟨by omega,by omega⟩
theorem ac67 (s:Sys) (hn12:s.cl.length≤12) (hm:s.co.length≤8) (l:List Rt) (hl:l.length<2 ^ 38) (hr:∀ r∈l,RgOk s r):AC Tryz.prog 131 [sysP s,rgL l] [] fun r τ=>AccS 2 τ r (XV s l).length ((XV s l).flatMap rgC):=by
 have hp2:(2:Nat) ^ 38=274877906944:=by decide
 have hbp:=HF hm
 refine ZF (fok131 true) (QC rfl) ?_
 have hkw:∀ k,k≤l.length→∀ r∈Z4 (esN l k),RgOk s r:=fun k hk r h=>hr r (List.mem_of_mem_take ((Qax l k hk).1 h))
 simp only[ic131,WI,cellsOf,KY,evA,simprocAttr]
 refine ZW l.length (fun i s'=>∃ v5 v12,(∀ k,QR k v5=true)∧s'=⟨[sysP s,rgL l,.ptr 0 0,.cv .nils,.ptr 2 0,v5,.undef,.undef,.undef,rgL l,.i l.length,.i i,v12,.undef,.undef,.undef,.undef,.undef],[.cells [sysP s],.map (mapE (esN l i)),.cells [.map 1]]⟩) ?_ 0 (QF _) ⟨_,_,fun _=>rfl,rfl⟩
 rintro i s' hi ⟨v5,v12,hv5,rfl⟩
 by_cases hin:i<l.length
 ·have hrw:RgW l[i]! := (hr _ (by rw[getElem!_pos l i hin];exact Q2 hin)).w hn12 hm
  have hput:∀ J,JZ KR [.map 1,rgV l[i]!,.i i] (AObj.cells [sysP s] :: .map (mapE (esN l i))::J)=some (.undef,AObj.cells [sysP s] :: .map (mapE (esN l (i+1)))::J):=fun J =>
   map_put (K0 l i) (key_w fun r h=>(hkw i (by omega) r h).w hn12 hm) hrw rfl
  simp only[ic131l0,QJ,hin,L6 hin,S3 hin,hput,Q6 (show i+1<2 ^ 63 by omega),evA,simprocAttr]
  refine W1 [.cells [sysP s],.map (mapE (esN l (i+1))),.cells [.map 1]] _ rfl (by first | trivial | omega) (QF _) ?_ ⟨_,_,fun _=>rfl,rfl⟩
  intro o ho
  simp only[ZD,WK,or_false] at ho
  rcases ho with rfl | rfl | rfl
  ·rfl
  ·exact FX _ _
  ·rfl
 have hin':i=l.length:=by omega
 subst hin'
 have hlen:=Qdt l l.length
 have hnd:=K0 l l.length
 have hkw2:=hkw l.length (QG _)
 have hdd:Z4 (esN l l.length)=ddR l:=rfl
 generalize esN l l.length=es at *
 simp only[ic131l0,QJ,hin,evA,simprocAttr]
 refine (c72 (es:=es) (by omega) rfl).run ?_
 simp only[evA,simprocAttr]
 obtain ⟨K,hK⟩:∃ K,K=V2 (Z4 es):=⟨_,rfl⟩
 rw[← hK]
 have hKl:K.length=es.length:=by rw[hK,EE];simp[Z4]
 have hKok:∀ r∈K,RgOk s r:=fun r h=>hkw2 r (by rw[hK] at h;exact VM.1 h)
 refine RW_s (gf:=175) (cap:=[.cv (.rp [.rsl (K.flatMap rgC) K.length] 0)]) rfl (QC rfl) (fun l h=>by cases h) ?_
 generalize hRR:VJ _ _ _ _ _=R
 simp only[evA,simprocAttr]
 have e1:R.vars=vs131:=by rw[← hRR];rfl
 have e2:R.ntmps=58:=by rw[← hRR];rfl
 have e3:R.params=[24]:=by rw[← hRR];rfl
 have e4:R.vals=[sysP s,rgL l,.ptr 0 0,.cv .nils,.ptr 2 0,v5,.undef,.undef,.undef,rgL l,.i l.length,.i l.length,.b false,TU K,.undef,.undef,.undef,.undef]:=by rw[← hRR];rfl
 have e5:R.state=.ready:=by rw[← hRR];rfl
 have e6:R.pending=none:=by rw[← hRR];rfl
 have e7:QL Tryz.prog vs131 58 R.assign=some Qdp:=by rw[← hRR];exact ca67a
 have e8:QL Tryz.prog vs131 58 R.body=some (Qdn (Tryz.f131.body.getD .skip)):=by rw[← hRR];exact cb67a
 have e9:({ { R with state:=.busy,pending:=none } with state:=.ready,pending:=none }:XC)=R:=by
  clear hRR;cases R;simp_all
 have eo:∀ k st p,3≤k→Z3 k (.loop { R with state:=st,pending:=p })=true:=fun k st p hk=>by
  have h1:decide (0<k)=true:=decide_eq_true (by omega)
  have h2:decide (2<k)=true:=decide_eq_true (by omega)
  show QO k R.vals=true
  rw[e4]
  simp[QO,QR,hv5]
  omega
 clear hRR
 have hwk:∀ rs,∀ e∈HR s es rs,e.1∈K:=fun rs e he=>by
  rw[hK,VM,Z4,ZP]
  exact ⟨e,(YB.1 he).1,rfl⟩
 refine (c118 K 3 (fun n τ=>τ=[.cells [sysP s],.map (mapE (HR s es (K.take n))),.cells [.map 1],.loop R]) [.cells [sysP s],.map (mapE es),.cells [.map 1],.loop R] (by omega) (by simp) (by rw[List.take_zero,wipe_nil]) ?_).mono ?_
 ·rintro n τ hn rfl _
  have hst:K.take (n+1)=K.take n++[K[n]!]:=by rw[JC,QI hn,getElem!_pos K n hn];rfl
  have hkr:=hKok K[n]! (by rw[getElem!_pos K n hn];exact Q2 hn)
  rw[hst]
  generalize K[n]! = kr at *
  obtain ⟨ez,hez⟩:∃ ez,ez=HR s es (K.take n):=⟨_,rfl⟩
  have hzl:ez.length≤es.length:=by rw[hez];exact HC _ _
  have hzk:Z4 ez=(Z4 es).filter fun x=>!(K.take n).any fun r=>wkB s x r:=by rw[hez];exact RR (p:=fun x=>!(K.take n).any fun r=>wkB s x r) es
  have hznd:(Z4 ez).Nodup:=by rw[hzk];exact hnd.filter _
  have hzok:∀ r∈Z4 ez,RgOk s r:=fun r h=>hkw2 r (by rw[hzk] at h;exact (YB.1 h).1)
  refine QeH (r:=R) Qdp (Qdn (Tryz.f131.body.getD .skip)) rfl e5 (by rw[e3];rfl) (by rw[e1,e2,e3];rfl) (by rw[e1,e2];exact e7) (by rw[e1,e2];exact e8) ?_
  rw[e1,e2,e3,e4,← hez]
  have x24:vs131.idxOf? 24=some 14:=by decide
  simp only[Qdp,JM,x24,Qam,evA,simprocAttr]
  refine ⟨R,rfl,e5,?_⟩
  rw[e6]
  simp only[Qdn,setLoop,evA,simprocAttr]
  refine (c72 (es:=ez) (by omega) rfl).run ?_
  simp only[evA,simprocAttr]
  obtain ⟨K2,hK2⟩:∃ K2,K2=V2 (Z4 ez):=⟨_,rfl⟩
  rw[← hK2]
  have hK2l:K2.length=ez.length:=by rw[hK2,EE];simp[Z4]
  have hK2ok:∀ r∈K2,RgOk s r:=fun r h=>hzok r (by rw[hK2] at h;exact VM.1 h)
  refine RW_s (gf:=175) (cap:=[.cv (.rp [.rsl (K2.flatMap rgC) K2.length] 0)]) rfl (QC rfl) (fun l h=>by cases h;exact ⟨_,rfl⟩) ?_
  generalize hRR2:VJ _ _ _ _ _=R2
  simp only[evA,simprocAttr]
  have d1:R2.vars=vs131:=by rw[← hRR2];rfl
  have d2:R2.ntmps=58:=by rw[← hRR2];rfl
  have d3:R2.params=[27]:=by rw[← hRR2];rfl
  have d4:R2.vals=[sysP s,rgL l,.ptr 0 0,.cv .nils,.ptr 2 0,v5,.undef,.ptr 5 0,.undef,rgL l,.i l.length,.i l.length,.b false,TU K,rgV kr,TU K2,.undef,.undef]:=by rw[← hRR2];rfl
  have d5:R2.state=.ready:=by rw[← hRR2];rfl
  have d6:R2.pending=none:=by rw[← hRR2];rfl
  have d7:QL Tryz.prog vs131 58 R2.assign=some Qdo:=by rw[← hRR2];exact ca67b
  have d8:QL Tryz.prog vs131 58 R2.body=some Qdm:=by rw[← hRR2];exact cb67b
  have d9:({ { R2 with state:=.busy,pending:=none } with state:=.ready,pending:=none }:XC)=R2:=by
   clear hRR2;cases R2;simp_all
  have dO:∀ k,6≤k→Z3 k (.loop R2)=true:=fun k hk=>by
   show QO k R2.vals=true
   rw[d4]
   simp[QO,QR,hv5]
   omega
  clear hRR2
  obtain ⟨RB,hRB⟩:∃ RB:XC,RB = { R with state:=.busy,pending:=none }:=⟨_,rfl⟩
  have hBo:∀ k,6≤k→Z3 k (.loop RB)=true:=fun k hk=>by rw[hRB];exact eo k _ _ (by omega)
  rw[← hRB]
  have hall2:∀ e∈ez,e.1∈K2:=fun e he=>by
   rw[hK2,VM,Z4,ZP]
   exact ⟨e,he,rfl⟩
  refine (c118 K2 6 (fun m τ=>τ=[.cells [sysP s],.map (mapE (HS s ez kr (K2.take m))),.cells [.map 1],.loop RB,.cells [.i kr.1,.i kr.2],.cells [.i kr.1,.i kr.2],.loop R2]) [.cells [sysP s],.map (mapE ez),.cells [.map 1],.loop RB,.cells [.i kr.1,.i kr.2],.cells [.i kr.1,.i kr.2],.loop R2] (by omega) (by simp) (by rw[List.take_zero,QeS]) ?_).mono ?_
  ·rintro m τ hm2 rfl _
   have hst2:K2.take (m+1)=K2.take m++[K2[m]!]:=by rw[JC,QI hm2,getElem!_pos K2 m hm2];rfl
   have hkx:=hK2ok K2[m]! (by rw[getElem!_pos K2 m hm2];exact Q2 hm2)
   rw[hst2]
   generalize K2[m]! = kx at *
   have hwy:=QeR s ez kr kx (K2.take m)
   have hwn:=wipe1_no s ez kr kx (K2.take m)
   have hwnd:(Z4 (HS s ez kr (K2.take m))).Nodup:=by
    have:Z4 (HS s ez kr (K2.take m))=(Z4 ez).filter fun x=>!(decide (x∈K2.take m)&&wkB s x kr):=RR (p:=fun x=>!(decide (x∈K2.take m)&&wkB s x kr)) ez
    rw[this];exact hznd.filter _
   have hwok:∀ r∈Z4 (HS s ez kr (K2.take m)),RgOk s r:=fun r h=>hzok r (by
    have:Z4 (HS s ez kr (K2.take m))=(Z4 ez).filter fun x=>!(decide (x∈K2.take m)&&wkB s x kr):=RR (p:=fun x=>!(decide (x∈K2.take m)&&wkB s x kr)) ez
    rw[this] at h;exact (YB.1 h).1)
   generalize HS s ez kr (K2.take m)=em at *
   have hxw:=hkx.w hn12 hm
   have hrw:=hkr.w hn12 hm
   have hdel:∀ J,J0 KR [.map 1,rgV kx] (AObj.cells [sysP s] :: .map (mapE em)::J)=some (.tup [],AObj.cells [sysP s] :: .map (mapE (delE em kx))::J):=fun J =>
    map_del hwnd (key_w fun r h=>(hwok r h).w hn12 hm) hxw rfl
   have heq:∀ σ,OI true KR [rgV kx,rgV kr] σ=some (.b (!decide (kx=kr)),σ):=fun σ=>by
    simp only[OI,rg_eq hxw hrw,Option.map_some,if_true]
   refine QeH (r:=R2) Qdo Qdm rfl d5 (by rw[d3];rfl) (by rw[d1,d2,d3];rfl) (by rw[d1,d2];exact d7) (by rw[d1,d2];exact d8) ?_
   rw[d1,d2,d3,d4]
   have x27:vs131.idxOf? 27=some 16:=by decide
   simp only[Qdo,JM,x27,Qam,evA,simprocAttr]
   refine ⟨R2,rfl,d5,?_⟩
   rw[d6]
   simp only[Qdm,setLoop,evA,simprocAttr]
   refine DW_s [] [] hmix (by kernel_rfl) rfl ?_
   obtain ⟨⟨x1,x2⟩,x3,x4⟩:=hkx
   obtain ⟨⟨r1,r2⟩,r3,r4⟩:=hkr
   have x4':kx.2<256:=by unfold setN at x4;omega
   have r4':kr.2<256:=by unfold setN at r4;omega
   obtain ⟨c,hc⟩:∃ c:Nat,kr.1=(c:Int):=⟨kr.1.toNat,by omega⟩
   obtain ⟨d,hd⟩:∃ d:Nat,kx.1=(d:Int):=⟨kx.1.toNat,by omega⟩
   have hcl:c<s.cl.length:=by omega
   have hdl:d<s.cl.length:=by omega
   have hsub:=sub_wrap (a:=kr.2) (b:=kx.2) ⟨r3,r4'⟩ ⟨x3,by omega⟩
   have hwk1:wkB s kx kr=(!decide (kx=kr)&&(covB s c d&&(subI kr.2 kx.2 == 0))):=by unfold wkB;rw[hc,hd,Int.toNat_natCast,Int.toNat_natCast]
   have clo:∀ em':List (Rt × Int),∀ o∈[AObj.cells [sysP s],.map (mapE em'),.cells [.map 1],.loop RB,.cells [.i kr.1,.i kr.2],.cells [.i kr.1,.i kr.2],.loop R2],Z3 7 o=true:=fun em' o ho=>by
    simp only[ZD,WK,or_false] at ho
    rcases ho with rfl | rfl | rfl | rfl | rfl | rfl | rfl
    ·rfl
    ·exact FX _ _
    ·rfl
    ·exact hBo 7 (by omega)
    ·rfl
    ·rfl
    ·exact dO 7 (by omega)
   simp only[heq,evA,simprocAttr]
   cases hdc:decide (kx=kr) with
   | true =>
    rw[hdc] at hwk1
    have hw0:=hwn hwk1
    simp only[Y2,P0,evA,simprocAttr]
    refine ⟨_,rfl,?_⟩
    simp only[setLoop,evA,simprocAttr]
    rw[d9]
    exact ⟨[.cells [sysP s],.map (mapE em),.cells [.map 1],.loop RB,.cells [.i kr.1,.i kr.2],.cells [.i kr.1,.i kr.2],.loop R2],_,rfl,QC rfl,.inr (clo em),by rw[← hw0]⟩
   | false =>
   rw[hdc] at hwk1
   simp only[ZY,hc,hd,XP hcl,W3,FD hcl,P1 hdl,DN hdl,evA,simprocAttr]
   cases hcv:covB s c d with
   | false =>
    rw[hcv] at hwk1
    have hw0:=hwn hwk1
    simp only[P0,evA,simprocAttr]
    refine ⟨_,rfl,?_⟩
    simp only[setLoop,evA,simprocAttr]
    rw[d9]
    exact ⟨[.cells [sysP s],.map (mapE em),.cells [.map 1],.loop RB,.cells [.i kr.1,.i kr.2],.cells [.i kr.1,.i kr.2],.loop R2],_,by rw[hc];rfl,QC rfl,.inr (clo em),by rw[← hw0]⟩
   | true =>
   rw[hcv] at hwk1
   simp only[hsub,evA,simprocAttr]
   cases hsb:(subI kr.2 kx.2 == 0) with
   | false =>
    rw[hsb] at hwk1
    have hw0:=hwn hwk1
    simp only[P0,evA,simprocAttr]
    refine ⟨_,rfl,?_⟩
    simp only[setLoop,evA,simprocAttr]
    rw[d9]
    exact ⟨[.cells [sysP s],.map (mapE em),.cells [.map 1],.loop RB,.cells [.i kr.1,.i kr.2],.cells [.i kr.1,.i kr.2],.loop R2],_,by rw[hc];rfl,QC rfl,.inr (clo em),by rw[← hw0]⟩
   | true =>
    rw[hsb] at hwk1
    have hw0:=hwy hwk1
    have hdel':∀ J,J0 KR [.map 1,.agg [.i d,.i kx.2]] (AObj.cells [sysP s] :: .map (mapE em)::J)=some (.tup [],AObj.cells [sysP s] :: .map (mapE (delE em kx))::J):=fun J=>by rw[← hd];exact hdel J
    simp only[hdel',P0,evA,simprocAttr]
    refine ⟨_,rfl,?_⟩
    simp only[setLoop,evA,simprocAttr]
    rw[d9]
    exact ⟨[.cells [sysP s],.map (mapE (delE em kx)),.cells [.map 1],.loop RB,.cells [.i kr.1,.i kr.2],.cells [.i kr.1,.i kr.2],.loop R2],_,by rw[hc];rfl,QC rfl,.inr (clo _),by rw[← hw0]⟩
  ·rintro r τ ⟨rfl,rfl⟩
   refine ⟨R2,rfl,(by rw[d5];intro h;cases h),?_⟩
   rw[d6]
   simp only[setLoop,P0,evA,simprocAttr]
   refine ⟨RB,rfl,?_⟩
   rw[hRB]
   simp only[evA,simprocAttr]
   rw[e9]
   have hw1:HS s ez kr (K2.take K2.length)=HR s es (K.take n++[kr]):=by
    rw[X7,hez]
    exact QeT s es kr (K.take n) K2 (by rw[← hez];exact hall2)
   refine ⟨[.cells [sysP s],.map (mapE (HS s ez kr (K2.take K2.length))),.cells [.map 1],.loop R],_,rfl,QC rfl,.inr ?_,by rw[hw1]⟩
   intro o ho
   simp only[ZD,WK,or_false] at ho
   rcases ho with rfl | rfl | rfl | rfl
   ·rfl
   ·exact FX _ _
   ·rfl
   ·rw[← e9];exact eo 4 _ _ (by omega)
 ·rintro r τ ⟨rfl,rfl⟩
  refine ⟨R,rfl,(by rw[e5];intro h;cases h),?_⟩
  rw[e6,X7]
  have hwl:(HR s es K).length≤es.length:=HC _ _
  have hfin:V2 (Z4 (HR s es K))=XV s l:=by
   have h1:Z4 (HR s es K)=(ddR l).filter fun x=>!(ddR l).any fun r=>wkB s x r:=by
    have:Z4 (HR s es K)=(Z4 es).filter fun x=>!K.any fun r=>wkB s x r:=RR (p:=fun x=>!K.any fun r=>wkB s x r) es
    rw[this,hdd]
    apply JD
    intro x _
    congr 1
    rw[Q8,ZZ,ZZ]
    constructor <;> rintro ⟨r,h1,h2⟩ <;> refine ⟨r,?_,h2⟩
    ·rw[hK,VM,hdd] at h1;exact h1
    ·rw[hK,VM,hdd];exact h1
   rw[h1]
   exact (EF ((H0 _).filter _) ((GY _).filter _)).symm
  simp only[setLoop,evA,simprocAttr]
  refine (c72 (es:=HR s es K) (by omega) rfl).run ?_
  rw[hfin]
  have hfl:(XV s l).length<2 ^ 38:=by
   rw[← hfin,EE]
   show ((HR s es K).map (·.1)).length<_
   rw[ZK];omega
  simp only[evA,simprocAttr]
  refine (ac71 (XV s l) hfl _).mono ?_
  intro r τ hA
  have hnu:=hA.nu
  simp only[hnu,evA,simprocAttr]
  exact hA
def lstV (s:Sys) (l:List Rt):AV :=
 if rdE s (sysE s).2.2 [l]≠0 then .tup [rgL [],.i (rdE s (sysE s).2.2 [l])] else .tup [rgL (XV s l),.i 0]
theorem p31 (s:Sys) (hs:SSz s) (l:List Rt) (hl:l.length<2 ^ 63):PC Tryz.prog 102 [sysV s,rgL l] (lstV s l):=by
 refine ⟨ZF (fok102 true) (QC rfl) ?_,by unfold lstV;repeat (split <;> try rfl)⟩
 have h63:=fun σ l0 h0=>c63 s hs [l] (by simpa using hl) (by simp) σ l0 h0
 have hdec:=Qcd (s:=s) (l:=l)
 have hn0:=QaV (s:=s)
 have hQ:(sysQ s).isUndef=false:=by unfold sysQ;split <;> rfl
 have hQP:(sysE s).2.2=0→sysQ s=sysP s:=fun h=>if_pos h
 unfold lstV
 generalize rdE s (sysE s).2.2 [l]=e at *
 by_cases he:e=0
 rotate_left
 ·have hb:(e != 0)=true:=by simpa using he
  rw[if_pos he]
  simp only[ic102,WI,cellsOf,evA,simprocAttr]
  refine (h63 _ 1 rfl).run ?_
  generalize sysQ s=Q at *
  simp only[hQ,hb,evA,simprocAttr]
  exact .tup (.cons (.c .nl) (.cons (.c (.c _ trivial)) .nil))
 have hb2:(e != 0)=false:=by simpa using he
 obtain ⟨k1,k2⟩:=hdec he
 obtain ⟨⟨hn1,hn12⟩,hm,hok⟩:=hn0 k1
 obtain ⟨hl40,hr⟩:=ML k2
 rw[if_neg (show ¬ (e≠0) from fun h=>h he)]
 rw[hQP k1] at h63
 simp only[ic102,WI,cellsOf,evA,simprocAttr]
 refine (h63 _ 1 rfl).run ?_
 simp only[hb2,evA,simprocAttr]
 refine ((ac67 s hn12 hm l (by omega) hr).accs rfl (fun g=>rfl) _).mono ?_
 intro r τ hA
 have hnu:=hA.nu
 simp only[hnu,evA,simprocAttr]
 exact .tup (.cons (GI hA (MN _)) (.cons (.c (.c _ trivial)) .nil))
section
variable {p q:CV→Prop} {σ:List AObj}
end
structure Tch where
 rg:List Rt
 b:Int
 e:Int
deriving Inhabited
structure Car where
 cl:Int
 ft:Int
deriving Inhabited
structure Pln where
 sys:Sys
 le:List Int
 te:List Tch
 ca:List Car
 day:Dy
abbrev rgR (l:List Rt):CV:=.rsl (l.flatMap rgC) l.length
abbrev tchC (t:Tch):List CV:=[rgR t.rg,.int .i64 t.b,.int .i64 t.e]
abbrev tchA (t:Tch):AV:=.agg [.cv (rgR t.rg),.i t.b,.i t.e]
def SV (l:List Tch):List CV:=l.flatMap tchC
abbrev tchR (l:List Tch):CV:=.rsl (SV l) l.length
abbrev carC (c:Car):List CV:=[.int .i64 c.cl,.int .i64 c.ft]
abbrev carA (c:Car):AV:=.agg [.i c.cl,.i c.ft]
def QaH (l:List Car):List CV:=l.flatMap carC
abbrev carR (l:List Car):CV:=.rsl (QaH l) l.length
theorem BI (t:Tch):(tchC t).length=3:=rfl
theorem CX (c:Car):(carC c).length=2:=rfl
theorem QeW (l:List Tch):(SV l).length=l.length*3:=UG BI l
theorem Qey (l:List Car):(QaH l).length=l.length*2:=UG CX l
theorem tch_ld {l:List Tch} {k:Nat} (h:k<l.length) (σ:List AObj):YF 3 [.cv (.rp (SV l) (k*3))] σ=some (tchA l[k]!,σ):=by
 have h1:k*3+3≤(SV l).length:=by rw[QeW];omega
 have h2:=G3 BI h
 simp only[YF,h1,if_true]
 unfold SV;rw[h2];rfl
theorem car_ld {l:List Car} {k:Nat} (h:k<l.length) (σ:List AObj):YF 2 [.cv (.rp (QaH l) (k*2))] σ=some (carA l[k]!,σ):=by
 have h1:k*2+2≤(QaH l).length:=by rw[Qey];omega
 have h2:=G3 CX h
 simp only[YF,h1,if_true]
 unfold QaH;rw[h2];rfl
abbrev plnC (p:Pln):List AV:=[.cv (clsR p.sys.cl),.cv (strR p.sys.co),ints p.le,.cv (tchR p.te),.cv (carR p.ca),.cv (minR p.day.mi),.cv (lesR p.day.ls)]
abbrev plnV (p:Pln):AV:=.agg (plnC p)
abbrev plC9 (p:Pln):List AV:=[.cv (clsR p.sys.cl),.cv (strR p.sys.co),ints p.le,.cv (tchR p.te),.cv (carR p.ca),.cv (minR p.day.mi),.cv (lesR p.day.ls),.cv (minR p.day.mi),.cv (lesR p.day.ls)]
abbrev plV9 (p:Pln):AV:=.agg (plC9 p)
def lstE (s:Sys) (l:List Rt):Int:=rdE s (sysE s).2.2 [l]
theorem lst_e (s:Sys) (l:List Rt):∃ L,lstV s l=.tup [rgL L,.i (lstE s l)]:=by
 unfold lstV lstE
 by_cases h:rdE s (sysE s).2.2 [l]=0
 ·rw[if_neg (fun g=>g h),h];exact ⟨_,rfl⟩
 ·rw[if_pos h];exact ⟨_,rfl⟩
def mayE (s:Sys) (l:List Rt) (c f:Int):Int :=
 if lstE s l≠0 then lstE s l else if inB c 0 ((s.cl.length:Int)-1)=false then 4 else if inB f 0 (setN s-1)=false then 7 else 0
theorem may_e (s:Sys) (l:List Rt) (c f:Int):mayV s l c f=.tup [.b (decide (mayE s l c f=0)&&alwB s l c f),.i (mayE s l c f)]:=by
 unfold mayV mayE lstE
 split
 ·rename_i h;rw[decide_eq_false h];rfl
 ·split
  ·rfl
  ·split
   ·rfl
   ·rfl
def tchE (s:Sys) (t:Tch):Int :=
 if lstE s t.rg≠0 then lstE s t.rg else if outF 0 1440 [t.b,t.e]=true then 7 else if t.b>t.e then 2 else 0
def carE (s:Sys) (c:Car):Int:=mayE s [] c.cl c.ft
def whoB (p:Pln) (l:Les):Bool:=decide (l.le≥p.le.length)||decide (l.te≥p.te.length)||decide (l.ca≥p.ca.length)
def plnE (p:Pln):Int :=
 if (sysE p.sys).2.2≠0 then (sysE p.sys).2.2
 else if (dyE p.day).2.2≠0 then (dyE p.day).2.2
 else if (decide ((p.le.length:Int)>8)||decide ((p.te.length:Int)>8)||decide ((p.ca.length:Int)>8))=true then 3
 else if outF 0 ((p.sys.cl.length:Int)-1) p.le=true then 4
 else if (fndE (fun i=>tchE p.sys p.te[i]!) 0 p.te.length).2≠0 then (fndE (fun i=>tchE p.sys p.te[i]!) 0 p.te.length).2
 else if (fndE (fun i=>carE p.sys p.ca[i]!) 0 p.ca.length).2≠0 then (fndE (fun i=>carE p.sys p.ca[i]!) 0 p.ca.length).2
 else if (p.day.ls.any (whoB p))=true then 4 else 0
structure PSz (p:Pln):Prop where
 sys:SSz p.sys
 le:p.le.length<2 ^ 63
 te:p.te.length<2 ^ 63
 ca:p.ca.length<2 ^ 63
 rg:∀ i,i<p.te.length→(p.te[i]!).rg.length<2 ^ 63
 day:DSz p.day
theorem le133 (p:Pln) (hp:PSz p) (i:Int) (t:Tch) (ht:t.rg.length<2 ^ 63):PC Tryz.prog 79 [plV9 p,.i i,tchA t] (.i (tchE p.sys t)):=by
 refine ⟨ZF (fok79 true) (QC rfl) ?_,rfl⟩
 have h31:=p31 p.sys hp.sys t.rg ht
 obtain ⟨L,hL⟩:=lst_e p.sys t.rg
 rw[hL] at h31
 unfold tchE
 simp only[ic79,WI,cellsOf,evA,simprocAttr]
 refine h31.call frz ?_
 by_cases he:lstE p.sys t.rg=0
 ·have hb:(lstE p.sys t.rg != 0)=false:=by simpa using he
  rw[if_neg (fun h=>h he)]
  simp only[hb,evA,simprocAttr]
  refine (le63 0 1440 [t.b,t.e] (EY (by simp))).call frz ?_
  cases h1:outF 0 1440 [t.b,t.e] with
  | true =>
   simp only[evA,simprocAttr]
   exact frz
  | false =>
   by_cases h2:t.b>t.e
   ·simp only[h2,evA,simprocAttr]
    exact frz
   ·simp only[h2,evA,simprocAttr]
    exact frz
 ·have hb:(lstE p.sys t.rg != 0)=true:=by simpa using he
  rw[if_pos he]
  simp only[hb,evA,simprocAttr]
  exact frz
theorem le135 (p:Pln) (hp:PSz p) (i:Int) (c:Car):PC Tryz.prog 81 [plV9 p,.i i,carA c] (.i (carE p.sys c)):=by
 refine ⟨ZF (fok81 true) (QC rfl) ?_,rfl⟩
 have h29:=c29 p.sys hp.sys [] (by decide) c.cl c.ft
 rw[may_e] at h29
 unfold carE
 simp only[ic81,WI,cellsOf,evA,simprocAttr]
 refine h29.call (.cons (GE (k:=0) _ rfl) (.cons (.c .nl) (.cons (.c (.c _ trivial)) (.cons (.c (.c _ trivial)) .nil)))) ?_
 simp only[evA,simprocAttr]
 exact frz
theorem le132 (m:List Tch) (f:FuncId) (x:AV) (g:Nat→Int) (hm:m.length<2 ^ 63) (hx:QR 0 x=true) (hf:∀ i,i<m.length→∀ σ,AC Tryz.prog f [x,.i i,tchA m[i]!] σ fun r τ=>r=.i (g i)∧τ=σ) :
  PC Tryz.prog 78 [.cv (tchR m),.bm f [x]] (.tup [.i (fndE g 0 m.length).1,.i (fndE g 0 m.length).2]):=by
 refine ⟨ZF (fok78 true) (QC rfl) ?_,rfl⟩
 simp only[ic78,evA,simprocAttr]
 refine ZW m.length (fun i s=>(∀ j,j<i→g j=0)∧∃ v2 v3 v4 v5 v9 v10,s=⟨[.cv (tchR m),.bm f [x],v2,v3,v4,v5,.cv (tchR m),.i m.length,.i i,v9,v10],[]⟩) ?_ 0 (QF _) ⟨by omega,_,_,_,_,_,_,rfl⟩
 rintro i s hi ⟨hall,v2,v3,v4,v5,v9,v10,rfl⟩
 by_cases h:i<m.length
 ·simp only[ic78l0,QJ,h,XP h,tch_ld h,evA,simprocAttr]
  refine (hf i h _).run ?_
  by_cases hg:g i=0
  ·have hb:(g i != 0)=false:=by simpa using hg
   simp only[hb,Q6 (show i+1<2 ^ 63 by omega),evA,simprocAttr]
   refine W1 [] _ rfl (by first | trivial | omega) (QF _) (by simp) ?_
   have hx2:∀ k,QR k (.bm f [x])=true:=fun k=>by simp only[QR,QO,Y8 (QF k) x hx,WH]
   simp only[clip,hx2,if_true]
   refine ⟨fun j hj=>?_,_,_,_,_,_,_,rfl⟩
   rcases QQ.1 hj with hj | rfl
   ·exact hall j hj
   ·exact hg
  ·have hb:(g i != 0)=true:=by simpa using hg
   rw[VO m.length 0 i (QF _) (by omega) (fun j _ hj=>hall j hj) hg]
   simp only[hb,evA,simprocAttr]
   exact frz
 ·have:i=m.length:=by omega
  subst this
  rw[J7 m.length 0 fun j _ hj=>hall j (by omega)]
  simp only[ic78l0,QJ,h,evA,simprocAttr]
  exact frz
theorem le134 (m:List Car) (f:FuncId) (x:AV) (g:Nat→Int) (hm:m.length<2 ^ 63) (hx:QR 0 x=true) (hf:∀ i,i<m.length→∀ σ,AC Tryz.prog f [x,.i i,carA m[i]!] σ fun r τ=>r=.i (g i)∧τ=σ) :
  PC Tryz.prog 80 [.cv (carR m),.bm f [x]] (.tup [.i (fndE g 0 m.length).1,.i (fndE g 0 m.length).2]):=by
 refine ⟨ZF (fok80 true) (QC rfl) ?_,rfl⟩
 simp only[ic80,evA,simprocAttr]
 refine ZW m.length (fun i s=>(∀ j,j<i→g j=0)∧∃ v2 v3 v4 v5 v9 v10,s=⟨[.cv (carR m),.bm f [x],v2,v3,v4,v5,.cv (carR m),.i m.length,.i i,v9,v10],[]⟩) ?_ 0 (QF _) ⟨by omega,_,_,_,_,_,_,rfl⟩
 rintro i s hi ⟨hall,v2,v3,v4,v5,v9,v10,rfl⟩
 by_cases h:i<m.length
 ·simp only[ic80l0,QJ,h,XP h,car_ld h,evA,simprocAttr]
  refine (hf i h _).run ?_
  by_cases hg:g i=0
  ·have hb:(g i != 0)=false:=by simpa using hg
   simp only[hb,Q6 (show i+1<2 ^ 63 by omega),evA,simprocAttr]
   refine W1 [] _ rfl (by first | trivial | omega) (QF _) (by simp) ?_
   have hx2:∀ k,QR k (.bm f [x])=true:=fun k=>by simp only[QR,QO,Y8 (QF k) x hx,WH]
   simp only[clip,hx2,if_true]
   refine ⟨fun j hj=>?_,_,_,_,_,_,_,rfl⟩
   rcases QQ.1 hj with hj | rfl
   ·exact hall j hj
   ·exact hg
  ·have hb:(g i != 0)=true:=by simpa using hg
   rw[VO m.length 0 i (QF _) (by omega) (fun j _ hj=>hall j hj) hg]
   simp only[hb,evA,simprocAttr]
   exact frz
 ·have:i=m.length:=by omega
  subst this
  rw[J7 m.length 0 fun j _ hj=>hall j (by omega)]
  simp only[ic80l0,QJ,h,evA,simprocAttr]
  exact frz
theorem max3_gt (a b c:Int):decide ((if c>(if b>a then b else a) then c else if b>a then b else a)>8)=(decide (a>8)||decide (b>8)||decide (c>8)):=by
 rw[Q8]
 simp only[decide_eq_true_eq,WR]
 split <;> split <;> omega
theorem MQ {l:List Les} {k:Nat} (h:k<l.length) (σ:List AObj):YF 7 [.cv (.rp (F0 l) (k*7))] σ=some (.agg [.i (l[k]!).le,.i (l[k]!).te,.i (l[k]!).ca,.i (l[k]!).b,.i (l[k]!).e,.i (l[k]!).f,.i (l[k]!).o],σ):=Qcl h σ
def lkP (p:Pln):AV:=if (sysE p.sys).2.2≠0∨(dyE p.day).2.2≠0 then .agg (List.replicate 9 (.cv .nils)) else plV9 p
theorem le93 (p:Pln) (hp:PSz p):PA Tryz.prog 32 [plnV p] (.tup [lkP p,.i (plnE p)]):=by
 refine ⟨ZF (fok32 true) (QC rfl) ?_,by unfold lkP;split <;> rfl,rfl⟩
 have h53:=c53 p.sys hp.sys
 unfold chkV at h53
 simp only[ic32,WI,cellsOf,evA,simprocAttr]
 refine h53.call frz ?_
 have hlk0:(sysE p.sys).2.2≠0∨(dyE p.day).2.2≠0→lkP p=.agg (List.replicate 9 (.cv .nils)):=fun h=>by unfold lkP;rw[if_pos h]
 have hlk1:¬ ((sysE p.sys).2.2≠0∨(dyE p.day).2.2≠0)→lkP p=plV9 p:=fun h=>by unfold lkP;rw[if_neg h]
 unfold plnE
 by_cases e1:(sysE p.sys).2.2=0
 rotate_left
 ·have hb:((sysE p.sys).2.2 != 0)=true:=by simpa using e1
  rw[if_pos e1,hlk0 (.inl e1)]
  simp only[hb,evA,simprocAttr]
  exact .tup (.cons (.agg (.cons (.c (.c _ trivial)) (.cons (.c (.c _ trivial)) (.cons (.c (.c _ trivial)) (.cons (.c (.c _ trivial)) (.cons (.c (.c _ trivial)) (.cons (.c (.c _ trivial)) (.cons (.c (.c _ trivial)) (.cons (.c (.c _ trivial)) (.cons (.c (.c _ trivial)) .nil)))))))))) (.cons (.c (.c _ trivial)) .nil))
 have hb1:((sysE p.sys).2.2 != 0)=false:=by simpa using e1
 rw[if_neg (fun h=>h e1)]
 simp only[hb1,evA,simprocAttr]
 refine (le72 p.day hp.day).call ?_
 by_cases e2:(dyE p.day).2.2=0
 rotate_left
 ·have hb:((dyE p.day).2.2 != 0)=true:=by simpa using e2
  rw[if_pos e2,hlk0 (.inr e2)]
  simp only[hb,evA,simprocAttr]
  exact .tup (.cons (.agg (.cons (.c (.c _ trivial)) (.cons (.c (.c _ trivial)) (.cons (.c (.c _ trivial)) (.cons (.c (.c _ trivial)) (.cons (.c (.c _ trivial)) (.cons (.c (.c _ trivial)) (.cons (.c (.c _ trivial)) (.cons (.c (.c _ trivial)) (.cons (.c (.c _ trivial)) .nil)))))))))) (.cons (.c (.c _ trivial)) .nil))
 have hb2:((dyE p.day).2.2 != 0)=false:=by simpa using e2
 rw[if_neg (fun h=>h e2),hlk1 (fun h=>h.elim (fun h=>h e1) (fun h=>h e2))]
 have hok:=LO e2
 have fin:∀ {σ:List AObj} {z:Int},FrzV anyC σ (.tup [plV9 p,.i z]) (.tup [plV9 p,.i z]):=fun {σ z}=>GE (k:=0) _ rfl
 simp only[hb2,evA,simprocAttr]
 rw[max3_gt]
 cases h3:(decide ((p.le.length:Int)>8)||decide ((p.te.length:Int)>8)||decide ((p.ca.length:Int)>8)) with
 | true =>
  rw[if_pos rfl]
  simp only[evA,simprocAttr]
  exact fin
 | false =>
 rw[if_neg (by decide)]
 have hlens:p.le.length≤8∧p.te.length≤8∧p.ca.length≤8:=by
  simp only[X8,decide_eq_false_iff_not] at h3
  omega
 have hcl:=hp.sys.cl
 have hw:IntKind.i64.wrap ((p.sys.cl.length:Int)-1)=(p.sys.cl.length:Int)-1:=ZC (by omega)
 simp only[hw,evA,simprocAttr]
 refine (le63 0 ((p.sys.cl.length:Int)-1) p.le hp.le).call frz ?_
 cases h4:outF 0 ((p.sys.cl.length:Int)-1) p.le with
 | true =>
  rw[if_pos rfl]
  simp only[evA,simprocAttr]
  exact fin
 | false =>
 rw[if_neg (by decide)]
 simp only[evA,simprocAttr]
 refine (le132 p.te 79 (plV9 p) (fun i=>tchE p.sys p.te[i]!) hp.te rfl (fun i hi σ=>(le133 p hp i p.te[i]! (hp.rg i hi)).call (KW (k:=0) _ rfl) ⟨rfl,rfl⟩)).call (KW (k:=0) _ rfl) ?_
 generalize fndE (fun i=>tchE p.sys p.te[i]!) 0 p.te.length=f1
 obtain ⟨f1a,f1b⟩:=f1
 simp only
 by_cases h5:f1b=0
 rotate_left
 ·have hb:(f1b != 0)=true:=by simpa using h5
  rw[if_pos h5]
  simp only[hb,evA,simprocAttr]
  exact fin
 have hb5:(f1b != 0)=false:=by simpa using h5
 rw[if_neg (fun h=>h h5)]
 simp only[hb5,evA,simprocAttr]
 refine (le134 p.ca 81 (plV9 p) (fun i=>carE p.sys p.ca[i]!) hp.ca rfl (fun i hi σ=>(le135 p hp i p.ca[i]!).call (KW (k:=0) _ rfl) ⟨rfl,rfl⟩)).call (KW (k:=0) _ rfl) ?_
 generalize fndE (fun i=>carE p.sys p.ca[i]!) 0 p.ca.length=f2
 obtain ⟨f2a,f2b⟩:=f2
 simp only
 by_cases h6:f2b=0
 rotate_left
 ·have hb:(f2b != 0)=true:=by simpa using h6
  rw[if_pos h6]
  simp only[hb,evA,simprocAttr]
  exact fin
 have hb6:(f2b != 0)=false:=by simpa using h6
 rw[if_neg (fun h=>h h6)]
 simp only[hb6,evA,simprocAttr]
 have h12:=hok.l12
 have hob:∀ o∈[AObj.cells (plnC p),.cells (plC9 p),.cells [.cv (minR p.day.mi),.cv (lesR p.day.ls)]],Z3 3 o=true:=by
  intro o ho
  simp only[ZD,WK,or_false] at ho
  rcases ho with rfl | rfl | rfl <;> rfl
 subst h6
 refine ZW p.day.ls.length (fun i s=>(∀ j,j<i→whoB p p.day.ls[j]! = false)∧∃ v5 v15 v16,s=⟨[plnV p,.ptr 0 0,.ptr 1 0,.i 0,.ptr 2 0,v5,.b false,.b false,.b false,.b false,.b false,.b false,.cv (lesR p.day.ls),.i p.day.ls.length,.i i,v15,v16],[.cells (plnC p),.cells (plC9 p),.cells [.cv (minR p.day.mi),.cv (lesR p.day.ls)]]⟩) ?_ 0 (QF _) ⟨by omega,_,_,_,rfl⟩
 rintro i s hi ⟨hall,v5,v15,v16,rfl⟩
 by_cases h:i<p.day.ls.length
 ·have hld:=MQ h
  have hany:whoB p p.day.ls[i]! = true→(p.day.ls.any (whoB p))=true:=fun hw=>ZZ.2 ⟨p.day.ls[i]!,by rw[getElem!_pos p.day.ls i h];exact Q2 _,hw⟩
  have hwho:whoB p p.day.ls[i]! = (decide ((p.day.ls[i]!).le≥p.le.length)||decide ((p.day.ls[i]!).te≥p.te.length)||decide ((p.day.ls[i]!).ca≥p.ca.length)):=rfl
  generalize hll:p.day.ls[i]! = l at *
  obtain ⟨l1,l2,l3,l4,l5,l6,l7⟩:=l
  simp only at hwho hld
  simp only[ic32l0,QJ,h,F5 h,hld,evA,simprocAttr]
  have yes:whoB p ⟨l1,l2,l3,l4,l5,l6,l7⟩=true→(p.day.ls.any (whoB p))=true:=hany
  cases w1:decide (l1≥(p.le.length:Int)) with
  | true =>
   rw[w1] at hwho
   rw[yes (by rw[hwho];rfl),if_pos rfl]
   simp only[evA,simprocAttr]
   exact fin
  | false =>
  cases w2:decide (l2≥(p.te.length:Int)) with
  | true =>
   rw[w1,w2] at hwho
   rw[yes (by rw[hwho];rfl),if_pos rfl]
   simp only[w2,evA,simprocAttr]
   exact fin
  | false =>
  cases w3:decide (l3≥(p.ca.length:Int)) with
  | true =>
   rw[w1,w2,w3] at hwho
   rw[yes (by rw[hwho];rfl),if_pos rfl]
   simp only[w2,w3,evA,simprocAttr]
   exact fin
  | false =>
   rw[w1,w2,w3] at hwho
   simp only[w2,w3,Q6 (show i+1<2 ^ 63 by omega),evA,simprocAttr]
   refine W1 [.cells (plnC p),.cells (plC9 p),.cells [.cv (minR p.day.mi),.cv (lesR p.day.ls)]] _ rfl (by first | trivial | omega) (QF _) hob ⟨fun j hj=>?_,_,_,_,rfl⟩
   rcases QQ.1 hj with hj | rfl
   ·exact hall j hj
   ·rw[hll];exact hwho
 ·have hie:i=p.day.ls.length:=by omega
  have hno:(p.day.ls.any (whoB p))=false:=by
   rw[W6]
   intro x hx
   obtain ⟨j,hj,rfl⟩:=WN.1 hx
   have:=hall j (by omega)
   rw[getElem!_pos p.day.ls j hj] at this
   rw[this];decide
  rw[hno,if_neg (by decide)]
  simp only[ic32l0,QJ,h,evA,simprocAttr]
  exact fin
structure LkOk (p:Pln):Prop where
 sys:(sysE p.sys).2.2=0
 day:DyOk p.day
 dy0:(dyE p.day).2.2=0
 le:p.le.length≤8
 te:p.te.length≤8
 ca:p.ca.length≤8
 cls:∀ z∈p.le,0≤z∧z≤(p.sys.cl.length:Int)-1
 tch:∀ i,i<p.te.length→tchE p.sys p.te[i]! = 0
 car:∀ i,i<p.ca.length→carE p.sys p.ca[i]! = 0
 who:∀ i,i<p.day.ls.length→(p.day.ls[i]!).le<p.le.length∧(p.day.ls[i]!).te<p.te.length∧(p.day.ls[i]!).ca<p.ca.length
theorem Qdc {p:Pln} (h:plnE p=0):LkOk p:=by
 unfold plnE at h
 split at h
 ·rename_i h1;exact absurd h h1
 rename_i h1
 split at h
 ·rename_i h2;exact absurd h h2
 rename_i h2
 split at h
 ·exact absurd h (by decide)
 rename_i h3
 split at h
 ·exact absurd h (by decide)
 rename_i h4
 split at h
 ·rename_i h5;exact absurd h h5
 rename_i h5
 split at h
 ·rename_i h6;exact absurd h h6
 rename_i h6
 split at h
 ·exact absurd h (by decide)
 rename_i h7
 have h3:(decide ((p.le.length:Int)>8)||decide ((p.te.length:Int)>8)||decide ((p.ca.length:Int)>8))=false:=by simpa using h3
 simp only[X8,decide_eq_false_iff_not] at h3
 have h7:p.day.ls.any (whoB p)=false:=by cases hh:p.day.ls.any (whoB p) with | false=>rfl | true=>exact absurd hh h7
 rw[W6] at h7
 refine ⟨JE.1 h1,LO (JE.1 h2),JE.1 h2,by omega,by omega,by omega,VL.1 (by cases hh:outF 0 ((p.sys.cl.length:Int)-1) p.le with | false=>rfl | true=>exact absurd hh h4),fun i hi=>LJ _ 0 (JE.1 h5) i (QF _) (by omega),fun i hi=>LJ _ 0 (JE.1 h6) i (QF _) (by omega),fun i hi=>?_⟩
 have:=h7 p.day.ls[i]! (by rw[getElem!_pos p.day.ls i hi];exact Q2 _)
 unfold whoB at this
 simp only[WR,decide_eq_true_eq,not_or] at this
 omega
def hrF (f:Les→Int) (n:Nat) (ls:List Les):Nat→List Int
 | 0=>List.replicate n 0
 | k+1=>(hrF f n ls k).set (f ls[k]!).toNat (gI (hrF f n ls k) (f ls[k]!).toNat+((ls[k]!).e-(ls[k]!).b))
theorem DC (f:Les→Int) (n:Nat) (ls:List Les):∀ k,(hrF f n ls k).length=n
 | 0=>by simp[hrF]
 | k+1=>by simp[hrF,DC f n ls k]
theorem Qar {f:Les→Int} {n:Nat} {ls:List Les} (h:∀ i,i<ls.length→0≤(ls[i]!).e-(ls[i]!).b∧(ls[i]!).e-(ls[i]!).b≤1440):∀ k,k≤ls.length→∀ j,0≤gI (hrF f n ls k) j∧gI (hrF f n ls k) j≤1440*k
 | 0,_,j=>by
  unfold hrF gI
  rw[YN]
  split <;> simp
 | k+1,hk,j=>by
  have ih:=Qar (f:=f) (n:=n) h k (by omega)
  have h1:=h k (by omega)
  have ij:=ih j
  have ik:=ih (f ls[k]!).toNat
  unfold hrF
  by_cases hl:(f ls[k]!).toNat<(hrF f n ls k).length
  ·rw[JO hl]
   split <;> omega
  ·rw[KE (by omega)]
   omega
abbrev hrsV (p:Pln):AV :=
 .agg [ints (hrF (·.le) p.le.length p.day.ls p.day.ls.length),ints (hrF (·.te) p.te.length p.day.ls p.day.ls.length),ints (hrF (·.ca) p.ca.length p.day.ls p.day.ls.length)]
def hrsA (p:Pln):AV:=if plnE p≠0 then .tup [.agg [ints [],ints [],ints []],.i (plnE p)] else .tup [hrsV p,.i 0]
theorem Qbf (k:Nat) (zs:List Int):Z3 k (.cells (zs.map AV.i))=true:=by
 simp only[Z3]
 rw[Z8]
 intro v hv
 obtain ⟨z,_,rfl⟩:=ZP.1 hv
 rfl
theorem le37 (p:Pln) (hp:PSz p):PC Tryz.prog 7 [plnV p] (hrsA p):=by
 refine ⟨ZF (fok7 true) (QC rfl) ?_,by unfold hrsA;split <;> rfl⟩
 simp only[ic7,WI,cellsOf,evA,simprocAttr]
 refine (le93 p hp).call ?_
 unfold hrsA
 by_cases he:plnE p=0
 rotate_left
 ·have hb:(plnE p != 0)=true:=by simpa using he
  have hl2:lkP p=plV9 p∨lkP p=.agg (List.replicate 9 (.cv .nils)):=by
   unfold lkP;split
   ·exact .inr rfl
   ·exact .inl rfl
  rw[if_pos he]
  rcases hl2 with h | h <;> rw[h]
  ·simp only[hb,evA,simprocAttr]
   exact .tup (.cons (.agg (.cons (.c .nl) (.cons (.c .nl) (.cons (.c .nl) .nil)))) (.cons (.c (.c _ trivial)) .nil))
  ·simp only[hb,List.replicate,evA,simprocAttr]
   exact .tup (.cons (.agg (.cons (.c .nl) (.cons (.c .nl) (.cons (.c .nl) .nil)))) (.cons (.c (.c _ trivial)) .nil))
 have hok:=Qdc he
 have hlk:lkP p=plV9 p:=by unfold lkP;rw[if_neg (fun h=>h.elim (fun h=>h hok.sys) (fun h=>h hok.dy0))]
 have hb:(plnE p != 0)=false:=by simpa using he
 rw[if_neg (fun h=>h he),hlk]
 simp only[hb,he,evA,simprocAttr]
 have m1:=fun σ=>MP (n:=p.le.length) (WJ hok.le (by decide)) σ
 have m2:=fun σ=>MP (n:=p.te.length) (WJ hok.te (by decide)) σ
 have m3:=fun σ=>MP (n:=p.ca.length) (WJ hok.ca (by decide)) σ
 refine DW_s [] [(2,9),(2,14),(4,9),(4,14),(7,4),(7,14),(9,4),(9,14),(12,4),(12,9),(14,4),(14,9)] hmix (by kernel_rfl) rfl ?_
 simp only[m1,m2,m3,evA,simprocAttr]
 have h12:=hok.day.l12
 have hob:∀ a b c:List Int,∀ o∈[AObj.cells (plnC p),.cells [.sl 3 0 p.le.length 1,.sl 4 0 p.te.length 1,.sl 5 0 p.ca.length 1],.cells (plC9 p),.cells (a.map AV.i),.cells (b.map AV.i),.cells (c.map AV.i)],Z3 6 o=true:=by
  intro a b c o ho
  simp only[ZD,WK,or_false] at ho
  rcases ho with rfl | rfl | rfl | rfl | rfl | rfl
  ·rfl
  ·rfl
  ·rfl
  ·exact Qbf _ _
  ·exact Qbf _ _
  ·exact Qbf _ _
 have hdur:∀ i,i<p.day.ls.length→0≤(p.day.ls[i]!).e-(p.day.ls[i]!).b∧(p.day.ls[i]!).e-(p.day.ls[i]!).b≤1440:=fun i hi=>by
  have hl:=hok.day.les i hi
  have:=hl.b0
  have:=hl.be
  have:=hl.e1
  omega
 refine ZW p.day.ls.length (fun k s=>∃ v5 v6 v11,s=⟨[plnV p,.ptr 0 0,.ptr 1 0,.i 0,.ptr 2 0,v5,v6,.b false,.cv (lesR p.day.ls),.i p.day.ls.length,.i k,v11],[.cells (plnC p),.cells [.sl 3 0 p.le.length 1,.sl 4 0 p.te.length 1,.sl 5 0 p.ca.length 1],.cells (plC9 p),.cells ((hrF (·.le) p.le.length p.day.ls k).map AV.i),.cells ((hrF (·.te) p.te.length p.day.ls k).map AV.i),.cells ((hrF (·.ca) p.ca.length p.day.ls k).map AV.i)]⟩) ?_ 0 (QF _) ⟨_,_,_,rfl⟩
 rintro k s hk ⟨v5,v6,v11,rfl⟩
 by_cases h:k<p.day.ls.length
 ·have hld:=MQ h
  have hd:=hdur k h
  have hles:=hok.day.les k h
  have hwho:=hok.who k h
  have b1:=Qar (f:=(·.le)) (n:=p.le.length) hdur k hk
  have b2:=Qar (f:=(·.te)) (n:=p.te.length) hdur k hk
  have b3:=Qar (f:=(·.ca)) (n:=p.ca.length) hdur k hk
  have n1:=DC (·.le) p.le.length p.day.ls k
  have n2:=DC (·.te) p.te.length p.day.ls k
  have n3:=DC (·.ca) p.ca.length p.day.ls k
  have s1:hrF (·.le) p.le.length p.day.ls (k+1)=(hrF (·.le) p.le.length p.day.ls k).set (p.day.ls[k]!).le.toNat (gI (hrF (·.le) p.le.length p.day.ls k) (p.day.ls[k]!).le.toNat+((p.day.ls[k]!).e-(p.day.ls[k]!).b)):=rfl
  have s2:hrF (·.te) p.te.length p.day.ls (k+1)=(hrF (·.te) p.te.length p.day.ls k).set (p.day.ls[k]!).te.toNat (gI (hrF (·.te) p.te.length p.day.ls k) (p.day.ls[k]!).te.toNat+((p.day.ls[k]!).e-(p.day.ls[k]!).b)):=rfl
  have s3:hrF (·.ca) p.ca.length p.day.ls (k+1)=(hrF (·.ca) p.ca.length p.day.ls k).set (p.day.ls[k]!).ca.toNat (gI (hrF (·.ca) p.ca.length p.day.ls k) (p.day.ls[k]!).ca.toNat+((p.day.ls[k]!).e-(p.day.ls[k]!).b)):=rfl
  rw[s1,s2,s3]
  generalize hrF (·.le) p.le.length p.day.ls k=A at *
  generalize hrF (·.te) p.te.length p.day.ls k=B at *
  generalize hrF (·.ca) p.ca.length p.day.ls k=C at *
  have hles1:=hles.le
  have hles2:=hles.te
  have hles3:=hles.ca
  clear s1 s2 s3 hles
  generalize p.day.ls[k]! = l at *
  obtain ⟨l1,l2,l3,l4,l5,l6,l7⟩:=l
  simp only at hles1 hles2 hles3 hwho hd hld ⊢
  obtain ⟨x,rfl⟩:∃ x:Nat,l1=(x:Int):=⟨l1.toNat,by omega⟩
  obtain ⟨y,rfl⟩:∃ y:Nat,l2=(y:Int):=⟨l2.toNat,by omega⟩
  obtain ⟨z,rfl⟩:∃ z:Nat,l3=(z:Int):=⟨l3.toNat,by omega⟩
  have hx2:x<p.le.length:=by omega
  have hy2:y<p.te.length:=by omega
  have hz2:z<p.ca.length:=by omega
  simp only[Int.toNat_natCast]
  have hwn:IntKind.i64.wrap (l5-l4)=l5-l4:=ZC (by omega)
  have lA:=V1 (zs:=A) (k:=x) (by omega)
  have lB:=V1 (zs:=B) (k:=y) (by omega)
  have lC:=V1 (zs:=C) (k:=z) (by omega)
  have wA:IntKind.i64.wrap (A[x]?.getD 0+(l5-l4))=gI A x+(l5-l4):=ZC (by have:=b1 x;unfold gI at this;omega)
  have wB:IntKind.i64.wrap (B[y]?.getD 0+(l5-l4))=gI B y+(l5-l4):=ZC (by have:=b2 y;unfold gI at this;omega)
  have wC:IntKind.i64.wrap (C[z]?.getD 0+(l5-l4))=gI C z+(l5-l4):=ZC (by have:=b3 z;unfold gI at this;omega)
  have eA:x+1≤A.length:=by omega
  have eB:y+1≤B.length:=by omega
  have eC:z+1≤C.length:=by omega
  simp only[ic7l0,QJ,h,F5 h,hld,hwn,W9 hx2,W9 hy2,W9 hz2,lA,lB,lC,wA,wB,wC,ZK,eA,eB,eC,GC,ZV,Q6 (show k+1<2 ^ 63 by omega),evA,simprocAttr]
  exact W1 [.cells (plnC p),.cells [.sl 3 0 p.le.length 1,.sl 4 0 p.te.length 1,.sl 5 0 p.ca.length 1],.cells (plC9 p),.cells ((A.set x (gI A x+(l5-l4))).map AV.i),.cells ((B.set y (gI B y+(l5-l4))).map AV.i),.cells ((C.set z (gI C z+(l5-l4))).map AV.i)] _ rfl (by first | trivial | omega) (QF _) (hob _ _ _) ⟨_,_,_,rfl⟩
 ·have hke:k=p.day.ls.length:=by omega
  subst hke
  simp only[ic7l0,QJ,h,evA,simprocAttr]
  exact .tup (.cons (.agg (.cons (U4 (fun _=>trivial) (DC _ _ _ _).symm rfl) (.cons (U4 (fun _=>trivial) (DC _ _ _ _).symm rfl) (.cons (U4 (fun _=>trivial) (DC _ _ _ _).symm rfl) .nil)))) (.cons (.c (.c _ trivial)) .nil))
end Go.Proofs.YtpmokaefmcffaaaGreat.AM
namespace Go.Proofs.YtpmokaefmcffaaaGreat.AM
variable [Dr]
open Go
structure IA (P:Program) (vs:List Nat) (N:Nat) (ps:List Nat) (vals:List AV) (ia ib:IC) (R:XC):Prop where
 vars:R.vars=vs
 ntmps:R.ntmps=N
 params:R.params=ps
 vals:R.vals=vals
 st:R.state=.ready
 pd:R.pending=none
 ca:QL P vs N R.assign=some ia
 cb:QL P vs N R.body=some ib
section
variable {P:Program} {vs:List Nat} {N:Nat} {ps:List Nat} {vals:List AV} {ia ib:IC} {R:XC}
end
end Go.Proofs.YtpmokaefmcffaaaGreat.AM
namespace Go.Proofs.YtpmokaefmcffaaaGreat.AM
variable [Dr]
open Go Pl
theorem MR {l:List Les} {k:Nat} (h:k<l.length) (σ:List AObj):YF 7 [.cv (.rp (F0 l) (k*7))] σ=some (.agg [.i (l[k]!).le,.i (l[k]!).te,.i (l[k]!).ca,.i (l[k]!).b,.i (l[k]!).e,.i (l[k]!).f,.i (l[k]!).o],σ):=Qcl h σ
theorem outF_alR {lo hi:Int} {zs:List Int} (h:∀ j,j<zs.length→inB (gI zs j) lo hi=true):outF lo hi zs=false:=by
 rw[VL]
 intro z hz
 obtain ⟨j,hj,rfl⟩:=WN.1 hz
 have:=VB.1 (h j hj)
 unfold gI at this
 rwa [QI hj] at this
theorem outF_exR {lo hi:Int} {zs:List Int} {j:Nat} (hj:j<zs.length) (h:inB (gI zs j) lo hi=false):outF lo hi zs=true:=by
 cases hh:outF lo hi zs with
 | true=>rfl
 | false =>
  rw[VB.2 (VL.1 hh _ (Qcs hj))] at h
  cases h
theorem outF_sgR {lo hi z:Int}:outF lo hi [z] = !inB z lo hi:=by
 cases h:inB z lo hi with
 | true =>
  refine outF_alR (zs:=[z]) fun j hj=>?_
  have:j=0:=by simpa using hj
  subst this;exact h
 | false=>exact outF_exR (zs:=[z]) (j:=0) (by simp) h
theorem outF_coR {lo hi z:Int} {zs:List Int}:outF lo hi (z::zs)=(!inB z lo hi||outF lo hi zs):=by
 rw[← outF_sgR]
 unfold outF
 simp
theorem le70 (d:Dy) (hd:DSz d) (i:Nat) (hi:i<d.mi.length):PC Tryz.prog 69 [dyV d,.i i] (.i (rowE d i)):=by
 refine ⟨ZF (fok69 true) (QC rfl) ?_,rfl⟩
 have hrow:=hd.row i hi
 unfold rowE
 simp only[ic69,WI,cellsOf,XP hi,W3,B7 hi,evA,simprocAttr]
 generalize d.mi[i]! = l at *
 by_cases h1:l.length=d.mi.length
 ·have hb:((l.length:Int) != d.mi.length)=false:=by rw[h1];simp
  rw[if_neg (fun h=>h h1)]
  simp only[hb,evA,simprocAttr]
  refine ZW l.length (fun k s=>(∀ j,j<k→inB (gI l j) 0 120=true)∧∃ v7 v8,s=⟨[dyV d,.i i,.ptr 0 0,.i 0,ints l,.i k,.b false,v7,v8,.undef],[.cells [.cv (minR d.mi),.cv (lesR d.ls)]]⟩) ?_ 0 (QF _) ⟨by omega,_,_,rfl⟩
  rintro k s hk ⟨hall,v7,v8,rfl⟩
  by_cases h:k<l.length
  ·simp only[ic69l0,QJ,h,J5 h,J4 h,evA,simprocAttr]
   refine (le64 _ 0 120).call frz ?_
   cases hin:inB (gI l k) 0 120 with
   | true =>
    have hin2:inB (l[k]?.getD 0) 0 120=true:=hin
    simp only[hin2,Q6 (show k+1<2 ^ 63 by omega),evA,simprocAttr]
    refine ZL (by first | trivial | omega) ⟨fun j hj=>?_,_,_,rfl⟩
    rcases QQ.1 hj with hj | rfl
    ·exact hall j hj
    ·exact hin
   | false =>
    have hin2:inB (l[k]?.getD 0) 0 120=false:=hin
    rw[outF_exR h hin]
    simp only[hin2,evA,simprocAttr]
    exact frz
  ·have hke:k=l.length:=by omega
   subst hke
   rw[outF_alR hall]
   have hil:i<l.length:=by omega
   simp only[ic69l0,QJ,h,J5 hil,J4 hil,evA,simprocAttr]
   by_cases h2:gI l i=0
   ·have hb2:(l[i]?.getD 0 != 0)=false:=by simpa using h2
    simp only[hb2,h2,ne_eq,not_true,evA,simprocAttr]
    exact frz
   ·have hb2:(l[i]?.getD 0 != 0)=true:=by simpa using h2
    simp only[hb2,h2,ne_eq,not_false_eq_true,evA,simprocAttr]
    exact frz
 ·have hb:((l.length:Int) != d.mi.length)=true:=by simp;omega
  rw[if_pos h1]
  simp only[hb,evA,simprocAttr]
  exact frz
theorem le71 (d:Dy) (hd:DSz d) (l:Les):PC Tryz.prog 70 [dyV d,lesA l] (.i (lesE d l)):=by
 refine ⟨ZF (fok70 true) (QC rfl) ?_,rfl⟩
 have h63:=hd.mi
 unfold lesE
 have hw:IntKind.i64.wrap ((d.mi.length:Int)-1)=(d.mi.length:Int)-1:=ZC (by omega)
 obtain ⟨le,te,ca,b,e,f,o⟩:=l
 have e1:outF 0 1440 [b,e]=(!inB b 0 1440 || !inB e 0 1440):=by rw[outF_coR,outF_sgR]
 have e2:outF 0 ((d.mi.length:Int)-1) [f,o]=(!inB f 0 ((d.mi.length:Int)-1) || !inB o 0 ((d.mi.length:Int)-1)):=by rw[outF_coR,outF_sgR]
 simp only
 rw[e1,e2]
 clear e1 e2
 simp only[ic70,WI,cellsOf,evA,simprocAttr]
 refine (le64 b 0 1440).call frz ?_
 cases h1:inB b 0 1440 with
 | false =>
  simp only[h1,US,evA,simprocAttr]
  exact frz
 | true =>
 simp only[h1,Y3,evA,simprocAttr]
 refine (le64 e 0 1440).call frz ?_
 cases h2:inB e 0 1440 with
 | false =>
  simp only[h2,US,evA,simprocAttr]
  exact frz
 | true =>
 simp only[h2,Y3,evA,simprocAttr]
 rw[show [AV.i le,.i te,.i ca]=[le,te,ca].map AV.i from rfl]
 generalize hzs:[le,te,ca]=zs
 have hz3:zs.length=3:=by rw[← hzs];rfl
 refine ZW 3 (fun k s=>(∀ j,j<k→inB (gI zs j) 0 7=true)∧∃ v8 v9,s=⟨[dyV d,lesA ⟨le,te,ca,b,e,f,o⟩,.ptr 0 0,.ptr 1 0,.i 0,.sl 2 0 3 1,.i k,.b false,v8,v9,.undef,.undef],[.cells [.cv (minR d.mi),.cv (lesR d.ls)],.cells [.i le,.i te,.i ca,.i b,.i e,.i f,.i o],.cells (zs.map AV.i)]⟩) ?_ 0 (QF _) ⟨by omega,_,_,rfl⟩
 rintro k s hk ⟨hall,v8,v9,rfl⟩
 by_cases h:k<3
 ·have hkz:k<zs.length:=by omega
  have hd3:decide ((k:Int)<3)=true:=decide_eq_true (by omega)
  simp only[ic70l0,hd3,W9 h,ZV,V1 hkz,evA,simprocAttr]
  refine (le64 _ 0 7).call frz ?_
  cases hin:inB (gI zs k) 0 7 with
  | true =>
   have hin2:inB (zs[k]?.getD 0) 0 7=true:=hin
   simp only[hin2,Q6 (show k+1<2 ^ 63 by omega),evA,simprocAttr]
   refine ZL (by first | trivial | omega) ⟨fun j hj=>?_,_,_,rfl⟩
   rcases QQ.1 hj with hj | rfl
   ·exact hall j hj
   ·exact hin
  | false =>
   have hin2:inB (zs[k]?.getD 0) 0 7=false:=hin
   rw[outF_exR hkz hin]
   simp only[hin2,evA,simprocAttr]
   exact frz
 ·have hke:k=3:=by omega
  subst hke
  rw[outF_alR (by rw[hz3];exact hall)]
  simp only[ic70l0,evA,simprocAttr]
  by_cases h3:b≥e
  ·simp only[h3,evA,simprocAttr]
   exact frz
  ·simp only[h3,hw,evA,simprocAttr]
   refine (le64 f 0 _).call frz ?_
   cases h4:inB f 0 ((d.mi.length:Int)-1) with
   | false =>
    simp only[h4,US,evA,simprocAttr]
    exact frz
   | true =>
    simp only[h4,hw,Y3,evA,simprocAttr]
    refine (le64 o 0 _).call frz ?_
    cases h5:inB o 0 ((d.mi.length:Int)-1) with
    | false =>
     simp only[h5,evA,simprocAttr]
     exact frz
    | true =>
     simp only[h5,evA,simprocAttr]
     exact frz
theorem le24 (d:Dy) (hd:DSz d):PC Tryz.prog 23 [dyV d] (chkA d):=by
 refine ⟨ZF (fok23 true) (QC rfl) ?_,rfl⟩
 simp only[ic23,WI,cellsOf,evA,simprocAttr]
 refine (le64 (d.mi.length:Int) 1 16).call frz ?_
 unfold chkA dyE
 rw[outF_sgR]
 cases h1:inB (d.mi.length:Int) 1 16 with
 | false =>
  simp only[h1,US,evA,simprocAttr]
  exact frz
 | true =>
 cases h2:decide ((d.ls.length:Int)>12) with
 | true =>
  simp only[h1,Y3,h2,evA,simprocAttr]
  exact frz
 | false =>
 simp only[h1,Y3,h2,evA,simprocAttr]
 have hm63:=hd.mi
 have hl63:=hd.ls
 refine ZW d.mi.length (fun k s=>(∀ j,j<k→rowE d j=0)∧∃ v6 v10 v11,s=⟨[dyV d,.ptr 0 0,.i 0,.i 0,.i 0,.i k,v6,.undef,.undef,.b false,v10,v11,.undef,.undef],[.cells [.cv (minR d.mi),.cv (lesR d.ls)]]⟩) ?_ 0 (QF _) ⟨by omega,_,_,_,rfl⟩
 rintro k s hk ⟨hall,v6,v10,v11,rfl⟩
 by_cases h:k<d.mi.length
 ·simp only[ic23l1,QJ,h,evA,simprocAttr]
  refine (le70 d hd k h).call frz ?_
  by_cases h0:rowE d k=0
  ·have hb:(rowE d k != 0)=false:=by simpa using h0
   simp only[hb,Q6 (show k+1<2 ^ 63 by omega),evA,simprocAttr]
   refine ZL (by first | trivial | omega) ⟨fun j hj=>?_,_,_,_,rfl⟩
   rcases QQ.1 hj with hj | rfl
   ·exact hall j hj
   ·exact h0
  ·have hb:(rowE d k != 0)=true:=by simpa using h0
   rw[VO d.mi.length 0 k (QF _) (by omega) (fun j _ hj=>hall j hj) h0]
   simp only[hb,h0,ne_eq,not_false_eq_true,evA,simprocAttr]
   exact frz
 ·have hke:k=d.mi.length:=by omega
  subst hke
  rw[J7 d.mi.length 0 fun j _ hj=>hall j (by omega)]
  simp only[ic23l1,QJ,h,ne_eq,not_true,evA,simprocAttr]
  refine ZW d.ls.length (fun k s=>(∀ j,j<k→lesE d d.ls[j]! = 0)∧∃ v8 v12 v13,s=⟨[dyV d,.ptr 0 0,.i 0,.i 0,.i 0,.i d.mi.length,v6,.i k,v8,.b false,.b false,v11,v12,v13],[.cells [.cv (minR d.mi),.cv (lesR d.ls)]]⟩) ?_ 0 (QF _) ⟨by omega,_,_,_,rfl⟩
  clear h hk hall
  rintro k s hk ⟨hall,v8,v12,v13,rfl⟩
  by_cases h:k<d.ls.length
  ·simp only[ic23l0,QJ,h,evA,simprocAttr]
   refine DW_s [6] [] hmix (by kernel_rfl) rfl ?_
   simp only[F5 h,Qcl h,evA,simprocAttr]
   refine YE ((le71 d hd d.ls[k]!).call frz ⟨rfl,rfl⟩) rfl ?_
   simp only[evA,simprocAttr]
   by_cases h0:lesE d d.ls[k]! = 0
   ·have hb:(lesE d d.ls[k]! != 0)=false:=by simpa using h0
    simp only[hb,Q6 (show k+1<2 ^ 63 by omega),evA,simprocAttr]
    refine ZL (by first | trivial | omega) ⟨fun j hj=>?_,_,_,_,rfl⟩
    rcases QQ.1 hj with hj | rfl
    ·exact hall j hj
    ·exact h0
   ·have hb:(lesE d d.ls[k]! != 0)=true:=by simpa using h0
    rw[VO d.ls.length 0 k (QF _) (by omega) (fun j _ hj=>hall j hj) h0]
    simp only[hb,h0,ne_eq,not_false_eq_true,evA,simprocAttr]
    exact frz
  ·have hke:k=d.ls.length:=by omega
   subst hke
   rw[J7 d.ls.length 0 fun j _ hj=>hall j (by omega)]
   simp only[ic23l0,QJ,h,ne_eq,not_true,evA,simprocAttr]
   exact frz
def pplE (p:Pln):Int :=
 if (decide ((p.le.length:Int)>8)||decide ((p.te.length:Int)>8)||decide ((p.ca.length:Int)>8))=true then 3
 else if outF 0 ((p.sys.cl.length:Int)-1) p.le=true then 4
 else if (fndE (fun i=>tchE p.sys p.te[i]!) 0 p.te.length).2≠0 then (fndE (fun i=>tchE p.sys p.te[i]!) 0 p.te.length).2
 else (fndE (fun i=>carE p.sys p.ca[i]!) 0 p.ca.length).2
theorem plnE_eq (p:Pln):plnE p=if (sysE p.sys).2.2≠0 then (sysE p.sys).2.2 else if (dyE p.day).2.2≠0 then (dyE p.day).2.2 else if pplE p≠0 then pplE p else if (p.day.ls.any (whoB p))=true then 4 else 0:=by
 unfold plnE pplE
 split
 ·rfl
 split
 ·rfl
 split
 ·rw[if_pos (by decide)]
 split
 ·rw[if_pos (by decide)]
 split
 ·rename_i h;first | rfl | rw[if_pos h]
 split
 ·rfl
 ·rfl
theorem tchE_ok {s:Sys} (h0:(sysE s).2.2=0) (t:Tch):tchE s t=if rgsE s t.rg≠0 then rgsE s t.rg else if inB t.b 0 1440=false∨inB t.e 0 1440=false then 7 else if t.b>t.e then 2 else 0:=by
 have h1:lstE s t.rg=rgsE s t.rg:=by unfold lstE;rw[h0];rfl
 unfold tchE
 rw[h1,outF_coR,outF_sgR]
 cases inB t.b 0 1440 <;> cases inB t.e 0 1440 <;> simp
theorem carE_ok {s:Sys} (h0:(sysE s).2.2=0) (c:Car):carE s c=if inB c.cl 0 ((s.cl.length:Int)-1)=false then 4 else if inB c.ft 0 (setN s-1)=false then 7 else 0:=by
 have h1:lstE s []=0:=by unfold lstE;rw[h0];rfl
 unfold carE mayE
 rw[h1,if_neg (fun h=>h rfl)]
theorem le108 (p:Pln) (hp:PSz p) (h0:(sysE p.sys).2.2=0):PC Tryz.prog 24 [plnV p] (.i (pplE p)):=by
 obtain ⟨⟨hn1,hn12⟩,hm8,hok⟩:=QaV h0
 refine ⟨ZF (fok24 true) (QC rfl) ?_,rfl⟩
 have hw:IntKind.i64.wrap ((p.sys.cl.length:Int)-1)=(p.sys.cl.length:Int)-1:=ZC (by omega)
 have hpw:=HF hm8
 have hw2:IntKind.i64.wrap ((2:Int) ^ p.sys.co.length-1)=(2:Int) ^ p.sys.co.length-1:=ZC (by omega)
 simp only[ic24,WI,cellsOf,evA,simprocAttr]
 unfold pplE
 cases h1:decide ((p.le.length:Int)>8) with
 | true =>
  simp only[h1,US,evA,simprocAttr]
  exact frz
 | false =>
 cases h2:decide ((p.te.length:Int)>8) with
 | true =>
  simp only[h1,h2,US,Y3,evA,simprocAttr]
  exact frz
 | false =>
 cases h3:decide ((p.ca.length:Int)>8) with
 | true =>
  simp only[h1,h2,h3,US,Y3,evA,simprocAttr]
  exact frz
 | false =>
 have l1:=of_decide_eq_false h1
 have l2:=of_decide_eq_false h2
 have l3:=of_decide_eq_false h3
 simp only[h1,h2,h3,Y3,hw,evA,simprocAttr]
 refine ZW p.le.length (fun k s=>(∀ j,j<k→inB (gI p.le j) 0 ((p.sys.cl.length:Int)-1)=true)∧∃ v10 v11,s=⟨[plnV p,.ptr 0 0,.i 0,.i ((p.sys.cl.length:Int)-1),.i k,.undef,.undef,.undef,.undef,.b false,v10,v11,.undef,.undef,.undef,.undef,.undef,.undef,.undef],[.cells (plnC p)]⟩) ?_ 0 (QF _) ⟨by omega,_,_,rfl⟩
 rintro k s hk ⟨hall,v10,v11,rfl⟩
 by_cases h:k<p.le.length
 ·simp only[ic24l2,QJ,h,J5 h,J4 h,evA,simprocAttr]
  refine (le64 _ 0 _).call frz ?_
  cases hin:inB (gI p.le k) 0 ((p.sys.cl.length:Int)-1) with
  | true =>
   have hin2:inB (p.le[k]?.getD 0) 0 ((p.sys.cl.length:Int)-1)=true:=hin
   simp only[hin2,Q6 (show k+1<2 ^ 63 by omega),evA,simprocAttr]
   refine ZL (by first | trivial | omega) ⟨fun j hj=>?_,_,_,rfl⟩
   rcases QQ.1 hj with hj | rfl
   ·exact hall j hj
   ·exact hin
  | false =>
   have hin2:inB (p.le[k]?.getD 0) 0 ((p.sys.cl.length:Int)-1)=false:=hin
   rw[outF_exR h hin]
   simp only[hin2,evA,simprocAttr]
   exact frz
 have hke:k=p.le.length:=by omega
 subst hke
 rw[outF_alR hall]
 simp only[ic24l2,QJ,h,evA,simprocAttr]
 clear h hk hall
 have hob:∀ o∈[AObj.cells (plnC p)],Z3 1 o=true:=by
  intro o ho
  simp only[ZD,WK,or_false] at ho
  subst ho;rfl
 refine ZW p.te.length (fun k s=>(∀ j,j<k→tchE p.sys p.te[j]! = 0)∧∃ v6 v7 v11 v12 v13 v14 v15,s=⟨[plnV p,.ptr 0 0,.i 0,.i ((p.sys.cl.length:Int)-1),.i p.le.length,.i k,v6,v7,.undef,.b false,.b false,v11,v12,v13,v14,v15,.undef,.undef,.undef],[.cells (plnC p)]⟩) ?_ 0 (QF _) ⟨by omega,_,_,_,_,_,_,_,rfl⟩
 clear v11
 rintro k s hk ⟨hall,v6,v7,v11,v12,v13,v14,v15,rfl⟩
 by_cases h:k<p.te.length
 ·have hld:=tch_ld h
  have hrg:=hp.rg k h
  have hE:=tchE_ok h0 p.te[k]!
  have hfs:=fun h3=>VO (g:=fun i=>tchE p.sys p.te[i]!) p.te.length 0 k (QF _) (by omega) (fun j _ hj=>hall j hj) h3
  have hnext:tchE p.sys p.te[k]! = 0→∀ j,j<k+1→tchE p.sys p.te[j]! = 0:=fun h3 j hj=>by
   rcases QQ.1 hj with hj | rfl
   ·exact hall j hj
   ·exact h3
  generalize p.te[k]! = t at *
  obtain ⟨rg,b,e⟩:=t
  simp only at hld hrg hE
  have ia:∀ σ,VP 3 [.cv (tchR p.te),.cv (.int .i64 k)] σ=some (.cv (.rp (SV p.te) (k*3)),σ):=fun σ=>XP h σ
  simp only[ic24l1,QJ,h,ia,hld,evA,simprocAttr]
  refine (c48 p.sys hp.sys hm8 rg hrg).call frz ?_
  by_cases he:rgsE p.sys rg=0
  ·have hb:(rgsE p.sys rg != 0)=false:=by simpa using he
   rw[if_neg (fun h=>h he)] at hE
   simp only[hb,evA,simprocAttr]
   refine (le64 b 0 1440).call frz ?_
   cases h4:inB b 0 1440 with
   | false =>
    rw[if_pos (.inl h4)] at hE
    rw[hfs (by rw[hE];decide),hE]
    simp only[h4,ne_eq,evA,simprocAttr]
    exact frz
   | true =>
   simp only[h4,evA,simprocAttr]
   refine (le64 e 0 1440).call frz ?_
   cases h5:inB e 0 1440 with
   | false =>
    rw[if_pos (.inr h5)] at hE
    rw[hfs (by rw[hE];decide),hE]
    simp only[h5,ne_eq,evA,simprocAttr]
    exact frz
   | true =>
   rw[if_neg (by rw[h4,h5];simp)] at hE
   by_cases h6:b>e
   ·rw[if_pos h6] at hE
    rw[hfs (by rw[hE];decide),hE]
    simp only[h5,h6,ne_eq,evA,simprocAttr]
    exact frz
   ·rw[if_neg h6] at hE
    simp only[h5,h6,Q6 (show k+1<2 ^ 63 by omega),evA,simprocAttr]
    exact W1 [.cells (plnC p)] _ rfl (by first | trivial | omega) (QF _) hob ⟨hnext hE,_,_,_,_,_,_,_,rfl⟩
  ·have hb:(rgsE p.sys rg != 0)=true:=by simpa using he
   rw[if_pos he] at hE
   rw[hfs (by rw[hE];exact he),hE]
   simp only[hb,he,ne_eq,not_false_eq_true,evA,simprocAttr]
   exact frz
 have hke:k=p.te.length:=by omega
 subst hke
 rw[J7 p.te.length 0 fun j _ hj=>hall j (by omega)]
 simp only[ic24l1,QJ,h,ne_eq,not_true,evA,simprocAttr]
 clear h hk hall
 refine ZW p.ca.length (fun k s=>(∀ j,j<k→carE p.sys p.ca[j]! = 0)∧∃ v16 v17 v18,s=⟨[plnV p,.ptr 0 0,.i 0,.i ((p.sys.cl.length:Int)-1),.i p.le.length,.i p.te.length,v6,v7,.i k,.b false,.b false,v11,.b false,v13,v14,v15,v16,v17,v18],[.cells (plnC p)]⟩) ?_ 0 (QF _) ⟨by omega,_,_,_,rfl⟩
 rintro k s hk ⟨hall,v16,v17,v18,rfl⟩
 by_cases h:k<p.ca.length
 ·have hE:=carE_ok h0 p.ca[k]!
  have hfs:=fun h3=>VO (g:=fun i=>carE p.sys p.ca[i]!) p.ca.length 0 k (QF _) (by omega) (fun j _ hj=>hall j hj) h3
  have hnext:carE p.sys p.ca[k]! = 0→∀ j,j<k+1→carE p.sys p.ca[j]! = 0:=fun h3 j hj=>by
   rcases QQ.1 hj with hj | rfl
   ·exact hall j hj
   ·exact h3
  have ia:∀ σ,VP 2 [.cv (carR p.ca),.cv (.int .i64 k)] σ=some (.cv (.rp (QaH p.ca) (k*2)),σ):=fun σ=>XP h σ
  have ld0:(QaH p.ca)[k*2]? = some (.int .i64 (p.ca[k]!).cl):=flat_get CX h (j:=0) (by omega)
  have ld1:(QaH p.ca)[k*2+1]? = some (.int .i64 (p.ca[k]!).ft):=flat_get CX h (j:=1) (by omega)
  generalize p.ca[k]! = c at *
  obtain ⟨cl,ft⟩:=c
  simp only at ld0 ld1 hE
  simp only[ic24l0,QJ,h,ia,ld0,evA,simprocAttr]
  refine (le64 cl 0 _).call frz ?_
  cases h4:inB cl 0 ((p.sys.cl.length:Int)-1) with
  | false =>
   rw[if_pos h4] at hE
   rw[hfs (by rw[hE];decide),hE]
   simp only[h4,evA,simprocAttr]
   exact frz
  | true =>
  rw[if_neg (by rw[h4];decide)] at hE
  simp only[h4,evA,simprocAttr]
  refine DW_s [10,12] [] hmix (by kernel_rfl) rfl ?_
  simp only[ia,ld1,evA,simprocAttr]
  refine YE ((c49 p.sys.co.length hm8).call frz ⟨rfl,rfl⟩) rfl ?_
  simp only[hw2,evA,simprocAttr]
  refine YE ((le64 ft 0 _).call frz ⟨rfl,rfl⟩) rfl ?_
  unfold setN at hE
  cases h5:inB ft 0 ((2:Int) ^ p.sys.co.length-1) with
  | false =>
   rw[if_pos h5] at hE
   rw[hfs (by rw[hE];decide),hE]
   simp only[h5,evA,simprocAttr]
   exact frz
  | true =>
   rw[if_neg (by rw[h5];decide)] at hE
   simp only[h5,Q6 (show k+1<2 ^ 63 by omega),evA,simprocAttr]
   exact ZL (by first | trivial | omega) ⟨hnext hE,_,_,_,rfl⟩
 ·have hke:k=p.ca.length:=by omega
  subst hke
  rw[J7 p.ca.length 0 fun j _ hj=>hall j (by omega)]
  simp only[ic24l0,QJ,h,ne_eq,not_true,evA,simprocAttr]
  exact frz
theorem le52 (p:Pln) (hp:PSz p):PC Tryz.prog 5 [plnV p] (.i (plnE p)):=by
 have h107:=c54 p.sys hp.sys
 have h24:=le24 p.day hp.day
 have h108:=le108 p hp
 rw[plnE_eq]
 refine ⟨ZF (fok5 true) (QC rfl) ?_,rfl⟩
 simp only[ic5,WI,cellsOf,evA,simprocAttr]
 refine h107.call frz ?_
 unfold chkV
 have hl63:=hp.day.ls
 have hob:∀ o∈[AObj.cells (plnC p)],Z3 1 o=true:=by
  intro o ho
  simp only[ZD,WK,or_false] at ho
  subst ho;rfl
 by_cases hs0:(sysE p.sys).2.2=0
 rotate_left
 ·have hb:((sysE p.sys).2.2 == 0)=false:=by simpa using hs0
  simp only[hb,hs0,ne_eq,not_false_eq_true,evA,simprocAttr]
  refine J1 ?_
  by_cases hl:(0:Int)<p.day.ls.length <;> simp only[ic5l0,hl,hb,evA,simprocAttr] <;> exact frz
 have hb:((sysE p.sys).2.2 == 0)=true:=by simpa using hs0
 simp only[hb,hs0,ne_eq,not_true,evA,simprocAttr]
 refine h24.call frz ?_
 unfold chkA
 by_cases hd0:(dyE p.day).2.2=0
 rotate_left
 ·have hb:((dyE p.day).2.2 == 0)=false:=by simpa using hd0
  simp only[hb,hd0,ne_eq,not_false_eq_true,evA,simprocAttr]
  refine J1 ?_
  by_cases hl:(0:Int)<p.day.ls.length <;> simp only[ic5l0,hl,hb,evA,simprocAttr] <;> exact frz
 have hb:((dyE p.day).2.2 == 0)=true:=by simpa using hd0
 simp only[hb,hd0,ne_eq,not_true,evA,simprocAttr]
 by_cases hp0:pplE p=0
 rotate_left
 ·have hb:(pplE p == 0)=false:=by simpa using hp0
  rw[if_pos hp0]
  refine (h108 hs0).call frz ?_
  simp only[evA,simprocAttr]
  refine J1 ?_
  by_cases hl:(0:Int)<p.day.ls.length <;> simp only[ic5l0,hl,hb,evA,simprocAttr] <;> exact frz
 rw[if_neg (fun h=>h hp0)]
 refine (h108 hs0).call frz ?_
 simp only[hp0,evA,simprocAttr]
 refine ZW p.day.ls.length (fun k s=>∃ e:Int,(e=0∧(∀ j,j<k→whoB p p.day.ls[j]! = false)∨e=4∧p.day.ls.any (whoB p)=true)∧∃ v5 v8 v9,s=⟨[plnV p,.ptr 0 0,.i 0,.i e,.i k,v5,.b true,.b true,v8,v9],[.cells (plnC p)]⟩) ?_ 0 (QF _) ⟨0,.inl ⟨rfl,by omega⟩,_,_,_,rfl⟩
 rintro k s hk ⟨e,he,v5,v8,v9,rfl⟩
 have hany:k<p.day.ls.length→whoB p p.day.ls[k]! = true→p.day.ls.any (whoB p)=true:=fun h hw=>by
  rw[ZZ]
  exact ⟨p.day.ls[k]!,by rw[getElem!_pos p.day.ls k h];exact Q2 h,hw⟩
 rcases he with ⟨rfl,hall⟩ | ⟨rfl,hA⟩
 rotate_left
 ·rw[hA]
  by_cases hl:(k:Int)<p.day.ls.length <;> simp only[ic5l0,hl,evA,simprocAttr] <;> exact frz
 by_cases h:k<p.day.ls.length
 ·have hld:=Qcl h
  have hany:=hany h
  have hnext:whoB p p.day.ls[k]! = false→∀ j,j<k+1→whoB p p.day.ls[j]! = false:=fun h3 j hj=>by
   rcases QQ.1 hj with hj | rfl
   ·exact hall j hj
   ·exact h3
  have hwho:whoB p p.day.ls[k]! = (decide ((p.day.ls[k]!).le≥p.le.length)||decide ((p.day.ls[k]!).te≥p.te.length)||decide ((p.day.ls[k]!).ca≥p.ca.length)):=rfl
  generalize p.day.ls[k]! = l at *
  obtain ⟨l1,l2,l3,l4,l5,l6,l7⟩:=l
  simp only at hld hwho
  simp only[ic5l0,QJ,h,F5 h,hld,evA,simprocAttr]
  cases h1:decide (l1≥p.le.length) with
  | true =>
   rw[h1,US,US] at hwho
   simp only[h1,Q6 (show k+1<2 ^ 63 by omega),evA,simprocAttr]
   exact W1 [.cells (plnC p)] _ rfl (by first | trivial | omega) (QF _) hob ⟨4,.inr ⟨rfl,hany hwho⟩,_,_,_,rfl⟩
  | false =>
  cases h2:decide (l2≥p.te.length) with
  | true =>
   rw[h1,h2,Y3,US] at hwho
   simp only[h1,h2,Q6 (show k+1<2 ^ 63 by omega),evA,simprocAttr]
   exact W1 [.cells (plnC p)] _ rfl (by first | trivial | omega) (QF _) hob ⟨4,.inr ⟨rfl,hany hwho⟩,_,_,_,rfl⟩
  | false =>
  rw[h1,h2,Y3,Y3] at hwho
  cases h3:decide (l3≥p.ca.length) with
  | true =>
   rw[h3] at hwho
   simp only[h1,h2,h3,Q6 (show k+1<2 ^ 63 by omega),evA,simprocAttr]
   exact W1 [.cells (plnC p)] _ rfl (by first | trivial | omega) (QF _) hob ⟨4,.inr ⟨rfl,hany hwho⟩,_,_,_,rfl⟩
  | false =>
   rw[h3] at hwho
   simp only[h1,h2,h3,Q6 (show k+1<2 ^ 63 by omega),evA,simprocAttr]
   exact W1 [.cells (plnC p)] _ rfl (by first | trivial | omega) (QF _) hob ⟨0,.inl ⟨rfl,hnext hwho⟩,_,_,_,rfl⟩
 ·have hke:k=p.day.ls.length:=by omega
  subst hke
  have:p.day.ls.any (whoB p)=false:=by
   rw[W6]
   intro l hl
   obtain ⟨j,hj,rfl⟩:=WN.1 hl
   have:=hall j hj
   rw[getElem!_pos p.day.ls j hj] at this
   rw[this];decide
  rw[this]
  simp only[ic5l0,QJ,h,evA,simprocAttr]
  exact frz
end Go.Proofs.YtpmokaefmcffaaaGreat.AM
namespace Go.Proofs.YtpmokaefmcffaaaGreat.AM
variable [Dr]
open Go
theorem c73 (z lo hi:Int) (σ:List AObj):AC Tryz.prog 84 [.i z,.cv (.rp [.int .i64 lo] 0),.cv (.rp [.int .i64 hi] 0)] σ fun r τ=>r=.b (decide (z<lo)||decide (z>hi))∧τ=σ:=by
 refine ZF (fok84 true) (QC rfl) ?_
 by_cases h:z<lo <;> simp only[ic84,h,evA,simprocAttr]
def idxF_l (p:Int→Bool) (zs:List Int):Int:=match zs.findIdx? p with | some i=>i | none=>-1
theorem idxF_some_l {p:Int→Bool} {zs:List Int} {i:Nat} (h:i<zs.length) (hall:∀ j,j<i→p (zs[j]?.getD 0)=false) (hp:p (zs[i]?.getD 0)=true):idxF_l p zs=i:=by
 have:zs.findIdx? p=some i:=by
  rw[List.findIdx?_eq_some_iff_getElem]
  refine ⟨h,by simpa[h] using hp,fun j hj=>?_⟩
  have:=hall j hj
  simpa[show j<zs.length by omega] using this
 simp[idxF_l,this]
theorem idxF_none_l {p:Int→Bool} {zs:List Int} (hall:∀ j,j<zs.length→p (zs[j]?.getD 0)=false):idxF_l p zs = -1:=by
 have:zs.findIdx? p=none:=by
  rw[List.findIdx?_eq_none_iff]
  intro x hx
  obtain ⟨j,hj,rfl⟩:=WN.1 hx
  have:=hall j hj
  simpa[hj] using this
 simp[idxF_l,this]
theorem idxF_ge_l (p:Int→Bool) (zs:List Int):decide (idxF_l p zs≥0)=zs.any p:=by
 unfold idxF_l
 cases h:zs.findIdx? p with
 | none =>
  rw[List.findIdx?_eq_none_iff] at h
  simpa using h
 | some i =>
  rw[List.findIdx?_eq_some_iff_getElem] at h
  obtain ⟨hi,hp,_⟩:=h
  have:zs.any p=true:=ZZ.2 ⟨zs[i],Q2 hi,hp⟩
  rw[this];simp
theorem c81_l (zs:List Int) (fv:AV) (p:Int→Bool) (hz:zs.length<2 ^ 63) (hf:∀ z σ,X0 Tryz.prog fv [.i z] σ fun r τ=>r=.b (p z)∧τ=σ) (σ:List AObj) :
  AC Tryz.prog 104 [ints zs,fv] σ fun r τ=>r=.i (idxF_l p zs)∧τ=σ:=by
 refine ZF (fok104 true) (QC rfl) ?_
 simp only[ic104,evA,simprocAttr]
 refine ZW zs.length (fun i s=>(∀ j,j<i→p (zs[j]?.getD 0)=false)∧∃ v3 v6 v7,s=⟨[ints zs,fv,.i 0,v3,.i zs.length,.i i,v6,v7],σ⟩) ?_ 0 (QF _) ⟨by omega,_,_,_,rfl⟩
 rintro i s hi ⟨hall,v3,v6,v7,rfl⟩
 by_cases h:i<zs.length
 ·simp only[ic104l0,QJ,h,evA,simprocAttr]
  refine (hf _ _).run ?_
  cases hp:p (zs[i]?.getD 0)
  ·simp only[evA,simprocAttr]
   refine ZL (by first | trivial | omega) ⟨fun j hj=>?_,_,_,_,by rw[ZC (by omega)];rfl⟩
   rcases QQ.1 hj with hj | rfl
   ·exact hall j hj
   ·exact hp
  ·simp only[evA,simprocAttr]
   exact (idxF_some_l h hall hp).symm
 ·simp only[ic104l0,QJ,h,evA,simprocAttr]
  have:i=zs.length:=by omega
  subst this
  exact (idxF_none_l hall).symm
theorem c72_l (zs:List Int) (fv:AV) (p:Int→Bool) (hz:zs.length<2 ^ 63) (hf:∀ z σ,X0 Tryz.prog fv [.i z] σ fun r τ=>r=.b (p z)∧τ=σ):PC Tryz.prog 83 [ints zs,fv] (.b (zs.any p)):=by
 refine ⟨ZF (fok83 true) (QC rfl) ?_,rfl⟩
 simp only[ic83,evA,simprocAttr]
 refine (c81_l zs fv p hz hf _).run ?_
 simp only[evA,simprocAttr,idxF_ge_l]
 exact frz
theorem c47 (lo hi:Int) (zs:List Int) (hz:zs.length<2 ^ 63):PC Tryz.prog 34 [.i lo,.i hi,ints zs] (.b (outF lo hi zs)):=by
 refine ⟨ZF (fok34 true) (QC rfl) ?_,rfl⟩
 simp only[ic34,evA,simprocAttr]
 refine (c72_l zs (.fn (.func 84) [.cv (.rp [.int .i64 lo] 0),.cv (.rp [.int .i64 hi] 0)]) (fun z=>decide (z<lo)||decide (z>hi)) hz (fun z σ=>c73 z lo hi σ)).call frz ?_
 exact frz
theorem hmix_l:Tryz.prog.follows .mixedOrders=true:=Checked.mixed Tryz.checked
structure NumsOk (zs:List Int):Prop where
 len:1≤zs.length∧zs.length≤8
 rng:∀ j,j<zs.length→0≤zs[j]?.getD 0∧zs[j]?.getD 0≤1000000000
theorem c44 (n:Nat) (hn:n≤60):PC Tryz.prog 8 [.i n] (.i (2 ^ n:Nat)):=by
 refine ⟨ZF (fok8 true) (QC rfl) ?_,rfl⟩
 simp only[ic8,evA,simprocAttr]
 have hstep:∀ i,i<n→IntKind.i64.wrap (2*((2 ^ i:Nat):Int))=(2 ^ (i+1):Nat):=fun i hi=>by
  have h60:(2:Nat) ^ i≤2 ^ 60:=Nat.pow_le_pow_right (by omega) (by omega)
  rw[Nat.pow_succ]
  generalize 2 ^ i=p at h60 ⊢
  rw[ZC (by omega)];omega
 have h0:(1:Int)=((2 ^ 0:Nat):Int):=rfl
 rw[h0]
 generalize (fun i:Nat=>2 ^ i)=f at *
 refine ZW n (fun i s=>∃ v4,s=⟨[.i n,.i 0,.i (2 ^ i:Nat),.i i,v4],[]⟩) ?_ 0 (QF _) ⟨_,rfl⟩
 rintro i s hi ⟨v4,rfl⟩
 by_cases h:i<n
 ·have hs:=hstep i h
  generalize ((2 ^ i:Nat):Int)=a at hs ⊢
  simp only[ic8l0,QJ,h,evA,simprocAttr]
  exact ZL (by first | trivial | omega) ⟨_,by rw[hs,ZC (n:=(i:Int)+1) (by omega)];rfl⟩
 ·have:i=n:=by omega
  subst this
  simp only[ic8l0,QJ,h,evA,simprocAttr]
  exact frz
theorem c45 (s n:Nat) (hs:s<2 ^ 62) (hn:n≤60):PC Tryz.prog 45 [.i s,.i n] (.b (s.testBit n)):=by
 refine ⟨ZF (fok45 true) (QC rfl) ?_,rfl⟩
 simp only[ic45,evA,simprocAttr]
 refine (c44 n hn).call frz ?_
 have hp:(2:Nat) ^ n>0:=Nat.pow_pos (by omega)
 have hp0:¬ (((2 ^ n:Nat):Int)=0):=by omega
 have hb:(IntKind.i64.wrap ((s:Int).tdiv ((2 ^ n:Nat):Int))).tmod 2=((s / 2 ^ n % 2:Nat):Int):=by
  have h1:(s:Int).tdiv ((2 ^ n:Nat):Int)=((s / 2 ^ n:Nat):Int):=by rw[Int.tdiv_eq_ediv_of_nonneg (by omega)];rfl
  have h2:s / 2 ^ n≤s:=Nat.div_le_self _ _
  rw[h1]
  generalize s / 2 ^ n=d at h2 ⊢
  rw[ZC (by omega),Int.tmod_eq_emod_of_nonneg (by omega)];rfl
 have hv:(((s / 2 ^ n % 2:Nat):Int) == 1)=s.testBit n:=by
  rw[Nat.testBit_eq_decide_div_mod_eq,Q8]
  generalize s / 2 ^ n % 2=m
  simp only[beq_iff_eq,decide_eq_true_eq];omega
 generalize ((2 ^ n:Nat):Int)=a at hp0 hb ⊢
 simp only[hp0,hb,hv,evA,simprocAttr]
 exact frz
def firstBad (lo hi:Int) (zs:List Int):Option Nat:=zs.findIdx? fun z=>!inB z lo hi
theorem firstBad_some {lo hi:Int} {zs:List Int} {i:Nat} (h:i<zs.length) (hall:∀ j,j<i→inB (zs[j]?.getD 0) lo hi=true) (hb:inB (zs[i]?.getD 0) lo hi=false):firstBad lo hi zs=some i:=by
 unfold firstBad
 rw[List.findIdx?_eq_some_iff_getElem]
 refine ⟨h,by simpa[h] using hb,fun j hj=>?_⟩
 have:=hall j hj
 simpa[show j<zs.length by omega] using this
theorem firstBad_none {lo hi:Int} {zs:List Int} (hall:∀ j,j<zs.length→inB (zs[j]?.getD 0) lo hi=true):firstBad lo hi zs=none:=by
 unfold firstBad
 rw[List.findIdx?_eq_none_iff]
 intro x hx
 obtain ⟨j,hj,rfl⟩:=WN.1 hx
 have:=hall j hj
 simpa[hj] using this
abbrev drw (ts ks:List Int):AV:=.agg [ints ts,ints ks]
abbrev tup3 (a b c:Int):AV:=.tup [.i a,.i b,.i c]
def capF (n:Nat):Int:=((2 ^ n:Nat):Int)-1
def checkV (ts ks:List Int):AV :=
 if inB ts.length 1 6&&decide (ks.length≤8) then
  match firstBad 0 4 ts with
  | some i=>tup3 2 i 7
  | none=>match firstBad 0 (capF ts.length) ks with
   | some i=>tup3 3 i 7
   | none=>tup3 0 0 0
 else tup3 1 0 3
theorem checkV_cl (ts ks:List Int):QR 0 (checkV ts ks)=true:=by
 unfold checkV;split
 ·split
  ·rfl
  ·split <;> rfl
 ·rfl
theorem c24 (ts ks:List Int) (ht:ts.length<2 ^ 63) (hk:ks.length<2 ^ 63):PC Tryz.prog 82 [drw ts ks] (checkV ts ks):=by
 refine ⟨ZF (fok82 true) (QC rfl) ?_,checkV_cl ts ks⟩
 simp only[ic82,evA,simprocAttr]
 refine (c47 1 6 [ts.length] (by simp)).call frz ?_
 rw[FW]
 cases h1:inB ts.length 1 6
 ·have hv:checkV ts ks=tup3 1 0 3:=by simp[checkV,h1]
  simp only[hv,evA,simprocAttr]
  exact frz
 by_cases h2:ks.length≤8
 rotate_left
 ·have hv:checkV ts ks=tup3 1 0 3:=by simp[checkV,h2]
  have hd:((ks.length:Int)>8)=True:=by simp;omega
  simp only[hv,hd,evA,simprocAttr]
  exact frz
 have h6:=VB.1 h1
 have hd:((ks.length:Int)>8)=False:=by simp;omega
 simp only[hd,evA,simprocAttr]
 refine ZW ts.length (fun i s=>(∀ j,j<i→inB (ts[j]?.getD 0) 0 4=true)∧∃ junk v5 v6 v13 v14,s=⟨[drw ts ks,.ptr 0 0,.i 0,.i 0,.i 0,v5,v6,.undef,.undef,.b false,ints ts,.i ts.length,.i i,v13,v14,.undef,.undef,.undef,.undef,.undef],AObj.cells [ints ts,ints ks]::junk⟩) ?_ 0 (QF _) ⟨by omega,[AObj.cells [.i ts.length]],_,_,_,_,rfl⟩
 rintro i s hi ⟨hall,junk,v5,v6,v13,v14,rfl⟩
 by_cases h:i<ts.length
 ·simp only[ic82l1,QJ,h,evA,simprocAttr]
  refine (c47 0 4 [ts[i]?.getD 0] (by simp)).call (.cons (.c (.c _ trivial)) (.cons (.c (.c _ trivial)) (.cons (frz_one (fun _=>trivial) (by simp[rowOf])) .nil))) ?_
  rw[FW]
  cases hb:inB (ts[i]?.getD 0) 0 4
  ·have hv:checkV ts ks=tup3 2 i 7:=by simp[checkV,h1,h2,firstBad_some h hall hb]
   simp only[hv,evA,simprocAttr]
   exact frz
  ·simp only[evA,simprocAttr]
   refine ZL (by first | trivial | omega) ⟨fun j hj=>?_,_,_,_,_,_,by rw[ZC (by omega)];rfl⟩
   rcases QQ.1 hj with hj | rfl
   ·exact hall j hj
   ·exact hb
 ·have:i=ts.length:=by omega
  subst this
  have hfb:=firstBad_none hall
  simp only[ic82l1,QJ,h,evA,simprocAttr]
  refine ZW ks.length (fun i s=>(∀ j,j<i→inB (ks[j]?.getD 0) 0 (capF ts.length)=true)∧∃ junk v5 v6 v7 v8 v12 v13 v14 v18 v19,s=⟨[drw ts ks,.ptr 0 0,.i 0,.i 0,.i 0,v5,v6,v7,v8,.b false,ints ts,.i ts.length,v12,v13,v14,ints ks,.i ks.length,.i i,v18,v19],AObj.cells [ints ts,ints ks]::junk⟩) ?_ 0 (QF _) ⟨by omega,_,_,_,_,_,_,_,_,_,_,rfl⟩
  rintro i s hi ⟨hall2,junk,v5,v6,v7,v8,v12,v13,v14,v18,v19,rfl⟩
  by_cases h:i<ks.length
  ·have hpw:(2:Nat) ^ ts.length≤2 ^ 6:=Nat.pow_le_pow_right (by omega) (by omega)
   have hsh:IntKind.i64.wrap (IntKind.i64.wrap (1*2 ^ min ts.length IntKind.i64.bits)-1)=capF ts.length:=by
    have h64:IntKind.i64.bits=64:=rfl
    have h2:(2:Int) ^ ts.length=((2 ^ ts.length:Nat):Int):=by simp
    rw[h64,VD (by omega),Int.one_mul,h2]
    unfold capF
    generalize 2 ^ ts.length=q at hpw ⊢
    rw[ZC (n:=(q:Int)) (by omega),ZC (by omega)]
   have hn0:¬ ((ts.length:Int)<0):=by omega
   simp only[ic82l0,QJ,h,VK,hn0,hsh,evA,simprocAttr]
   refine (c47 0 (capF ts.length) [ks[i]?.getD 0] (by simp)).call (.cons (.c (.c _ trivial)) (.cons (.c (.c _ trivial)) (.cons (frz_one (fun _=>trivial) (by simp[rowOf])) .nil))) ?_
   rw[FW]
   cases hb:inB (ks[i]?.getD 0) 0 (capF ts.length)
   ·have hv:checkV ts ks=tup3 3 i 7:=by simp[checkV,h1,h2,hfb,firstBad_some h hall2 hb]
    simp only[hv,evA,simprocAttr]
    exact frz
   ·simp only[evA,simprocAttr]
    refine ZL (by first | trivial | omega) ⟨fun j hj=>?_,_,_,_,_,_,_,_,_,_,_,by rw[ZC (n:=(i:Int)+1) (by omega)];rfl⟩
    rcases QQ.1 hj with hj | rfl
    ·exact hall2 j hj
    ·exact hb
  ·have:i=ks.length:=by omega
   subst this
   have hv:checkV ts ks=tup3 0 0 0:=by simp[checkV,h1,h2,hfb,firstBad_none hall2]
   simp only[ic82l0,QJ,h,hv,evA,simprocAttr]
   exact frz
structure DrawOk (ts ks:List Int):Prop where
 tl:1≤ts.length∧ts.length≤6
 kl:ks.length≤8
 tr:∀ j,j<ts.length→0≤ts[j]?.getD 0∧ts[j]?.getD 0≤4
 kr:∀ j,j<ks.length→0≤ks[j]?.getD 0∧ks[j]?.getD 0≤capF ts.length
def encI (ts:List Int):Nat→Int
 | 0=>0
 | i+1=>encI ts i*5+ts[i]?.getD 0
abbrev encN (ts:List Int):Nat:=(encI ts ts.length).toNat
def canB_l (ks ts:List Int) (t i:Nat):Bool:=decide (ts[i]?.getD 0>0) && !((ks[t]?.getD 0).toNat.testBit i)
structure TabAt (σ:List AObj) (b T size:Nat) (K:List (List Int)):Prop where
 out:rowOf σ b=some ((List.range T).map fun j=>AV.sl (b+1+j) 0 size 1)
 kl:K.length=T
 rows:∀ j,j<T→rowOf σ (b+1+j)=some ((K[j]?.getD []).map AV.i)∧(K[j]?.getD []).length=size
structure MemoB (T size:Nat) (K:List (List Int)):Prop where
 kl:K.length=T
 rl:∀ j,j<T→(K[j]?.getD []).length=size
 le:∀ (j a:Nat),j<T→(K[j]?.getD [])[a]?.getD 0≤(6 ^ (T-j):Nat)
theorem objIn_ints (n:Nat) (zs:List Int):Z3 n (AObj.cells (zs.map AV.i))=true:=by
 simp only[Z3]
 induction zs with
 | nil=>rfl
 | cons z zs ih=>simp only[Q0,QO,QR,XI];exact ih
theorem rens_ints (g:Nat→Nat):∀ zs:List Int,rens g (zs.map AV.i)=zs.map AV.i
 | []=>rfl
 | z::zs=>by simp only[Q0,rens,ren,rens_ints g zs]
def Dig (n:Nat) (ts:List Int):Prop:=ts.length=n∧∀ j,j<ts.length→0≤ts[j]?.getD 0∧ts[j]?.getD 0≤4
def waysF (ks:List Int):Nat→List Int→Int
 | 0,_=>1
 | r+1,ts=>((List.range ts.length).map fun i=>if canB_l ks ts (ks.length-(r+1)) i then waysF ks r (ts.set i (ts[i]?.getD 0-1)) else 0).sum
def Right (ks:List Int) (n:Nat) (K:List (List Int)):Prop:=∀ r ts,r+1≤ks.length→Dig n ts→(K[ks.length-(r+1)]?.getD [])[encN ts]?.getD 0≥0→(K[ks.length-(r+1)]?.getD [])[encN ts]?.getD 0=waysF ks (r+1) ts
theorem dig_less {ks ts:List Int} {n t i:Nat} (h:Dig n ts) (hi:i<ts.length) (hc:canB_l ks ts t i=true):Dig n (ts.set i (ts[i]?.getD 0-1)):=by
 refine ⟨by simpa using h.1,fun j hj=>?_⟩
 simp only[WE] at hj
 by_cases hij:i=j
 ·subst hij
  simp only[canB_l,QD,decide_eq_true_eq] at hc
  have:=h.2 i hi
  simp only[hi,Z2,Option.getD_some];omega
 ·rw[QU hij];exact h.2 j hj
theorem sum_nonneg {l:List Nat} {f:Nat→Int} (h:∀ i∈l,0≤f i):0≤(l.map f).sum:=by
 induction l with
 | nil=>simp
 | cons a l ih =>
  have h1:=h a (by simp)
  have h2:=ih fun i hi=>h i (by simp[hi])
  simp only[Q0,List.sum_cons];omega
theorem waysF_nonneg (ks:List Int):∀ (r:Nat) (ts:List Int),0≤waysF ks r ts
 | 0,_=>by simp[waysF]
 | r+1,ts=>by
  simp only[waysF]
  refine sum_nonneg fun i _=>?_
  split
  ·exact waysF_nonneg ks r _
  ·exact Int.le_refl _
theorem checkV_ok {ts ks:List Int} (h:DrawOk ts ks):checkV ts ks=tup3 0 0 0:=by
 have h1:inB ts.length 1 6=true:=VB.2 (by have:=h.tl;omega)
 have h2:firstBad 0 4 ts=none:=firstBad_none fun j hj=>VB.2 (h.tr j hj)
 have h3:firstBad 0 (capF ts.length) ks=none:=firstBad_none fun j hj=>VB.2 (h.kr j hj)
 simp[checkV,h1,h2,h3,h.kl]
end Go.Proofs.YtpmokaefmcffaaaGreat.AM

/- Parts of the proof, joined: AmMr to AmMs. -/
import Derived.Maps.RangeRun
import Derived.Test.YtgkidpolomhghaaGreatDoorZ18
set_option linter.unusedVariables false
set_option linter.unusedSimpArgs false
set_option linter.unusedSectionVars false
namespace Go.Proofs.YtgkidpolomhghaaGreatDoor.AM
variable [Dr]
open Go
variable {P:Program} {fx:Fx} {m m':LM} {X X':Nat→Prop} {en:En} {w w':World} {s:St} {ac:Act}
theorem Mono.lessX (h:∀ b,X b→X' b):Mono m X' w m X w :=
 ⟨fun _ _ h=>h,fun b hb _=>⟨rfl,fun ho=>hb (ho.imp (h b) id)⟩,fun b c e h=>⟨c,h,rfl⟩⟩
theorem SRel.lessX (h:∀ b,X b→X' b) (hs:SRel fx m X' en s ac w):SRel fx m X en s ac w:=by
 refine ⟨hs.size,hs.vars.mono (Mono.lessX h),?_,?_,hs.base,hs.entry⟩
 ·obtain ⟨bs,h1,h2,h3⟩:=hs.defs
  exact ⟨bs,h1,h2,fun b hb=>let ⟨g1,g2,g3,g4⟩:=h3 b hb;⟨g1,g2,g3,fun ho=>g4 (ho.imp (h b) id)⟩⟩
 ·refine ⟨fun b hb=>hs.heap.xb b (h b hb),hs.heap.dom,fun l b o hl ho hv hx=>hs.heap.own l b o hl ho hv (h b hx),hs.heap.inj,fun l o ho=>?_,hs.heap.gl.mono (Mono.lessX h)⟩
  have:=hs.heap.obj l o ho
  cases hml:m l with
  | none=>rw[hml] at this;cases o <;> simp[ORel] at this ⊢
  | some b=>rw[hml] at this;exact ORel.mono (Mono.lessX h) rfl this
theorem Step.lessX {n0:Nat} (h:∀ b,X b→X' b) (hs:Step n0 m X' w m' w'):Step n0 m X w m' w':={ hs with fr:=fun b hb hno=>hs.fr b hb (hno.imp (h b) id) }
theorem Step.putX {n0 r:Nat} {o:Obj} (hs:Step n0 m X w m' w') (hr:w.heap.size≤r):Step n0 m X w m' (w'.putObj r o) where
 keep:=hs.keep
 new:=hs.new
 size:=by have:=hs.size;simpa[World.putObj] using this
 fr b hb hno:=by rw[World.putObj_heap_other (by omega)];exact hs.fr b hb hno
 shp b c e hb:=by
  obtain ⟨c',h1,h2⟩:=hs.shp b c e hb
  have:=(Q3.1 hb).1
  exact ⟨c',by rw[World.putObj_heap_other (by omega)];exact h1,h2⟩
 os:=hs.os
 tape:=hs.tape
 output:=hs.output
 drawn:=hs.drawn
theorem Step.drew {n0:Nat} (hs:Step n0 m X w m' w'):Step n0 m X w m' w'.drew:={ hs with drawn:=fun o=>Nat.le_succ_of_le (hs.drawn o) }
theorem Mono.putX {r:Nat} {o o0:Obj} (hx:X r) (hr:w.heap[r]? = some o0) (h0:∀ c e,o0≠.cells c e (0,0)):Mono m X w m X (w.putObj r o) :=
 ⟨fun _ _ h=>h,fun b hb _=>⟨World.putObj_heap_other (show b≠r from fun h=>hb (.inl (by rw[h];exact hx))),hb⟩,fun b c e h=>⟨c,by
  rw[World.putObj_heap_other];exact h
  rintro rfl
  rw[hr] at h;cases h;exact h0 _ _ rfl,rfl⟩⟩
theorem SRel.putX {r:Nat} {o o0:Obj} (hx:X r) (hr:w.heap[r]? = some o0) (h0:∀ c e,o0≠.cells c e (0,0)) (hs:SRel fx m X en s ac w):SRel fx m X en s ac (w.putObj r o):=by
 have hm:Mono m X w m X (w.putObj r o):=Mono.putX hx hr h0
 refine ⟨hs.size,hs.vars.mono hm,?_,?_,hs.base,by simpa[World.putObj] using hs.entry⟩
 ·obtain ⟨bs,h1,h2,h3⟩:=hs.defs
  refine ⟨bs,h1,h2,fun b hb=>?_⟩
  obtain ⟨g1,g2,g3,g4⟩:=h3 b hb
  exact ⟨g1,by simpa[World.putObj] using g2,by rw[World.putObj_heap_other (show b≠r from fun h=>g4 (.inl (by rw[h];exact hx)))];exact g3,g4⟩
 ·refine ⟨fun b hb=>by simpa[World.putObj] using hs.heap.xb b hb,fun l b hl=>by simpa[World.putObj] using hs.heap.dom l b hl,hs.heap.own,hs.heap.inj,fun l o' ho=>?_,hs.heap.gl.mono hm⟩
  have h1:=hs.heap.obj l o' ho
  cases hml:m l with
  | none=>rw[hml] at h1;cases o' <;> simp[ORel] at h1 ⊢
  | some b =>
   rw[hml] at h1
   by_cases hv:o'.live
   ·exact ORel.mono hm (World.putObj_heap_other (show b≠r from fun h=>hs.heap.own l b o' hml ho hv (by rw[h];exact hx))) h1
   ·cases o' <;> simp[AObj.live] at hv
    simp[ORel]
theorem SRel.put_other {t:Nat} {v:Value} (ht:t∉fx.vars) (hs:SRel fx m X en s ac w):SRel fx m X en s (ac.put (some t) v) w:=by
 refine ⟨by simpa[Act.put] using hs.size,fun i u hi=>?_,hs.defs,hs.heap,hs.base,hs.entry⟩
 have hne:u≠t:=by rintro rfl;exact ht (QZ hi)
 have:=hs.vars i u hi
 simp only[Act.put,QV] at this ⊢
 rw[W2 (fun h=>hne h.symm)];exact this
theorem SRel.put_var {t i:Nat} {v:Value} {a:AV} (hn:fx.vars.Nodup) (ht:fx.vars[i]? = some t) (htN:t<fx.N) (hv:VRel m X w a v) (hs:SRel fx m X en s ac w):SRel fx m X en ⟨s.vals.set i a,s.heap⟩ (ac.put (some t) v) w:=by
 refine ⟨by simpa[Act.put] using hs.size,fun j u hj=>?_,hs.defs,hs.heap,hs.base,hs.entry⟩
 have hsz:=hs.size
 have hold:=hs.vars j u hj
 by_cases hji:j=i
 ·subst hji
  rw[ht] at hj;cases hj
  have e1:(ac.put (some t) v).tmps.getD t Go.undef=v:=by
   simp[Act.put,QV,hsz,htN]
  rw[e1]
  rcases ZB j s.vals.length with h | h
  ·simpa[List.getD,h] using hv
  ·rw[KE h];simp[List.getD,QN h,VRel]
 ·have hne:u≠t:=by
   rintro rfl
   exact hji ((List.getElem?_inj (QH.1 hj).1 hn).1 (hj.trans ht.symm))
  have e1:(s.vals.set i a).getD j .undef=s.vals.getD j .undef:=by
   simp only[List.getD];rw[QU (fun h=>hji h.symm)]
  have e2:(ac.put (some t) v).tmps.getD u Go.undef=ac.tmps.getD u Go.undef:=by
   simp only[Act.put,QV];rw[W2 (fun h=>hne h.symm)]
  show VRel m X w ((s.vals.set i a).getD j .undef) _
  rw[e1,e2];exact hold
theorem PQ {ro:Option Nat} {ops:Array Oper} {Q:Exit→Act→World→Prop} {l:List Nat} {i:Nat} {o:Oper} {v:Value} (ho:ops[i]? = some o) (hg:o.guard=none) (hnd:∀ c,o.op≠.defer c)
  (hrun:(execOp ac.eval o).run P w=.ok (.value v) w') (h:wpOpsIn (wfen ro) 0 P ops Q l (ac.put o.dst v) w'):wpOpsIn (wfen ro) 0 P ops Q (i::l) ac w:=by
 have hw:Region.wanted o (yielded ops ac.tmps)=true:=by simp[Region.wanted,hg]
 simp only[wpOpsIn,ho,hw,if_true]
 refine ⟨fun _ _=>trivial,?_⟩
 rw[Oper.semAt_eq _ _ _ hnd,hrun]
 exact h
structure MIt (m:LM) (X:Nat→Prop) (w:World) (lit l:Nat) (es:List (AV × AV)) (dn:List Nat) (r bm:Nat) (ces:Array MapEntry) (clock:Nat):Prop where
 mi:m lit=some r
 ml:m l=some bm
 xr:X r
 xm:X bm
 it:∃ c0,c0=clock∧w.heap[r]? = some (.mapIter (some bm) clock ((dn.map fun i=>(ces[i]?.map (·.born)).getD 0).toArray) c0)
 mp:w.heap[bm]? = some (.map ces clock)
 born:∀ e∈ces,e.born<clock
 nd:(ces.toList.map (·.born)).Nodup
 sz:ces.size=es.length
 rel:∀ (i:Nat) (k a:AV),es[i]? = some (k,a)→∃ e:MapEntry,ces[i]? = some e∧(∀ m X w,VRel m X w k e.key)∧∀ m X w,VRel m X w a e.val
 dd:dn.Nodup
 dl:∀ i∈dn,i<es.length
theorem MIt.step {lit l:Nat} {es:List (AV × AV)} {dn:List Nat} {r bm:Nat} {ces:Array MapEntry} {clock n0:Nat} (h:MIt m X w lit l es dn r bm ces clock) (hs:Step n0 m X w m' w') (h1:lit<n0) (h2:l<n0):MIt m' X w' lit l es dn r bm ces clock:=by
 obtain ⟨c0,hc,hit⟩:=h.it
 refine ⟨by rw[hs.keep _ h1];exact h.mi,by rw[hs.keep _ h2];exact h.ml,h.xr,h.xm,⟨c0,hc,?_⟩,?_,h.born,h.nd,h.sz,h.rel,h.dd,h.dl⟩
 ·rw[hs.fr r (Q3.1 hit).1 (.inl h.xr)];exact hit
 ·rw[hs.fr bm (Q3.1 h.mp).1 (.inl h.xm)];exact h.mp
theorem born_inj {ces:Array MapEntry} (hn:(ces.toList.map (·.born)).Nodup) {i j:Nat} {e e':MapEntry} (hi:ces[i]? = some e) (hj:ces[j]? = some e') (h:e.born=e'.born):i=j:=by
 have h1:(ces.toList.map (·.born))[i]? = some e.born:=by simp[hi]
 have h2:(ces.toList.map (·.born))[j]? = some e'.born:=by simp[hj]
 have hl:i<(ces.toList.map (·.born)).length:=(QH.1 h1).1
 exact (List.getElem?_inj hl hn).1 (by rw[h1,h2,h])
theorem MIt.next {lit l:Nat} {es:List (AV × AV)} {dn:List Nat} {r bm:Nat} {ces:Array MapEntry} {clock:Nat} (h:MIt m X w lit l es dn r bm ces clock) (ty:TypeId) :
  (dn.Perm (List.range es.length)∧(Instr.next (.pointer (some ⟨r,0,none⟩)) false ty).run P w=.ok (.tuple #[.bool false]) w) ∨
  ∃ (i:Nat) (k a:AV) (e:MapEntry) (w1:World) (c0:Nat),i∉dn∧i<es.length∧es[i]? = some (k,a)∧ces[i]? = some e∧(∀ m X w,VRel m X w k e.key)∧(∀ m X w,VRel m X w a e.val)∧(w1=w∨w1=w.drew)∧clock≤c0 ∧
   (Instr.next (.pointer (some ⟨r,0,none⟩)) false ty).run P w=.ok (.tuple #[.bool true,e.key,e.val]) (w1.putObj r (.mapIter (some bm) clock (((dn++[i]).map fun i=>(ces[i]?.map (·.born)).getD 0).toArray) c0)) ∧
   MIt m X (w1.putObj r (.mapIter (some bm) clock (((dn++[i]).map fun i=>(ces[i]?.map (·.born)).getD 0).toArray) c0)) lit l es (dn++[i]) r bm ces clock:=by
 obtain ⟨c0,hc,hit⟩:=h.it
 have hmem:∀ i e,ces[i]? = some e→((dn.map fun i=>(ces[i]?.map (·.born)).getD 0).toArray.contains e.born=true↔i∈dn):=by
  intro i e he
  simp only[List.contains_toArray,XS,ZP]
  constructor
  ·rintro ⟨j,hj,hb⟩
   have hjl:=h.dl j hj
   obtain ⟨e',he'⟩:∃ e',ces[j]? = some e':=⟨ces[j]'(by rw[h.sz];exact hjl),by rw[Q7]⟩
   rw[he'] at hb
   have:i=j:=born_inj h.nd he he' (by simpa using hb.symm)
   exact this ▸ hj
  ·intro hi
   exact ⟨i,hi,by simp[he]⟩
 rcases run_next_at (P:=P) w ty r bm clock c0 _ ces clock hit h.mp (fun x hx=>h.born x (by simpa using hx)) (by omega) with ⟨h0,hrun⟩ | ⟨e,he,w1,hw1,hrun⟩
 ·left
  refine ⟨?_,hrun⟩
  have hall:∀ i,i<es.length→i∈dn:=by
   intro i hi
   have hic:i<ces.size:=by rw[h.sz];exact hi
   have h2:ces[i]? = some ces[i]:=Q7 hic
   rw[← hmem i _ h2]
   have h3:leftOf ces ((dn.map fun i=>(ces[i]?.map (·.born)).getD 0).toArray) = #[]:=Array.eq_empty_of_size_eq_zero h0
   unfold leftOf at h3
   rw[Array.filter_eq_empty_iff] at h3
   have:=h3 ces[i] (Array.getElem_mem hic)
   simpa using this
  refine (List.perm_ext_iff_of_nodup h.dd List.nodup_range).2 fun i=>?_
  rw[ZI]
  exact ⟨h.dl i,hall i⟩
 ·right
  unfold leftOf at he
  simp only[Array.toList_filter,YB,Z0,XG] at he
  obtain ⟨he1,he2⟩:=he
  obtain ⟨i,hi,rfl⟩:=Array.mem_iff_getElem.1 he1
  have hic:ces[i]? = some ces[i]:=Q7 hi
  have hil:i<es.length:=by rw[← h.sz];exact hi
  have hid:i∉dn:=by
   intro hd
   rw[(hmem i _ hic).2 hd] at he2
   cases he2
  obtain ⟨e',g1,g2,g3⟩:=h.rel i (es[i]).1 (es[i]).2 (by rw[QI hil])
  rw[hic] at g1;cases g1
  have hseen:(((dn++[i]).map fun i=>(ces[i]?.map (·.born)).getD 0).toArray)=((dn.map fun i=>(ces[i]?.map (·.born)).getD 0).toArray).push (ces[i]).born:=by
   simp[hic]
  have hsb:∀ (u:World) o,ChangeMaps.setBlock u r o=u.putObj r o:=fun _ _=>rfl
  have hr1:w1.heap=w.heap:=by rcases hw1 with rfl | rfl <;> rfl
  have hrlt:r<w1.heap.size:=by rw[hr1];exact (Q3.1 hit).1
  have hne:bm≠r:=by rintro rfl;have hmp:=h.mp;rw[hit] at hmp;cases hmp
  refine ⟨i,(es[i]).1,(es[i]).2,ces[i],w1,clock,hid,hil,by rw[QI hil],hic,g2,g3,hw1,QG _,by rw[hseen];exact hrun,?_⟩
  refine ⟨h.mi,h.ml,h.xr,h.xm,⟨clock,rfl,World.putObj_heap_same hrlt⟩,by rw[World.putObj_heap_other hne,hr1];exact h.mp,h.born,h.nd,h.sz,h.rel,?_,?_⟩
  ·exact List.nodup_append.2 ⟨h.dd,by simp,fun a ha b hb=>by simp at hb;subst hb;rintro rfl;exact hid ha⟩
  ·intro j hj
   rcases YV.1 hj with hj | hj
   ·exact h.dl j hj
   ·simp at hj;subst hj;exact hil
structure GM (l bm:Nat) (es:List (AV × AV)) (ces:Array MapEntry) (clock:Nat) (m:LM) (X:Nat→Prop) (w:World):Prop where
 ml:m l=some bm
 xm:X bm
 mp:w.heap[bm]? = some (.map ces clock)
 born:∀ e∈ces,e.born<clock
 nd:(ces.toList.map (·.born)).Nodup
 sz:ces.size=es.length
 rel:∀ (i:Nat) (k a:AV),es[i]? = some (k,a)→∃ e:MapEntry,ces[i]? = some e∧(∀ m X w,VRel m X w k e.key)∧∀ m X w,VRel m X w a e.val
theorem GM.step {l bm:Nat} {es:List (AV × AV)} {ces:Array MapEntry} {clock n0:Nat} (h:GM l bm es ces clock m X w) (hs:Step n0 m X w m' w') (hl:l<n0):GM l bm es ces clock m' X w' :=
 ⟨by rw[hs.keep _ hl];exact h.ml,h.xm,by rw[hs.fr bm (Q3.1 h.mp).1 (.inl h.xm)];exact h.mp,h.born,h.nd,h.sz,h.rel⟩
def WX (P:Program) (fx:Fx) (G:LM→(Nat→Prop)→World→Prop) (c:Code) (s:St) (Q:Exit→St→Prop):Prop :=
 ∀ m X en ac w,SRel fx m X en s ac w→rok fx m→G m X w→c.wpIn (fen m fx.r) 0 P (Lift fx m X en w Q) ac w
theorem WX.of {G:LM→(Nat→Prop)→World→Prop} {c:Code} {Q:Exit→St→Prop} (h:W P fx c s Q):WX P fx G c s Q:=fun m X en ac w hs hr _=>h m X en ac w hs hr
theorem C6 {G:LM→(Nat→Prop)→World→Prop} (hG:∀ m X w m' w',G m X w→Step fx.n0 m X w m' w'→G m' X w') {x y:Code} {Q:Exit→St→Prop} (h:WX P fx G x s fun e s'=>match e with | .normal=>WX P fx G y s' Q | e=>Q e s'):WX P fx G (.seq x y) s Q:=by
 intro m X en ac w hs hr hg
 refine wpIn_seq (wpIn_mono (h m X en ac w hs hr hg) ?_)
 rintro e ac' w' ⟨s',m',hq,hs',hst⟩
 cases e with
 | normal =>
  have:=hq m' X en ac' w' hs' (EH hr hst) (hG _ _ _ _ _ hg hst)
  rw[EQ hr hst] at this
  exact wpIn_mono this fun e ac2 w2 ⟨s2,m2,h1,h2,h3⟩=>⟨s2,m2,h1,h2,hst.trans h3⟩
 | _=>exact ⟨s',m',hq,hs',hst⟩
set_option maxHeartbeats 1000000 in
theorem QdL {l bm:Nat} {es:List (AV × AV)} {ces:Array MapEntry} {clock:Nat} {tm tit tn tok te iit bi bj id2 id3 id4 T K E:Nat} {o20 o21 o30 o31 o4:Oper} {ops4:Array Oper} {is4:List Ins} {B:Code} {x:Operand} {Q:Exit→St→Prop}
  (hl0:l<fx.n0) (hx:WY s.vals [] (XA fx.vars [] x)=.map l) (hT:P.underlying T=some (.map K E)) (hnd:fx.vars.Nodup)
  (g20:o20.dst=some tm∧o20.op=.move x∧o20.guard=none) (g21:o21.dst=some tit∧o21.op=.range T (.tmp tm)∧o21.guard=none)
  (g30:o30.dst=some tn∧o30.op=.next (.tmp tit) false∧o30.guard=none) (g31:o31.dst=some tok∧o31.op=.extract (.tmp tn) 0∧o31.guard=none)
  (g4:ops4[0]? = some o4∧o4.dst=some te∧o4.op=.entry (.tmp tit)∧o4.guard=none)
  (hok4:GU fx.vars fx.N ops4.toList=true) (hc4:HK P fx.vars (ops4.toList.map (·.dst)) (ops4.toList.drop 1)=some is4)
  (hit:fx.vars[iit]? = some tit) (hv:tm∉fx.vars∧tn∉fx.vars∧tok∉fx.vars∧te∉fx.vars) (hN:tm<fx.N∧tit<fx.N∧tn<fx.N∧tok<fx.N∧te<fx.N)
  (I:List Nat→St→Prop) (h0:I [] ⟨s.vals.set iit (.ptr s.heap.length 0),s.heap++[.dead]⟩)
  (hI:∀ dn s',I dn s'→s'.vals.getD iit .undef=.ptr s.heap.length 0)
  (hround:∀ dn s' i k a,I dn s'→i∉dn→es[i]? = some (k,a)→RG P is4 s'.vals [.tup [k,a]] s'.heap fun vals _ σ=>W P { fx with n0:=s.heap.length+1 } B ⟨vals,σ⟩ fun e s2=>match e with
   | .normal=>∃ s3,Weak { fx with n0:=s.heap.length+1 } s2 s3∧I (dn++[i]) s3
   | _=>False)
  (hend:∀ dn s',I dn s'→dn.Perm (List.range es.length)→Q .normal s') :
  WX P fx (GM l bm es ces clock) (.seq (.region id2 #[o20,o21] false) (.block bi (.loop (.seq (.region id3 #[o30,o31] false) (.seq (.cond (.tmp tok) .skip (.exit bi)) (.block bj (.seq (.region id4 ops4 false) B))))))) s Q:=by
 intro m X en ac w hs hr hg
 have hbase:fx.n0≤s.heap.length:=hs.base
 have hbl:bm<w.heap.size:=(Q3.1 hg.mp).1
 have hxv:ac.eval x=.map (some bm):=by
  have:=U7 (ops:=[]) (ρ:=[]) (ds:=ac.defers) (tmps:=ac.tmps) hs.heap.gl hs.vars (fun j t hj _=>by simp at hj) x
  simp only[WS] at this
  rw[hx] at this
  simp only[VRel] at this
  obtain ⟨b,hb,he⟩:=this
  rw[hg.ml] at hb;cases hb
  exact he
 have hro:fen m fx.r=wfen (fx.r.bind m):=rfl
 refine wpIn_seq (wpIn_region ?_)
 show wpOpsIn (wfen (fx.r.bind m)) 0 P #[o20,o21] _ [0,1] ac w
 refine PQ (o:=o20) (v:=.map (some bm)) (w':=w) rfl g20.2.2 (by rw[g20.2.1];simp) (by simp[execOp,g20.2.1,hxv]) ?_
 rw[g20.1]
 have hsz:=hs.size
 have ev1:(ac.put (some tm) (.map (some bm))).eval (.tmp tm)=.map (some bm):=by
  simp[Act.eval,Act.put,QV,hsz,hN.1]
 refine PQ (o:=o21) (v:=.pointer (some ⟨w.heap.size,0,none⟩)) (w':=w.alloc (.mapIter (some bm) clock #[] clock)) rfl g21.2.2 (by rw[g21.2.1];simp) (by
  simp only[execOp,g21.2.1,ev1]
  simp[run_range_map w T K E bm ces clock hT hg.mp]) ?_
 rw[g21.1]
 simp only[wpOpsIn,Exit.then]
 refine wpIn_block (D6 ?_)
 obtain ⟨a1,a2,a3⟩:=hs.heap.alloc (.mapIter (some bm) clock #[] clock) .dead (fun _=>by simp[ORel])
 have hm1:Mono m X w (m.put s.heap.length w.heap.size) (fun b=>X b∨b=w.heap.size) (w.alloc (.mapIter (some bm) clock #[] clock)):=by
  refine ⟨a3.sub,fun b hb hc=>⟨(a3.cl b hb hc).1,?_⟩,a3.shp⟩
  rintro ((hx | rfl) | ⟨l',hl'⟩)
  ·exact hb (.inl hx)
  ·exact absurd hc.lt (Nat.lt_irrefl _)
  ·exact (a3.cl b hb hc).2 (.inr ⟨l',hl'⟩)
 have hs1:SRel { fx with n0:=s.heap.length+1 } (m.put s.heap.length w.heap.size) (fun b=>X b∨b=w.heap.size) en ⟨s.vals,s.heap++[.dead]⟩ ac (w.alloc (.mapIter (some bm) clock #[] clock)):=by
  refine ⟨hs.size,hs.vars.mono hm1,?_,⟨?_,a1.dom,?_,a1.inj,?_,hs.heap.gl.mono hm1⟩,by simp,by have:=hs.entry;simp;omega⟩
  ·obtain ⟨bs,h1,h2,h3⟩:=hs.defs
   refine ⟨bs,h1,h2,fun b hb=>?_⟩
   obtain ⟨q1,q2,q3,q4⟩:=h3 b hb
   refine ⟨q1,by simp;omega,by rw[heap_alloc_old w _ q2];exact q3,?_⟩
   rintro ((hx | rfl) | ⟨l',hl'⟩)
   ·exact q4 (.inl hx)
   ·exact Nat.lt_irrefl _ q2
   ·by_cases hll:l'=s.heap.length
    ·subst hll;rw[LM.put_same] at hl';cases hl';exact Nat.lt_irrefl _ q2
    ·rw[LM.put_other m hll] at hl';exact q4 (.inr ⟨l',hl'⟩)
  ·rintro b (hb | rfl)
   ·exact a1.xb b hb
   ·simp
  ·intro l' b o hl' ho hvv
   rintro (hb | rfl)
   ·exact a1.own l' b o hl' ho hvv hb
   ·by_cases hll:l'=s.heap.length
    ·subst hll
     rw[QS (QG _)] at ho
     simp at ho;subst ho;exact hvv
    ·rw[LM.put_other m hll] at hl'
     exact Nat.lt_irrefl _ (hs.heap.dom l' _ hl').2
  ·intro l' o ho
   have hh:=a1.obj l' o ho
   have hgrow:Mono (m.put s.heap.length w.heap.size) X (w.alloc (.mapIter (some bm) clock #[] clock)) (m.put s.heap.length w.heap.size) (fun b=>X b∨b=w.heap.size) (w.alloc (.mapIter (some bm) clock #[] clock)):=by
    refine ⟨fun _ _ h=>h,fun b hb hc=>⟨rfl,?_⟩,fun b c e h=>⟨c,h,rfl⟩⟩
    rintro ((hx | rfl) | ⟨l',hl'⟩)
    ·exact hb (.inl hx)
    ·exact hb (.inr ⟨s.heap.length,LM.put_same _ _ _⟩)
    ·exact hb (.inr ⟨l',hl'⟩)
   cases hml:(m.put s.heap.length w.heap.size) l' with
   | none=>rw[hml] at hh;cases o <;> simp[ORel] at hh ⊢
   | some b=>rw[hml] at hh;exact ORel.mono hgrow rfl hh
 have hs2:=SRel.put_var (fx:={ fx with n0:=s.heap.length+1 }) (v:=.pointer (some ⟨w.heap.size,0,none⟩)) (a:=.ptr s.heap.length 0) hnd hit hN.2.1 (by simp only[VRel];exact ⟨_,LM.put_same _ _ _,rfl⟩) (SRel.put_other (fx:={ fx with n0:=s.heap.length+1 }) (t:=tm) (v:=.map (some bm)) hv.1 hs1)
 have hM0:MIt (m.put s.heap.length w.heap.size) (fun b=>X b∨b=w.heap.size) (w.alloc (.mapIter (some bm) clock #[] clock)) s.heap.length l es [] w.heap.size bm ces clock :=
  ⟨LM.put_same _ _ _,by rw[LM.put_other m (by omega)];exact hg.ml,.inr rfl,.inl hg.xm,⟨clock,rfl,by rw[heap_alloc_new];rfl⟩,by rw[heap_alloc_old w _ hbl];exact hg.mp,hg.born,hg.nd,hg.sz,hg.rel,YU,by simp⟩
 have hst0:Step fx.n0 m X w (m.put s.heap.length w.heap.size) (w.alloc (.mapIter (some bm) clock #[] clock)):=a2.less hbase
 have key:∀ (n:Nat) (dn:List Nat) (s':St) (m1:LM) (ac1:Act) (w1:World),es.length-dn.length=n→I dn s'→SRel { fx with n0:=s.heap.length+1 } m1 (fun b=>X b∨b=w.heap.size) en s' ac1 w1 →
   MIt m1 (fun b=>X b∨b=w.heap.size) w1 s.heap.length l es dn w.heap.size bm ces clock→Step fx.n0 m X w m1 w1 →
   RA (fen m fx.r) P (.seq (.region id3 #[o30,o31] false) (.seq (.cond (.tmp tok) .skip (.exit bi)) (.block bj (.seq (.region id4 ops4 false) B)))) (Exit.inBlock bi (Lift fx m X en w Q)) ac1 w1:=by
  intro n
  induction n using Nat.strongRecOn with
  | _ n ih =>
  intro dn s' m1 ac1 w1 hn hId hsr hmi hst
  have hsz1:=hsr.size
  have hiv:ac1.eval (.tmp tit)=.pointer (some ⟨w.heap.size,0,none⟩):=by
   have:=hsr.vars iit tit hit
   rw[hI dn s' hId] at this
   simp only[VRel] at this
   obtain ⟨b,hb,he⟩:=this
   rw[hmi.mi] at hb;cases hb
   exact he
  have hr1:rok { fx with n0:=s.heap.length+1 } m1:=by
   intro l' hl'
   obtain ⟨k1,b,k2⟩:=EH hr hst l' hl'
   exact ⟨by show l'<s.heap.length+1;omega,b,k2⟩
  refine L4 (wpIn_seq (wpIn_region ?_))
  show wpOpsIn (wfen (fx.r.bind m)) 0 P #[o30,o31] _ [0,1] ac1 w1
  rcases hmi.next (P:=P) o30.type with ⟨hperm,hrun⟩ | ⟨i,k,a,e,w2,c0,hid,hil,hei,hci,hk,ha,hw2,hc0,hrun,hmi2⟩
  ·refine PQ (o:=o30) (v:=.tuple #[.bool false]) (w':=w1) rfl g30.2.2 (by rw[g30.2.1];simp) (by simp[execOp,g30.2.1,hiv,hrun]) ?_
   rw[g30.1]
   have ev2:(ac1.put (some tn) (.tuple #[.bool false])).eval (.tmp tn)=.tuple #[.bool false]:=by
    simp[Act.eval,Act.put,QV,hsz1,hN.2.2.1]
   refine PQ (o:=o31) (v:=.bool false) (w':=w1) rfl g31.2.2 (by rw[g31.2.1];simp) (by simp[execOp,g31.2.1,ev2,Instr.extract]) ?_
   rw[g31.1]
   simp only[wpOpsIn,Exit.then]
   refine wpIn_seq (wpIn_cond_false (by simp[Act.eval,Act.put,QV,hsz1,hN.2.2.2.1]) (wpIn_exit ?_))
   simp only[Exit.then,Exit.inBlock,if_true]
   have hs3:=SRel.put_other (fx:={ fx with n0:=s.heap.length+1 }) (t:=tok) (v:=.bool false) hv.2.2.1 (SRel.put_other (fx:={ fx with n0:=s.heap.length+1 }) (t:=tn) (v:=.tuple #[.bool false]) hv.2.1 hsr)
   have hs4:=SRel.lessX (X:=X) (fun b h=>.inl h) hs3
   exact ⟨s',m1,hend dn s' hId hperm,⟨hs4.size,hs4.vars,hs4.defs,hs4.heap,by have:=hs4.base;dsimp only at this ⊢;omega,hs4.entry⟩,hst⟩
  ·refine PQ (o:=o30) (v:=.tuple #[.bool true,e.key,e.val]) (w':=(w2.putObj w.heap.size (.mapIter (some bm) clock (((dn++[i]).map fun i=>(ces[i]?.map (·.born)).getD 0).toArray) c0))) rfl g30.2.2 (by rw[g30.2.1];simp) (by simp only[execOp,g30.2.1,hiv];simp only[Sem.run_bind,hrun,Result.andThen_ok,Sem.run_pure]) ?_
   rw[g30.1]
   have ev2:(ac1.put (some tn) (.tuple #[.bool true,e.key,e.val])).eval (.tmp tn)=.tuple #[.bool true,e.key,e.val]:=by
    simp[Act.eval,Act.put,QV,hsz1,hN.2.2.1]
   refine PQ (o:=o31) (v:=.bool true) (w':=(w2.putObj w.heap.size (.mapIter (some bm) clock (((dn++[i]).map fun i=>(ces[i]?.map (·.born)).getD 0).toArray) c0))) rfl g31.2.2 (by rw[g31.2.1];simp) (by simp[execOp,g31.2.1,ev2,Instr.extract]) ?_
   rw[g31.1]
   simp only[wpOpsIn,Exit.then]
   refine wpIn_seq (wpIn_cond_true (by simp[Act.eval,Act.put,QV,hsz1,hN.2.2.2.1]) (wpIn_skip ?_))
   simp only[Exit.then]
   refine wpIn_block (wpIn_seq (wpIn_region ?_))
   obtain ⟨c1,hc1,hiter⟩:=hmi.it
   have hx1:(fun b=>X b∨b=w.heap.size) w.heap.size:=.inr rfl
   have hs2':SRel { fx with n0:=s.heap.length+1 } m1 (fun b=>X b∨b=w.heap.size) en s' ac1 w2:=by
    rcases hw2 with rfl | rfl
    ·exact hsr
    ·exact hsr.drew
   have hiter2:w2.heap[w.heap.size]? = some (.mapIter (some bm) clock ((dn.map fun i=>(ces[i]?.map (·.born)).getD 0).toArray) c1):=by
    rcases hw2 with rfl | rfl <;> exact hiter
   have hst2:Step fx.n0 m X w m1 w2:=by
    rcases hw2 with rfl | rfl
    ·exact hst
    ·exact hst.drew
   have hs3:=SRel.put_other (fx:={ fx with n0:=s.heap.length+1 }) (t:=tok) (v:=.bool true) hv.2.2.1 (SRel.put_other (fx:={ fx with n0:=s.heap.length+1 }) (t:=tn) (v:=.tuple #[.bool true,e.key,e.val]) hv.2.1 (SRel.putX (o:=.mapIter (some bm) clock (((dn++[i]).map fun i=>(ces[i]?.map (·.born)).getD 0).toArray) c0) hx1 hiter2 (by intro c e;simp) hs2'))
   have hst3:=hst2.putX (r:=w.heap.size) (o:=.mapIter (some bm) clock (((dn++[i]).map fun i=>(ces[i]?.map (·.born)).getD 0).toArray) c0) (QG _)
   generalize hw3:(w2.putObj w.heap.size (.mapIter (some bm) clock (((dn++[i]).map fun i=>(ces[i]?.map (·.born)).getD 0).toArray) c0))=w3 at hs3 hst3 hmi2 hrun
   have hsz3:=hs3.size
   have hiv3:((ac1.put (some tn) (.tuple #[.bool true,e.key,e.val])).put (some tok) (.bool true)).eval (.tmp tit)=.pointer (some ⟨w.heap.size,0,none⟩):=by
    have:=hs3.vars iit tit hit
    rw[hI dn s' hId] at this
    simp only[VRel] at this
    obtain ⟨b,hb,he⟩:=this
    rw[hmi.mi] at hb;cases hb
    exact he
   generalize hac3:((ac1.put (some tn) (.tuple #[.bool true,e.key,e.val])).put (some tok) (.bool true))=ac3 at hs3 hiv3 hsz3
   have hentry:(Instr.entry (.pointer (some ⟨w.heap.size,0,none⟩))).run P w3=.ok (.tuple #[e.key,e.val]) w3:=by
    obtain ⟨c2,hc2,hit2⟩:=hmi2.it
    have hseen:(((dn++[i]).map fun i=>(ces[i]?.map (·.born)).getD 0).toArray)=((dn.map fun i=>(ces[i]?.map (·.born)).getD 0).toArray).push e.born:=by
     simp[hci]
    rw[hseen,hc2] at hit2
    have hemem:e∈ces.toList:=by
     rw[XG];exact Array.mem_of_getElem? hci
    have hf:ces.find? (·.born == e.born)=some e:=by rw[← Array.find?_toList];exact find_born e ces.toList hg.nd hemem
    simp only[Instr.entry,getObj,Sem.run_bind,Sem.run,hit2,hmi2.mp,Result.andThen,Array.back?_push,bne_self_eq_false,QT,if_false,hf]
    rfl
   have hlt4:0<ops4.size:=(Q3.1 g4.1).1
   have hrange:List.range ops4.size=0::List.range' 1 (ops4.size-1):=by
    rw[List.range_eq_range']
    have:ops4.size=(ops4.size-1)+1:=by omega
    rw[this,List.range'_succ]
    simp
   rw[hrange]
   refine PQ (ro:=fx.r.bind m) (o:=o4) (v:=.tuple #[e.key,e.val]) (w':=w3) g4.1 g4.2.2.2 (by rw[g4.2.2.1];simp) (by simp[execOp,g4.2.2.1,hiv3,hentry]) ?_
   rw[g4.2.1]
   have hs4:=SRel.put_other (fx:={ fx with n0:=s.heap.length+1 }) (t:=te) (v:=.tuple #[e.key,e.val]) hv.2.2.2 hs3
   have hrm:fx.r.bind m=fx.r.bind m1:=by
    have:=EQ hr hst
    rw[fen_eq,fen_eq] at this
    have:=congrArg Fence.round this
    simpa[wfen] using this.symm
   refine C8 (fx:={ fx with n0:=s.heap.length+1 }) (X:=fun b=>X b∨b=w.heap.size) (en:=en) hok4 is4 1 m1 w3 s'.vals [.tup [k,a]] s'.heap _ _ (by rw[← UV];exact hc4) rfl (hround dn s' i k a hId hid hei) hs4 ?_ ?_
   ·intro j t hj htv
    cases j with
    | zero =>
     have h0:ops4.toList[0]? = some o4:=by simpa using g4.1
     rw[h0] at hj
     simp only[Option.bind_some,g4.2.1,Option.some.injEq] at hj
     subst hj
     have:(ac3.put (some te) (.tuple #[e.key,e.val])).tmps.getD te Go.undef=.tuple #[e.key,e.val]:=by
      simp[Act.put,QV,hsz3,hN.2.2.2.2]
     rw[this]
     simp only[List.getD_cons_zero,VRel]
     exact ⟨_,rfl,by simp only[QK];exact ⟨hk _ _ _,ha _ _ _,trivial⟩⟩
    | succ j=>simp[VRel]
   ·intro m4 ac4 w4 vals4 ρ4 σ4 hW hs5 hst5
    simp only[Exit.then]
    have hr4:=EH (fx:={ fx with n0:=s.heap.length+1 }) hr1 hst5
    have hmi4:=hmi2.step hst5 (Nat.lt_succ_self _) (by show l<s.heap.length+1;omega)
    have hstA:Step fx.n0 m X w m4 w4:=hst3.trans ((hst5.less (by show fx.n0≤s.heap.length+1;omega)).lessX fun b h=>.inl h)
    have hB:=hW m4 (fun b=>X b∨b=w.heap.size) en ac4 w4 hs5 hr4
    have hfen4:fen m4 (Fx.r { fx with n0:=s.heap.length+1 })=wfen (fx.r.bind m):=by
     show fen m4 fx.r=_
     rw[EQ hr hstA];rfl
    rw[hfen4] at hB
    refine wpIn_mono hB ?_
    rintro e6 ac6 w6 ⟨s6,m6,hq6,hs6,hst6⟩
    cases e6 with
    | normal =>
     obtain ⟨s7,hwk,hI7⟩:=hq6
     obtain ⟨m7,hs7,hst7⟩:=hwk m6 _ en ac6 w6 hs6
     have hmi7:=(hmi4.step hst6 (Nat.lt_succ_self _) (by show l<s.heap.length+1;omega)).step hst7 (Nat.lt_succ_self _) (by show l<s.heap.length+1;omega)
     have hstB:Step fx.n0 m X w m7 w6:=hstA.trans (((hst6.trans hst7).less (by show fx.n0≤s.heap.length+1;omega)).lessX fun b h=>.inl h)
     have hdl:=hmi7.dd.length_le_of_subset (l₂:=List.range es.length) fun i hi=>ZI.2 (hmi7.dl i hi)
     simp only[QM,List.length_cons,List.length_nil,List.length_range] at hdl
     exact ih (es.length-(dn++[i]).length) (by simp;omega) (dn++[i]) s7 m7 ac6 w6 rfl hI7 hs7 hmi7 hstB
    | _=>exact hq6.elim
 exact key _ [] _ _ _ _ rfl h0 hs2 hM0 hst0
end Go.Proofs.YtgkidpolomhghaaGreatDoor.AM
namespace Go.Proofs.YtgkidpolomhghaaGreatDoor.AM
variable [Dr]
open Go
variable {P:Program} {fx:Fx}
def PPost (m:LM) (X:Nat→Prop) (w:World) (σ:List AObj) (ch:List PanicEntry) (Q:List AObj→Prop):Ending→World→Prop :=
 fun e w'=>∃ σ' m',e=.panicked ch∧Q σ'∧HRel m' X σ' w'∧Step σ.length m X w m' w'∧σ.length≤σ'.length
def ACp (P:Program) (f:FuncId) (args:List AV) (σ:List AObj) (ch:List PanicEntry) (Q:List AObj→Prop):Prop :=
 PI P f∧∀ m X w cargs,QK m X w args cargs→HRel m X σ w→CallsIn Fence.wide 0 P f cargs.toArray w (PPost m X w σ ch Q)
theorem ACp.mono {f:FuncId} {args:List AV} {σ:List AObj} {ch:List PanicEntry} {Q Q':List AObj→Prop} (h:ACp P f args σ ch Q) (hq:∀ σ',Q σ'→Q' σ'):ACp P f args σ ch Q' :=
 ⟨h.1,fun m X w cargs ha hh=>(h.2 m X w cargs ha hh).mono fun e w' ⟨σ',m',h1,h2,h3⟩=>⟨σ',m',h1,hq _ h2,h3⟩⟩
section
variable {X:Nat→Prop} {en:En}
end
end Go.Proofs.YtgkidpolomhghaaGreatDoor.AM
namespace Go.Proofs.YtgkidpolomhghaaGreatDoor.AM
variable [Dr]
open Go
variable {P:Program} {fx:Fx} {s:St} {Q:Exit→St→Prop} {f:FuncId}
def InF (f:FuncId) (F:Fence) (n:Nat) (P:Program) (c:Code) (Q:Exit→Act→World→Prop) (a:Act) (w:World):Prop :=
 ∀ (b:Frame) (k:List Item) (cs:List Frame),b.fn=f→b.roundOf=F.round→F.fn b.fn→F.room (cs.length+1+n) →
  ∃ e a' w',Q e a' w'∧ArrivesIn (Machine.fenced P F) P (lone (b.atR a (.code c::k)) cs w) b k cs e a' w'
theorem InF.of {F:Fence} {n:Nat} {c:Code} {Q:Exit→Act→World→Prop} {a:Act} {w:World} (h:c.wpIn F n P Q a w):InF f F n P c Q a w:=fun b k cs _ h1 h2 h3=>h b k cs h1 h2 h3
theorem InF.mono {F:Fence} {n:Nat} {c:Code} {Q Q':Exit→Act→World→Prop} {a:Act} {w:World} (h:InF f F n P c Q a w) (hq:∀ e a w,Q e a w→Q' e a w):InF f F n P c Q' a w :=
 fun b k cs h0 h1 h2 h3=>let ⟨e,a',w',q,r⟩:=h b k cs h0 h1 h2 h3;⟨e,a',w',hq _ _ _ q,r⟩
def WB (f:FuncId) (P:Program) (fx:Fx) (c:Code) (s:St) (Q:Exit→St→Prop):Prop :=
 ∀ m X en ac w,SRel fx m X en s ac w→rok fx m→InF f (fen m fx.r) 0 P c (Lift fx m X en w Q) ac w
theorem WB.of {c:Code} (h:W P fx c s Q):WB f P fx c s Q:=fun m X en ac w hs hr=>InF.of (h m X en ac w hs hr)
theorem WB.mono {c:Code} {Q':Exit→St→Prop} (h:WB f P fx c s Q) (hq:∀ e s',Q e s'→Q' e s'):WB f P fx c s Q' :=
 fun m X en ac w hs hr=>InF.mono (h m X en ac w hs hr) fun e ac' w' ⟨s',m',h1,h2⟩=>⟨s',m',hq _ _ h1,h2⟩
end Go.Proofs.YtgkidpolomhghaaGreatDoor.AM
namespace Go.Proofs.YtgkidpolomhghaaGreatDoor.AM
variable [Dr]
open Go
variable {P:Program} {fx:Fx}
theorem SZ {f:FuncId} {fn:Func} {args:List AV} {cargs:List Value} {σ:List AObj} {vars:List Nat} {m:LM} {X:Nat→Prop} {w:World} (ha:QK m X w args cargs) (hh:HRel m X σ w) (hargs:args.length≤fn.ntmps) :
  SRel ⟨vars,fn.ntmps,none,σ.length⟩ m X ⟨w.heap.size,[]⟩ ⟨Y5 vars args,σ⟩ { tmps:=cargs.toArray++Array.replicate (fn.ntmps-cargs.toArray.size) Go.undef,defers:=[] } w:=by
 have hlen:=ha.length
 refine ⟨by simp;omega,?_,⟨[],rfl,YU,by simp⟩,hh,QG _,QG _⟩
 intro i t hi
 have e1:(Y5 vars args).getD i .undef=args.getD t .undef:=by
  simp only[Y5,List.getD,ZR]
  rw[show vars[i]? = some t from hi];rfl
 rw[e1]
 rw[QV]
 by_cases ht:t<cargs.length
 ·have e2:(cargs.toArray++Array.replicate (fn.ntmps-cargs.toArray.size) Go.undef)[t]? = some cargs[t]:=by
   rw[JF (by simpa using ht)];simp[ht]
  rw[e2]
  have:=ha.getD t Go.undef
  simpa[List.getD,ht] using this
 ·have:args.getD t .undef=.undef:=by simp[List.getD,QN (show args.length≤t by omega)]
  rw[this];simp[VRel]
end Go.Proofs.YtgkidpolomhghaaGreatDoor.AM
namespace Go.Proofs.YtgkidpolomhghaaGreatDoor.AM
variable [Dr]
open Go
variable {P:Program}
def PF (a:AV):Prop:=∀ m X w m' X' w' v,VRel m X w a v→VRel m' X' w' a v
theorem QbP {k:IntKind} {z:Int}:PF (.cv (.int k z)):=fun m X w m' X' w' v h=>by simpa only[VRel,CV.rep] using h
theorem QeL {k:IntKind}:∀ {zs:List Int},PF (.agg (zs.map fun z=>.cv (.int k z))):=by
 intro zs m X w m' X' w' v h
 simp only[VRel] at h ⊢
 obtain ⟨vs,rfl,h⟩:=h
 refine ⟨vs,rfl,?_⟩
 induction zs generalizing vs with
 | nil=>rw[QK.nil' h];simp[QK]
 | cons z zs ih =>
  obtain ⟨u,us,rfl,h1,h2⟩:=h.cons
  simp only[Q0,QK]
  exact ⟨QbP m X w m' X' w' u h1,ih us h2⟩
theorem AC_map {f:FuncId} {fn:Func} {c:Code} {vars:List Nat} {l:Nat} {σ:List AObj} {es:List (AV × AV)} {R:AV→Prop} (hf:P.funcs[f]? = some fn) (hb:fn.body=some c) (hen:PI P f) (hargs:1≤fn.ntmps)
  (hl:σ[l]? = some (.map es)) (hes:∀ p∈es,PF p.1∧PF p.2)
  (h:∀ bm ces clock,WX P ⟨vars,fn.ntmps,none,1⟩ (GM 0 bm es ces clock) c ⟨Y5 vars [.map 0],[.dead]⟩ fun e s'=>match e with
   | .normal | .ret=>∃ r,UB P vars s'.vals s'.heap fn.results.toList=some r∧∃ v,FrzV scl s'.heap r v∧R v
   | _=>False):AC P f [.map l] σ fun r τ=>R r∧τ=σ:=by
 refine ⟨hen,fun m X w cargs ha hh=>?_⟩
 refine callsIn_of_wp_marks hf hb trivial ?_
 have hlen:=ha.length
 obtain ⟨v0,us,rfl,hv0,h2⟩:=ha.cons
 have h3:=QK.nil' h2
 subst h3
 simp only[VRel] at hv0
 obtain ⟨bm,hbm,rfl⟩:=hv0
 have ho:=hh.obj l _ hl
 rw[hbm] at ho
 simp only[ORel] at ho
 obtain ⟨ces,clock,hmp,hborn,hnd,hsz,hrel⟩:=ho
 have hbl:bm<w.heap.size:=(hh.dom l bm hbm).2
 let m0:LM:=fun l'=>if l'=0 then some bm else none
 let X1:Nat→Prop:=fun b=>X b∨b=bm
 have hm0:∀ l' b,m0 l'=some b→l'=0∧b=bm:=fun l' b h=>by
  show l'=0∧b=bm
  by_cases h0:l'=0
  ·subst h0;simp[m0] at h;exact ⟨rfl,h.symm⟩
  ·simp[m0,h0] at h
 have hh0:HRel m0 X1 [.dead] w:=by
  refine ⟨?_,?_,?_,?_,?_,hh.gl.less ?_⟩
  rotate_right
  ·rintro b ((hb | rfl) | ⟨l',hl'⟩)
   ·exact .inl hb
   ·exact .inr ⟨l,hbm⟩
   ·obtain ⟨_,rfl⟩:=hm0 l' b hl';exact .inr ⟨l,hbm⟩
  ·rintro b (hb | rfl)
   ·exact hh.xb b hb
   ·exact hbl
  ·intro l' b h;obtain ⟨rfl,rfl⟩:=hm0 l' b h;exact ⟨by simp,hbl⟩
  ·intro l' b o h ho hv;obtain ⟨rfl,rfl⟩:=hm0 l' b h;simp at ho;subst ho;exact hv.elim
  ·intro l1 l2 b o h h' ho hv;obtain ⟨rfl,_⟩:=hm0 l1 b h;exact QF _
  ·intro l' o ho
   cases l' with
   | zero=>simp at ho;subst ho;simp[ORel]
   | succ l'=>simp at ho
 have hs0:SRel ⟨vars,fn.ntmps,none,1⟩ m0 X1 ⟨w.heap.size,[]⟩ ⟨Y5 vars [.map 0],[.dead]⟩ { tmps:=#[Value.map (some bm)]++Array.replicate (fn.ntmps - #[Value.map (some bm)].size) Go.undef,defers:=[] } w:=by
  have:=SZ (f:=f) (fn:=fn) (vars:=vars) (args:=[.map 0]) (cargs:=[.map (some bm)]) (σ:=[.dead]) (m:=m0) (X:=X1) (w:=w) (by simp only[QK,VRel];exact ⟨⟨bm,by simp[m0],rfl⟩,trivial⟩) hh0 (by simpa using hargs)
  exact this
 have key:=h bm ces clock m0 X1 ⟨w.heap.size,[]⟩ _ w hs0 (by intro l hl;cases hl) ⟨by simp[m0],.inr rfl,hmp,hborn,hnd,hsz,fun i k a hi=>by
  obtain ⟨e,g1,g2,g3⟩:=hrel i k a hi
  obtain ⟨p1,p2⟩:=hes (k,a) (QZ hi)
  exact ⟨e,g1,fun m' X' w'=>p1 _ _ _ _ _ _ _ g2,fun m' X' w'=>p2 _ _ _ _ _ _ _ g3⟩⟩
 refine wpIn_mono key ?_
 rintro e ac' w' ⟨s',m',hq,hs',hst⟩
 have fin:(∃ r,UB P vars s'.vals s'.heap fn.results.toList=some r∧∃ v,FrzV scl s'.heap r v∧R v)→LeavesInM Fence.wide 0 P fn ac'.tmps (OT m X w σ fun r τ=>R r∧τ=σ) ac'.defers .returning w':=by
  rintro ⟨r,hr,v,hfr,hR⟩
  obtain ⟨bs,hbs,hnd',hall⟩:=hs'.defs
  rw[hbs,ZU]
  refine G1 (e:=w.heap.size) (w:=w') bs w' (HA.refl _ _) hnd' (fun b hb=>⟨(hall b hb).1,(hall b hb).2.2.1⟩) ?_
  intro w2 ht
  have hh2:=hs'.heap.taken ht
  have hst2:=hst.taken ht (QG _)
  have hs2:SRel ⟨vars,fn.ntmps,none,1⟩ m' X1 ⟨0,[]⟩ s' { ac' with defers:=[] } w2 :=
   ⟨hs'.size,hs'.vars.mono ht.mono,⟨[],rfl,YU,by simp⟩,hh2,hs'.base,QF _⟩
  obtain ⟨cv,k1,k2⟩:=O1 (fx:=⟨vars,fn.ntmps,none,1⟩) (fn:=fn) hs2 hr
  have hsame:∀ b,b<w.heap.size→w2.heap[b]? = w.heap[b]? := fun b hb=>by
   by_cases hbb:b=bm
   ·subst hbb;exact hst2.fr _ hb (.inl (.inr rfl))
   ·exact hst2.fr b hb (.inr fun l' hl'=>hbb (hm0 l' b hl').2)
  refine ⟨cv,k1,cv,v,σ,m,rfl,⟨hR,rfl⟩,?_,hh.below hst2.size hsame,?_,QG _⟩
  ·refine RX hh2 (fun c v hp h=>Qa2 c v hp h) ?_ hfr cv k2
   intro l' b o hl' ho hlive hb
   have hbs:b<w.heap.size:=by
    rcases hb with hb | ⟨l2,hl2⟩
    ·exact hh.xb b hb
    ·exact (hh.dom l2 b hl2).2
   rcases hst2.new l' b hl' with ⟨l2,hl2⟩ | hge
   ·obtain ⟨_,rfl⟩:=hm0 l2 b hl2
    exact hh2.own l' _ o hl' ho hlive (.inr rfl)
   ·omega
  ·exact ⟨fun _ _=>rfl,fun l b hl=>.inl ⟨l,hl⟩,hst2.size,fun b hb _=>hsame b hb,hst2.shp,hst2.os,hst2.tape,hst2.output,hst2.drawn⟩
 cases e with
 | normal=>exact fin hq
 | ret=>exact fin hq
 | exit i=>exact hq.elim
 | goto l=>exact hq.elim
 | panic ch=>exact hq.elim
 | outgrown=>exact hq.elim
end Go.Proofs.YtgkidpolomhghaaGreatDoor.AM

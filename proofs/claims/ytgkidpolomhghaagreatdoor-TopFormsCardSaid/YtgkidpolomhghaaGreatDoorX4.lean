/- Parts of the proof, joined: AmSo to PlKu. -/
import Derived.Test.YtgkidpolomhghaaGreatDoorX3
set_option linter.unusedVariables false
set_option linter.unusedSimpArgs false
set_option linter.unusedSectionVars false
namespace Go.Proofs.YtgkidpolomhghaaGreatDoor.AM
variable [Dr]
open Go Go.Sort Go.Shelf
section
variable {P:Program} {m m':LM} {X X':Nat→Prop} {σ:List AObj} {w w':World}
abbrev drOn [d:Dr]:Dr:=⟨True,d.gl⟩
omit [Dr] in
theorem Qe0 [d:Dr] (hon:d.on) {n0:Nat} (h:Step n0 nom X w m' w'):∃ q os,w'=grow (w.drewN q) os:=by
 refine ⟨w'.drawn-w.drawn,w'.heap.extract w.heap.size w'.heap.size,?_⟩;have h1:=h.size;have h2:=h.os;have h3:=h.tape;have h4:=h.output;have h5:=h.drawn hon;have h6:∀ b,b<w.heap.size→w'.heap[b]? = w.heap[b]? := fun b hb=>h.fr b hb (.inr fun l hl=>by cases hl)
 obtain ⟨hp,tp,dr,o,out⟩:=w';simp only at h1 h2 h3 h4 h5 h6;simp only[grow,World.drewN,World.mk.injEq];refine ⟨?_,h3,by omega,h2,h4⟩;apply Array.ext_getElem?;intro i;by_cases hi:i<w.heap.size
 ·rw[h6 i hi,JF hi]
 ·rw[Array.getElem?_append_right (by omega)];by_cases hj:i<hp.size
  ·rw[Array.getElem?_extract,if_pos (by omega),show w.heap.size+(i-w.heap.size)=i by omega]
  ·rw[Array.getElem?_eq_none (by omega),Array.getElem?_eq_none (by simp;omega)]
theorem HRel.turnG (h:HRel m X σ w) {l b:Nat} {o o':AObj} (hl:m l=some b) (ho:σ[l]? = some o) (hlive:o.live) (hs:Step σ.length m X w m w')
  (hot:∀ k,k≠b→k<w.heap.size→w'.heap[k]? = w.heap[k]?) (hr:Mono m X w m X w'→ORel m X w' (some b) o'):HRel m X (σ.set l o') w':=by
 have hm:=h.mono_of_step hs (QG _);refine ⟨?_,?_,?_,?_,?_,h.gl.mono hm⟩
 ·intro k hk;exact Z6 (h.xb k hk) hs.size
 ·intro x k hk;have:=h.dom x k hk;exact ⟨by simpa using this.1,Z6 this.2 hs.size⟩
 ·intro x k o1 hx ho1 hv;rw[ZO] at ho1;by_cases hxl:l=x
  ·subst hxl;exact h.own l k o hx ho hlive
  ·rw[if_neg hxl] at ho1;exact h.own x k o1 hx ho1 hv
 ·intro x y k o2 hx hy ho2 hv2;rw[ZO] at ho2;by_cases hyl:l=y
  ·subst hyl;exact h.inj x l k o hx hy ho hlive
  ·rw[if_neg hyl] at ho2;exact h.inj x y k o2 hx hy ho2 hv2
 ·intro x o1 ho1;rw[ZO] at ho1;by_cases hxl:l=x
  ·subst hxl;rw[if_pos rfl] at ho1;split at ho1
   ·cases ho1;rw[hl];exact hr hm
   ·cases ho1
  ·rw [if_neg hxl] at ho1;have hob:=h.obj x o1 ho1;cases hmx:m x with
   | none=>rw[hmx] at hob;cases o1 <;> simp[ORel] at hob ⊢
   | some k =>
    rw[hmx] at hob;by_cases hkb:k=b
    ·subst hkb;by_cases hlv:o1.live
     ·have a1:=h.inj l x k o1 hl hmx ho1 hlv;have a2:=h.inj x l k o hmx hl ho hlive;omega
     ·cases o1 with
      | dead=>trivial
      | _=>exact absurd trivial hlv
    ·exact ORel.mono hm (hot k hkb (h.dom x k hmx).2) hob
end
section
variable {α:Type} [Inhabited α] (enc:α→List Value) (k:Nat) (w:World) (b q:Nat) (d:Array α) (os:Array Obj)
theorem so_at {c:Array Value} {e:TypeId} {fr:Nat × Nat} (hb:w.heap[b]? = some (.cells c e fr)):(sortWorldK enc k w b 0 q d os).heap[b]? = some (.cells (putCells id 0 (Sort.flatK enc k d) c) e fr):=by
 have hlt:b<w.heap.size:=(Q3.1 hb).1;unfold sortWorldK grow putRowK putRow mapBlock Sort.ahead;simp only;rw[JF (by simpa using hlt),W8,if_pos rfl,hb];rfl
theorem IH {x:Nat} (hx:x≠b) (hlt:x<w.heap.size):(sortWorldK enc k w b 0 q d os).heap[x]? = w.heap[x]? := by
 unfold sortWorldK grow putRowK putRow mapBlock Sort.ahead;simp only;rw[JF (by simpa using hlt),W8,if_neg (Ne.symm hx)]
theorem QdV:w.heap.size≤(sortWorldK enc k w b 0 q d os).heap.size:=by
 unfold sortWorldK grow putRowK putRow mapBlock Sort.ahead;simp
theorem QdU {m:LM} {X:Nat→Prop} {n0 l:Nat} (hl:m l=some b) (hx:¬ X b):Step n0 m X w m (sortWorldK enc k w b 0 q d os) where
 keep _ _:=rfl
 new x c hc:=.inl ⟨x,hc⟩
 size:=QdV enc k w b q d os
 fr x hx' hno:=IH enc k w b q d os (fun h=>by
  subst h;rcases hno with h | h
  ·exact hx h
  ·exact h l hl) hx'
 shp x c e hc:=by
  by_cases h:x=b
  ·subst h;exact ⟨_,so_at enc k w x q d os hc,by simp[putCells]⟩
  ·exact ⟨c,by rw[IH enc k w b q d os h (Q3.1 hc).1];exact hc,rfl⟩
 os:=rfl
 tape:=rfl
 output:=rfl
 drawn _:=by unfold sortWorldK grow putRowK putRow mapBlock Sort.ahead;simp
end
theorem A2 {α:Type} {f:α→List Value} {e:Nat} (hf:∀ x,(f x).length=e) [Inhabited α]:∀ {xs:List α} {i j:Nat},i<xs.length→j<e→(xs.flatMap f)[i*e+j]? = (f xs[i]!)[j]?
 | [],i,_,h,_=>by simp at h
 | x::xs,0,j,_,hj=>by rw[YH,QE (by rw[hf];omega)];simp
 | x::xs,i+1,j,h,hj=>by
  have h1:(i+1)*e+j=(f x).length+(i*e+j):=by rw[hf,XJ];omega
  rw[YH,h1,QS (by omega),X6,A2 hf (by simpa using h) hj];simp
theorem ND {α:Type} {f:α→List Value} {e:Nat} (hf:∀ x,(f x).length=e):∀ xs:List α,(xs.flatMap f).length=xs.length*e
 | []=>by simp
 | x::xs=>by rw[YH,QM,hf,ND hf xs,List.length_cons,XJ];omega
theorem Qcy {α:Type} [Inhabited α] (enc:α→List Value) (k:Nat) (hk:∀ x,(enc x).length=k) (d:Array α):(Sort.flatK enc k d).toList=d.toList.flatMap enc:=by
 apply Z1;intro t;by_cases ht:t<d.size*k
 ·have k0:0<k:=by
   rcases XF k with h | h
   ·subst h;simp at ht
   ·exact h
  have hq:t / k<d.size:=Nat.div_lt_of_lt_mul (by rw[Nat.mul_comm];exact ht);have hm:=Nat.mod_lt t k0;have he:t=t / k*k+t % k:=by have:=Nat.div_add_mod t k;rw[Nat.mul_comm] at this;omega
  have h1:(Sort.flatK enc k d)[t]? = some (Sort.flatK enc k d)[t]! := by rw[getElem!_pos _ _ (by simpa using ht)];exact Q7 _
  have h2:=A2 hk (xs:=d.toList) (i:=t / k) (j:=t % k) (by simpa using hq) hm;rw[← he] at h2;rw[Y7,h1,get_flatK _ _ _ _ ht,h2];have h3:d.toList[t / k]! = d[t / k]! := by simp[List.getElem!_eq_getElem?_getD,getElem!_def]
  rw[h3,QI (by rw[hk];exact hm),getElem!_pos _ _ (by rw[hk];exact hm)]
 ·rw[QN (by simpa using ht),QN (by rw[ND hk];simpa using ht)]
theorem SJ (F c:Array Value) (h:F.size≤c.size):(putCells id 0 F c).toList=F.toList++c.toList.drop F.size:=by
 apply Z1;intro t;rw[Y7];unfold putCells;rw[Array.getElem?_mapIdx];by_cases ht:t<F.size
 ·rw[QE (by simpa using ht),Q7 (by omega)];simp[ht]
 ·rw[QS (by simpa using ht),X4];simp[ht];congr 1;omega
theorem QeZ {A:Nat→List CV} {k:Nat} (hk:∀ i,(A i).length=k) {n i:Nat} (hi:i<n):(((List.range n).flatMap A).drop (i*k)).take k=A i:=by
 rw[G3 hk (by simpa using hi)];congr 1;rw[getElem!_pos _ _ (by simpa using hi)];simp
theorem U5 {A:Nat→List CV} {k:Nat} (hk:∀ i,(A i).length=k) (xs:List Nat):(xs.flatMap A).length=xs.length*k:=UG hk xs
theorem QK.flat {m:LM} {X:Nat→Prop} {w:World} {A:Nat→List CV} {V:Nat→List Value}:∀ {p:List Nat},(∀ i∈p,QK m X w ((A i).map .cv) (V i))→QK m X w ((p.flatMap A).map .cv) (p.flatMap V)
 | [],_=>by simp[QK]
 | i::p,h=>by rw[YH,YH,ZS];exact QK.append (h i (by simp)) (QK.flat fun j hj=>h j (by simp[hj]))
theorem swo_pull {cf:Nat→Nat→Int} (c:Nat→Nat) (h:SWO (ltOf cf)):SWO (ltOf fun x y=>cf (c x) (c y)) :=
 ⟨fun x=>h.irrefl (c x),fun x y z=>h.trans (c x) (c y) (c z),fun x y z=>h.ntrans (c x) (c y) (c z)⟩
theorem AC_sortK {P:Program} {ρ:Ren} (L:SlLaysF0.n6 P ρ) (k:Nat) (aE:∀ w,(isAgg (ρ.t 24)).run P w=.ok true w) (zE:∀ w,(Go.sizeOf (ρ.t 24)).run P w=.ok k w) (hf:PI P (ρ.f 6)) {g:Nat} {cap:List AV} {n:Nat} (hn:0<n) (hn2:n<4611686018427387904)
  {A:Nat→List CV} (hk:∀ i,(A i).length=k) {cf:Nat→Nat→Int} (hO:SWO (ltOf cf)) (hcl:QO 0 cap=true) (hcmp:∀ i j,i<n→j<n→@AC drOn P g (.agg ((A i).map .cv) :: .agg ((A j).map .cv)::cap) [] fun r _=>r=.i (cf i j))
  {σ:List AObj} {l:Nat} {rest:List AV} (hr:rowOf σ l=some (((List.range n).flatMap A).map .cv++rest)) :
  AC P (ρ.f 6) [.sl l 0 n k,.fn (.func g) cap] σ fun r τ=>r=.tup []∧∃ p:List Nat,p.Perm (List.range n)∧p.Pairwise (fun i j=>¬ cf j i<0)∧τ=σ.set l (.cells ((p.flatMap A).map .cv++rest)):=by
 refine ⟨hf,fun m X w cargs ha hh=>?_⟩;obtain ⟨v1,us,rfl,h1,k1⟩:=QK.cons ha;obtain ⟨v2,us,rfl,h2,k2⟩:=QK.cons k1;have k3:=QK.nil' k2;subst k3;simp only[VRel] at h1 h2;obtain ⟨b,capn,hmb,rfl,hcapn,c0,e0,hb0,hsz0⟩:=h1;obtain ⟨vs,rfl,hvs⟩:=h2;have hσ:=WO hr;have hob:=hh.obj l _ hσ;rw[hmb] at hob;obtain ⟨c,e,hb,hcs,hrels⟩:=hob;rw[hb] at hb0;have hrl:((((List.range n).flatMap A).map AV.cv)++rest).length=n*k+rest.length:=by rw[QM,ZK,U5 hk];simp
 rw[hrl] at hcs hrels;have hblk:b<w.heap.size:=(hh.dom l b hmb).2;have hxb:¬ X b:=hh.own l b _ hmb hσ trivial
 let V:Nat→List Value:=fun i=>(c.toList.drop (i*k)).take k
 have hik:∀ i,i<n→i*k+k≤n*k:=fun i hi=>by rw[← XJ];exact YQ k hi
 have hVl:∀ i,i<n→(V i).length=k:=fun i hi=>by have:=hik i hi;show ((c.toList.drop (i*k)).take k).length=k;rw[List.length_take,List.length_drop,Array.length_toList];omega
 have hV:∀ i,i<n→QK m X w ((A i).map .cv) (V i):=fun i hi=>by have h:=(hrels.drop (i*k)).take k;have hi':=hik i hi;rw[List.drop_append_of_le_length (by rw[ZK,U5 hk];simp;omega),List.take_append_of_le_length (by rw[List.length_drop,ZK,U5 hk];simp;omega),← List.map_drop,← List.map_take,QeZ hk hi,List.drop_take,List.take_take] at h;rw[show min k (n*k+rest.length-i*k)=k by omega] at h;exact h
 let cl:Nat→Nat:=fun i=>if i<n then i else 0
 have hcl1:∀ i,cl i<n:=fun i=>by show (if i<n then i else 0)<n;split <;> omega
 have hcl2:∀ i,i<n→cl i=i:=fun i hi=>by show (if i<n then i else 0)=i;rw[if_pos hi]
 let enc:Nat→List Value:=fun i=>V (cl i)
 have hek:∀ x,(enc x).length=k:=fun x=>hVl _ (hcl1 x)
 have hone:∀ x,∀ v∈enc x,v.oneCell'=true:=fun x=>QK.one_cells (hV _ (hcl1 x)) (by simp[AV.isSc])
 have hds:(Array.range n).size=n:=by simp
 have hH:HoldsK enc k w b 0 (Array.range n):=by
  intro j hj;rw[size_flatK,hds] at hj;have hjc:j<c.size:=by omega
  have h2:(Sort.flatK enc k (Array.range n))[j]! = c[j]:=by
   have k0:0<k:=by
    rcases XF k with h | h
    ·subst h;simp at hj
    ·exact h
   have hq:j / k<n:=Nat.div_lt_of_lt_mul (by rw[Nat.mul_comm];exact hj);have hm:=Nat.mod_lt j k0;have he:j=j / k*k+j % k:=by have:=Nat.div_add_mod j k;rw[Nat.mul_comm] at this;omega
   rw[get_flatK _ _ _ _ (by rw[hds];exact hj)];have h3:(Array.range n)[j / k]! = j / k:=by simp[hq]
   rw[h3];show (V (cl (j / k)))[j % k]! = c[j];rw[hcl2 _ hq,getElem!_pos _ _ (by rw[hVl _ hq];exact hm)];show ((c.toList.drop (j / k*k)).take k)[j % k]'_=c[j];rw[List.getElem_take,List.getElem_drop,Array.getElem_toList];congr 1;omega
  refine ⟨?_,?_⟩
  ·simp only[World.cell?,ZV,hb,id,h2];simp[hjc]
  ·simp[World.frozen?,hb]
 have hown:∀ b,Own nom (Own m X) b↔Own m X b:=fun b=>⟨fun h=>h.elim id (fun ⟨l,hl⟩=>by cases hl),.inl⟩
 have hcmp':CmpLays P g vs.toArray enc k (fun x y=>cf (cl x) (cl y)) b 0 (Array.range n).size w:=by
  intro mm os dk hsz x y;have hmono:Mono nom (Own m X) w nom (Own m X) (sortWorldK enc k w b 0 mm dk os):=by
   refine ⟨fun l b hl=>hl,fun b' hb' hc=>?_,(QdU enc k w b mm dk os (n0:=0) hmb hxb).shp⟩;obtain ⟨c1,e1,fr1,hc1⟩:=hc;have hne:b'≠b:=fun h=>hb' ((hown b').2 (.inr ⟨l,by rw[h];exact hmb⟩))
   exact ⟨IH enc k w b mm dk os hne (Q3.1 hc1).1,hb'⟩
  have a0:QK m X w (.agg ((A (cl x)).map .cv) :: .agg ((A (cl y)).map .cv)::cap) (.agg (enc x).toArray :: .agg (enc y).toArray::vs):=by simp only[QK,VRel];exact ⟨⟨_,rfl,hV _ (hcl1 x)⟩,⟨_,rfl,hV _ (hcl1 y)⟩,hvs⟩
  have hcv:∀ cs:List CV,QO 0 (cs.map AV.cv)=true:=fun cs=>by rw[Z8];intro v hv;obtain ⟨z,_,rfl⟩:=ZP.1 hv;rfl
  have a1:=QK.less (k:=0) (m':=nom) (X':=Own m X) (fun l hl=>absurd hl (W5 _)) (fun b hb=>(hown b).1 hb) _ _ (by simp only[QO,QR,hcv,hcl,Bool.and_self]) a0;have a2:=a1.mono hmono;have hh0:HRel nom (Own m X) [] (sortWorldK enc k w b 0 mm dk os):=⟨fun b' hb'=>by
    have hs:=QdV enc k w b mm dk os;rcases hb' with h | ⟨l',h⟩
    ·have:=hh.xb b' h;omega
    ·have:=(hh.dom l' b' h).2;omega,fun l b hl=>(by cases hl),fun l b o hl=>(by cases hl),fun l l' b o hl=>(by cases hl),fun l o ho=>(by cases (List.getElem?_nil.symm.trans ho)),(hh.gl.less fun b hb=>(hown b).1 hb).mono hmono⟩
  have hcall:=callsIn_wide.1 ((hcmp (cl x) (cl y) (hcl1 x) (hcl1 y)).2 nom (Own m X) _ _ a2 (@HRel.mk drOn _ _ _ _ hh0.xb hh0.dom hh0.own hh0.inj hh0.obj hh0.gl));have hargs:(#[Value.agg (enc x).toArray,.agg (enc y).toArray]++vs.toArray)=(Value.agg (enc x).toArray :: .agg (enc y).toArray::vs).toArray:=by simp
  rw[hargs];refine hcall.mono ?_;rintro e' w' ⟨cv,r,σ',m',rfl,rfl,hv,hh',hst,_⟩;simp only[VRel,CV.rep] at hv;subst hv;exact ⟨rfl,Qe0 (d:=drOn) trivial hst⟩
 have heg:∀ args w,(callFunc g args).run P w=.ok (.enter g args) w:=(hcmp 0 0 hn hn).1;have hO':=swo_pull cl hO;refine callsIn_wide.2 ((AnyQ.slices_SortFunc L k aE zE enc hek hone _ hO' g vs.toArray b 0 capn (Array.range n) w heg hcmp' hH hblk (by rw[hds];exact hn2)).mono ?_) |> fun h=>by rw[hds] at h;exact h
 rintro e' w' ⟨rfl,d',nn,os,hperm,hsort,rfl⟩;rw[hds] at hperm hsort;obtain ⟨hps,_,hpp⟩:=hperm;have hp1:d'.toList.Perm (List.range n):=by
  have e1:d'.extract 0 n=d':=by rw[← hds,← hps];simp
  have e2:(Array.range n).extract 0 n=Array.range n:=by simp
  rw[e1,e2] at hpp;simpa using hpp
 have hlt:∀ i∈d'.toList,i<n:=fun i hi=>by simpa using (hp1.mem_iff (a:=i)).1 hi
 have hdl:d'.toList.length=n:=by have:=hp1.length_eq;simpa using this
 have hst:=QdU enc k w b nn d' os (n0:=σ.length) hmb hxb;refine ⟨.tuple #[],.tup [],σ.set l (.cells ((d'.toList.flatMap A).map .cv++rest)),m,rfl,⟨rfl,d'.toList,hp1,?_,rfl⟩,?_,?_,hst,by simp⟩
 ·rw[List.pairwise_iff_getElem];intro i j hi hj hij;have:=hsort i j (QF _) hij (by omega);unfold ltOf at this;have:=of_decide_eq_false this;rw[getElem!_pos d' j (by simpa using hj),getElem!_pos d' i (by simpa using hi)] at this;have g1:d'.toList[i]=d'[i]'(by simpa using hi):=by simp
  have g2:d'.toList[j]=d'[j]'(by simpa using hj):=by simp
  rw[g1,g2];have f1:=hcl2 (d'[i]'(by simpa using hi)) (hlt _ (by rw[← g1];exact Q2 hi));have f2:=hcl2 (d'[j]'(by simpa using hj)) (hlt _ (by rw[← g2];exact Q2 hj));have this:¬ cf (cl (d'[j]'(by simpa using hj))) (cl (d'[i]'(by simpa using hi)))<0:=this;rw[f1,f2] at this;exact this
 ·simp only[VRel];exact ⟨[],rfl,by simp[QK]⟩
 ·refine hh.turnG hmb hσ trivial hst (fun x hx hlt=>IH enc k w b nn d' os hx hlt) fun hm=>?_
  have hF:(Sort.flatK enc k d').size=n*k:=by rw[size_flatK,hps,hds]
  refine ⟨_,e,so_at enc k w b nn d' os hb,?_,?_⟩
  ·rw[QM,ZK,U5 hk,hdl];simp[putCells];omega
  ·have hlen2:((d'.toList.flatMap A).map AV.cv++rest).length=n*k+rest.length:=by rw[QM,ZK,U5 hk,hdl]
   rw[hlen2,SJ _ _ (by rw[hF];omega),Qcy enc k hek,hF];have e1:d'.toList.flatMap enc=d'.toList.flatMap V:=by
    have:∀ p:List Nat,(∀ i∈p,i<n)→p.flatMap enc=p.flatMap V:=by
     intro p hp
     induction p with
     | nil=>rfl
     | cons i p ih =>
      rw[YH,YH,ih fun j hj=>hp j (by simp[hj])];show V (cl i)++_=_;rw[hcl2 i (hp i (by simp))]
    exact this _ hlt
   have e2:(d'.toList.flatMap V).length=n*k:=by rw[← e1,ND hek,hdl]
   rw[e1,List.take_append,e2,Q5 (by omega),show n*k+rest.length-n*k=rest.length by omega];refine QK.append (QK.flat fun i hi=>(hV i (hlt i hi)).mono hm) ?_;have h:=hrels.drop (n*k);rw[List.drop_left' (by rw[ZK,U5 hk];simp),List.drop_take,show n*k+rest.length-n*k=rest.length by omega] at h;exact h.mono hm
end Go.Proofs.YtgkidpolomhghaaGreatDoor.AM
namespace Go.Proofs.YtgkidpolomhghaaGreatDoor.AM
variable [Dr]
open Go Pl Go.Sort Go.Shelf
abbrev Rt:=Int × Int
def rgC (r:Rt):List CV:=[.int .i64 r.1,.int .i64 r.2]
abbrev rgV (r:Rt):AV:=.agg [.i r.1,.i r.2]
abbrev rgL (l:List Rt):AV:=.cv (.rsl (l.flatMap rgC) l.length)
theorem IR (r:Rt):(rgC r).length=2:=rfl
theorem MN (l:List Rt):∀ c∈l.flatMap rgC,scl c:=by
 intro c hc;rw[YM] at hc;obtain ⟨m,_,hm⟩:=hc;simp only[rgC,ZD,WK,or_false] at hm;rcases hm with rfl | rfl <;> trivial
theorem c117 (x:Int):PC Tryz.prog 138 [.i x] (.b false):=by
 refine ⟨ZF (fok138 true) (QC rfl) ?_,rfl⟩;simp only[ic138,evA,simprocAttr];exact frz
theorem c98 (x y:Int):PC Tryz.prog 103 [.i x,.i y] (.i (cmpN x y)):=by
 refine ⟨ZF (fok103 true) (QC rfl) ?_,rfl⟩;simp only[ic103,evA,simprocAttr];refine (c117 x).call frz ?_;simp only[evA,simprocAttr];refine (c117 y).call frz ?_;unfold cmpN;by_cases h1:x<y
 ·simp only[h1,evA,simprocAttr];exact frz
 ·by_cases h2:x>y
  ·simp only[h1,h2,evA,simprocAttr];exact frz
  ·simp only[h1,h2,evA,simprocAttr];exact frz
theorem c97 (x y:Int):PC Tryz.prog 150 [ints [x,y]] (.i (if x≠0 then x else y)):=by
 refine ⟨ZF (fok150 true) (QC rfl) ?_,rfl⟩;simp only[ic150,evA,simprocAttr];refine J1 ?_;have h0:decide ((0:Int)<(([x,y]:List Int).length:Int))=true:=rfl;have h1:decide ((1:Int)<(([x,y]:List Int).length:Int))=true:=rfl;have h2:decide ((2:Int)<(([x,y]:List Int).length:Int))=false:=rfl;have w1:IntKind.i64.wrap (0+1)=1:=by decide
 have w2:IntKind.i64.wrap (1+1)=2:=by decide
 have a0:∀ σ,VP 1 [ints [x,y],.i 0] σ=some (.cv (.rp (([x,y]:List Int).map (.int .i64)) 0),σ):=fun σ=>rfl
 have a1:∀ σ,VP 1 [ints [x,y],.i 1] σ=some (.cv (.rp (([x,y]:List Int).map (.int .i64)) 1),σ):=fun σ=>rfl
 cases hx:(x != 0) with
 | true =>
  rw[if_pos (by simpa using hx)];simp only[ic150l0,h0,a0,hx,evA,simprocAttr];exact frz
 | false =>
  rw[if_neg (by simpa using hx)];simp only[ic150l0,h0,a0,hx,w1,evA,simprocAttr];refine J1 ?_;cases hy:(y != 0) with
  | true =>
   simp only[ic150l0,h1,a1,hy,evA,simprocAttr];exact frz
  | false =>
   have hy0:y=0:=by simpa using hy
   simp only[ic150l0,h1,a1,hy,w2,evA,simprocAttr];refine J1 ?_;simp only[ic150l0,h2,evA,simprocAttr];rw[hy0];exact frz
theorem c96 (a b:Rt):PC Tryz.prog 149 [rgV a,rgV b] (.i (cmpR a b)):=by
 refine ⟨ZF (fok149 true) (QC rfl) ?_,rfl⟩;simp only[ic149,WI,cellsOf,evA,simprocAttr];refine DW_s [4,9,11] [] hmix (by kernel_rfl) rfl ?_;simp only[evA,simprocAttr];refine YE ((c98 a.1 b.1).call frz ⟨rfl,rfl⟩) rfl ?_;simp only[evA,simprocAttr];refine YE ((c98 a.2 b.2).call frz ⟨rfl,rfl⟩) rfl ?_;simp only[evA,simprocAttr];refine YE ((c97 (cmpN a.1 b.1) (cmpN a.2 b.2)).call (.cons (U4 (zs:=[cmpN a.1 b.1,cmpN a.2 b.2]) (fun _=>trivial) rfl rfl) .nil) ⟨rfl,rfl⟩) rfl ?_;simp only[evA,simprocAttr];exact frz
theorem c96n (a b:Rt):AC Tryz.prog 149 [rgV a,rgV b] [] fun r _=>r=.i (cmpR a b):=(c96 a b).ac.mono fun r τ h=>by
 cases h with
 | c h=>cases h;rfl
theorem en95:PI Tryz.prog 148:=RE Tryz.func148 (by kernel_rfl) (c:=Tryz.f148.body.getD .skip) (by kernel_rfl)
theorem Qcx (l:List Rt):(List.range l.length).flatMap (fun i=>rgC (l[i]?.getD (0,0)))=l.flatMap rgC:=by
 induction l with
 | nil=>rfl
 | cons x l ih =>
  rw[List.length_cons,UR,YH,List.flatMap_map];simp only[List.getElem?_cons_zero,Option.getD_some,List.getElem?_cons_succ,YH];rw[ih]
theorem L3 (l:List Rt):(List.range l.length).map (fun i=>l[i]?.getD (0,0))=l:=by
 apply Z1;intro i;by_cases h:i<l.length
 ·simp[h]
 ·simp[h]
theorem c95 {l:List Rt} (hl:0<l.length) (hl2:l.length<2 ^ 60) {σ:List AObj} {p:Nat} (hr:rowOf σ p=some ((l.flatMap rgC).map .cv)) :
  AC Tryz.prog 148 [.sl p 0 l.length 2,.fn (.func 149) []] σ fun r τ=>r=.tup []∧τ=σ.set p (.cells (((V2 l).flatMap rgC).map .cv)):=by
 have h:=AC_sortK (P:=Tryz.prog) (ρ:=S0) sortL 2 (fun w=>Tryz.isAgg176 w) (fun w=>Tryz.sizeOf176 w) en95 (g:=149) (cap:=[]) (n:=l.length) hl (by omega) (A:=fun i=>rgC (l[i]?.getD (0,0))) (fun i=>rfl)
  (cf:=fun i j=>cmpR (l[i]?.getD (0,0)) (l[j]?.getD (0,0))) (swoR fun i=>l[i]?.getD (0,0)) rfl (fun i j _ _=>@c96n drOn (l[i]?.getD (0,0)) (l[j]?.getD (0,0))) (σ:=σ) (l:=p) (rest:=[]) (by rw[ZU,Qcx];exact hr)
 refine h.mono ?_;rintro r τ ⟨rfl,q,hq,hs,rfl⟩;refine ⟨rfl,?_⟩;have hm:q.map (fun i=>l[i]?.getD (0,0))=V2 l:=by
  refine EF ?_ ?_
  ·have:=hq.map fun i=>l[i]?.getD (0,0)
   rwa [L3] at this
  ·rw[List.pairwise_map];exact hs.imp fun {i j} h=>cmpR_not.1 h
 rw[← hm,List.flatMap_map,ZU]
end Go.Proofs.YtgkidpolomhghaaGreatDoor.AM
namespace Go.Proofs.YtgkidpolomhghaaGreatDoor.AM
variable [Dr]
open Go Pl
set_option maxRecDepth 100000 in
theorem c139z:PC Tryz.prog 192 [.cv (.int .u64 0)] (.i 0):=by
 refine ⟨ZF (fok192 true) (QC rfl) ?_,rfl⟩;simp only[ic192,evA,simprocAttr];exact frz
theorem c116z:PC Tryz.prog 170 [.cv (.int .u64 0)] (.i 0):=by
 refine ⟨ZF (fok170 true) (QC rfl) ?_,rfl⟩;simp only[ic170,evA,simprocAttr];refine c139z.call frz ?_;simp only[evA,simprocAttr];exact frz
theorem c130z:PC Tryz.prog 183 [.cv .nils,.i 0,.i 0,.fn (.func 149) []] (.tup []):=by
 refine ⟨ZF (fok183 true) (QC rfl) ?_,rfl⟩;simp only[ic183,evA,simprocAttr];refine J1 ?_;simp only[ic183l1,kUn_x,evA,simprocAttr];exact .tup .nil
theorem c115z:PC Tryz.prog 169 [.cv .nils,.i 0,.i 0,.i 0,.fn (.func 149) []] (.tup []):=by
 refine ⟨ZF (fok169 true) (QC rfl) ?_,rfl⟩;simp only[ic169,evA,simprocAttr];refine J1 ?_;simp only[ic169l0,kUn_r,evA,simprocAttr];refine c130z.call frz ?_;simp only[kUn_r,evA,simprocAttr];exact .tup .nil
theorem p95n:PC Tryz.prog 148 [.cv .nils,.fn (.func 149) []] (.tup []):=by
 refine ⟨ZF (fok148 true) (QC rfl) ?_,rfl⟩;simp only[ic148,evA,simprocAttr];refine c116z.call frz ?_;simp only[evA,simprocAttr];refine c115z.call frz ?_;simp only[evA,simprocAttr];exact .tup .nil
theorem c95n (σ:List AObj):AC Tryz.prog 148 [.cv .nils,.fn (.func 149) []] σ fun r τ=>r=.tup []∧τ=σ:=p95n.call (.cons (GE (k:=0) _ rfl) (.cons (GE (k:=0) _ rfl) .nil)) ⟨rfl,rfl⟩
end Go.Proofs.YtgkidpolomhghaaGreatDoor.AM
namespace Go.Proofs.YtgkidpolomhghaaGreatDoor.AM
variable [Dr]
open Go
def Move1 (g:Nat→Nat) (k:Nat) (σ:List AObj) (a b:AV):Prop:=(a=ren g b∧QR k b=true)∨FrzV anyC σ a b
inductive PH (g:Nat→Nat) (k:Nat) (σ:List AObj):List AV→List AV→Prop
 | nil:PH g k σ [] []
 | cons {a b:AV} {as_ bs:List AV}:Move1 g k σ a b→PH g k σ as_ bs→PH g k σ (a::as_) (b::bs)
theorem PH.len {g:Nat→Nat} {k:Nat} {σ:List AObj} {as_ bs:List AV} (h:PH g k σ as_ bs):as_.length=bs.length:=by
 induction h with
 | nil=>rfl
 | cons _ _ ih=>simp[ih]
end Go.Proofs.YtgkidpolomhghaaGreatDoor.AM
namespace Go.Proofs.YtgkidpolomhghaaGreatDoor.AM
variable [Dr]
open Go
variable {P:Program} {fx:Fx} {m m':LM} {X X':Nat→Prop} {en:En} {w w':World} {s:St} {ac:Act}
theorem Mono.lessX (h:∀ b,X b→X' b):Mono m X' w m X w :=
 ⟨fun _ _ h=>h,fun b hb _=>⟨rfl,fun ho=>hb (ho.imp (h b) id)⟩,fun b c e h=>⟨c,h,rfl⟩⟩
theorem SRel.lessX (h:∀ b,X b→X' b) (hs:SRel fx m X' en s ac w):SRel fx m X en s ac w:=by
 refine ⟨hs.size,hs.vars.mono (Mono.lessX h),?_,?_,hs.base,hs.entry⟩
 ·obtain ⟨bs,h1,h2,h3⟩:=hs.defs;exact ⟨bs,h1,h2,fun b hb=>let ⟨g1,g2,g3,g4⟩:=h3 b hb;⟨g1,g2,g3,fun ho=>g4 (ho.imp (h b) id)⟩⟩
 ·refine ⟨fun b hb=>hs.heap.xb b (h b hb),hs.heap.dom,fun l b o hl ho hv hx=>hs.heap.own l b o hl ho hv (h b hx),hs.heap.inj,fun l o ho=>?_,hs.heap.gl.mono (Mono.lessX h)⟩;have:=hs.heap.obj l o ho;cases hml:m l with
  | none=>rw[hml] at this;cases o <;> simp[ORel] at this ⊢
  | some b=>rw[hml] at this;exact ORel.mono (Mono.lessX h) rfl this
theorem Step.lessX {n0:Nat} (h:∀ b,X b→X' b) (hs:Step n0 m X' w m' w'):Step n0 m X w m' w':={ hs with fr:=fun b hb hno=>hs.fr b hb (hno.imp (h b) id) }
theorem Step.putX {n0 r:Nat} {o:Obj} (hs:Step n0 m X w m' w') (hr:w.heap.size≤r):Step n0 m X w m' (w'.putObj r o) where
 keep:=hs.keep
 new:=hs.new
 size:=by have:=hs.size;simpa[World.putObj] using this
 fr b hb hno:=by rw[World.putObj_heap_other (by omega)];exact hs.fr b hb hno
 shp b c e hb:=by obtain ⟨c',h1,h2⟩:=hs.shp b c e hb;have:=(Q3.1 hb).1;exact ⟨c',by rw[World.putObj_heap_other (by omega)];exact h1,h2⟩
 os:=hs.os
 tape:=hs.tape
 output:=hs.output
 drawn:=hs.drawn
theorem Step.drew {n0:Nat} (hs:Step n0 m X w m' w'):Step n0 m X w m' w'.drew:={ hs with drawn:=fun o=>Nat.le_succ_of_le (hs.drawn o) }
theorem Mono.putX {r:Nat} {o o0:Obj} (hx:X r) (hr:w.heap[r]? = some o0) (h0:∀ c e,o0≠.cells c e (0,0)):Mono m X w m X (w.putObj r o) :=
 ⟨fun _ _ h=>h,fun b hb _=>⟨World.putObj_heap_other (show b≠r from fun h=>hb (.inl (by rw[h];exact hx))),hb⟩,fun b c e h=>⟨c,by
  rw[World.putObj_heap_other];exact h;rintro rfl;rw[hr] at h;cases h;exact h0 _ _ rfl,rfl⟩⟩
theorem SRel.putX {r:Nat} {o o0:Obj} (hx:X r) (hr:w.heap[r]? = some o0) (h0:∀ c e,o0≠.cells c e (0,0)) (hs:SRel fx m X en s ac w):SRel fx m X en s ac (w.putObj r o):=by
 have hm:Mono m X w m X (w.putObj r o):=Mono.putX hx hr h0;refine ⟨hs.size,hs.vars.mono hm,?_,?_,hs.base,by simpa[World.putObj] using hs.entry⟩
 ·obtain ⟨bs,h1,h2,h3⟩:=hs.defs;refine ⟨bs,h1,h2,fun b hb=>?_⟩;obtain ⟨g1,g2,g3,g4⟩:=h3 b hb;exact ⟨g1,by simpa[World.putObj] using g2,by rw[World.putObj_heap_other (show b≠r from fun h=>g4 (.inl (by rw[h];exact hx)))];exact g3,g4⟩
 ·refine ⟨fun b hb=>by simpa[World.putObj] using hs.heap.xb b hb,fun l b hl=>by simpa[World.putObj] using hs.heap.dom l b hl,hs.heap.own,hs.heap.inj,fun l o' ho=>?_,hs.heap.gl.mono hm⟩;have h1:=hs.heap.obj l o' ho;cases hml:m l with
  | none=>rw[hml] at h1;cases o' <;> simp[ORel] at h1 ⊢
  | some b =>
   rw[hml] at h1;by_cases hv:o'.live
   ·exact ORel.mono hm (World.putObj_heap_other (show b≠r from fun h=>hs.heap.own l b o' hml ho hv (by rw[h];exact hx))) h1
   ·cases o' <;> simp[AObj.live] at hv
    simp[ORel]
theorem SRel.put_other {t:Nat} {v:Value} (ht:t∉fx.vars) (hs:SRel fx m X en s ac w):SRel fx m X en s (ac.put (some t) v) w:=by
 refine ⟨by simpa[Act.put] using hs.size,fun i u hi=>?_,hs.defs,hs.heap,hs.base,hs.entry⟩;have hne:u≠t:=by rintro rfl;exact ht (QZ hi)
 have:=hs.vars i u hi;simp only[Act.put,QV] at this ⊢;rw[W2 (fun h=>hne h.symm)];exact this
theorem SRel.put_var {t i:Nat} {v:Value} {a:AV} (hn:fx.vars.Nodup) (ht:fx.vars[i]? = some t) (htN:t<fx.N) (hv:VRel m X w a v) (hs:SRel fx m X en s ac w):SRel fx m X en ⟨s.vals.set i a,s.heap⟩ (ac.put (some t) v) w:=by
 refine ⟨by simpa[Act.put] using hs.size,fun j u hj=>?_,hs.defs,hs.heap,hs.base,hs.entry⟩;have hsz:=hs.size;have hold:=hs.vars j u hj;by_cases hji:j=i
 ·subst hji;rw[ht] at hj;cases hj;have e1:(ac.put (some t) v).tmps.getD t Go.undef=v:=by
   simp[Act.put,QV,hsz,htN]
  rw[e1];rcases ZB j s.vals.length with h | h
  ·simpa[List.getD,h] using hv
  ·rw[KE h];simp[List.getD,QN h,VRel]
 ·have hne:u≠t:=by
   rintro rfl;exact hji ((List.getElem?_inj (QH.1 hj).1 hn).1 (hj.trans ht.symm))
  have e1:(s.vals.set i a).getD j .undef=s.vals.getD j .undef:=by simp only[List.getD];rw[QU (fun h=>hji h.symm)]
  have e2:(ac.put (some t) v).tmps.getD u Go.undef=ac.tmps.getD u Go.undef:=by simp only[Act.put,QV];rw[W2 (fun h=>hne h.symm)]
  show VRel m X w ((s.vals.set i a).getD j .undef) _;rw[e1,e2];exact hold
theorem PQ {ro:Option Nat} {ops:Array Oper} {Q:Exit→Act→World→Prop} {l:List Nat} {i:Nat} {o:Oper} {v:Value} (ho:ops[i]? = some o) (hg:o.guard=none) (hnd:∀ c,o.op≠.defer c)
  (hrun:(execOp ac.eval o).run P w=.ok (.value v) w') (h:wpOpsIn (wfen ro) 0 P ops Q l (ac.put o.dst v) w'):wpOpsIn (wfen ro) 0 P ops Q (i::l) ac w:=by
 have hw:Region.wanted o (yielded ops ac.tmps)=true:=by simp[Region.wanted,hg]
 simp only[wpOpsIn,ho,hw,if_true];refine ⟨fun _ _=>trivial,?_⟩;rw[Oper.semAt_eq _ _ _ hnd,hrun];exact h
structure MIt (m:LM) (X:Nat→Prop) (w:World) (lit l:Nat) (es:List (AV × AV)) (dn:List Nat) (r bm:Nat) (ces:Array MapEntry) (clock:Nat):Prop where
 mi:m lit=some r
 ml:m l=some bm
 xr:X r
 xm:X bm
 it:∃ c0,c0=clock∧w.heap[r]? = some (.mapIter (some bm) clock ((dn.map fun i=>(ces[i]?.map (·.born)).getD 0).toArray) c0)
 mp:w.heap[bm]? = some (.map ces clock)
 born:∀ e∈ces,e.born<clock
 nd:(ces.toList.map (·.born)).Nodup
 sz:ces.size=es.length
 rel:∀ (i:Nat) (k a:AV),es[i]? = some (k,a)→∃ e:MapEntry,ces[i]? = some e∧(∀ m X w,VRel m X w k e.key)∧∀ m X w,VRel m X w a e.val
 dd:dn.Nodup
 dl:∀ i∈dn,i<es.length
theorem MIt.step {lit l:Nat} {es:List (AV × AV)} {dn:List Nat} {r bm:Nat} {ces:Array MapEntry} {clock n0:Nat} (h:MIt m X w lit l es dn r bm ces clock) (hs:Step n0 m X w m' w') (h1:lit<n0) (h2:l<n0):MIt m' X w' lit l es dn r bm ces clock:=by
 obtain ⟨c0,hc,hit⟩:=h.it;refine ⟨by rw[hs.keep _ h1];exact h.mi,by rw[hs.keep _ h2];exact h.ml,h.xr,h.xm,⟨c0,hc,?_⟩,?_,h.born,h.nd,h.sz,h.rel,h.dd,h.dl⟩
 ·rw[hs.fr r (Q3.1 hit).1 (.inl h.xr)];exact hit
 ·rw[hs.fr bm (Q3.1 h.mp).1 (.inl h.xm)];exact h.mp
theorem born_inj {ces:Array MapEntry} (hn:(ces.toList.map (·.born)).Nodup) {i j:Nat} {e e':MapEntry} (hi:ces[i]? = some e) (hj:ces[j]? = some e') (h:e.born=e'.born):i=j:=by
 have h1:(ces.toList.map (·.born))[i]? = some e.born:=by simp[hi]
 have h2:(ces.toList.map (·.born))[j]? = some e'.born:=by simp[hj]
 have hl:i<(ces.toList.map (·.born)).length:=(QH.1 h1).1;exact (List.getElem?_inj hl hn).1 (by rw[h1,h2,h])
theorem MIt.next {lit l:Nat} {es:List (AV × AV)} {dn:List Nat} {r bm:Nat} {ces:Array MapEntry} {clock:Nat} (h:MIt m X w lit l es dn r bm ces clock) (ty:TypeId) :
  (dn.Perm (List.range es.length)∧(Instr.next (.pointer (some ⟨r,0,none⟩)) false ty).run P w=.ok (.tuple #[.bool false]) w) ∨
  ∃ (i:Nat) (k a:AV) (e:MapEntry) (w1:World) (c0:Nat),i∉dn∧i<es.length∧es[i]? = some (k,a)∧ces[i]? = some e∧(∀ m X w,VRel m X w k e.key)∧(∀ m X w,VRel m X w a e.val)∧(w1=w∨w1=w.drew)∧clock≤c0 ∧
   (Instr.next (.pointer (some ⟨r,0,none⟩)) false ty).run P w=.ok (.tuple #[.bool true,e.key,e.val]) (w1.putObj r (.mapIter (some bm) clock (((dn++[i]).map fun i=>(ces[i]?.map (·.born)).getD 0).toArray) c0)) ∧
   MIt m X (w1.putObj r (.mapIter (some bm) clock (((dn++[i]).map fun i=>(ces[i]?.map (·.born)).getD 0).toArray) c0)) lit l es (dn++[i]) r bm ces clock:=by
 obtain ⟨c0,hc,hit⟩:=h.it;have hmem:∀ i e,ces[i]? = some e→((dn.map fun i=>(ces[i]?.map (·.born)).getD 0).toArray.contains e.born=true↔i∈dn):=by
  intro i e he;simp only[List.contains_toArray,XS,ZP];constructor
  ·rintro ⟨j,hj,hb⟩;have hjl:=h.dl j hj;obtain ⟨e',he'⟩:∃ e',ces[j]? = some e':=⟨ces[j]'(by rw[h.sz];exact hjl),by rw[Q7]⟩;rw[he'] at hb;have:i=j:=born_inj h.nd he he' (by simpa using hb.symm);exact this ▸ hj
  ·intro hi;exact ⟨i,hi,by simp[he]⟩
 rcases run_next_at (P:=P) w ty r bm clock c0 _ ces clock hit h.mp (fun x hx=>h.born x (by simpa using hx)) (by omega) with ⟨h0,hrun⟩ | ⟨e,he,w1,hw1,hrun⟩
 ·left;refine ⟨?_,hrun⟩;have hall:∀ i,i<es.length→i∈dn:=by
   intro i hi;have hic:i<ces.size:=by rw[h.sz];exact hi
   have h2:ces[i]? = some ces[i]:=Q7 hic;rw[← hmem i _ h2];have h3:leftOf ces ((dn.map fun i=>(ces[i]?.map (·.born)).getD 0).toArray) = #[]:=Array.eq_empty_of_size_eq_zero h0;unfold leftOf at h3;rw[Array.filter_eq_empty_iff] at h3;have:=h3 ces[i] (Array.getElem_mem hic);simpa using this
  refine (List.perm_ext_iff_of_nodup h.dd List.nodup_range).2 fun i=>?_
  rw[ZI];exact ⟨h.dl i,hall i⟩
 ·right;unfold leftOf at he;simp only[Array.toList_filter,YB,Z0,XG] at he;obtain ⟨he1,he2⟩:=he;obtain ⟨i,hi,rfl⟩:=Array.mem_iff_getElem.1 he1;have hic:ces[i]? = some ces[i]:=Q7 hi;have hil:i<es.length:=by rw[← h.sz];exact hi
  have hid:i∉dn:=by intro hd;rw[(hmem i _ hic).2 hd] at he2;cases he2
  obtain ⟨e',g1,g2,g3⟩:=h.rel i (es[i]).1 (es[i]).2 (by rw[QI hil]);rw[hic] at g1;cases g1;have hseen:(((dn++[i]).map fun i=>(ces[i]?.map (·.born)).getD 0).toArray)=((dn.map fun i=>(ces[i]?.map (·.born)).getD 0).toArray).push (ces[i]).born:=by simp[hic]
  have hsb:∀ (u:World) o,ChangeMaps.setBlock u r o=u.putObj r o:=fun _ _=>rfl
  have hr1:w1.heap=w.heap:=by rcases hw1 with rfl | rfl <;> rfl
  have hrlt:r<w1.heap.size:=by rw[hr1];exact (Q3.1 hit).1
  have hne:bm≠r:=by rintro rfl;have hmp:=h.mp;rw[hit] at hmp;cases hmp
  refine ⟨i,(es[i]).1,(es[i]).2,ces[i],w1,clock,hid,hil,by rw[QI hil],hic,g2,g3,hw1,QG _,by rw[hseen];exact hrun,?_⟩;refine ⟨h.mi,h.ml,h.xr,h.xm,⟨clock,rfl,World.putObj_heap_same hrlt⟩,by rw[World.putObj_heap_other hne,hr1];exact h.mp,h.born,h.nd,h.sz,h.rel,?_,?_⟩
  ·exact List.nodup_append.2 ⟨h.dd,by simp,fun a ha b hb=>by simp at hb;subst hb;rintro rfl;exact hid ha⟩
  ·intro j hj;rcases YV.1 hj with hj | hj
   ·exact h.dl j hj
   ·simp at hj;subst hj;exact hil
structure GM (l bm:Nat) (es:List (AV × AV)) (ces:Array MapEntry) (clock:Nat) (m:LM) (X:Nat→Prop) (w:World):Prop where
 ml:m l=some bm
 xm:X bm
 mp:w.heap[bm]? = some (.map ces clock)
 born:∀ e∈ces,e.born<clock
 nd:(ces.toList.map (·.born)).Nodup
 sz:ces.size=es.length
 rel:∀ (i:Nat) (k a:AV),es[i]? = some (k,a)→∃ e:MapEntry,ces[i]? = some e∧(∀ m X w,VRel m X w k e.key)∧∀ m X w,VRel m X w a e.val
theorem GM.step {l bm:Nat} {es:List (AV × AV)} {ces:Array MapEntry} {clock n0:Nat} (h:GM l bm es ces clock m X w) (hs:Step n0 m X w m' w') (hl:l<n0):GM l bm es ces clock m' X w' :=
 ⟨by rw[hs.keep _ hl];exact h.ml,h.xm,by rw[hs.fr bm (Q3.1 h.mp).1 (.inl h.xm)];exact h.mp,h.born,h.nd,h.sz,h.rel⟩
def WX (P:Program) (fx:Fx) (G:LM→(Nat→Prop)→World→Prop) (c:Code) (s:St) (Q:Exit→St→Prop):Prop :=
 ∀ m X en ac w,SRel fx m X en s ac w→rok fx m→G m X w→c.wpIn (fen m fx.r) 0 P (Lift fx m X en w Q) ac w
theorem WX.of {G:LM→(Nat→Prop)→World→Prop} {c:Code} {Q:Exit→St→Prop} (h:W P fx c s Q):WX P fx G c s Q:=fun m X en ac w hs hr _=>h m X en ac w hs hr
theorem C6 {G:LM→(Nat→Prop)→World→Prop} (hG:∀ m X w m' w',G m X w→Step fx.n0 m X w m' w'→G m' X w') {x y:Code} {Q:Exit→St→Prop} (h:WX P fx G x s fun e s'=>match e with | .normal=>WX P fx G y s' Q | e=>Q e s'):WX P fx G (.seq x y) s Q:=by
 intro m X en ac w hs hr hg;refine wpIn_seq (wpIn_mono (h m X en ac w hs hr hg) ?_);rintro e ac' w' ⟨s',m',hq,hs',hst⟩;cases e with
 | normal =>
  have:=hq m' X en ac' w' hs' (EH hr hst) (hG _ _ _ _ _ hg hst);rw[EQ hr hst] at this;exact wpIn_mono this fun e ac2 w2 ⟨s2,m2,h1,h2,h3⟩=>⟨s2,m2,h1,h2,hst.trans h3⟩
 | _=>exact ⟨s',m',hq,hs',hst⟩
set_option maxHeartbeats 1000000 in
theorem QdL {l bm:Nat} {es:List (AV × AV)} {ces:Array MapEntry} {clock:Nat} {tm tit tn tok te iit bi bj id2 id3 id4 T K E:Nat} {o20 o21 o30 o31 o4:Oper} {ops4:Array Oper} {is4:List Ins} {B:Code} {x:Operand} {Q:Exit→St→Prop}
  (hl0:l<fx.n0) (hx:WY s.vals [] (XA fx.vars [] x)=.map l) (hT:P.underlying T=some (.map K E)) (hnd:fx.vars.Nodup)
  (g20:o20.dst=some tm∧o20.op=.move x∧o20.guard=none) (g21:o21.dst=some tit∧o21.op=.range T (.tmp tm)∧o21.guard=none)
  (g30:o30.dst=some tn∧o30.op=.next (.tmp tit) false∧o30.guard=none) (g31:o31.dst=some tok∧o31.op=.extract (.tmp tn) 0∧o31.guard=none)
  (g4:ops4[0]? = some o4∧o4.dst=some te∧o4.op=.entry (.tmp tit)∧o4.guard=none)
  (hok4:GU fx.vars fx.N ops4.toList=true) (hc4:HK P fx.vars (ops4.toList.map (·.dst)) (ops4.toList.drop 1)=some is4)
  (hit:fx.vars[iit]? = some tit) (hv:tm∉fx.vars∧tn∉fx.vars∧tok∉fx.vars∧te∉fx.vars) (hN:tm<fx.N∧tit<fx.N∧tn<fx.N∧tok<fx.N∧te<fx.N)
  (I:List Nat→St→Prop) (h0:I [] ⟨s.vals.set iit (.ptr s.heap.length 0),s.heap++[.dead]⟩)
  (hI:∀ dn s',I dn s'→s'.vals.getD iit .undef=.ptr s.heap.length 0)
  (hround:∀ dn s' i k a,I dn s'→i∉dn→es[i]? = some (k,a)→RG P is4 s'.vals [.tup [k,a]] s'.heap fun vals _ σ=>W P { fx with n0:=s.heap.length+1 } B ⟨vals,σ⟩ fun e s2=>match e with
   | .normal=>∃ s3,Weak { fx with n0:=s.heap.length+1 } s2 s3∧I (dn++[i]) s3
   | _=>False)
  (hend:∀ dn s',I dn s'→dn.Perm (List.range es.length)→Q .normal s') :
  WX P fx (GM l bm es ces clock) (.seq (.region id2 #[o20,o21] false) (.block bi (.loop (.seq (.region id3 #[o30,o31] false) (.seq (.cond (.tmp tok) .skip (.exit bi)) (.block bj (.seq (.region id4 ops4 false) B))))))) s Q:=by
 intro m X en ac w hs hr hg;have hbase:fx.n0≤s.heap.length:=hs.base;have hbl:bm<w.heap.size:=(Q3.1 hg.mp).1;have hxv:ac.eval x=.map (some bm):=by have:=U7 (ops:=[]) (ρ:=[]) (ds:=ac.defers) (tmps:=ac.tmps) hs.heap.gl hs.vars (fun j t hj _=>by simp at hj) x;simp only[WS] at this;rw[hx] at this;simp only[VRel] at this;obtain ⟨b,hb,he⟩:=this;rw[hg.ml] at hb;cases hb;exact he
 have hro:fen m fx.r=wfen (fx.r.bind m):=rfl;refine wpIn_seq (wpIn_region ?_);show wpOpsIn (wfen (fx.r.bind m)) 0 P #[o20,o21] _ [0,1] ac w;refine PQ (o:=o20) (v:=.map (some bm)) (w':=w) rfl g20.2.2 (by rw[g20.2.1];simp) (by simp[execOp,g20.2.1,hxv]) ?_;rw[g20.1];have hsz:=hs.size;have ev1:(ac.put (some tm) (.map (some bm))).eval (.tmp tm)=.map (some bm):=by simp[Act.eval,Act.put,QV,hsz,hN.1]
 refine PQ (o:=o21) (v:=.pointer (some ⟨w.heap.size,0,none⟩)) (w':=w.alloc (.mapIter (some bm) clock #[] clock)) rfl g21.2.2 (by rw[g21.2.1];simp) (by simp only[execOp,g21.2.1,ev1];simp[run_range_map w T K E bm ces clock hT hg.mp]) ?_
 rw[g21.1];simp only[wpOpsIn,Exit.then];refine wpIn_block (D6 ?_);obtain ⟨a1,a2,a3⟩:=hs.heap.alloc (.mapIter (some bm) clock #[] clock) .dead (fun _=>by simp[ORel]);have hm1:Mono m X w (m.put s.heap.length w.heap.size) (fun b=>X b∨b=w.heap.size) (w.alloc (.mapIter (some bm) clock #[] clock)):=by
  refine ⟨a3.sub,fun b hb hc=>⟨(a3.cl b hb hc).1,?_⟩,a3.shp⟩;rintro ((hx | rfl) | ⟨l',hl'⟩)
  ·exact hb (.inl hx)
  ·exact absurd hc.lt (Nat.lt_irrefl _)
  ·exact (a3.cl b hb hc).2 (.inr ⟨l',hl'⟩)
 have hs1:SRel { fx with n0:=s.heap.length+1 } (m.put s.heap.length w.heap.size) (fun b=>X b∨b=w.heap.size) en ⟨s.vals,s.heap++[.dead]⟩ ac (w.alloc (.mapIter (some bm) clock #[] clock)):=by
  refine ⟨hs.size,hs.vars.mono hm1,?_,⟨?_,a1.dom,?_,a1.inj,?_,hs.heap.gl.mono hm1⟩,by simp,by have:=hs.entry;simp;omega⟩
  ·obtain ⟨bs,h1,h2,h3⟩:=hs.defs;refine ⟨bs,h1,h2,fun b hb=>?_⟩;obtain ⟨q1,q2,q3,q4⟩:=h3 b hb;refine ⟨q1,by simp;omega,by rw[heap_alloc_old w _ q2];exact q3,?_⟩;rintro ((hx | rfl) | ⟨l',hl'⟩)
   ·exact q4 (.inl hx)
   ·exact Nat.lt_irrefl _ q2
   ·by_cases hll:l'=s.heap.length
    ·subst hll;rw[LM.put_same] at hl';cases hl';exact Nat.lt_irrefl _ q2
    ·rw[LM.put_other m hll] at hl';exact q4 (.inr ⟨l',hl'⟩)
  ·rintro b (hb | rfl)
   ·exact a1.xb b hb
   ·simp
  ·intro l' b o hl' ho hvv;rintro (hb | rfl)
   ·exact a1.own l' b o hl' ho hvv hb
   ·by_cases hll:l'=s.heap.length
    ·subst hll;rw[QS (QG _)] at ho;simp at ho;subst ho;exact hvv
    ·rw[LM.put_other m hll] at hl';exact Nat.lt_irrefl _ (hs.heap.dom l' _ hl').2
  ·intro l' o ho;have hh:=a1.obj l' o ho;have hgrow:Mono (m.put s.heap.length w.heap.size) X (w.alloc (.mapIter (some bm) clock #[] clock)) (m.put s.heap.length w.heap.size) (fun b=>X b∨b=w.heap.size) (w.alloc (.mapIter (some bm) clock #[] clock)):=by
    refine ⟨fun _ _ h=>h,fun b hb hc=>⟨rfl,?_⟩,fun b c e h=>⟨c,h,rfl⟩⟩;rintro ((hx | rfl) | ⟨l',hl'⟩)
    ·exact hb (.inl hx)
    ·exact hb (.inr ⟨s.heap.length,LM.put_same _ _ _⟩)
    ·exact hb (.inr ⟨l',hl'⟩)
   cases hml:(m.put s.heap.length w.heap.size) l' with
   | none=>rw[hml] at hh;cases o <;> simp[ORel] at hh ⊢
   | some b=>rw[hml] at hh;exact ORel.mono hgrow rfl hh
 have hs2:=SRel.put_var (fx:={ fx with n0:=s.heap.length+1 }) (v:=.pointer (some ⟨w.heap.size,0,none⟩)) (a:=.ptr s.heap.length 0) hnd hit hN.2.1 (by simp only[VRel];exact ⟨_,LM.put_same _ _ _,rfl⟩) (SRel.put_other (fx:={ fx with n0:=s.heap.length+1 }) (t:=tm) (v:=.map (some bm)) hv.1 hs1);have hM0:MIt (m.put s.heap.length w.heap.size) (fun b=>X b∨b=w.heap.size) (w.alloc (.mapIter (some bm) clock #[] clock)) s.heap.length l es [] w.heap.size bm ces clock :=
  ⟨LM.put_same _ _ _,by rw[LM.put_other m (by omega)];exact hg.ml,.inr rfl,.inl hg.xm,⟨clock,rfl,by rw[heap_alloc_new];rfl⟩,by rw[heap_alloc_old w _ hbl];exact hg.mp,hg.born,hg.nd,hg.sz,hg.rel,YU,by simp⟩
 have hst0:Step fx.n0 m X w (m.put s.heap.length w.heap.size) (w.alloc (.mapIter (some bm) clock #[] clock)):=a2.less hbase;have key:∀ (n:Nat) (dn:List Nat) (s':St) (m1:LM) (ac1:Act) (w1:World),es.length-dn.length=n→I dn s'→SRel { fx with n0:=s.heap.length+1 } m1 (fun b=>X b∨b=w.heap.size) en s' ac1 w1 →
   MIt m1 (fun b=>X b∨b=w.heap.size) w1 s.heap.length l es dn w.heap.size bm ces clock→Step fx.n0 m X w m1 w1 →
   RA (fen m fx.r) P (.seq (.region id3 #[o30,o31] false) (.seq (.cond (.tmp tok) .skip (.exit bi)) (.block bj (.seq (.region id4 ops4 false) B)))) (Exit.inBlock bi (Lift fx m X en w Q)) ac1 w1:=by
  intro n
  induction n using Nat.strongRecOn with
  | _ n ih =>
  intro dn s' m1 ac1 w1 hn hId hsr hmi hst;have hsz1:=hsr.size;have hiv:ac1.eval (.tmp tit)=.pointer (some ⟨w.heap.size,0,none⟩):=by have:=hsr.vars iit tit hit;rw[hI dn s' hId] at this;simp only[VRel] at this;obtain ⟨b,hb,he⟩:=this;rw[hmi.mi] at hb;cases hb;exact he
  have hr1:rok { fx with n0:=s.heap.length+1 } m1:=by intro l' hl';obtain ⟨k1,b,k2⟩:=EH hr hst l' hl';exact ⟨by show l'<s.heap.length+1;omega,b,k2⟩
  refine L4 (wpIn_seq (wpIn_region ?_));show wpOpsIn (wfen (fx.r.bind m)) 0 P #[o30,o31] _ [0,1] ac1 w1;rcases hmi.next (P:=P) o30.type with ⟨hperm,hrun⟩ | ⟨i,k,a,e,w2,c0,hid,hil,hei,hci,hk,ha,hw2,hc0,hrun,hmi2⟩
  ·refine PQ (o:=o30) (v:=.tuple #[.bool false]) (w':=w1) rfl g30.2.2 (by rw[g30.2.1];simp) (by simp[execOp,g30.2.1,hiv,hrun]) ?_;rw[g30.1];have ev2:(ac1.put (some tn) (.tuple #[.bool false])).eval (.tmp tn)=.tuple #[.bool false]:=by
    simp[Act.eval,Act.put,QV,hsz1,hN.2.2.1]
   refine PQ (o:=o31) (v:=.bool false) (w':=w1) rfl g31.2.2 (by rw[g31.2.1];simp) (by simp[execOp,g31.2.1,ev2,Instr.extract]) ?_;rw[g31.1];simp only[wpOpsIn,Exit.then];refine wpIn_seq (wpIn_cond_false (by simp[Act.eval,Act.put,QV,hsz1,hN.2.2.2.1]) (wpIn_exit ?_));simp only[Exit.then,Exit.inBlock,if_true];have hs3:=SRel.put_other (fx:={ fx with n0:=s.heap.length+1 }) (t:=tok) (v:=.bool false) hv.2.2.1 (SRel.put_other (fx:={ fx with n0:=s.heap.length+1 }) (t:=tn) (v:=.tuple #[.bool false]) hv.2.1 hsr);have hs4:=SRel.lessX (X:=X) (fun b h=>.inl h) hs3;exact ⟨s',m1,hend dn s' hId hperm,⟨hs4.size,hs4.vars,hs4.defs,hs4.heap,by have:=hs4.base;dsimp only at this ⊢;omega,hs4.entry⟩,hst⟩
  ·refine PQ (o:=o30) (v:=.tuple #[.bool true,e.key,e.val]) (w':=(w2.putObj w.heap.size (.mapIter (some bm) clock (((dn++[i]).map fun i=>(ces[i]?.map (·.born)).getD 0).toArray) c0))) rfl g30.2.2 (by rw[g30.2.1];simp) (by simp only[execOp,g30.2.1,hiv];simp only[Sem.run_bind,hrun,Result.andThen_ok,Sem.run_pure]) ?_;rw[g30.1];have ev2:(ac1.put (some tn) (.tuple #[.bool true,e.key,e.val])).eval (.tmp tn)=.tuple #[.bool true,e.key,e.val]:=by
    simp[Act.eval,Act.put,QV,hsz1,hN.2.2.1]
   refine PQ (o:=o31) (v:=.bool true) (w':=(w2.putObj w.heap.size (.mapIter (some bm) clock (((dn++[i]).map fun i=>(ces[i]?.map (·.born)).getD 0).toArray) c0))) rfl g31.2.2 (by rw[g31.2.1];simp) (by simp[execOp,g31.2.1,ev2,Instr.extract]) ?_;rw[g31.1];simp only[wpOpsIn,Exit.then];refine wpIn_seq (wpIn_cond_true (by simp[Act.eval,Act.put,QV,hsz1,hN.2.2.2.1]) (wpIn_skip ?_));simp only[Exit.then];refine wpIn_block (wpIn_seq (wpIn_region ?_));obtain ⟨c1,hc1,hiter⟩:=hmi.it;have hx1:(fun b=>X b∨b=w.heap.size) w.heap.size:=.inr rfl;have hs2':SRel { fx with n0:=s.heap.length+1 } m1 (fun b=>X b∨b=w.heap.size) en s' ac1 w2:=by
    rcases hw2 with rfl | rfl
    ·exact hsr
    ·exact hsr.drew
   have hiter2:w2.heap[w.heap.size]? = some (.mapIter (some bm) clock ((dn.map fun i=>(ces[i]?.map (·.born)).getD 0).toArray) c1):=by rcases hw2 with rfl | rfl <;> exact hiter
   have hst2:Step fx.n0 m X w m1 w2:=by
    rcases hw2 with rfl | rfl
    ·exact hst
    ·exact hst.drew
   have hs3:=SRel.put_other (fx:={ fx with n0:=s.heap.length+1 }) (t:=tok) (v:=.bool true) hv.2.2.1 (SRel.put_other (fx:={ fx with n0:=s.heap.length+1 }) (t:=tn) (v:=.tuple #[.bool true,e.key,e.val]) hv.2.1 (SRel.putX (o:=.mapIter (some bm) clock (((dn++[i]).map fun i=>(ces[i]?.map (·.born)).getD 0).toArray) c0) hx1 hiter2 (by intro c e;simp) hs2'));have hst3:=hst2.putX (r:=w.heap.size) (o:=.mapIter (some bm) clock (((dn++[i]).map fun i=>(ces[i]?.map (·.born)).getD 0).toArray) c0) (QG _);generalize hw3:(w2.putObj w.heap.size (.mapIter (some bm) clock (((dn++[i]).map fun i=>(ces[i]?.map (·.born)).getD 0).toArray) c0))=w3 at hs3 hst3 hmi2 hrun;have hsz3:=hs3.size;have hiv3:((ac1.put (some tn) (.tuple #[.bool true,e.key,e.val])).put (some tok) (.bool true)).eval (.tmp tit)=.pointer (some ⟨w.heap.size,0,none⟩):=by have:=hs3.vars iit tit hit;rw[hI dn s' hId] at this;simp only[VRel] at this;obtain ⟨b,hb,he⟩:=this;rw[hmi.mi] at hb;cases hb;exact he
   generalize hac3:((ac1.put (some tn) (.tuple #[.bool true,e.key,e.val])).put (some tok) (.bool true))=ac3 at hs3 hiv3 hsz3;have hentry:(Instr.entry (.pointer (some ⟨w.heap.size,0,none⟩))).run P w3=.ok (.tuple #[e.key,e.val]) w3:=by
    obtain ⟨c2,hc2,hit2⟩:=hmi2.it;have hseen:(((dn++[i]).map fun i=>(ces[i]?.map (·.born)).getD 0).toArray)=((dn.map fun i=>(ces[i]?.map (·.born)).getD 0).toArray).push e.born:=by simp[hci]
    rw[hseen,hc2] at hit2;have hemem:e∈ces.toList:=by rw[XG];exact Array.mem_of_getElem? hci
    have hf:ces.find? (·.born == e.born)=some e:=by rw[← Array.find?_toList];exact find_born e ces.toList hg.nd hemem
    simp only[Instr.entry,getObj,Sem.run_bind,Sem.run,hit2,hmi2.mp,Result.andThen,Array.back?_push,bne_self_eq_false,QT,if_false,hf];rfl
   have hlt4:0<ops4.size:=(Q3.1 g4.1).1;have hrange:List.range ops4.size=0::List.range' 1 (ops4.size-1):=by
    rw[List.range_eq_range'];have:ops4.size=(ops4.size-1)+1:=by omega
    rw[this,List.range'_succ];simp
   rw[hrange];refine PQ (ro:=fx.r.bind m) (o:=o4) (v:=.tuple #[e.key,e.val]) (w':=w3) g4.1 g4.2.2.2 (by rw[g4.2.2.1];simp) (by simp[execOp,g4.2.2.1,hiv3,hentry]) ?_;rw[g4.2.1];have hs4:=SRel.put_other (fx:={ fx with n0:=s.heap.length+1 }) (t:=te) (v:=.tuple #[e.key,e.val]) hv.2.2.2 hs3;have hrm:fx.r.bind m=fx.r.bind m1:=by have:=EQ hr hst;rw[fen_eq,fen_eq] at this;have:=congrArg Fence.round this;simpa[wfen] using this.symm
   refine C8 (fx:={ fx with n0:=s.heap.length+1 }) (X:=fun b=>X b∨b=w.heap.size) (en:=en) hok4 is4 1 m1 w3 s'.vals [.tup [k,a]] s'.heap _ _ (by rw[← UV];exact hc4) rfl (hround dn s' i k a hId hid hei) hs4 ?_ ?_
   ·intro j t hj htv;cases j with
    | zero =>
     have h0:ops4.toList[0]? = some o4:=by simpa using g4.1
     rw[h0] at hj;simp only[Option.bind_some,g4.2.1,Option.some.injEq] at hj;subst hj;have:(ac3.put (some te) (.tuple #[e.key,e.val])).tmps.getD te Go.undef=.tuple #[e.key,e.val]:=by simp[Act.put,QV,hsz3,hN.2.2.2.2]
     rw[this];simp only[List.getD_cons_zero,VRel];exact ⟨_,rfl,by simp only[QK];exact ⟨hk _ _ _,ha _ _ _,trivial⟩⟩
    | succ j=>simp[VRel]
   ·intro m4 ac4 w4 vals4 ρ4 σ4 hW hs5 hst5;simp only[Exit.then];have hr4:=EH (fx:={ fx with n0:=s.heap.length+1 }) hr1 hst5;have hmi4:=hmi2.step hst5 (Nat.lt_succ_self _) (by show l<s.heap.length+1;omega);have hstA:Step fx.n0 m X w m4 w4:=hst3.trans ((hst5.less (by show fx.n0≤s.heap.length+1;omega)).lessX fun b h=>.inl h);have hB:=hW m4 (fun b=>X b∨b=w.heap.size) en ac4 w4 hs5 hr4;have hfen4:fen m4 (Fx.r { fx with n0:=s.heap.length+1 })=wfen (fx.r.bind m):=by
     show fen m4 fx.r=_;rw[EQ hr hstA];rfl
    rw[hfen4] at hB;refine wpIn_mono hB ?_;rintro e6 ac6 w6 ⟨s6,m6,hq6,hs6,hst6⟩;cases e6 with
    | normal =>
     obtain ⟨s7,hwk,hI7⟩:=hq6;obtain ⟨m7,hs7,hst7⟩:=hwk m6 _ en ac6 w6 hs6;have hmi7:=(hmi4.step hst6 (Nat.lt_succ_self _) (by show l<s.heap.length+1;omega)).step hst7 (Nat.lt_succ_self _) (by show l<s.heap.length+1;omega);have hstB:Step fx.n0 m X w m7 w6:=hstA.trans (((hst6.trans hst7).less (by show fx.n0≤s.heap.length+1;omega)).lessX fun b h=>.inl h);have hdl:=hmi7.dd.length_le_of_subset (l₂:=List.range es.length) fun i hi=>ZI.2 (hmi7.dl i hi)
     simp only[QM,List.length_cons,List.length_nil,List.length_range] at hdl;exact ih (es.length-(dn++[i]).length) (by simp;omega) (dn++[i]) s7 m7 ac6 w6 rfl hI7 hs7 hmi7 hstB
    | _=>exact hq6.elim
 exact key _ [] _ _ _ _ rfl h0 hs2 hM0 hst0
end Go.Proofs.YtgkidpolomhghaaGreatDoor.AM
namespace Go.Proofs.YtgkidpolomhghaaGreatDoor.AM
variable [Dr]
open Go
variable {P:Program} {fx:Fx}
def PPost (m:LM) (X:Nat→Prop) (w:World) (σ:List AObj) (ch:List PanicEntry) (Q:List AObj→Prop):Ending→World→Prop :=
 fun e w'=>∃ σ' m',e=.panicked ch∧Q σ'∧HRel m' X σ' w'∧Step σ.length m X w m' w'∧σ.length≤σ'.length
def ACp (P:Program) (f:FuncId) (args:List AV) (σ:List AObj) (ch:List PanicEntry) (Q:List AObj→Prop):Prop :=
 PI P f∧∀ m X w cargs,QK m X w args cargs→HRel m X σ w→CallsIn Fence.wide 0 P f cargs.toArray w (PPost m X w σ ch Q)
theorem ACp.mono {f:FuncId} {args:List AV} {σ:List AObj} {ch:List PanicEntry} {Q Q':List AObj→Prop} (h:ACp P f args σ ch Q) (hq:∀ σ',Q σ'→Q' σ'):ACp P f args σ ch Q' :=
 ⟨h.1,fun m X w cargs ha hh=>(h.2 m X w cargs ha hh).mono fun e w' ⟨σ',m',h1,h2,h3⟩=>⟨σ',m',h1,hq _ h2,h3⟩⟩
section
variable {X:Nat→Prop} {en:En}
end
end Go.Proofs.YtgkidpolomhghaaGreatDoor.AM
namespace Go.Proofs.YtgkidpolomhghaaGreatDoor.AM
variable [Dr]
open Go
variable {P:Program} {fx:Fx} {s:St} {Q:Exit→St→Prop} {f:FuncId}
def InF (f:FuncId) (F:Fence) (n:Nat) (P:Program) (c:Code) (Q:Exit→Act→World→Prop) (a:Act) (w:World):Prop :=
 ∀ (b:Frame) (k:List Item) (cs:List Frame),b.fn=f→b.roundOf=F.round→F.fn b.fn→F.room (cs.length+1+n) →
  ∃ e a' w',Q e a' w'∧ArrivesIn (Machine.fenced P F) P (lone (b.atR a (.code c::k)) cs w) b k cs e a' w'
theorem InF.of {F:Fence} {n:Nat} {c:Code} {Q:Exit→Act→World→Prop} {a:Act} {w:World} (h:c.wpIn F n P Q a w):InF f F n P c Q a w:=fun b k cs _ h1 h2 h3=>h b k cs h1 h2 h3
theorem InF.mono {F:Fence} {n:Nat} {c:Code} {Q Q':Exit→Act→World→Prop} {a:Act} {w:World} (h:InF f F n P c Q a w) (hq:∀ e a w,Q e a w→Q' e a w):InF f F n P c Q' a w :=
 fun b k cs h0 h1 h2 h3=>let ⟨e,a',w',q,r⟩:=h b k cs h0 h1 h2 h3;⟨e,a',w',hq _ _ _ q,r⟩
def WB (f:FuncId) (P:Program) (fx:Fx) (c:Code) (s:St) (Q:Exit→St→Prop):Prop :=
 ∀ m X en ac w,SRel fx m X en s ac w→rok fx m→InF f (fen m fx.r) 0 P c (Lift fx m X en w Q) ac w
theorem WB.of {c:Code} (h:W P fx c s Q):WB f P fx c s Q:=fun m X en ac w hs hr=>InF.of (h m X en ac w hs hr)
theorem WB.mono {c:Code} {Q':Exit→St→Prop} (h:WB f P fx c s Q) (hq:∀ e s',Q e s'→Q' e s'):WB f P fx c s Q' :=
 fun m X en ac w hs hr=>InF.mono (h m X en ac w hs hr) fun e ac' w' ⟨s',m',h1,h2⟩=>⟨s',m',hq _ _ h1,h2⟩
end Go.Proofs.YtgkidpolomhghaaGreatDoor.AM
namespace Go.Proofs.YtgkidpolomhghaaGreatDoor.AM
variable [Dr]
open Go
variable {P:Program} {fx:Fx}
theorem SZ {f:FuncId} {fn:Func} {args:List AV} {cargs:List Value} {σ:List AObj} {vars:List Nat} {m:LM} {X:Nat→Prop} {w:World} (ha:QK m X w args cargs) (hh:HRel m X σ w) (hargs:args.length≤fn.ntmps) :
  SRel ⟨vars,fn.ntmps,none,σ.length⟩ m X ⟨w.heap.size,[]⟩ ⟨Y5 vars args,σ⟩ { tmps:=cargs.toArray++Array.replicate (fn.ntmps-cargs.toArray.size) Go.undef,defers:=[] } w:=by
 have hlen:=ha.length;refine ⟨by simp;omega,?_,⟨[],rfl,YU,by simp⟩,hh,QG _,QG _⟩;intro i t hi;have e1:(Y5 vars args).getD i .undef=args.getD t .undef:=by simp only[Y5,List.getD,ZR];rw[show vars[i]? = some t from hi];rfl
 rw[e1];rw[QV];by_cases ht:t<cargs.length
 ·have e2:(cargs.toArray++Array.replicate (fn.ntmps-cargs.toArray.size) Go.undef)[t]? = some cargs[t]:=by
   rw[JF (by simpa using ht)];simp[ht]
  rw[e2];have:=ha.getD t Go.undef;simpa[List.getD,ht] using this
 ·have:args.getD t .undef=.undef:=by simp[List.getD,QN (show args.length≤t by omega)]
  rw[this];simp[VRel]
end Go.Proofs.YtgkidpolomhghaaGreatDoor.AM
namespace Go.Proofs.YtgkidpolomhghaaGreatDoor.AM
variable [Dr]
open Go
variable {P:Program}
def PF (a:AV):Prop:=∀ m X w m' X' w' v,VRel m X w a v→VRel m' X' w' a v
theorem QbP {k:IntKind} {z:Int}:PF (.cv (.int k z)):=fun m X w m' X' w' v h=>by simpa only[VRel,CV.rep] using h
theorem QeL {k:IntKind}:∀ {zs:List Int},PF (.agg (zs.map fun z=>.cv (.int k z))):=by
 intro zs m X w m' X' w' v h;simp only[VRel] at h ⊢;obtain ⟨vs,rfl,h⟩:=h;refine ⟨vs,rfl,?_⟩
 induction zs generalizing vs with
 | nil=>rw[QK.nil' h];simp[QK]
 | cons z zs ih =>
  obtain ⟨u,us,rfl,h1,h2⟩:=h.cons;simp only[Q0,QK];exact ⟨QbP m X w m' X' w' u h1,ih us h2⟩
theorem AC_map {f:FuncId} {fn:Func} {c:Code} {vars:List Nat} {l:Nat} {σ:List AObj} {es:List (AV × AV)} {R:AV→Prop} (hf:P.funcs[f]? = some fn) (hb:fn.body=some c) (hen:PI P f) (hargs:1≤fn.ntmps)
  (hl:σ[l]? = some (.map es)) (hes:∀ p∈es,PF p.1∧PF p.2)
  (h:∀ bm ces clock,WX P ⟨vars,fn.ntmps,none,1⟩ (GM 0 bm es ces clock) c ⟨Y5 vars [.map 0],[.dead]⟩ fun e s'=>match e with
   | .normal | .ret=>∃ r,UB P vars s'.vals s'.heap fn.results.toList=some r∧∃ v,FrzV scl s'.heap r v∧R v
   | _=>False):AC P f [.map l] σ fun r τ=>R r∧τ=σ:=by
 refine ⟨hen,fun m X w cargs ha hh=>?_⟩;refine callsIn_of_wp_marks hf hb trivial ?_;have hlen:=ha.length;obtain ⟨v0,us,rfl,hv0,h2⟩:=ha.cons;have h3:=QK.nil' h2;subst h3;simp only[VRel] at hv0;obtain ⟨bm,hbm,rfl⟩:=hv0;have ho:=hh.obj l _ hl;rw[hbm] at ho;simp only[ORel] at ho;obtain ⟨ces,clock,hmp,hborn,hnd,hsz,hrel⟩:=ho;have hbl:bm<w.heap.size:=(hh.dom l bm hbm).2
 let m0:LM:=fun l'=>if l'=0 then some bm else none
 let X1:Nat→Prop:=fun b=>X b∨b=bm
 have hm0:∀ l' b,m0 l'=some b→l'=0∧b=bm:=fun l' b h=>by
  show l'=0∧b=bm;by_cases h0:l'=0
  ·subst h0;simp[m0] at h;exact ⟨rfl,h.symm⟩
  ·simp[m0,h0] at h
 have hh0:HRel m0 X1 [.dead] w:=by
  refine ⟨?_,?_,?_,?_,?_,hh.gl.less ?_⟩
  rotate_right
  ·rintro b ((hb | rfl) | ⟨l',hl'⟩)
   ·exact .inl hb
   ·exact .inr ⟨l,hbm⟩
   ·obtain ⟨_,rfl⟩:=hm0 l' b hl';exact .inr ⟨l,hbm⟩
  ·rintro b (hb | rfl)
   ·exact hh.xb b hb
   ·exact hbl
  ·intro l' b h;obtain ⟨rfl,rfl⟩:=hm0 l' b h;exact ⟨by simp,hbl⟩
  ·intro l' b o h ho hv;obtain ⟨rfl,rfl⟩:=hm0 l' b h;simp at ho;subst ho;exact hv.elim
  ·intro l1 l2 b o h h' ho hv;obtain ⟨rfl,_⟩:=hm0 l1 b h;exact QF _
  ·intro l' o ho;cases l' with
   | zero=>simp at ho;subst ho;simp[ORel]
   | succ l'=>simp at ho
 have hs0:SRel ⟨vars,fn.ntmps,none,1⟩ m0 X1 ⟨w.heap.size,[]⟩ ⟨Y5 vars [.map 0],[.dead]⟩ { tmps:=#[Value.map (some bm)]++Array.replicate (fn.ntmps - #[Value.map (some bm)].size) Go.undef,defers:=[] } w:=by have:=SZ (f:=f) (fn:=fn) (vars:=vars) (args:=[.map 0]) (cargs:=[.map (some bm)]) (σ:=[.dead]) (m:=m0) (X:=X1) (w:=w) (by simp only[QK,VRel];exact ⟨⟨bm,by simp[m0],rfl⟩,trivial⟩) hh0 (by simpa using hargs);exact this
 have key:=h bm ces clock m0 X1 ⟨w.heap.size,[]⟩ _ w hs0 (by intro l hl;cases hl) ⟨by simp[m0],.inr rfl,hmp,hborn,hnd,hsz,fun i k a hi=>by obtain ⟨e,g1,g2,g3⟩:=hrel i k a hi;obtain ⟨p1,p2⟩:=hes (k,a) (QZ hi);exact ⟨e,g1,fun m' X' w'=>p1 _ _ _ _ _ _ _ g2,fun m' X' w'=>p2 _ _ _ _ _ _ _ g3⟩⟩
 refine wpIn_mono key ?_;rintro e ac' w' ⟨s',m',hq,hs',hst⟩;have fin:(∃ r,UB P vars s'.vals s'.heap fn.results.toList=some r∧∃ v,FrzV scl s'.heap r v∧R v)→LeavesInM Fence.wide 0 P fn ac'.tmps (OT m X w σ fun r τ=>R r∧τ=σ) ac'.defers .returning w':=by
  rintro ⟨r,hr,v,hfr,hR⟩;obtain ⟨bs,hbs,hnd',hall⟩:=hs'.defs;rw[hbs,ZU];refine G1 (e:=w.heap.size) (w:=w') bs w' (HA.refl _ _) hnd' (fun b hb=>⟨(hall b hb).1,(hall b hb).2.2.1⟩) ?_;intro w2 ht;have hh2:=hs'.heap.taken ht;have hst2:=hst.taken ht (QG _);have hs2:SRel ⟨vars,fn.ntmps,none,1⟩ m' X1 ⟨0,[]⟩ s' { ac' with defers:=[] } w2 :=
   ⟨hs'.size,hs'.vars.mono ht.mono,⟨[],rfl,YU,by simp⟩,hh2,hs'.base,QF _⟩
  obtain ⟨cv,k1,k2⟩:=O1 (fx:=⟨vars,fn.ntmps,none,1⟩) (fn:=fn) hs2 hr;have hsame:∀ b,b<w.heap.size→w2.heap[b]? = w.heap[b]? := fun b hb=>by
   by_cases hbb:b=bm
   ·subst hbb;exact hst2.fr _ hb (.inl (.inr rfl))
   ·exact hst2.fr b hb (.inr fun l' hl'=>hbb (hm0 l' b hl').2)
  refine ⟨cv,k1,cv,v,σ,m,rfl,⟨hR,rfl⟩,?_,hh.below hst2.size hsame,?_,QG _⟩
  ·refine RX hh2 (fun c v hp h=>Qa2 c v hp h) ?_ hfr cv k2;intro l' b o hl' ho hlive hb;have hbs:b<w.heap.size:=by
    rcases hb with hb | ⟨l2,hl2⟩
    ·exact hh.xb b hb
    ·exact (hh.dom l2 b hl2).2
   rcases hst2.new l' b hl' with ⟨l2,hl2⟩ | hge
   ·obtain ⟨_,rfl⟩:=hm0 l2 b hl2;exact hh2.own l' _ o hl' ho hlive (.inr rfl)
   ·omega
  ·exact ⟨fun _ _=>rfl,fun l b hl=>.inl ⟨l,hl⟩,hst2.size,fun b hb _=>hsame b hb,hst2.shp,hst2.os,hst2.tape,hst2.output,hst2.drawn⟩
 cases e with
 | normal=>exact fin hq
 | ret=>exact fin hq
 | exit i=>exact hq.elim
 | goto l=>exact hq.elim
 | panic ch=>exact hq.elim
 | outgrown=>exact hq.elim
end Go.Proofs.YtgkidpolomhghaaGreatDoor.AM
namespace Go.Proofs.YtgkidpolomhghaaGreatDoor.AM
variable [Dr]
open Go Pl
def regOps:Code→Array Oper
 | .region _ ops _=>ops
 | _=>#[]
def Qba (c:Code) (i:Nat):Oper:=(regOps c)[i]?.getD default
theorem hb113:Tryz.f113.body=some (Tryz.f113.body.getD .skip):=by kernel_rfl
theorem sh72:(Tryz.f113.body.getD .skip)=.seq (nav [0] (Tryz.f113.body.getD .skip)) (.seq (nav [1,0] (Tryz.f113.body.getD .skip)) (.seq (.seq (.region 2 #[Qba (nav [1,1,0,0] (Tryz.f113.body.getD .skip)) 0,Qba (nav [1,1,0,0] (Tryz.f113.body.getD .skip)) 1] false) (.block 0 (.loop (.seq (.region 3 #[Qba (nav [1,1,0,1,0,0,0] (Tryz.f113.body.getD .skip)) 0,Qba (nav [1,1,0,1,0,0,0] (Tryz.f113.body.getD .skip)) 1] false)
  (.seq (.cond (.tmp 8) .skip (.exit 0)) (.block 1 (.seq (.region 4 (regOps (nav [1,1,0,1,0,0,1,1,0,0] (Tryz.f113.body.getD .skip))) false) (nav [1,1,0,1,0,0,1,1,0,1] (Tryz.f113.body.getD .skip))))))))) (.seq (nav [1,1,1,0] (Tryz.f113.body.getD .skip)) (.seq (nav [1,1,1,1,0] (Tryz.f113.body.getD .skip)) .ret)))):=by kernel_rfl
abbrev vs113:List Nat:=[0,2,3,4,6]
def ic72a:IC:=.region [⟨some 1,none,.prim .mv,[.c (.cv .nilf)]⟩]
def ic72b:IC:=.region [⟨some 2,none,.prim .mv,[.c (.cv .nils)]⟩]
def is72:List Ins:=[⟨none,none,.prim (.extract 0),[.t 0]⟩,⟨some 3,none,.prim (.alloc [.cv (.int .i64 0),.cv (.int .i64 0)]),[]⟩,⟨none,none,.prim (.store 2),[.v 3,.t 1]⟩]
def ic72c:IC:=.region [⟨none,none,.prim .mv,[.v 2]⟩,⟨none,none,.prim (.loadN 2),[.v 3]⟩,⟨none,none,.prim (.bslice 2 1 [.cv (.int .i64 0),.cv (.int .i64 0)] [(0,2)]),[.t 1]⟩,⟨none,none,.prim (.append 2 16),[.t 0,.t 2]⟩,⟨some 2,none,.prim .mv,[.t 3]⟩]
def ic72d:IC:=.region [⟨none,none,.prim .mv,[.v 2]⟩,⟨none,none,.call,[.c (.fn (.func 148) []),.t 0,.c (.fn (.func 149) [])]⟩]
def ic72e:IC:=.region [⟨none,none,.prim .mv,[.v 2]⟩,⟨none,none,.call,[.c (.fn (.func 151) []),.t 0]⟩,⟨some 1,none,.prim .mv,[.t 1]⟩]
theorem cc72a:QL Tryz.prog vs113 19 (nav [0] (Tryz.f113.body.getD .skip))=some ic72a:=by kernel_rfl
theorem cc72b:QL Tryz.prog vs113 19 (nav [1,0] (Tryz.f113.body.getD .skip))=some ic72b:=by kernel_rfl
theorem cc72c:QL Tryz.prog vs113 19 (nav [1,1,0,1,0,0,1,1,0,1] (Tryz.f113.body.getD .skip))=some ic72c:=by kernel_rfl
theorem cc72d:QL Tryz.prog vs113 19 (nav [1,1,1,0] (Tryz.f113.body.getD .skip))=some ic72d:=by kernel_rfl
theorem cc72e:QL Tryz.prog vs113 19 (nav [1,1,1,1,0] (Tryz.f113.body.getD .skip))=some ic72e:=by kernel_rfl
def mapE (es:List (Rt × Int)):List (AV × AV):=es.map fun e=>(rgV e.1,AV.i e.2)
def Z4 (es:List (Rt × Int)):List Rt:=es.map (·.1)
theorem Qda (es:List (Rt × Int)):∀ p∈mapE es,PF p.1∧PF p.2:=by
 intro p hp;simp only[mapE,ZP] at hp;obtain ⟨e,_,rfl⟩:=hp;exact ⟨QeL (zs:=[e.1.1,e.1.2]),QbP⟩
abbrev TU (ks:List Rt):AV:=.fn (.func 171) [.cv (.rp [.rsl (ks.flatMap rgC) ks.length] 0)]
theorem AccS.push {e n:Nat} {σ:List AObj} {v:AV} {cs:List CV} (h:AccS e σ v n cs) (o:AObj):AccS e (σ++[o]) v n cs:=by
 rcases h with h | ⟨l,h1,h2,h3⟩
 ·exact .inl h
 ·exact .inr ⟨l,h1,h2,FU h3 o⟩
theorem QfD {p:CV→Prop} {e n:Nat} {σ:List AObj} {v:AV} {cs:List CV} (h:AccS e σ v n cs) (hp:∀ c∈cs,p c):FrzC p σ v (.rsl cs n):=by
 rcases h with ⟨rfl,rfl,rfl⟩ | ⟨l,rfl,hl,hr⟩
 ·exact .nl
 ·refine .sl l 0 n e _ _ hr (by simp[hl]) ?_;rw[YO,Q5 (by simp[hl])];exact TP hp
theorem Qe1:V2 []=[]:=by simp[V2]
theorem c99 (v:AV) (σ:List AObj) (hv:v.isUndef=false∧cellsOf v=[v]):AC Tryz.prog 151 [v] σ fun r τ=>r=.fn (.func 171) [.ptr σ.length 0]∧τ=σ++[.cells [v]]:=by
 refine ZF (fok151 true) (QC rfl) ?_;simp only[ic151,WI,hv,evA,simprocAttr]
theorem c72 {es:List (Rt × Int)} (hlen:es.length<2 ^ 38) {σ:List AObj} {l:Nat} (hl:σ[l]? = some (.map (mapE es))):AC Tryz.prog 113 [.map l] σ fun r τ=>r=TU (V2 (Z4 es))∧τ=σ:=by
 have hp:(2:Nat) ^ 38=274877906944:=by decide
 have hp2:(2:Nat) ^ 44=17592186044416:=by decide
 have hm:(mapE es).length=es.length:=by simp[mapE]
 refine AC_map (fn:=Tryz.f113) (vars:=vs113) Tryz.func113 hb113 (RE Tryz.func113 (by kernel_rfl) hb113) (QC (by kernel_rfl)) hl (Qda es) fun bm ces clock=>?_
 have hG:∀ m X w m' w',GM 0 bm (mapE es) ces clock m X w→Step 1 m X w m' w'→GM 0 bm (mapE es) ces clock m' X w':=fun m X w m' w' h hs=>h.step hs (Nat.zero_lt_one)
 have hN:Tryz.f113.ntmps=19:=by kernel_rfl
 rw[hN,sh72];refine C6 hG (WX.of (W.mono (Y6 _ ic72a _ _ cc72a (VT _ _ (fun e s'=>e=.normal∧s'=⟨[.map 0,.cv .nilf,.undef,.undef,.undef],[.dead]⟩) .mk .mk ?_)) ?_))
 ·simp only[ic72a,evA,simprocAttr]
 rintro e s' ⟨rfl,rfl⟩;refine C6 hG (WX.of (W.mono (Y6 _ ic72b _ _ cc72b (VT _ _ (fun e s'=>e=.normal∧s'=⟨[.map 0,.cv .nilf,.cv .nils,.undef,.undef],[.dead]⟩) .mk .mk ?_)) ?_))
 ·simp only[ic72b,evA,simprocAttr]
 rintro e s' ⟨rfl,rfl⟩;refine C6 hG ?_;refine QdL (l:=0) (tm:=5) (tit:=6) (tn:=7) (tok:=8) (te:=9) (iit:=4) (T:=182) (K:=176) (E:=3) (x:=.tmp 0) (is4:=is72) (o4:=Qba (nav [1,1,0,1,0,0,1,1,0,0] (Tryz.f113.body.getD .skip)) 0) (Nat.zero_lt_one) rfl Tryz.underlying182 (by decide)
  ⟨by kernel_rfl,by kernel_rfl,by kernel_rfl⟩ ⟨by kernel_rfl,by kernel_rfl,by kernel_rfl⟩ ⟨by kernel_rfl,by kernel_rfl,by kernel_rfl⟩ ⟨by kernel_rfl,by kernel_rfl,by kernel_rfl⟩ ⟨by kernel_rfl,by kernel_rfl,by kernel_rfl,by kernel_rfl⟩
  (by kernel_rfl) (by kernel_rfl) rfl (by decide) (by decide)
  (fun dn s=>dn.Nodup∧(∀ i∈dn,i<es.length)∧∃ v2 v3 τ,(dn=[]→v2=.cv .nils)∧AccS 2 τ v2 dn.length ((dn.map fun i=>(Z4 es)[i]?.getD (0,0)).flatMap rgC)∧s=⟨[.map 0,.cv .nilf,v2,v3,.ptr 1 0],τ⟩)
  ⟨YU,by simp,.cv .nils,.undef,_,fun _=>rfl,AccS.nil _ _,rfl⟩ ?_ ?_ ?_
 ·rintro dn s' ⟨_,_,v2,v3,τ,_,_,rfl⟩;rfl
 ·rintro dn s' i k a ⟨hnd,hdl,v2,v3,τ,hz,hA,rfl⟩ hid hi;have hil:i<es.length:=by have:=(QH.1 hi).1;omega
  have hki:k=rgV ((Z4 es)[i]?.getD (0,0)):=by simp only[mapE,ZR,QA] at hi;obtain ⟨e,he,h⟩:=hi;cases h;simp[Z4,he]
  have hdn:dn.length≤es.length:=by
   have:=hnd.length_le_of_subset (l₂:=List.range es.length) fun i hi=>ZI.2 (hdl i hi)
   simpa using this
  have hmap:((dn++[i]).map fun i=>(Z4 es)[i]?.getD (0,0)).flatMap rgC=(dn.map fun i=>(Z4 es)[i]?.getD (0,0)).flatMap rgC++rgC ((Z4 es)[i]?.getD (0,0)):=by simp
  generalize (Z4 es)[i]?.getD (0,0)=kr at hki hmap;subst hki;have hA1:AccS 2 (τ++[AObj.cells [.i kr.1,.i kr.2]]) v2 dn.length ((dn.map fun i=>(Z4 es)[i]?.getD (0,0)).flatMap rgC):=hA.push _;obtain ⟨v',σ',happ,hA'⟩:=QcM (by_:=16) (x:=rgC kr) hA1 rfl (by omega) (by omega);have happ':ZX 2 16 [v2,.sl (τ++[AObj.cells [.i kr.1,.i kr.2]]).length 0 1 2] ((τ++[AObj.cells [.i kr.1,.i kr.2]])++[AObj.cells [.i kr.1,.i kr.2]])=some (v',σ'):=happ;refine T2 _ _ _ _ _ .mk .mk ?_;simp only[is72,WW,VW,evA,simprocAttr];refine W.mono (Y6 _ ic72c _ _ cc72c (VT _ _ (fun e s'=>e=.normal∧s'=⟨[.map 0,.cv .nilf,v',.ptr τ.length 0,.ptr 1 0],σ'⟩) .mk .mk ?_)) ?_
  ·simp only[ic72c,WW,VW,happ',evA,simprocAttr]
  rintro e s2 ⟨rfl,rfl⟩;refine ⟨_,Weak.refl _ _,?_,?_,v',_,σ',(fun h=>absurd h (by simp)),?_,rfl⟩
  ·exact List.nodup_append.2 ⟨hnd,by simp,fun a ha b hb=>by simp at hb;subst hb;rintro rfl;exact hid ha⟩
  ·intro j hj;rcases YV.1 hj with hj | hj
   ·exact hdl j hj
   ·simp at hj;subst hj;exact hil
  ·rw[QM,hmap];exact hA'
 ·rintro dn s' ⟨hnd,hdl,v2,v3,τ,hz,hA,rfl⟩ hperm;rw[hm] at hperm;have hks:(dn.map fun i=>(Z4 es)[i]?.getD (0,0)).Perm (Z4 es):=by
   have:=hperm.map fun i=>(Z4 es)[i]?.getD (0,0)
   have hl:es.length=(Z4 es).length:=by simp[Z4]
   rw[hl,L3] at this;exact this
  have hsr:=NR hks;have hdl':dn.length=(dn.map fun i=>(Z4 es)[i]?.getD (0,0)).length:=by simp
  rw[hdl'] at hA;generalize (dn.map fun i=>(Z4 es)[i]?.getD (0,0))=ks at hA hks hsr hdl';have hkl:ks.length=es.length:=by have:=hperm.length_eq;simp at this;omega
  rw[← hsr];have sorted:∃ τ',AC Tryz.prog 148 [v2,.fn (.func 149) []] τ (fun r τ2=>r=.tup []∧τ2=τ')∧AccS 2 τ' v2 (V2 ks).length ((V2 ks).flatMap rgC):=by
   rcases hA with ⟨rfl,h0,_⟩ | ⟨l,rfl,_,hr⟩
   ·have:ks=[]:=ZT h0;subst this;exact ⟨τ,c95n τ,by rw[Qe1];exact AccS.nil _ _⟩
   ·by_cases hk0:0<ks.length
    ·refine ⟨_,c95 hk0 (by omega) hr,.inr ⟨l,by rw[EE],by rw[UG IR],?_⟩⟩;exact W0 hr
    ·have hd0:dn=[]:=ZT (by omega);cases hz hd0
  obtain ⟨τ',hsort,hA2⟩:=sorted;refine C6 hG (WX.of (W.mono (Y6 _ ic72d _ _ cc72d (VT _ _ (fun e s'=>e=.normal∧s'=⟨[.map 0,.cv .nilf,v2,v3,.ptr 1 0],τ'⟩) .mk .mk ?_)) ?_))
  ·simp only[ic72d,evA,simprocAttr];refine hsort.run ?_;simp only[evA,simprocAttr]
  rintro e s' ⟨rfl,rfl⟩;refine C6 hG (WX.of (W.mono (Y6 _ ic72e _ _ cc72e (VT _ _ (fun e s'=>e=.normal∧s'=⟨[.map 0,.fn (.func 171) [.ptr τ'.length 0],v2,v3,.ptr 1 0],τ'++[.cells [v2]]⟩) .mk .mk ?_)) ?_))
  ·simp only[ic72e,evA,simprocAttr];refine (c99 v2 τ' ?_).run ?_
   ·rcases hA2 with ⟨rfl,_⟩ | ⟨l,rfl,_⟩ <;> exact ⟨rfl,rfl⟩
   simp only[evA,simprocAttr]
  rintro e s' ⟨rfl,rfl⟩;refine WX.of (QcP ⟨.fn (.func 171) [.ptr τ'.length 0],rfl,TU (V2 ks),?_,rfl⟩);refine .fn (.cons (.c (.ptr _ _ [v2] _ (by rw[WW];rfl) (.cons (QfD (hA2.push _) (MN _)) .nil))) .nil)
structure Cls where
 nm:ByteArray
 inc:List Int
 need:Int
 age:Int
 term:Int
deriving Inhabited
structure Sys where
 cl:List Cls
 co:List ByteArray
deriving Inhabited
abbrev clsC (c:Cls):List CV:=[.str c.nm,.rsl (c.inc.map (.int .i64)) c.inc.length,.int .i64 c.need,.int .i64 c.age,.int .i64 c.term]
abbrev clsA (c:Cls):AV:=.agg [.cv (.str c.nm),ints c.inc,.i c.need,.i c.age,.i c.term]
def DZ (cs:List Cls):List CV:=cs.flatMap clsC
abbrev clsR (cs:List Cls):CV:=.rsl (DZ cs) cs.length
abbrev strR (co:List ByteArray):CV:=.rsl (co.map .str) co.length
abbrev sysV (s:Sys):AV:=.agg [.cv (clsR s.cl),.cv (strR s.co)]
theorem TW (c:Cls):(clsC c).length=5:=rfl
theorem QaE (cs:List Cls):(DZ cs).length=cs.length*5:=UG TW cs
section
variable {cs:List Cls} {k:Nat}
theorem CW (h:k<cs.length):(DZ cs)[k*5+1]? = some (.rsl ((cs[k]!).inc.map (.int .i64)) (cs[k]!).inc.length):=flat_get TW h (j:=1) (by omega)
theorem Qaz (h:k<cs.length) (σ:List AObj):YF 5 [.cv (.rp (DZ cs) (k*5))] σ=some (clsA cs[k]!,σ):=by
 have h1:k*5+5≤(DZ cs).length:=by rw[QaE];omega
 have h2:=G3 TW h;simp only[YF,h1,if_true];unfold DZ;rw[h2];rfl
theorem cls_sl (h:k≤cs.length) (σ:List AObj):VG 5 false true [.cv (clsR cs),.cv (.int .i64 k)] σ=some (.cv (clsR (cs.take k)),σ):=by
 rw[Qc7 h (QaE cs)];unfold DZ;rw[A3 TW];simp[h,DZ,clsR]
theorem BK {co:List ByteArray} (h:k<co.length):(co.map CV.str)[k]? = some (.str co[k]!):=by simp[h]
theorem str_sl {co:List ByteArray} (h:k≤co.length) (σ:List AObj):VG 1 false true [.cv (strR co),.cv (.int .i64 k)] σ=some (.cv (strR (co.take k)),σ):=by
 rw[Qc7 h (by simp)];simp[h,strR,List.map_take]
end
theorem GR {cs:List Cls} {k:Nat} (h:k<cs.length) (σ:List AObj):VP 5 [.cv (clsR cs),.cv (.int .i64 k)] σ=some (.cv (.rp (DZ cs) (k*5)),σ):=XP h σ
structure SSz (s:Sys):Prop where
 cl:s.cl.length<2 ^ 63
 co:s.co.length<2 ^ 63
 nm:∀ i,i<s.cl.length→(s.cl[i]!).nm.size<2 ^ 63
 inc:∀ i,i<s.cl.length→(s.cl[i]!).inc.length<2 ^ 63
 cm:∀ i,i<s.co.length→(s.co[i]!).size<2 ^ 63
def XZ (g:Nat→Int):Nat→Nat→Int × Int
 | _,0=>(0,0)
 | i,k+1=>if g i=0 then XZ g (i+1) k else (i,g i)
theorem JY {g:Nat→Int}:∀ (k i:Nat),(∀ j,i≤j→j<i+k→g j=0)→XZ g i k=(0,0)
 | 0,_,_=>rfl
 | k+1,i,h=>by rw[XZ,if_pos (h i (QG _) (by omega))];exact JY k (i+1) fun j h1 h2=>h j (by omega) (by omega)
theorem VF {g:Nat→Int}:∀ (k i m:Nat),i≤m→m<i+k→(∀ j,i≤j→j<m→g j=0)→g m≠0→XZ g i k=((m:Int),g m)
 | 0,i,m,h1,h2,_,_=>by omega
 | k+1,i,m,h1,h2,h3,h4=>by
  rcases ZB i m with h | h
  ·rw[XZ,if_pos (h3 i (QG _) h)];exact VF k (i+1) m h (by omega) (fun j a b=>h3 j (by omega) b) h4
  ·have:i=m:=by omega
   subst this;rw[XZ,if_neg h4]
theorem c103 (cs:List Cls) (p:CV) (g:Nat→Int) (hz:cs.length<2 ^ 63) (hf:∀ i,i<cs.length→∀ σ,AC Tryz.prog 162 [.cv p,.i i,clsA cs[i]!] σ fun r τ=>r=.i (g i)∧τ=σ) :
  PC Tryz.prog 161 [.cv (clsR cs),.bm 162 [.cv p]] (.tup [.i (XZ g 0 cs.length).1,.i (XZ g 0 cs.length).2]):=by
 refine ⟨ZF (fok161 true) (QC rfl) ?_,rfl⟩;simp only[ic161,evA,simprocAttr];refine ZW cs.length (fun i s=>(∀ j,j<i→g j=0)∧∃ v2 v3 v4 v5 v9 v10,s=⟨[.cv (clsR cs),.bm 162 [.cv p],v2,v3,v4,v5,.cv (clsR cs),.i cs.length,.i i,v9,v10],[]⟩) ?_ 0 (QF _) ⟨by omega,_,_,_,_,_,_,rfl⟩;rintro i s hi ⟨hall,v2,v3,v4,v5,v9,v10,rfl⟩;by_cases h:i<cs.length
 ·simp only[ic161l0,QJ,h,GR h,Qaz h,evA,simprocAttr];refine (hf i h _).run ?_;by_cases hg:g i=0
  ·have hb:(g i != 0)=false:=by simpa using hg
   simp only[hb,Q6 (show i+1<2 ^ 63 by omega),evA,simprocAttr];refine W1 [] _ rfl (by first | trivial | omega) (QF _) (by simp) ⟨fun j hj=>?_,_,_,_,_,_,_,rfl⟩;rcases QQ.1 hj with hj | rfl
   ·exact hall j hj
   ·exact hg
  ·have hb:(g i != 0)=true:=by simpa using hg
   rw[VF cs.length 0 i (QF _) (by omega) (fun j _ hj=>hall j hj) hg];simp only[hb,evA,simprocAttr];exact frz
 ·have:i=cs.length:=by omega
  subst this;rw[JY cs.length 0 fun j _ hj=>hall j (by omega)];simp only[ic161l0,QJ,h,evA,simprocAttr];exact frz
theorem c105 (co:List ByteArray) (p:CV) (g:Nat→Int) (hz:co.length<2 ^ 63) (hf:∀ i,i<co.length→∀ σ,AC Tryz.prog 164 [.cv p,.i i,.cv (.str co[i]!)] σ fun r τ=>r=.i (g i)∧τ=σ) :
  PC Tryz.prog 163 [.cv (strR co),.bm 164 [.cv p]] (.tup [.i (XZ g 0 co.length).1,.i (XZ g 0 co.length).2]):=by
 refine ⟨ZF (fok163 true) (QC rfl) ?_,rfl⟩;simp only[ic163,evA,simprocAttr];refine ZW co.length (fun i s=>(∀ j,j<i→g j=0)∧∃ v2 v3 v4 v5 v9 v10,s=⟨[.cv (strR co),.bm 164 [.cv p],v2,v3,v4,v5,.cv (strR co),.i co.length,.i i,v9,v10],[]⟩) ?_ 0 (QF _) ⟨by omega,_,_,_,_,_,_,rfl⟩;rintro i s hi ⟨hall,v2,v3,v4,v5,v9,v10,rfl⟩;by_cases h:i<co.length
 ·simp only[ic163l0,QJ,h,XP h,BK h,evA,simprocAttr];refine (hf i h _).run ?_;by_cases hg:g i=0
  ·have hb:(g i != 0)=false:=by simpa using hg
   simp only[hb,Q6 (show i+1<2 ^ 63 by omega),evA,simprocAttr];refine W1 [] _ rfl (by first | trivial | omega) (QF _) (by simp) ⟨fun j hj=>?_,_,_,_,_,_,_,rfl⟩;rcases QQ.1 hj with hj | rfl
   ·exact hall j hj
   ·exact hg
  ·have hb:(g i != 0)=true:=by simpa using hg
   rw[VF co.length 0 i (QF _) (by omega) (fun j _ hj=>hall j hj) hg];simp only[hb,evA,simprocAttr];exact frz
 ·have:i=co.length:=by omega
  subst this;rw[JY co.length 0 fun j _ hj=>hall j (by omega)];simp only[ic163l0,QJ,h,evA,simprocAttr];exact frz
def FP (co:List ByteArray) (x:ByteArray):Int:=idxN (fun i=>decide (co[i]! = x)) co.length
theorem c81 (co:List ByteArray) (x:ByteArray) (hz:co.length<2 ^ 63):PC Tryz.prog 196 [.cv (strR co),.cv (.str x)] (.i (FP co x)):=by
 refine ⟨ZF (fok196 true) (QC rfl) ?_,rfl⟩;simp only[ic196,evA,simprocAttr];refine ZW co.length (fun i s=>(∀ j,j<i→decide (co[j]! = x)=false)∧∃ v3 v6 v7,s=⟨[.cv (strR co),.cv (.str x),.i 0,v3,.i co.length,.i i,v6,v7],[]⟩) ?_ 0 (QF _) ⟨by omega,_,_,_,rfl⟩;rintro i s hi ⟨hall,v3,v6,v7,rfl⟩;by_cases h:i<co.length
 ·have hc:(x.toList == (co[i]!).toList)=decide (co[i]! = x):=by rw[str_eq,Q8];simp;exact eq_comm
  simp only[ic196l0,QJ,h,XP h,BK h,binS,hc,evA,simprocAttr];cases hp:decide (co[i]! = x)
  ·simp only[Q6 (show i+1<2 ^ 63 by omega),evA,simprocAttr];refine ZL (by first | trivial | omega) ⟨fun j hj=>?_,_,_,_,rfl⟩;rcases QQ.1 hj with hj | rfl
   ·exact hall j hj
   ·exact hp
  ·simp only[evA,simprocAttr];rw[show FP co x=(i:Int) from EK (p:=fun i=>decide (co[i]! = x)) h hall hp];exact frz
 ·simp only[ic196l0,QJ,h,evA,simprocAttr];have:i=co.length:=by omega
  subst this;rw[show FP co x = -1 from EL (p:=fun i=>decide (co[i]! = x)) hall];exact frz
theorem c123 (co:List ByteArray) (x:ByteArray) (hz:co.length<2 ^ 63):PC Tryz.prog 181 [.cv (strR co),.cv (.str x)] (.b (anyN (fun i=>decide (co[i]! = x)) co.length)):=by
 refine ⟨ZF (fok181 true) (QC rfl) ?_,rfl⟩;simp only[ic181,evA,simprocAttr];refine (c81 co x hz).call frz ?_;simp only[FP,OA,evA,simprocAttr];exact frz
theorem c79 (cs:List Cls) (fv:AV) (p:Nat→Bool) (hz:cs.length<2 ^ 63) (σ:List AObj) (hf:∀ i,i<cs.length→X0 Tryz.prog fv [clsA cs[i]!] σ fun r τ=>r=.b (p i)∧τ=σ) :
  AC Tryz.prog 195 [.cv (clsR cs),fv] σ fun r τ=>r=.i (idxN p cs.length)∧τ=σ:=by
 refine ZF (fok195 true) (QC rfl) ?_;simp only[ic195,evA,simprocAttr];refine ZW cs.length (fun i s=>(∀ j,j<i→p j=false)∧∃ v3 v6 v7,s=⟨[.cv (clsR cs),fv,.i 0,v3,.i cs.length,.i i,v6,v7],σ⟩) ?_ 0 (QF _) ⟨by omega,_,_,_,rfl⟩;rintro i s hi ⟨hall,v3,v6,v7,rfl⟩;by_cases h:i<cs.length
 ·simp only[ic195l0,QJ,h,GR h,Qaz h,evA,simprocAttr];refine (hf i h).run ?_;cases hp:p i
  ·simp only[Q6 (show i+1<2 ^ 63 by omega),evA,simprocAttr];refine ZL (by first | trivial | omega) ⟨fun j hj=>?_,_,_,_,rfl⟩;rcases QQ.1 hj with hj | rfl
   ·exact hall j hj
   ·exact hp
  ·simp only[evA,simprocAttr];exact (EK h hall hp).symm
 ·simp only[ic195l0,QJ,h,evA,simprocAttr];have:i=cs.length:=by omega
  subst this;exact (EL hall).symm
theorem c121 (cs:List Cls) (fv:AV) (p:Nat→Bool) (hz:cs.length<2 ^ 63) (σ:List AObj) (hf:∀ i,i<cs.length→X0 Tryz.prog fv [clsA cs[i]!] σ fun r τ=>r=.b (p i)∧τ=σ) :
  AC Tryz.prog 179 [.cv (clsR cs),fv] σ fun r τ=>r=.b (anyN p cs.length)∧τ=σ:=by
 refine ZF (fok179 true) (QC rfl) ?_;simp only[ic179,evA,simprocAttr];refine (c79 cs fv p hz _ hf).run ?_;simp only[evA,simprocAttr,OA]
end Go.Proofs.YtgkidpolomhghaaGreatDoor.AM
namespace Go.Proofs.YtgkidpolomhghaaGreatDoor.AM
variable [Dr]
open Go
def lowB (x:UInt8):Bool:=decide (97≤x.toNat∧x.toNat≤122)
def digB (x:UInt8):Bool:=decide (48≤x.toNat∧x.toNat≤57)
def JH (s:ByteArray):Bool:=decide (1≤s.size∧s.size≤16)&&(match s.data.toList with | []=>false | x::_=>lowB x)&&s.data.toList.all fun x=>lowB x||digB x
theorem c59i (n lo hi:Int):PC Tryz.prog 140 [.i n,.i lo,.i hi] (.b (inB n lo hi)):=by
 have h:=c59 n lo hi;rw[inD_iff] at h;exact h
def chk (s:ByteArray) (i:Nat):Bool:=match s.data[i]? with | none=>false | some x=>lowB x||(decide (i≠0)&&digB x)
theorem E3 (s:ByteArray):JH s=true↔(1≤s.size∧s.size≤16)∧∀ i,i<s.size→chk s i=true:=by
 have hsz:s.size=s.data.toList.length:=(Array.length_toList).symm;have hg:∀ i,s.data[i]? = s.data.toList[i]? := fun i=>(Y7).symm
 unfold JH chk;simp only[hg,hsz];generalize s.data.toList=l;simp only[QD,decide_eq_true_eq,Q1,and_assoc];refine and_congr_right fun h1=>and_congr_right fun h2=>?_
 constructor
 ·rintro ⟨h3,h4⟩ i hi;rw[QI hi];simp only;cases i with
  | zero =>
   cases l with
   | nil=>simp at h1
   | cons x l=>simpa using h3
  | succ i=>have:=h4 _ (Q2 hi);simpa using this
 ·intro h;refine ⟨?_,?_⟩
  ·cases l with
   | nil=>simp at h1
   | cons x l=>simpa using h 0 (by simp)
  ·intro x hx;obtain ⟨i,hi,rfl⟩:=WN.1 hx;have:=h i hi;rw[QI hi] at this;simp only[WR,QD] at this ⊢;rcases this with h | h
   ·exact .inl h
   ·exact .inr h.2
theorem Qck {s:ByteArray} (h:¬ (1≤s.size∧s.size≤16)):JH s=false:=by
 cases hn:JH s with
 | false=>rfl
 | true=>exact absurd ((E3 s).1 hn).1 h
theorem H3 {s:ByteArray} {i:Nat} (hi:i<s.size) (h:chk s i=false):JH s=false:=by
 cases hn:JH s with
 | false=>rfl
 | true=>rw[((E3 s).1 hn).2 i hi] at h;cases h
theorem CF {s:ByteArray} {i:Nat} (h:i<s.size) (σ:List AObj):G5 [.cv (.str s),.cv (.int .i64 i)] σ=some (.cv (.int .u8 ((s.data[i]'h).toNat:Nat)),σ):=by
 have:s.data[i]? = some (s.data[i]'h):=Q7 h;simp[G5,this]
theorem Qes {s:ByteArray} (h:0<s.size) (σ:List AObj):G5 [.cv (.str s),.cv (.int .i64 0)] σ=some (.cv (.int .u8 ((s.data[0]'h).toNat:Nat)),σ):=CF h σ
theorem NK {s:ByteArray} {i:Nat} (h:i<s.size):chk s i=(lowB (s.data[i]'h)||(decide (i≠0)&&digB (s.data[i]'h))):=by
 have:s.data[i]? = some (s.data[i]'h):=Q7 h;simp[chk,this]
theorem Qdk (x:UInt8):inB (x.toNat:Nat) 97 122=lowB x:=by
 unfold inB lowB;rw[Q8];simp;omega
theorem inB_dig (x:UInt8):inB (x.toNat:Nat) 48 57=digB x:=by
 unfold inB digB;rw[Q8];simp;omega
theorem c21 (s:ByteArray) (hs:s.size<2 ^ 63):PC Tryz.prog 142 [.cv (.str s)] (.b (JH s)):=by
 refine ⟨ZF (fok142 true) (QC rfl) ?_,rfl⟩;have hw:∀ x:UInt8,IntKind.i64.wrap (x.toNat:Nat)=(x.toNat:Nat):=fun x=>ZC (by have:=x.toNat_lt;omega)
 simp only[ic142,evA,simprocAttr];refine (c59i s.size 1 16).call frz ?_;cases h1:inB s.size 1 16
 ·have:JH s=false:=Qck fun h=>by rw[VB.2 (by omega)] at h1;cases h1
  simp only[this,evA,simprocAttr];exact frz
 have h1':=VB.1 h1;have h0:0<s.size:=by omega
 simp only[Qes h0,hw,evA,simprocAttr];refine (c59i _ 97 122).call frz ?_;rw[Qdk];cases h2:lowB (s.data[0]'h0)
 ·have:JH s=false:=H3 h0 (by rw[NK h0];simp[h2]);simp only[this,evA,simprocAttr];exact frz
 simp only[evA,simprocAttr];refine ZW s.size (fun i s'=>(∀ j,j<i→chk s j=true)∧∃ v3 v4 v5,s'=⟨[.cv (.str s),.b false,.i i,v3,v4,v5],[]⟩) ?_ 0 (QF _) ⟨by omega,_,_,_,rfl⟩;rintro i s' hi ⟨hall,v3,v4,v5,rfl⟩;by_cases h:i<s.size
 rotate_left
 ·have:JH s=true:=(E3 s).2 ⟨by omega,fun j hj=>hall j (by omega)⟩;simp only[ic142l0,QJ,h,this,evA,simprocAttr];exact frz
 simp only[ic142l0,QJ,h,CF h,hw,evA,simprocAttr];refine (c59i _ 97 122).call frz ?_;rw[Qdk];have hgo:chk s i=true→∀ j,j<i+1→chk s j=true:=fun hc j hj=>by
  rcases QQ.1 hj with hj | rfl
  ·exact hall j hj
  ·exact hc
 cases h3:lowB (s.data[i]'h)
 ·simp only[CF h,hw,evA,simprocAttr];refine (c59i _ 48 57).call frz ?_;rw[inB_dig];cases h4:digB (s.data[i]'h)
  ·have:JH s=false:=H3 h (by rw[NK h];simp[h3,h4]);simp only[this,evA,simprocAttr];exact frz
  ·simp only[evA,simprocAttr];have hc:chk s i=true:=by
    rw[NK h,h3,h4];have:i≠0:=by rintro rfl;rw[h2] at h3;cases h3
    simp[this]
   exact ZL (by first | trivial | omega) ⟨hgo hc,_,_,_,by rw[ZC (by omega)];rfl⟩
 ·simp only[evA,simprocAttr];have hc:chk s i=true:=by rw[NK h,h3];rfl
  exact ZL (by first | trivial | omega) ⟨hgo hc,_,_,_,by rw[ZC (by omega)];rfl⟩
theorem Qdr {s:ByteArray} {i:Nat} (h:i<s.size):s.get! i=s.data[i]'h:=by
 show s.data[i]! = _;exact getElem!_pos s.data i h
theorem QdA {s:ByteArray} {i:Nat} (h:i<s.size) (hb:(s.data[i]'h).toNat<128):Utf8.decode s i=((s.data[i]'h).toNat,1):=by
 unfold Utf8.decode;simp only[Nat.add_zero,Qdr h];rw[if_pos hb]
theorem decode_high {s:ByteArray} {i:Nat} (h:i<s.size) (hb:¬ (s.data[i]'h).toNat<128):128≤(Utf8.decode s i).1:=by
 unfold Utf8.decode Utf8.runeError;simp only[Nat.add_zero,Qdr h];rw[if_neg hb];split
 ·split
  ·assumption
  ·decide
 ·split
  ·split
   ·rename_i hc;simp only[QD,decide_eq_true_eq] at hc;omega
   ·decide
  ·split
   ·split
    ·rename_i hc;simp only[QD,decide_eq_true_eq] at hc;omega
    ·decide
   ·decide
theorem QbY {s:ByteArray} {i:Nat} (h:i<s.size):KX [.ptr 0 0] [.siter s i]=some (.tup [.b true,.i i,.cv (.int .i32 ((Utf8.decode s i).1:Nat))],[.siter s (i+(Utf8.decode s i).2)]):=by
 simp[KX,RH,h]
theorem Qe2 {s:ByteArray} {i:Nat} (h:¬ i<s.size):KX [.ptr 0 0] [.siter s i]=some (.tup [.b false],[.siter s i]):=by
 simp[KX,RH,h]
theorem c20 (s:ByteArray) (hs:s.size<2 ^ 63):PC Tryz.prog 178 [.cv (.str s)] (.b (JH s)):=by
 refine ⟨ZF (fok178 true) (QC rfl) ?_,rfl⟩;simp only[ic178,evA,simprocAttr];refine ZW s.size (fun i s'=>(∀ j,j<i→chk s j=true)∧∃ v2 v3 v5 v6 v7,s'=⟨[.cv (.str s),.b false,v2,v3,.ptr 0 0,v5,v6,v7],[.siter s i]⟩) ?_ 0 (QF _) ⟨by omega,_,_,_,_,_,rfl⟩;rintro i s' hi ⟨hall,v2,v3,v5,v6,v7,rfl⟩;by_cases h:i<s.size
 rotate_left
 ·simp only[ic178l0,Qe2 h,V4,evA,simprocAttr];refine (c56 1 16 [s.size] (by simp)).call frz ?_;rw[FW];have:(!(!inB s.size 1 16))=JH s:=by
   rw[Bool.not_not,Q8,VB,E3];exact ⟨fun h1=>⟨by omega,fun j hj=>hall j (by omega)⟩,fun h1=>by omega⟩
  simp only[this,evA,simprocAttr];exact frz
 have hgo:chk s i=true→∀ j,j<i+1→chk s j=true:=fun hc j hj=>by
  rcases QQ.1 hj with hj | rfl
  ·exact hall j hj
  ·exact hc
 by_cases hb:(s.data[i]'h).toNat<128
 ·simp only[ic178l0,QbY h,QdA h hb,evA,simprocAttr];have hc:=NK h;generalize s.data[i]'h=x at hb hc ⊢;by_cases h1:((x.toNat:Nat):Int)<97
  ·simp only[h1,evA,simprocAttr];by_cases h0:(i:Int)=0
   ·have:JH s=false:=H3 h (by
     rw[hc];have:i=0:=by omega
     simp[this,lowB];omega)
    simp only[h0,this,evA,simprocAttr];exact frz
   ·have h0':((i:Int) == 0)=false:=by simp;omega
    simp only[h0',evA,simprocAttr];by_cases h2:((x.toNat:Nat):Int)<48
    ·have:JH s=false:=H3 h (by rw[hc];simp[lowB,digB];omega);simp only[h2,this,evA,simprocAttr];exact frz
    ·simp only[h2,evA,simprocAttr];by_cases h3:((x.toNat:Nat):Int)>57
     ·have:JH s=false:=H3 h (by rw[hc];simp[lowB,digB];omega);simp only[h3,this,evA,simprocAttr];exact frz
     ·simp only[h3,evA,simprocAttr];exact ZL (by first | trivial | omega) ⟨hgo (by rw[hc];simp[lowB,digB];omega),_,_,_,_,_,rfl⟩
  ·simp only[h1,evA,simprocAttr];by_cases h1b:((x.toNat:Nat):Int)>122
   ·simp only[h1b,evA,simprocAttr];have hno:JH s=false:=H3 h (by rw[hc];simp[lowB,digB];omega);by_cases h0:(i:Int)=0
    ·simp only[h0,hno,evA,simprocAttr];exact frz
    ·have h0':((i:Int) == 0)=false:=by simp;omega
     have h2:¬ ((x.toNat:Nat):Int)<48:=by omega
     have h3:((x.toNat:Nat):Int)>57:=by omega
     simp only[h0',h2,h3,hno,evA,simprocAttr];exact frz
   ·simp only[h1b,evA,simprocAttr];exact ZL (by first | trivial | omega) ⟨hgo (by rw[hc];simp[lowB,digB];omega),_,_,_,_,_,rfl⟩
 ·have hd:=decode_high h hb;have hno:JH s=false:=H3 h (by rw[NK h];simp[lowB,digB];omega);simp only[ic178l0,QbY h,evA,simprocAttr];generalize Utf8.decode s i=p at hd ⊢;have h1:¬ ((p.1:Nat):Int)<97:=by omega
  have h1b:((p.1:Nat):Int)>122:=by omega
  have h2:¬ ((p.1:Nat):Int)<48:=by omega
  have h3:((p.1:Nat):Int)>57:=by omega
  by_cases h0:(i:Int)=0
  ·simp only[h0,h1,h1b,hno,evA,simprocAttr];exact frz
  ·have h0':((i:Int) == 0)=false:=by simp;omega
   simp only[h0',h1,h1b,h2,h3,hno,evA,simprocAttr];exact frz
end Go.Proofs.YtgkidpolomhghaaGreatDoor.AM
namespace Go.Proofs.YtgkidpolomhghaaGreatDoor.AM
variable [Dr]
open Go Pl
def VR (s:Sys) (i:Nat):Int :=
 if JH (s.cl[i]!).nm=false then 6
 else if anyN (fun k=>decide ((s.cl[k]!).nm=(s.cl[i]!).nm)) i=true then 5
 else if ((s.cl[i]!).inc.length:Int)>s.cl.length then 3
 else if (outF 0 ((s.cl.length:Int)-1) (s.cl[i]!).inc || !inB (s.cl[i]!).need (-1) ((s.cl.length:Int)-1))=true then 4
 else if ((s.cl[i]!).need == (i:Int))=true then 2
 else if outF 0 100 [(s.cl[i]!).age,(s.cl[i]!).term]=true then 7
 else 0
def KM (s:Sys) (i:Nat):Int :=
 if JH s.co[i]! = false then 6
 else if anyN (fun k=>decide (s.co[k]! = s.co[i]!)) i=true then 5
 else 0
theorem c122 (x c:Cls) (σ:List AObj) (l:Nat) (hl:rowOf σ l=some [.cv (.str c.nm),ints c.inc,.i c.need,.i c.age,.i c.term]):AC Tryz.prog 180 [clsA x,.ptr l 0] σ fun r τ=>r=.b (decide (x.nm=c.nm))∧τ=σ:=by
 refine AC.cutF ?_ rfl;refine ZF (fok180 true) (QC rfl) ?_;have hl2:=ZH hl [.cells [.cv (.str x.nm),ints x.inc,.i x.need,.i x.age,.i x.term]];simp only[ic180,WI,cellsOf,WW,hl2,binS,str_eq,evA,simprocAttr];exact ⟨_,rfl⟩
theorem c104 (s:Sys) (hs:SSz s) (cov:CV) (i:Nat) (hi:i<s.cl.length):PC Tryz.prog 162 [.cv (.rp [clsR s.cl,strR s.co,cov] 0),.i i,clsA s.cl[i]!] (.i (VR s i)):=by
 refine ⟨ZF (fok162 true) (QC rfl) ?_,rfl⟩;have hcl:=hs.cl;have hnm:=hs.nm i hi;have hin:=hs.inc i hi;have hw:IntKind.i64.wrap ((s.cl.length:Int)-1)=(s.cl.length:Int)-1:=ZC (by omega);have hsl:∀ σ,VG 5 false true [.cv (clsR s.cl),.cv (.int .i64 i)] σ=some (.cv (clsR (s.cl.take i)),σ):=cls_sl (by omega);have htl:(s.cl.take i).length=i:=by simp;omega
 have htk:∀ k,k<i→(s.cl.take i)[k]! = s.cl[k]! := fun k hk=>by rw[getElem!_pos _ k (by omega),getElem!_pos _ k (by omega),List.getElem_take]
 have h20:=c20 (s.cl[i]!).nm hnm;have hA:∀ σ,rowOf σ 0=some [.cv (.str (s.cl[i]!).nm),ints (s.cl[i]!).inc,.i (s.cl[i]!).need,.i (s.cl[i]!).age,.i (s.cl[i]!).term]→AC Tryz.prog 179 [.cv (clsR (s.cl.take i)),.fn (.func 180) [.ptr 0 0]] σ fun r τ=>r=.b (anyN (fun k=>decide ((s.cl[k]!).nm=(s.cl[i]!).nm)) i)∧τ=σ:=fun σ hσ=>by
  have:=c121 (s.cl.take i) (.fn (.func 180) [.ptr 0 0]) (fun k=>decide ((s.cl[k]!).nm=(s.cl[i]!).nm)) (by omega) σ fun k hk=>by rw[htk k (by omega)];exact c122 s.cl[k]! s.cl[i]! σ 0 hσ
  rwa [htl] at this
 unfold VR;generalize s.cl[i]! = c at *;simp only[ic162,WI,cellsOf,hw,evA,simprocAttr];refine h20.call frz ?_;cases h1:JH c.nm with
 | false =>
  rw[if_pos rfl];simp only[evA,simprocAttr];exact frz
 | true =>
 rw[if_neg (by decide)];simp only[hsl,evA,simprocAttr];refine (hA _ rfl).run ?_;cases h2:anyN (fun k=>decide ((s.cl[k]!).nm=c.nm)) i with
 | true =>
  rw[if_pos rfl];simp only[evA,simprocAttr];exact frz
 | false =>
 rw[if_neg (by decide)];simp only[evA,simprocAttr];refine DW_s [] [] hmix (by kernel_rfl) rfl ?_;simp only[evA,simprocAttr];by_cases h3:(c.inc.length:Int)>s.cl.length
 ·rw[if_pos h3];simp only[h3,evA,simprocAttr];exact frz
 rw[if_neg h3];simp only[h3,evA,simprocAttr];refine (c56 0 ((s.cl.length:Int)-1) c.inc hin).call frz ?_;cases h4:outF 0 ((s.cl.length:Int)-1) c.inc with
 | true =>
  rw[US,if_pos rfl];simp only[evA,simprocAttr];exact frz
 | false =>
 rw[Y3];simp only[evA,simprocAttr];refine (c56 (-1) ((s.cl.length:Int)-1) [c.need] (by simp)).call frz ?_;rw[FW];cases h5:inB c.need (-1) ((s.cl.length:Int)-1) with
 | false =>
  rw[if_pos (show (!false)=true from rfl)];simp only[evA,simprocAttr];exact frz
 | true =>
 rw[if_neg (show ¬ ((!true)=true) by decide)];simp only[evA,simprocAttr];cases h6:(c.need == (i:Int)) with
 | true =>
  rw[if_pos rfl];simp only[evA,simprocAttr];exact frz
 | false =>
 rw[if_neg (by decide)];simp only[evA,simprocAttr];refine (c56 0 100 [c.age,c.term] (by simp)).call frz ?_;cases h7:outF 0 100 [c.age,c.term] with
 | true =>
  rw[if_pos rfl];simp only[evA,simprocAttr];exact frz
 | false =>
  rw[if_neg (by decide)];simp only[evA,simprocAttr];exact frz
theorem c106 (s:Sys) (hs:SSz s) (cov:CV) (i:Nat) (hi:i<s.co.length):PC Tryz.prog 164 [.cv (.rp [clsR s.cl,strR s.co,cov] 0),.i i,.cv (.str s.co[i]!)] (.i (KM s i)):=by
 refine ⟨ZF (fok164 true) (QC rfl) ?_,rfl⟩;have hco:=hs.co;have hnm:=hs.cm i hi;have hsl:∀ σ,VG 1 false true [.cv (strR s.co),.cv (.int .i64 i)] σ=some (.cv (strR (s.co.take i)),σ):=str_sl (by omega);have htl:(s.co.take i).length=i:=by simp;omega
 have h123:=c123 (s.co.take i) s.co[i]! (by omega);have he:anyN (fun k=>decide ((s.co.take i)[k]! = s.co[i]!)) (s.co.take i).length=anyN (fun k=>decide (s.co[k]! = s.co[i]!)) i:=by
  rw[htl,Q8,U8,U8];constructor <;> rintro ⟨k,hk,h⟩ <;> refine ⟨k,hk,?_⟩
  ·rwa [getElem!_pos _ k (by omega),List.getElem_take,← getElem!_pos s.co k (by omega)] at h
  ·rw[getElem!_pos _ k (by omega),List.getElem_take,← getElem!_pos s.co k (by omega)];exact h
 rw[he] at h123;unfold KM;simp only[ic164,evA,simprocAttr];refine (c20 s.co[i]! hnm).call frz ?_;cases h1:JH s.co[i]! with
 | false =>
  rw[if_pos rfl];simp only[evA,simprocAttr];exact frz
 | true =>
 rw[if_neg (by decide)];simp only[hsl,evA,simprocAttr];refine h123.call frz ?_;cases h2:anyN (fun k=>decide (s.co[k]! = s.co[i]!)) i with
 | true =>
  rw[if_pos rfl];simp only[evA,simprocAttr];exact frz
 | false =>
  rw[if_neg (by decide)];simp only[evA,simprocAttr];exact frz
end Go.Proofs.YtgkidpolomhghaaGreatDoor.AM
namespace Go.Proofs.YtgkidpolomhghaaGreatDoor.Pl
def setT (o:List Bool) (z:Nat):List Bool:=o.set z true
def GP (g:Nat→List Nat) (o:List Bool) (i:Nat):List Bool:=if o[i]?.getD false then (g i).foldl setT o else o
def GO (g:Nat→List Nat) (o:List Bool) (n:Nat):List Bool:=(List.range n).foldl (GP g) o
def covN (g:Nat→List Nat) (n c:Nat):Nat→List Bool
 | 0=>(List.replicate n false).set c true
 | t+1=>GO g (covN g n c t) n
def covG (g:Nat→List Nat) (n c:Nat):List Bool:=covN g n c n
inductive Rch (g:Nat→List Nat) (c:Nat):Nat→Prop
 | refl:Rch g c c
 | step {a z:Nat}:Rch g c a→z∈g a→Rch g c z
theorem Rch.trans {g:Nat→List Nat} {a b c:Nat} (h1:Rch g a b) (h2:Rch g b c):Rch g a c:=by
 induction h2 with
 | refl=>exact h1
 | step _ hz ih=>exact ih.step hz
theorem Rch.head {g:Nat→List Nat} {a b c:Nat} (h1:b∈g a) (h2:Rch g b c):Rch g a c:=Rch.trans (Rch.refl.step h1) h2
def T (o:List Bool) (k:Nat):Prop:=o[k]?.getD false=true
theorem T.lt {o:List Bool} {k:Nat} (h:T o k):k<o.length:=by
 unfold T at h;rcases ZB k o.length with h1 | h1
 ·exact h1
 ·rw[QN h1] at h;cases h
theorem T_ext {a b:List Bool} (hl:a.length=b.length) (h:∀ k,k<a.length→(T a k↔T b k)):a=b:=by
 apply Y1 hl;intro k h1 h2;have:=h k h1;unfold T at this;rw[QI h1,QI h2] at this;rw[Q8];simpa using this
theorem D9 (o:List Bool) (z:Nat):(setT o z).length=o.length:=by simp[setT]
theorem R6 {o:List Bool} {z k:Nat}:T (setT o z) k↔T o k∨(k=z∧k<o.length):=by
 unfold T setT;rw[ZO];by_cases h:z=k
 ·subst h;by_cases h2:z<o.length
  ·simp[h2]
  ·simp[h2]
 ·simp[h,Ne.symm h]
theorem A1 (l:List Nat):∀ o:List Bool,(l.foldl setT o).length=o.length:=by
 induction l with
 | nil=>intro o;rfl
 | cons z l ih=>intro o;rw[List.foldl_cons,ih,D9]
theorem Qds {k:Nat} (l:List Nat):∀ o:List Bool,T (l.foldl setT o) k↔T o k∨(k∈l∧k<o.length):=by
 induction l with
 | nil=>intro o;simp
 | cons z l ih =>
  intro o;rw[List.foldl_cons,ih,R6,D9,ZD];constructor
  ·rintro ((h | ⟨h1,h2⟩) | ⟨h1,h2⟩)
   ·exact .inl h
   ·exact .inr ⟨.inl h1,h2⟩
   ·exact .inr ⟨.inr h1,h2⟩
  ·rintro (h | ⟨h1 | h1,h2⟩)
   ·exact .inl (.inl h)
   ·exact .inl (.inr ⟨h1,h2⟩)
   ·exact .inr ⟨h1,h2⟩
section
variable {g:Nat→List Nat} {n c:Nat}
theorem B2 (o:List Bool) (i:Nat):(GP g o i).length=o.length:=by
 unfold GP;split
 ·exact A1 _ _
 ·rfl
theorem IT {o:List Bool} {i k:Nat}:T (GP g o i) k↔T o k∨(T o i∧k∈g i∧k<o.length):=by
 unfold GP;by_cases h:o[i]?.getD false=true
 ·rw[if_pos h,Qds];have h':T o i:=h;simp[h']
 ·rw[if_neg h];have h':¬ T o i:=h;simp[h']
theorem B1 (l:List Nat):∀ o:List Bool,(l.foldl (GP g) o).length=o.length:=by
 induction l with
 | nil=>intro o;rfl
 | cons z l ih=>intro o;rw[List.foldl_cons,ih,B2]
theorem RN {k:Nat} (l:List Nat):∀ o:List Bool,T o k→T (l.foldl (GP g) o) k:=by
 induction l with
 | nil=>intro o h;exact h
 | cons z l ih=>intro o h;rw[List.foldl_cons];exact ih _ (IT.2 (.inl h))
theorem Qcc {i k:Nat} (l:List Nat):∀ o:List Bool,i∈l→T o i→k∈g i→k<o.length→T (l.foldl (GP g) o) k:=by
 induction l with
 | nil=>intro o h;simp at h
 | cons z l ih =>
  intro o h h1 h2 h3;rw[List.foldl_cons];rcases ZD.1 h with rfl | h
  ·exact RN l _ (IT.2 (.inr ⟨h1,h2,h3⟩))
  ·exact ih _ h (IT.2 (.inl h1)) h2 (by rw[B2];exact h3)
theorem B0 {P:Nat→Prop} (hP:∀ a z,P a→z∈g a→P z) (l:List Nat):∀ o:List Bool,(∀ k,T o k→P k)→∀ k,T (l.foldl (GP g) o) k→P k:=by
 induction l with
 | nil=>intro o h;exact h
 | cons z l ih =>
  intro o h;rw[List.foldl_cons];refine ih _ fun k hk=>?_
  rcases IT.1 hk with hk | ⟨h1,h2,_⟩
  ·exact h k hk
  ·exact hP z k (h z h1) h2
theorem GF:∀ t,(covN g n c t).length=n
 | 0=>by simp[covN]
 | t+1=>by rw[covN,GO,B1,GF t]
theorem CR:(covG g n c).length=n:=GF n
theorem QcA:∀ t k,T (covN g n c t) k→Rch g c k
 | 0,k,h=>by
  have h:T (setT (List.replicate n false) c) k:=h;rcases R6.1 h with h | ⟨rfl,_⟩
  ·unfold T at h;rw[YN] at h;split at h <;> cases h
  ·exact .refl
 | t+1,k,h=>B0 (P:=Rch g c) (fun a z h1 h2=>h1.step h2) (List.range n) _ (QcA t) k h
def cntT (o:List Bool):Nat:=o.countP id
theorem M6 {a:List Bool}:∀ {b:List Bool},a.length=b.length→(∀ k,T a k→T b k)→cntT a≤cntT b∧(∀ k,T b k→¬ T a k→cntT a<cntT b):=by
 induction a with
 | nil =>
  intro b hl h;have:b=[]:=ZT (by simpa using hl.symm);subst this;exact ⟨QG _,fun k hk _=>by simp[T] at hk⟩
 | cons x a ih =>
  intro b hl h
  match b,hl with
  | y::b,hl =>
   have ht:∀ k,T a k→T b k:=fun k hk=>h (k+1) hk
   have h0:x=true→y=true:=fun hx=>h 0 (by simpa[T] using hx)
   obtain ⟨i1,i2⟩:=ih (by simpa using hl) ht;have e:∀ (z:Bool) (l:List Bool),cntT (z::l)=cntT l+(if z then 1 else 0):=fun z l=>by unfold cntT;rw[K9];cases z <;> rfl
   rw[e,e];refine ⟨by cases x <;> cases y <;> simp_all <;> omega,fun k hk hk2=>?_⟩
   match k with
   | 0 =>
    have hy:y=true:=by simpa[T] using hk
    have hx:x=false:=by simpa[T] using hk2
    subst hy hx;simp;omega
   | k+1 =>
    have:=i2 k hk hk2;cases x <;> cases y <;> simp_all <;> omega
theorem QcE (a:List Bool):cntT a≤a.length:=List.countP_le_length
abbrev InN (g:Nat→List Nat) (n:Nat):Prop:=∀ i,i<n→∀ z∈g i,z<n
theorem QaC (hg:InN g n) (hc:c<n):∀ t,(∀ a z,T (covN g n c t) a→z∈g a→T (covN g n c t) z)∨t+1≤cntT (covN g n c t)
 | 0=>by
  right;have:=(M6 (a:=List.replicate n false) (b:=covN g n c 0) (by simp[covN]) (fun k hk=>by
   unfold T at hk;rw[YN] at hk;split at hk <;> cases hk)).2 c (by show T (setT (List.replicate n false) c) c;exact R6.2 (.inr ⟨rfl,by simpa using hc⟩)) (fun hk=>by
   unfold T at hk;rw[YN] at hk;split at hk <;> cases hk)
  omega
 | t+1=>by
  by_cases hcl:∀ a z,T (covN g n c t) a→z∈g a→T (covN g n c t) z
  ·left;have hsub:∀ k,T (covN g n c (t+1)) k→T (covN g n c t) k:=B0 (P:=T (covN g n c t)) hcl (List.range n) _ fun k hk=>hk
   intro a z ha hz;exact RN _ _ (hcl a z (hsub a ha) hz)
  ·right;have hm:t+1≤cntT (covN g n c t):=by
    rcases QaC hg hc t with h | h
    ·exact absurd h hcl
    ·exact h
   have hmono:∀ k,T (covN g n c t) k→T (covN g n c (t+1)) k:=fun k hk=>RN (List.range n) _ hk
   obtain ⟨a,ha⟩:=Classical.not_forall.1 hcl;obtain ⟨z,hz⟩:=Classical.not_forall.1 ha;obtain ⟨h1,hz⟩:=Classical.not_imp.1 hz;obtain ⟨h2,h3⟩:=Classical.not_imp.1 hz;have han:a<n:=by have:=h1.lt;rw[GF] at this;exact this
   have hnew:T (covN g n c (t+1)) z:=Qcc (i:=a) (List.range n) _ (by simpa using han) h1 h2 (by rw[GF];exact hg a han z h2);have:=(M6 (by rw[GF,GF]) hmono).2 z hnew h3;omega
theorem CS (hg:InN g n) (hc:c<n) {k:Nat}:T (covG g n c) k↔Rch g c k:=by
 constructor
 ·exact QcA n k
 ·have hcl:∀ a z,T (covG g n c) a→z∈g a→T (covG g n c) z:=by
   rcases QaC hg hc n with h | h
   ·exact h
   ·have h2:=QcE (covN g n c n);rw[GF] at h2;omega
  have hcc:∀ t,T (covN g n c t) c:=by
   intro t
   induction t with
   | zero=>show T (setT (List.replicate n false) c) c;exact R6.2 (.inr ⟨rfl,by simpa using hc⟩)
   | succ t ih=>exact RN (List.range n) _ ih
  intro h
  induction h with
  | refl=>exact hcc n
  | step _ hz ih=>exact hcl _ _ ih hz
structure Dfs (g:Nat→List Nat) (c:Nat) (M M':List Bool):Prop where
 len:M'.length=M.length
 mono:∀ k,T M k→T M' k
 has:T M' c
 new:∀ k,T M' k→T M k∨Rch g c k
 clo:∀ a z,T M' a→¬ T M a→z∈g a→T M' z
theorem Dfs.all (hg:InN g n) (hc:c<n) {M':List Bool} (h:Dfs g c (List.replicate n false) M'):M'=covG g n c:=by
 have hno:∀ k,¬ T (List.replicate n false) k:=fun k hk=>by unfold T at hk;rw[YN] at hk;split at hk <;> cases hk
 apply T_ext
 ·rw[h.len,CR];simp
 intro k hk;rw[CS hg hc];constructor
 ·intro ht;rcases h.new k ht with h1 | h1
  ·exact absurd h1 (hno k)
  ·exact h1
 ·intro hr
  induction hr with
  | refl=>exact h.has
  | @step a z hr hz ih =>
   have ha:T M' a:=ih (by
    rw[h.len,List.length_replicate];have:T (covG g n c) a:=(CS hg hc).2 hr;have:=this.lt
    rwa [CR] at this)
   exact h.clo a z ha (hno a) hz
end
end Go.Proofs.YtgkidpolomhghaaGreatDoor.Pl
namespace Go.Proofs.YtgkidpolomhghaaGreatDoor.AM
variable [Dr]
open Go Pl
abbrev QaJ (o:List Bool):CV:=.rsl (o.map .bool) o.length
abbrev XT (o:List Bool):List AV:=o.map AV.b
def nx (s:Sys) (i:Nat):List Nat:=(s.cl[i]!).inc.map Int.toNat
def OkI (s:Sys):Prop:=∀ i,i<s.cl.length→∀ z∈(s.cl[i]!).inc,0≤z∧z<s.cl.length
theorem OkI.inN {s:Sys} (h:OkI s):InN (nx s) s.cl.length:=fun i hi z hz=>by
 obtain ⟨y,hy,rfl⟩:=ZP.1 hz;have:=h i hi y hy;omega
abbrev cov (s:Sys) (c:Nat):List Bool:=covG (nx s) s.cl.length c
theorem M4 {s:Sys} {c:Nat}:(cov s c).length=s.cl.length:=CR
theorem B6 {n:Nat} (h:n<2 ^ 40) (σ:List AObj):XB 1 1 [.cv (.bool false)] [.i n,.i n] σ=some (.sl σ.length 0 n 1,σ++[.cells (XT (List.replicate n false))]):=by
 have e:(2:Int) ^ 46=70368744177664:=by decide
 have e2:(2:Nat) ^ 40=1099511627776:=by decide
 have h1:0≤(n:Int)∧True∧(n:Int)*(1:Nat)≤2 ^ 46∧(n:Int)≤2 ^ 46∧[AV.cv (.bool false)].length=1:=by refine ⟨by omega,trivial,by omega,by omega,rfl⟩
 simp only[XB];rw[if_pos h1];simp[YW]
theorem OX {o:List Bool} {k:Nat}:(XT o).set k (.cv (.bool true))=XT (setT o k):=by
 unfold setT;exact List.map_set.symm
theorem NB {o:List Bool} {k:Nat} (h:k<o.length):(XT o)[k]? = some (.b (o[k]?.getD false)):=by simp[h]
theorem AZ {p:CV→Prop} (hp:∀ z,p (.bool z)) {σ:List AObj} {o:List Bool} {l n:Nat} (hn:n=o.length) (hr:rowOf σ l=some (XT o)):FrzV p σ (.sl l 0 n 1) (.cv (QaJ o)):=by
 subst hn;have:XT o=(o.map CV.bool).map AV.cv:=by simp
 refine sl_frz (cs:=o.map CV.bool) (rest:=[]) (by rw[hr,this];simp) (by simp) ?_;intro c hc;obtain ⟨b,_,rfl⟩:=ZP.1 hc;exact hp b
theorem Qb9 {g:Nat→List Nat} {o:List Bool} {i k:Nat} (h:o[i]?.getD false=true):(((g i).take k).foldl setT o)[i]?.getD false=true:=(Qds _ _).2 (.inl h)
theorem c51 (s:Sys) (hs:SSz s) (hn:s.cl.length<2 ^ 40) (hok:OkI s) (c:Nat) (hc:c<s.cl.length):PC Tryz.prog 109 [sysV s,.i c] (.cv (QaJ (cov s c))):=by
 have e40:(2:Nat) ^ 40=1099511627776:=by decide
 refine ⟨ZF (fok109 true) (QC rfl) ?_,rfl⟩;have hsl:∀ σ,VP 1 [.sl 1 0 s.cl.length 1,.cv (.int .i64 c)] σ=some (.ptr 1 (0+c),σ):=W9 hc;have hrep:c+1≤(List.replicate s.cl.length false).length:=by simp;omega
 simp only[ic109,WI,cellsOf,B6 hn,hsl,ZV,OX,hrep,evA,simprocAttr];refine ZW s.cl.length (fun t s'=>∃ v6 v7 v8 v9 v10,s'=⟨[sysV s,.i c,.ptr 0 0,.cv .nils,.sl 1 0 s.cl.length 1,.i t,v6,v7,v8,v9,v10],[.cells [.cv (clsR s.cl),.cv (strR s.co)],.cells (XT (covN (nx s) s.cl.length c t))]⟩) ?_ 0 (QF _) ⟨_,_,_,_,_,rfl⟩;rintro t s' ht ⟨v6,v7,v8,v9,v10,rfl⟩;by_cases htn:t<s.cl.length
 ·simp only[ic109l2,QJ,htn,evA,simprocAttr];have hcl:=GF (g:=nx s) (n:=s.cl.length) (c:=c) t;have hcov:covN (nx s) s.cl.length c (t+1)=GO (nx s) (covN (nx s) s.cl.length c t) s.cl.length:=rfl;generalize covN (nx s) s.cl.length c t=o at hcl hcov;refine ZW s.cl.length (fun i s'=>∃ v7 v9 v10,s'=⟨[sysV s,.i c,.ptr 0 0,.cv .nils,.sl 1 0 s.cl.length 1,.i t,.i i,v7,.b true,v9,v10],[.cells [.cv (clsR s.cl),.cv (strR s.co)],.cells (XT (GO (nx s) o i))]⟩) ?_ 0 (QF _) ⟨_,_,_,rfl⟩;rintro i s' hi ⟨v7,v9,v10,rfl⟩;by_cases hin:i<s.cl.length
  ·have hinc:=hs.inc i hin;have hrl:(GO (nx s) o i).length=s.cl.length:=by rw[GO,B1,hcl]
   have hstep:GO (nx s) o (i+1)=GP (nx s) (GO (nx s) o i) i:=by simp[GO,WM]
   generalize hq:GO (nx s) o i=q at hrl hstep;simp only[ic109l1,QJ,hin,evA,simprocAttr];refine ZW (s.cl[i]!).inc.length (fun k s'=>(k=0∨q[i]?.getD false=true)∧∃ v10,s'=⟨[sysV s,.i c,.ptr 0 0,.cv .nils,.sl 1 0 s.cl.length 1,.i t,.i i,.i k,.b true,.b true,v10],[.cells [.cv (clsR s.cl),.cv (strR s.co)],.cells (XT (((nx s i).take k).foldl setT q))]⟩) ?_ 0 (QF _) ⟨.inl rfl,_,rfl⟩;rintro k s' hk ⟨hkq,v10,rfl⟩;have hnx:(nx s i).length=(s.cl[i]!).inc.length:=by simp[nx]
   by_cases hki:k<(s.cl[i]!).inc.length
   ·have hz:(nx s i)[k]? = some ((s.cl[i]!).inc[k]?.getD 0).toNat:=by rw[nx,ZR,QI hki];rfl
    have hzr:=hok i hin ((s.cl[i]!).inc[k]?.getD 0) (by rw[QI hki];exact Q2 hki);have hfl:(((nx s i).take k).foldl setT q).length=s.cl.length:=by rw[A1,hrl]
    have hgb:=NB (o:=((nx s i).take k).foldl setT q) (k:=i) (by omega);have hbit:(((nx s i).take k).foldl setT q)[i]?.getD false=q[i]?.getD false:=by
     rcases hkq with rfl | h
     ·simp
     ·rw[h];exact Qb9 h
    rw[hbit] at hgb;have hsli:∀ σ,VP 1 [.sl 1 0 s.cl.length 1,.cv (.int .i64 i)] σ=some (.ptr 1 (0+i),σ):=W9 hin;simp only[ic109l0,QJ,hki,GR hin,CW hin,hsli,ZV,hgb,evA,simprocAttr];cases hb:q[i]?.getD false with
    | false =>
     have hk0:k=0:=by
      rcases hkq with h | h
      ·exact h
      ·rw[hb] at h;cases h
     subst hk0;simp only[Q6 (show i+1<2 ^ 63 by omega),evA,simprocAttr];have hst:GO (nx s) o (i+1)=q:=by rw[hstep,GP,if_neg (by rw[hb];decide)]
     exact ZL (by first | trivial | omega) ⟨_,_,_,by rw[hst];rfl⟩
    | true =>
     obtain ⟨z,hze⟩:∃ z:Nat,(s.cl[i]!).inc[k]?.getD 0=(z:Int):=⟨((s.cl[i]!).inc[k]?.getD 0).toNat,by omega⟩;rw[hze,Int.toNat_natCast] at hz;have hslz:∀ σ,VP 1 [.sl 1 0 s.cl.length 1,.cv (.int .i64 z)] σ=some (.ptr 1 (0+z),σ):=W9 (by omega);have hzl:z+1≤(((nx s i).take k).foldl setT q).length:=by omega
     simp only[ic109l0,QJ,hki,GR hin,CW hin,hze,hzl,hslz,ZV,OX,Q6 (show k+1<2 ^ 63 by omega),evA,simprocAttr];have hst:((nx s i).take (k+1)).foldl setT q=setT (((nx s i).take k).foldl setT q) z:=by rw[JC,hz,List.foldl_append];rfl
     exact ZL (by first | trivial | omega) ⟨.inr trivial,_,by rw[hst]⟩
   ·have hkl:k=(s.cl[i]!).inc.length:=by omega
    simp only[ic109l0,QJ,hki,GR hin,CW hin,Q6 (show i+1<2 ^ 63 by omega),evA,simprocAttr];have hst:GO (nx s) o (i+1)=((nx s i).take k).foldl setT q:=by
     rw[hstep,hkl,← hnx,X7,GP];split
     ·rfl
     ·rename_i hb;have hk0:k=0:=by
       rcases hkq with h | h
       ·exact h
       ·exact absurd h hb
      have:nx s i=[]:=ZT (by omega);rw[this];rfl
    exact ZL (by first | trivial | omega) ⟨_,_,_,by rw[hst]⟩
  ·have hin':i=s.cl.length:=by omega
   subst hin';simp only[ic109l1,QJ,hin,Q6 (show t+1<2 ^ 63 by omega),evA,simprocAttr];exact ZL (by first | trivial | omega) ⟨_,_,_,_,_,by rw[hcov]⟩
 ·have htn':t=s.cl.length:=by omega
  subst htn';simp only[ic109l2,QJ,htn,evA,simprocAttr];exact AZ (fun _=>trivial) (by rw[M4]) rfl
theorem nx_get {s:Sys} {c k:Nat} (hk:k<(s.cl[c]!).inc.length):(nx s c)[k]? = some ((s.cl[c]!).inc[k]?.getD 0).toNat:=by rw[nx,ZR,QI hk];rfl
theorem nx_lenC {s:Sys} {c:Nat}:(nx s c).length=(s.cl[c]!).inc.length:=by simp[nx]
structure DfsH (s:Sys) (σ:List AObj) (A B D L R:Nat):Prop where
 a:rowOf σ A=some [.sl R 0 s.cl.length 1]
 b:rowOf σ B=some [.ptr L 0]
 d:rowOf σ D=some [.fn (.func 182) [.ptr A 0,.ptr B 0,.ptr D 0]]
 l:∃ v,rowOf σ L=some [.cv (clsR s.cl),.cv (strR s.co),v]
 ra:R≠A
 rb:R≠B
 rd:R≠D
 rl:R≠L
 rr:R<σ.length
theorem DfsH.set {s:Sys} {σ:List AObj} {A B D L R:Nat} (h:DfsH s σ A B D L R) (x:AObj):DfsH s (σ.set R x) A B D L R :=
 ⟨by rw[QX h.ra];exact h.a,by rw[QX h.rb];exact h.b,by rw[QX h.rd];exact h.d,by rw[QX h.rl];exact h.l,h.ra,h.rb,h.rd,h.rl,by simpa using h.rr⟩
theorem cntT_set {M:List Bool} {c:Nat} (hc:c<M.length) (h:¬ T M c):cntT M<cntT (setT M c) :=
 (M6 (D9 M c).symm fun k hk=>R6.2 (.inl hk)).2 c (R6.2 (.inr ⟨rfl,hc⟩)) h
theorem c124 (s:Sys) (hs:SSz s) (hok:OkI s) (A B D L R:Nat):∀ (m:Nat) (σ:List AObj) (M:List Bool) (c:Nat),DfsH s σ A B D L R→M.length=s.cl.length→c<s.cl.length→s.cl.length-cntT M<m →
  AC Tryz.prog 182 [.i c,.ptr A 0,.ptr B 0,.ptr D 0] (σ.set R (.cells (XT M))) fun r τ=>r=.tup []∧∃ M',Dfs (nx s) c M M'∧τ=σ.set R (.cells (XT M'))
 | 0,_,_,_,_,_,_,hm=>absurd hm (W5 _)
 | m + 1,σ,M,c,hσ,hM,hc,hm=>by
  have hH:=fun (o:List Bool)=>hσ.set (.cells (XT o))
  obtain ⟨lv,hL⟩:=hσ.l;have hA:∀ o:List Bool,rowOf (σ.set R (.cells (XT o))) A=some [.sl R 0 s.cl.length 1]:=fun o=>(hH o).a
  have hB:∀ o:List Bool,rowOf (σ.set R (.cells (XT o))) B=some [.ptr L 0]:=fun o=>(hH o).b
  have hD:∀ o:List Bool,rowOf (σ.set R (.cells (XT o))) D=some [.fn (.func 182) [.ptr A 0,.ptr B 0,.ptr D 0]]:=fun o=>(hH o).d
  have hLL:∀ o:List Bool,rowOf (σ.set R (.cells (XT o))) L=some [.cv (clsR s.cl),.cv (strR s.co),lv]:=fun o=>by rw[QX hσ.rl];exact hL
  have hR:∀ o:List Bool,rowOf (σ.set R (.cells (XT o))) R=some (XT o):=fun o=>by simp[rowOf,hσ.rr]
  have hgc:=NB (o:=M) (k:=c) (by omega);have hslc:∀ σ',VP 1 [.sl R 0 s.cl.length 1,.cv (.int .i64 c)] σ'=some (.ptr R (0+c),σ'):=W9 hc;refine ZF (fok182 true) (QC rfl) ?_;by_cases hT:M[c]?.getD false=true
  ·rw[hT] at hgc;simp only[ic182,hA,hR,hslc,ZV,hgc,evA,simprocAttr];exact ⟨M,⟨rfl,fun k h=>h,hT,fun k h=>.inl h,fun a z h1 h2=>absurd h1 h2⟩,rfl⟩
  ·have hTf:M[c]?.getD false=false:=by simpa using hT
   rw[hTf] at hgc;have hcl:c+1≤M.length:=by omega
   have hsz:=cntT_set (c:=c) (by omega) (show ¬ T M c from hT);have hinc:=hs.inc c hc;have hle:=QcE (setT M c);rw[D9] at hle;have hM1:(setT M c).length=s.cl.length:=by rw[D9,hM]
   simp only[ic182,hA,hB,hLL,hR,hslc,ZV,hgc,hcl,OX,List.set_set,GR hc,CW hc,evA,simprocAttr];refine ZW (s.cl[c]!).inc.length (fun k s'=>∃ v4 v9 M2,(M2.length=s.cl.length∧(∀ j,T (setT M c) j→T M2 j)∧(∀ j,T M2 j→T (setT M c) j∨Rch (nx s) c j)∧(∀ a z,T M2 a→¬ T (setT M c) a→z∈nx s a→T M2 z)∧∀ j z,j<k→(nx s c)[j]? = some z→T M2 z)∧s'=⟨[.i c,.ptr A 0,.ptr B 0,.ptr D 0,v4,.b false,.cv (.rsl ((s.cl[c]!).inc.map (.int .i64)) (s.cl[c]!).inc.length),.i (s.cl[c]!).inc.length,.i k,v9],σ.set R (.cells (XT M2))⟩) ?_ 0 (QF _) ⟨_,_,setT M c,⟨hM1,fun _ h=>h,fun _ h=>.inl h,fun a z h1 h2=>absurd h1 h2,by omega⟩,rfl⟩;rintro k s' hk ⟨v4,v9,M2,⟨q1,q2,q3,q4,q5⟩,rfl⟩;by_cases hki:k<(s.cl[c]!).inc.length
   ·have hz:=nx_get hki;have hzr:=hok c hc ((s.cl[c]!).inc[k]?.getD 0) (by rw[QI hki];exact Q2 hki);obtain ⟨z,hze⟩:∃ z:Nat,(s.cl[c]!).inc[k]?.getD 0=(z:Int):=⟨((s.cl[c]!).inc[k]?.getD 0).toNat,by omega⟩;rw[hze,Int.toNat_natCast] at hz;have hcnt:cntT (setT M c)≤cntT M2:=(M6 (by rw[hM1,q1]) q2).1;have ih:=c124 s hs hok A B D L R m σ M2 z hσ q1 (by omega) (by omega);have hzm:z∈nx s c:=QZ hz;simp only[ic182l0,QJ,hki,hD,hze,evA,simprocAttr];refine ih.mono ?_;rintro r τ ⟨rfl,M3,hd,rfl⟩;simp only[Q6 (show k+1<2 ^ 63 by omega),evA,simprocAttr];refine ZL (by first | trivial | omega) ⟨_,_,M3,⟨by rw[hd.len,q1],fun j h=>hd.mono j (q2 j h),fun j h=>?_,fun a y h1 h2 h3=>?_,fun j y hj hy=>?_⟩,rfl⟩
    ·rcases hd.new j h with h | h
     ·exact q3 j h
     ·exact .inr (Rch.head hzm h)
    ·by_cases hm2:T M2 a
     ·exact hd.mono y (q4 a y hm2 h2 h3)
     ·exact hd.clo a y h1 hm2 h3
    ·rcases QQ.1 hj with hj | rfl
     ·exact hd.mono y (q5 j y hj hy)
     ·rw[hz] at hy;cases hy;exact hd.has
   ·have hkl:k=(s.cl[c]!).inc.length:=by omega
    simp only[ic182l0,QJ,hki,evA,simprocAttr];refine ⟨M2,⟨by rw[q1,hM],fun j h=>q2 j (R6.2 (.inl h)),q2 c (R6.2 (.inr ⟨rfl,by omega⟩)),fun j h=>?_,fun a z h1 h2 h3=>?_⟩,rfl⟩
    ·rcases q3 j h with h | h
     ·rcases R6.1 h with h | ⟨rfl,_⟩
      ·exact .inl h
      ·exact .inr .refl
     ·exact .inr h
    ·by_cases hac:a=c
     ·subst hac;obtain ⟨j,hj,hje⟩:=WN.1 h3;rw[nx_lenC] at hj;exact q5 j z (by omega) (by rw[QI (by rw[nx_lenC];exact hj),hje])
     ·exact q4 a z h1 (fun h=>by
       rcases R6.1 h with h | ⟨h,_⟩
       ·exact h2 h
       ·exact hac h) h3
def CovV (s:Sys) (b:Nat) (τ:List AObj) (v:AV) (i:Nat):Prop :=
 (v=.cv .nils∧i=0)∨∃ (q:Nat) (a:Nat→Nat),b≤q∧v=.sl q 0 i 1∧rowOf τ q=some ((List.range i).map fun k=>AV.sl (a k) 0 s.cl.length 1)∧∀ k,k<i→b≤a k∧a k≠q∧rowOf τ (a k)=some (XT (cov s k))
structure LookH (s:Sys) (σ:List AObj) (L i:Nat) (τ:List AObj):Prop where
 len:σ.length≤τ.length
 frame:∀ l,l<σ.length→l≠L→τ[l]? = σ[l]?
 sys:∃ v,rowOf τ L=some [.cv (clsR s.cl),.cv (strR s.co),v]∧CovV s (σ.length+1) τ v i
theorem set_row {σ:List AObj} {l:Nat} {cs:List AV} (h:rowOf σ l=some cs):σ.set l (.cells cs)=σ:=by
 have:=WO h;apply Z1;intro i;rw[ZO];split
 ·rename_i e;subst e;obtain ⟨h1,h2⟩:=QH.1 this;rw[if_pos h1,this]
 ·rfl
theorem RJ {X τ:List AObj} {l:Nat} (h:X[l]? = τ[l]?):rowOf X l=rowOf τ l:=by unfold rowOf;rw[h]
theorem AH {s:Sys} {σ τ X:List AObj} {L i Q qo:Nat} {a:Nat→Nat} {v:AV} (hlb:σ.length<τ.length) (h2:∀ l,l<σ.length→l≠L→τ[l]? = σ[l]?)
  (h3:rowOf τ L=some [.cv (clsR s.cl),.cv (strR s.co),v]) (h5:rowOf τ σ.length=some [.ptr L 0]) (hLl:L<σ.length) (hqo:σ.length+1≤qo)
  (hX:∀ l,l<τ.length→l≠qo→X[l]? = τ[l]?) (hXl:τ.length≤X.length)
  (hQ:rowOf X Q=some ((List.range (i+1)).map fun k=>AV.sl (a k) 0 s.cl.length 1)) (hQl:τ.length<Q)
  (ha:∀ k,k<i→σ.length+1≤a k∧a k<τ.length∧a k≠qo∧rowOf τ (a k)=some (XT (cov s k))) (hai:a i=τ.length) (hR:rowOf X τ.length=some (XT (cov s i))) :
  LookH s σ L (i+1) (X.set L (.cells [.cv (clsR s.cl),.cv (strR s.co),.sl Q 0 (i+1) 1]))∧rowOf (X.set L (.cells [.cv (clsR s.cl),.cv (strR s.co),.sl Q 0 (i+1) 1])) σ.length=some [.ptr L 0]:=by
 have hXL:rowOf X L=some [.cv (clsR s.cl),.cv (strR s.co),v]:=by rw[RJ (hX L (by omega) (by omega))];exact h3
 refine ⟨⟨by simp;omega,fun l h4 h6=>?_,_,W0 hXL,.inr ⟨Q,a,by omega,rfl,?_,fun k hk=>?_⟩⟩,?_⟩
 ·rw[QU (Ne.symm h6),hX l (by omega) (by omega),h2 l h4 h6]
 ·rw[QX (by omega)];exact hQ
 ·rcases QQ.1 hk with hk | rfl
  ·obtain ⟨a1,a2,a3,a4⟩:=ha k hk;refine ⟨a1,by omega,?_⟩;rw[QX (by omega),RJ (hX _ a2 a3)];exact a4
  ·rw[hai];refine ⟨by omega,by omega,?_⟩;rw[QX (by omega)];exact hR
 ·rw[QX (by omega),RJ (hX _ hlb (by omega))];exact h5
theorem c107 (s:Sys) (hs:SSz s) (hn12:s.cl.length≤12) (hok:OkI s) (L:Nat) (σ:List AObj) (hL:rowOf σ L=some [.cv (clsR s.cl),.cv (strR s.co),.cv .nils]) :
  AC Tryz.prog 165 [.ptr L 0] σ fun r τ=>r=.tup []∧LookH s σ L s.cl.length τ:=by
 have e40:(2:Nat) ^ 40=1099511627776:=by decide
 have hn:s.cl.length<2 ^ 40:=by omega
 have hLl:L<σ.length:=(QH.1 (WO hL)).1;refine ZF (fok165 true) (QC rfl) ?_;simp only[ic165,WI,cellsOf,WW,ZH hL,evA,simprocAttr];refine ZW s.cl.length (fun i s'=>∃ v2 v3 v4 v7 τ,LookH s σ L i τ∧rowOf τ σ.length=some [.ptr L 0]∧s'=⟨[.ptr L 0,.ptr σ.length 0,v2,v3,v4,.i s.cl.length,.i i,v7],τ⟩) ?_ 0 (QF _) ⟨_,_,_,_,_,⟨by simp,fun l h1 h2=>QE h1,_,ZH hL _,.inl ⟨rfl,rfl⟩⟩,by rw[WW];rfl,rfl⟩
 ·rintro i s' hi ⟨v2,v3,v4,v7,τ,⟨h1,h2,v,h3,h4⟩,h5,rfl⟩;have hlb:σ.length<τ.length:=(QH.1 (WO h5)).1;have hwi:IntKind.i64.wrap ((i:Int)+1)=((i+1:Nat):Int):=Q6 (by omega);by_cases hin:i<s.cl.length
  ·have hvn:v.isUndef=false:=by
    rcases h4 with ⟨rfl,_⟩ | ⟨q,a,_,rfl,_⟩ <;> rfl
   have g5:=fun J=>ZH h5 J
   have g3:=fun J=>ZH h3 J
   simp only[ic165l0,QJ,hin,h5,h3,g5,g3,B6 hn,WW,X9,VW,EZ,QW,QM,evA,simprocAttr];have hdfs:=c124 s hs hok (τ.length+1) σ.length (τ.length+2) L τ.length (s.cl.length+1) (τ++[AObj.cells (XT (List.replicate s.cl.length false)),AObj.cells [AV.sl τ.length 0 s.cl.length 1],AObj.cells [AV.fn (Fn.func 182) [AV.ptr (τ.length+1) 0,AV.ptr σ.length 0,AV.ptr (τ.length+2) 0]]]) (List.replicate s.cl.length false) i ⟨by rw[X9];rfl,g5 _,by rw[X9];rfl,⟨v,g3 _⟩,by omega,by omega,by omega,by omega,by simp⟩ (by simp) hin (by omega);rw[set_row (by rw[WW];rfl)] at hdfs;refine hdfs.mono ?_;rintro r τ1 ⟨rfl,M',hd,rfl⟩;rw[hd.all hok.inN hin];simp only[VW,evA,simprocAttr];refine DW_s [] [(0,6),(0,7),(1,6),(4,6)] hmix (by kernel_rfl) rfl ?_;have k5:=fun J=>Qdq h5 J
   have kL:=fun J=>Qdq h3 J
   have hsrc:∀ (x0 x1 x2:AObj) (J:List AObj),Z9 (τ++(x0::x1::x2::AObj.cells [AV.sl τ.length 0 s.cl.length 1]::J)) 1 (.sl (τ.length+3) 0 1 1)=some [AV.sl τ.length 0 s.cl.length 1]:=fun x0 x1 x2 J=>by simp only[Z9,if_true,X9];rfl
   rcases h4 with ⟨rfl,rfl⟩ | ⟨q,a,hq1,rfl,hq2,hq3⟩
   ·simp only[h5,h3,g5,g3,k5,kL,hsrc,ZX,lenF,WW,X9,VW,EZ,QW,QM,evA,simprocAttr];have hst:=AH (s:=s) (σ:=σ) (τ:=τ) (L:=L) (i:=0) (Q:=τ.length+4) (qo:=τ.length) (a:=fun _=>τ.length) (X:=τ++[AObj.cells (XT (cov s 0)),AObj.cells [AV.sl τ.length 0 s.cl.length 1],AObj.cells [AV.fn (Fn.func 182) [AV.ptr (τ.length+1) 0,AV.ptr σ.length 0,AV.ptr (τ.length+2) 0]],AObj.cells [AV.sl τ.length 0 s.cl.length 1],AObj.cells [AV.sl τ.length 0 s.cl.length 1]]) hlb h2 h3 h5 hLl (by omega) (fun l hl _=>QE hl) (by simp) (by rw[X9];rfl) (by omega) (fun k hk=>by omega) rfl (by rw[WW];rfl);exact ZL trivial ⟨_,_,_,_,_,hst.1,hst.2,rfl⟩
   ·have hql:q<τ.length:=(QH.1 (WO hq2)).1;have gq:=fun J=>ZH hq2 J
    have hap:∀ (J J':List AObj) (x:AObj) (l:Nat),l<τ.length→l≠q→((τ++J).set q x++J')[l]? = τ[l]? := fun J J' x l hl hne=>by rw[QE (by simp;omega),QU (Ne.symm hne),QE hl]
    have m5:∀ (J J':List AObj) (x:AObj),((τ++J).set q x++J')[σ.length]? = some (.cells [.ptr L 0]):=fun J J' x=>by rw[hap _ _ _ _ hlb (by omega)];exact WO h5
    have mL:∀ (J J':List AObj) (x:AObj),((τ++J).set q x++J')[L]? = some (.cells [.cv (clsR s.cl),.cv (strR s.co),.sl q 0 i 1]):=fun J J' x=>by rw[hap _ _ _ _ (by omega) (by omega)];exact WO h3
    have rL:∀ (J J':List AObj) (x:AObj),rowOf ((τ++J).set q x++J') L=some [.cv (clsR s.cl),.cv (strR s.co),.sl q 0 i 1]:=fun J J' x=>by rw[RJ (hap _ _ _ _ (by omega) (by omega))];exact h3
    have hrow:((List.range i).map fun k=>AV.sl (a k) 0 s.cl.length 1).length=i:=by simp
    have htk:((List.range i).map fun k=>AV.sl (a k) 0 s.cl.length 1).take i=(List.range i).map fun k=>AV.sl (a k) 0 s.cl.length 1:=by rw[Q5 (by simp)]
    have hc1:i≤(List.range i).length:=by simp
    have hc2:(i+1)*24≤2 ^ 44:=by
     have:(2:Nat) ^ 44=17592186044416:=by decide
     omega
    have hc3:i+1≤2 ^ 44:=by omega
    simp only[hwi,h5,h3,g5,g3,k5,kL,m5,mL,rL,gq,hc1,hc2,hc3,htk,hsrc,ZX,lenF,WW,X9,VW,EZ,QW,QM,evA,simprocAttr];obtain ⟨a',ha',hai'⟩:∃ a':Nat→Nat,(∀ k,k<i→a' k=a k)∧a' i=τ.length:=⟨fun k=>if k<i then a k else τ.length,fun k hk=>by simp[hk],by simp⟩;have hrow':((List.range i).map fun k=>AV.sl (a k) 0 s.cl.length 1)++[AV.sl τ.length 0 s.cl.length 1]=(List.range (i+1)).map fun k=>AV.sl (a' k) 0 s.cl.length 1:=by
     rw[WM,ZS];congr 1
     ·apply JI;intro k hk;rw[ha' k (ZI.1 hk)]
     ·simp[hai']
    rw[hrow'];have hlen4:((τ++[AObj.cells (XT (cov s i)),AObj.cells [AV.sl τ.length 0 s.cl.length 1],AObj.cells [AV.fn (Fn.func 182) [AV.ptr (τ.length+1) 0,AV.ptr σ.length 0,AV.ptr (τ.length+2) 0]],AObj.cells [AV.sl τ.length 0 s.cl.length 1]]).set q AObj.dead).length=τ.length+4:=by simp
    have hst:=AH (s:=s) (σ:=σ) (τ:=τ) (L:=L) (i:=i) (Q:=τ.length+4) (qo:=q) (a:=a') (X:=(τ++[AObj.cells (XT (cov s i)),AObj.cells [AV.sl τ.length 0 s.cl.length 1],AObj.cells [AV.fn (Fn.func 182) [AV.ptr (τ.length+1) 0,AV.ptr σ.length 0,AV.ptr (τ.length+2) 0]],AObj.cells [AV.sl τ.length 0 s.cl.length 1]]).set q AObj.dead++[AObj.cells ((List.range (i+1)).map fun k=>AV.sl (a' k) 0 s.cl.length 1)]) hlb h2 h3 h5 hLl hq1 (fun l hl hne=>hap _ _ _ _ hl hne) (by simp;omega) (by rw[← hlen4,WW];rfl) (by omega) (fun k hk=>?_) hai' ?_
    ·exact ZL trivial ⟨_,_,_,_,_,hst.1,hst.2,rfl⟩
    ·obtain ⟨b1,b2,b3⟩:=hq3 k hk;rw[ha' k hk];exact ⟨b1,(QH.1 (WO b3)).1,b2,b3⟩
    ·have:((τ++[AObj.cells (XT (cov s i)),AObj.cells [AV.sl τ.length 0 s.cl.length 1],AObj.cells [AV.fn (Fn.func 182) [AV.ptr (τ.length+1) 0,AV.ptr σ.length 0,AV.ptr (τ.length+2) 0]],AObj.cells [AV.sl τ.length 0 s.cl.length 1]]).set q AObj.dead++[AObj.cells ((List.range (i+1)).map fun k=>AV.sl (a' k) 0 s.cl.length 1)])[τ.length]? = some (.cells (XT (cov s i))):=by
      rw[QE (by simp),QU (by omega),Qau];rfl
     unfold rowOf;rw[this]
  ·have hin':i=s.cl.length:=by omega
   subst hin';simp only[ic165l0,QJ,hin,evA,simprocAttr];exact ⟨h1,h2,v,h3,h4⟩
theorem c111i (zs:List Int) (fv:AV) (p:Nat→Bool) (hz:zs.length<2 ^ 63) (hf:∀ i,i<zs.length→∀ σ,X0 Tryz.prog fv [.i (zs[i]?.getD 0)] σ fun r τ=>r=.b (p i)∧τ=σ) (σ:List AObj) :
  AC Tryz.prog 152 [ints zs,fv] σ fun r τ=>r=.i (idxN p zs.length)∧τ=σ:=by
 refine ZF (fok152 true) (QC rfl) ?_;simp only[ic152,evA,simprocAttr];refine ZW zs.length (fun i s=>(∀ j,j<i→p j=false)∧∃ v3 v6 v7,s=⟨[ints zs,fv,.i 0,v3,.i zs.length,.i i,v6,v7],σ⟩) ?_ 0 (QF _) ⟨by omega,_,_,_,rfl⟩;rintro i s hi ⟨hall,v3,v6,v7,rfl⟩;by_cases h:i<zs.length
 ·simp only[ic152l0,QJ,h,evA,simprocAttr];refine (hf i h _).run ?_;cases hp:p i
  ·simp only[evA,simprocAttr];refine ZL (by first | trivial | omega) ⟨fun j hj=>?_,_,_,_,by rw[ZC (by omega)];rfl⟩;rcases QQ.1 hj with hj | rfl
   ·exact hall j hj
   ·exact hp
  ·simp only[evA,simprocAttr];exact (EK h hall hp).symm
 ·simp only[ic152l0,QJ,h,evA,simprocAttr];have:i=zs.length:=by omega
  subst this;exact (EL hall).symm
theorem c87i (zs:List Int) (fv:AV) (p:Nat→Bool) (hz:zs.length<2 ^ 63) (hf:∀ i,i<zs.length→∀ σ,X0 Tryz.prog fv [.i (zs[i]?.getD 0)] σ fun r τ=>r=.b (p i)∧τ=σ):PC Tryz.prog 117 [ints zs,fv] (.b (anyN p zs.length)):=by
 refine ⟨ZF (fok117 true) (QC rfl) ?_,rfl⟩;simp only[ic117,evA,simprocAttr];refine (c111i zs fv p hz hf _).run ?_;simp only[evA,simprocAttr,OA];exact frz
def Qdw (s:Sys):List CV:=(List.range s.cl.length).map fun k=>QaJ (cov s k)
abbrev covR (s:Sys):CV:=.rsl (Qdw s) s.cl.length
abbrev sysR (s:Sys):List CV:=[clsR s.cl,strR s.co,covR s]
abbrev sysP (s:Sys):AV:=.cv (.rp (sysR s) 0)
def covB (s:Sys) (c k:Nat):Bool:=(cov s c)[k]?.getD false
theorem FD {s:Sys} {k:Nat} (hk:k<s.cl.length):(Qdw s)[k]? = some (QaJ (cov s k)):=by simp[Qdw,hk]
theorem DN {s:Sys} {c k:Nat} (hk:k<s.cl.length):((cov s c).map CV.bool)[k]? = some (.bool (covB s c k)):=by
 have:=M4 (s:=s) (c:=c);rw[ZR,QI (by omega)];unfold covB;rw[QI (by omega)];rfl
theorem P1 {s:Sys} {c k:Nat} (hk:k<s.cl.length) (σ:List AObj):VP 1 [.cv (QaJ (cov s c)),.cv (.int .i64 k)] σ=some (.cv (.rp ((cov s c).map CV.bool) (k*1)),σ):=XP (by rw[M4];exact hk) σ
theorem c108 (s:Sys) (z i:Nat) (hz:z<s.cl.length) (hi:i<s.cl.length):PC Tryz.prog 166 [.i z,.cv (.rp [.rp (sysR s) 0] 0),.cv (.rp [.int .i64 i] 0)] (.b (covB s z i)):=by
 refine ⟨ZF (fok166 true) (QC rfl) ?_,rfl⟩;simp only[ic166,evA,simprocAttr];refine DW_s [] [] hmix (by kernel_rfl) rfl ?_;simp only[XP hz,W3,FD hz,P1 hi,DN hi,evA,simprocAttr];exact frz
def dnB (s:Sys) (i:Nat):Bool:=anyN (fun k=>covB s ((s.cl[i]!).inc[k]?.getD 0).toNat i) (s.cl[i]!).inc.length
def dnE (s:Sys) (i:Nat):Int:=if dnB s i then 9 else 0
def sysE (s:Sys):Int × Int × Int :=
 if (!inB s.cl.length 1 12||decide ((s.co.length:Int)>8))=true then (1,0,3)
 else if (XZ (VR s) 0 s.cl.length).2≠0 then (2,XZ (VR s) 0 s.cl.length)
 else if (XZ (KM s) 0 s.co.length).2≠0 then (3,XZ (KM s) 0 s.co.length)
 else if (XZ (dnE s) 0 s.cl.length).2≠0 then (4,XZ (dnE s) 0 s.cl.length)
 else (0,0,0)
theorem NF {g:Nat→Int}:∀ (k i:Nat),(XZ g i k).2=0→∀ j,i≤j→j<i+k→g j=0
 | 0,i,_,j,h1,h2=>by omega
 | k+1,i,h,j,h1,h2=>by
  rw[XZ] at h;by_cases hg:g i=0
  ·rw[if_pos hg] at h;rcases ZB i j with hl | hl
   ·exact NF k (i+1) h j hl (by omega)
   ·have:j=i:=by omega
    subst this;exact hg
  ·rw[if_neg hg] at h;exact absurd h hg
theorem Qew {s:Sys} {i:Nat} (h:VR s i=0):∀ z∈(s.cl[i]!).inc,0≤z∧z<s.cl.length:=by
 unfold VR at h;split at h;· cases h
 split at h;· cases h
 split at h;· cases h
 split at h;· cases h
 rename_i h4;intro z hz;have h5:outF 0 ((s.cl.length:Int)-1) (s.cl[i]!).inc=false:=by
  cases hh:outF 0 ((s.cl.length:Int)-1) (s.cl[i]!).inc with
  | false=>rfl
  | true=>rw[hh,US] at h4;exact absurd rfl h4
 rw[PW] at h5;obtain ⟨j,hj,rfl⟩:=WN.1 hz;have:=h5 j hj;rw[QI hj,VB,Option.getD_some] at this;omega
theorem Qch {s:Sys} (h:(XZ (VR s) 0 s.cl.length).2=0):OkI s:=fun i hi=>Qew (NF _ _ h i (QF _) (by omega))
def sysO (s:Sys):AV:=.tup [if (sysE s).2.2=0 then sysP s else .cv .nilp,.i (sysE s).1,.i (sysE s).2.1,.i (sysE s).2.2]
theorem c75 (s:Sys) (hs:SSz s):PA Tryz.prog 145 [sysV s] (sysO s):=by
 refine ⟨ZF (fok145 true) (QC rfl) ?_,by unfold sysO;split <;> rfl,rfl⟩;have hcl:=hs.cl;have hco:=hs.co;have h56:=c56 1 12 [(s.cl.length:Int)] (by simp);rw[FW] at h56;unfold sysO;simp only[ic145,WI,cellsOf,evA,simprocAttr];refine h56.call frz ?_;cases h1:inB s.cl.length 1 12 with
 | false =>
  have he:sysE s=(1,0,3):=by unfold sysE;rw[h1];rfl
  rw[he];simp only[ZY,evA,simprocAttr];exact frz
 | true =>
 cases h2:decide ((s.co.length:Int)>8) with
 | true =>
  have he:sysE s=(1,0,3):=by unfold sysE;rw[h1,h2];rfl
  rw[he];simp only[Y2,h2,evA,simprocAttr];exact frz
 | false =>
 have hn12:s.cl.length≤12:=by rw[VB] at h1;omega
 simp only[Y2,h2,evA,simprocAttr];refine DW_s [7] [] hmix (by kernel_rfl) rfl ?_;simp only[evA,simprocAttr];refine YE ((c103 s.cl (.rp [clsR s.cl,strR s.co,.nils] 0) (VR s) hcl fun i hi σ=>(c104 s hs .nils i hi).call frz ⟨rfl,rfl⟩).call frz ⟨rfl,rfl⟩) rfl ?_;have hok0:=Qch (s:=s);have e1:sysE s=if (XZ (VR s) 0 s.cl.length).2≠0 then (2,XZ (VR s) 0 s.cl.length) else if (XZ (KM s) 0 s.co.length).2≠0 then (3,XZ (KM s) 0 s.co.length) else if (XZ (dnE s) 0 s.cl.length).2≠0 then (4,XZ (dnE s) 0 s.cl.length) else (0,0,0):=by unfold sysE;rw[h1,h2];rfl
 rw[e1];generalize XZ (VR s) 0 s.cl.length=fc at hok0 e1;obtain ⟨ca,ce⟩:=fc;by_cases hce:ce=0
 rotate_left
 ·have hb:(ce != 0)=true:=by simpa using hce
  rw[if_pos hce,if_neg hce];simp only[hb,evA,simprocAttr];exact frz
 have hok:=hok0 hce;have hb:(ce != 0)=false:=by simpa using hce
 rw[if_neg (show ¬ (ce≠0) from fun h=>h hce)];simp only[hb,evA,simprocAttr];refine DW_s [7] [] hmix (by kernel_rfl) rfl ?_;simp only[evA,simprocAttr];refine YE ((c105 s.co (.rp [clsR s.cl,strR s.co,.nils] 0) (KM s) hco fun i hi σ=>(c106 s hs .nils i hi).call frz ⟨rfl,rfl⟩).call frz ⟨rfl,rfl⟩) rfl ?_;generalize XZ (KM s) 0 s.co.length=fd;obtain ⟨da,de⟩:=fd;by_cases hde:de=0
 rotate_left
 ·have hb:(de != 0)=true:=by simpa using hde
  rw[if_pos hde,if_neg hde];simp only[hb,evA,simprocAttr];exact frz
 have hb2:(de != 0)=false:=by simpa using hde
 rw[if_neg (show ¬ (de≠0) from fun h=>h hde)];simp only[hb2,evA,simprocAttr];refine (c107 s hs hn12 hok 2 [AObj.cells [AV.cv (clsR s.cl),AV.cv (strR s.co)],AObj.cells [AV.ptr 2 0],AObj.cells [AV.cv (clsR s.cl),AV.cv (strR s.co),AV.cv CV.nils],AObj.cells [AV.i ↑s.cl.length]] rfl).mono ?_;rintro r τ ⟨rfl,hlen,hfr,v,hv,hcv⟩;have f0:=hfr 0 (by simp) (by omega);have f1:=hfr 1 (by simp) (by omega)
 match τ,hlen with
 | x0::x1::x2::x3::J,_ =>
 have g0:x0=.cells [AV.cv (clsR s.cl),AV.cv (strR s.co)]:=by simpa using f0
 have g1:x1=.cells [.ptr 2 0]:=by simpa using f1
 have g2:x2=.cells [.cv (clsR s.cl),.cv (strR s.co),v]:=by have:=WO hv;simpa using this
 subst g0 g1 g2;have hvr:FrzV anyC (List.replicate 3 .dead++(x3::J)) v (.cv (covR s)):=by
  rcases hcv with ⟨rfl,h0⟩ | ⟨q,a,hq1,rfl,hq2,hq3⟩
  ·rw[VB] at h1;omega
  ·have hsh:∀ l,5≤l→∀ cs,rowOf (AObj.cells [AV.cv (clsR s.cl),AV.cv (strR s.co)] :: .cells [.ptr 2 0] :: .cells [.cv (clsR s.cl),.cv (strR s.co),.sl q 0 s.cl.length 1]::x3::J) l=some cs→rowOf (List.replicate 3 AObj.dead++(x3::J)) l=some cs:=fun l hl cs h=>by
    obtain ⟨m,rfl⟩:∃ m,l=m+3:=⟨l-3,by omega⟩;exact h
   refine .c (.sl q 0 s.cl.length 1 _ _ (hsh q hq1 _ hq2) (by simp) ?_);have hl2:((List.range s.cl.length).map fun k=>AV.sl (a k) 0 s.cl.length 1).length=s.cl.length:=by simp
   rw[YO,W3,Q5 (by omega)];unfold Qdw;have key:∀ (ks:List Nat),(∀ k∈ks,k<s.cl.length)→HL anyC (List.replicate 3 AObj.dead++(x3::J)) (ks.map fun k=>AV.sl (a k) 0 s.cl.length 1) (ks.map fun k=>QaJ (cov s k)):=by
    intro ks
    induction ks with
    | nil=>intro _;exact .nil
    | cons k ks ih =>
     intro h;obtain ⟨b1,b2,b3⟩:=hq3 k (h k (by simp));have hrk:=hsh (a k) b1 _ b3;have hfb:=AZ (p:=anyC) (fun _=>trivial) (n:=s.cl.length) (by rw[M4]) hrk;refine .cons ?_ (ih fun k' hk'=>h k' (by simp[hk']));cases hfb with
     | c h=>exact h
   exact key _ fun k hk=>ZI.1 hk
 simp only[evA,simprocAttr];refine IL.weak (Weak.turn (τ:=[.cells [.cv (clsR s.cl),.cv (strR s.co)],.cells [.ptr 2 0],.cells [.cv (clsR s.cl),.cv (strR s.co),v]]) (τ2:=[.cells [.cv (clsR s.cl),.cv (strR s.co)],.cells [.ptr 2 0],.cells [.cv (clsR s.cl),.cv (strR s.co),.cv (covR s)]]) (J:=x3::J) rfl rfl (vals2:=[sysV s,.ptr 0 0,.ptr 1 0,.i 0,.i da,.i de,.undef,.undef,.b false,.b false,.b false,.cv (clsR s.cl),.i s.cl.length,.i 0,.undef,.undef]) ?_ ?_) ?_
 ·repeat (first | exact .nil | refine .cons (.inl ⟨rfl,rfl⟩) ?_)
 ·intro l o2 hl
  match l with
  | 0=>cases hl;exact ⟨_,rfl,trivial,.inl ⟨rfl,rfl⟩⟩
  | 1=>cases hl;exact ⟨_,rfl,trivial,.inl ⟨rfl,rfl⟩⟩
  | 2=>cases hl;exact ⟨_,rfl,trivial,.inr ⟨_,_,rfl,rfl,.cons (.inl ⟨rfl,rfl⟩) (.cons (.inl ⟨rfl,rfl⟩) (.cons (.inr hvr) .nil))⟩⟩
  | l+3=>simp at hl
 have he2:∀ i,dnB s i=true→dnE s i≠0:=fun i h=>by unfold dnE;rw[if_pos h];decide
 have he3:∀ i,dnB s i=false→dnE s i=0:=fun i h=>by unfold dnE;rw[if_neg (by rw[h];decide)]
 refine ZW s.cl.length (fun i s'=>(∀ j,j<i→dnB s j=false)∧∃ v6 v7 v14 v15,s'=⟨[sysV s,.ptr 0 0,.ptr 1 0,.i 0,.i da,.i de,v6,v7,.b false,.b false,.b false,.cv (clsR s.cl),.i s.cl.length,.i i,v14,v15],[.cells [.cv (clsR s.cl),.cv (strR s.co)],.cells [.ptr 2 0],.cells [.cv (clsR s.cl),.cv (strR s.co),.cv (covR s)]]⟩) ?_ 0 (QF _) ⟨by omega,_,_,_,_,rfl⟩;rintro i s' hi ⟨hall,v6,v7,v14,v15,rfl⟩;by_cases hin:i<s.cl.length
 ·have hinc:=hs.inc i hin;have h87:=c87i (s.cl[i]!).inc (.fn (.func 166) [.cv (.rp [.rp (sysR s) 0] 0),.cv (.rp [.int .i64 i] 0)]) (fun k=>covB s ((s.cl[i]!).inc[k]?.getD 0).toNat i) hinc fun k hk σ=>by
   have hzr:=hok i hin ((s.cl[i]!).inc[k]?.getD 0) (by rw[QI hk];exact Q2 hk);obtain ⟨z,hze⟩:∃ z:Nat,(s.cl[i]!).inc[k]?.getD 0=(z:Int):=⟨((s.cl[i]!).inc[k]?.getD 0).toNat,by omega⟩;rw[hze,Int.toNat_natCast];exact (c108 s z i (by omega) hin).call frz ⟨rfl,rfl⟩
  simp only[ic145l0,QJ,hin,GR hin,Qaz hin,evA,simprocAttr];refine h87.call frz ?_;cases hd:dnB s i with
  | true =>
   have hd':anyN (fun k=>covB s ((s.cl[i]!).inc[k]?.getD 0).toNat i) (s.cl[i]!).inc.length=true:=hd;have hfe:=VF s.cl.length 0 i (QF _) (by omega) (fun j _ hj=>he3 j (hall j hj)) (he2 i hd);have hne:dnE s i=9:=by unfold dnE;rw[if_pos hd]
   rw[hne] at hfe;rw[hd',hfe];simp only[evA,simprocAttr];refine DW_s [] [(0,1)] hmix (by kernel_rfl) rfl ?_;simp only[evA,simprocAttr];exact frz
  | false =>
   have hd':anyN (fun k=>covB s ((s.cl[i]!).inc[k]?.getD 0).toNat i) (s.cl[i]!).inc.length=false:=hd;rw[hd'];simp only[Q6 (show i+1<2 ^ 63 by omega),evA,simprocAttr];refine W1 [.cells [.cv (clsR s.cl),.cv (strR s.co)],.cells [.ptr 2 0],.cells [.cv (clsR s.cl),.cv (strR s.co),.cv (covR s)]] _ rfl (by first | trivial | omega) (QF _) ?_ ⟨fun j hj=>?_,_,_,_,_,rfl⟩
   ·intro o ho;simp only[ZD,WK,or_false] at ho;rcases ho with rfl | rfl | rfl <;> rfl
   ·rcases QQ.1 hj with hj | rfl
    ·exact hall j hj
    ·exact hd
 ·have hin':i=s.cl.length:=by omega
  subst hin';have hfe:=JY (g:=dnE s) s.cl.length 0 fun j _ hj=>he3 j (hall j (by omega))
  rw[hfe];simp only[ic145l0,QJ,hin,evA,simprocAttr];exact frz
abbrev chkV (s:Sys):AV:=.tup [.i (sysE s).1,.i (sysE s).2.1,.i (sysE s).2.2]
theorem c53 (s:Sys) (hs:SSz s):PC Tryz.prog 131 [sysV s] (chkV s):=by
 refine ⟨ZF (fok131 true) (QC rfl) ?_,rfl⟩;unfold chkV;simp only[ic131,WI,cellsOf,evA,simprocAttr];refine (c75 s hs).call ?_;unfold sysO;have hP:∀ b:Prop,[Decidable b]→(if b then sysP s else AV.cv CV.nilp).isUndef=false:=fun b _=>by split <;> rfl
 generalize sysE s=e;obtain ⟨e1,e2,e3⟩:=e;simp only[hP,evA,simprocAttr];exact frz
theorem QaV {s:Sys} (h:(sysE s).2.2=0):(1≤s.cl.length∧s.cl.length≤12)∧s.co.length≤8∧OkI s:=by
 unfold sysE at h;split at h;· cases h
 rename_i h1;split at h;· exact absurd h (by assumption)
 rename_i h2;have h1':(!inB (s.cl.length:Int) 1 12||decide ((s.co.length:Int)>8))=false:=by simpa using h1
 rw[X8] at h1';have h3:inB (s.cl.length:Int) 1 12=true:=by
  have:=h1'.1;cases hh:inB (s.cl.length:Int) 1 12 with
  | true=>rfl
  | false=>rw[hh] at this;cases this
 rw[VB] at h3;have h4:=of_decide_eq_false h1'.2;have h2':(XZ (VR s) 0 s.cl.length).2=0:=Decidable.byContradiction fun hh=>h2 hh
 exact ⟨by omega,by omega,Qch h2'⟩
end Go.Proofs.YtgkidpolomhghaaGreatDoor.AM
namespace Go.Proofs.YtgkidpolomhghaaGreatDoor.Pl
def bit (a:Int) (k:Nat):Bool:=a.toNat.testBit k
def andI (a b:Int):Int:=((a.toNat &&& b.toNat:Nat):Int)
def subI (a b:Int):Int:=((BitVec.ofNat 64 a.toNat &&& ~~~BitVec.ofNat 64 b.toNat).toNat:Int)
theorem QbF (a b:Int) (k:Nat):bit (andI a b) k=(bit a k&&bit b k):=by simp[bit,andI,Nat.testBit_and]
theorem toNat_lt {a:Int} {m:Nat} (h:a<2 ^ m):a.toNat<2 ^ m:=by
 rcases Int.lt_or_le a 0 with h0 | h0
 ·have:a.toNat=0:=by omega
  rw[this];exact Nat.two_pow_pos m
 ·have e:((a.toNat:Nat):Int)=a:=VI h0;have:((a.toNat:Nat):Int)<((2 ^ m:Nat):Int):=by rw[e];push_cast;exact h
  exact QJ.1 this
theorem TY {a:Int} {m k:Nat} (h:a<2 ^ m) (hk:m≤k):bit a k=false:=by
 unfold bit;exact UQ (Z6 (toNat_lt h) (Nat.pow_le_pow_right (by omega) hk))
theorem M8 {a b:Int} (ha:a<2 ^ 63) (k:Nat):bit (subI a b) k=(bit a k && !bit b k):=by
 unfold subI bit;have ha':=toNat_lt ha;rw[Int.toNat_natCast,BitVec.testBit_toNat,BitVec.getLsbD_and,BitVec.getLsbD_not,BitVec.getLsbD_ofNat,BitVec.getLsbD_ofNat];by_cases hk:k<64
 ·simp[hk]
 ·have:a.toNat.testBit k=false:=UQ (Z6 ha' (Nat.pow_le_pow_right (by omega) (by omega)));simp[hk,this]
theorem QbE {a b:Int} (ha:0≤a) (hb:0≤b) (h:∀ k,bit a k=bit b k):a=b:=by
 have:a.toNat=b.toNat:=Nat.eq_of_testBit_eq h;omega
theorem OO (k:Nat):bit 0 k=false:=by simp[bit]
theorem QbI (a b:Int):0≤andI a b:=VV _
theorem MF (a b:Int):0≤subI a b:=VV _
theorem Qae {a:Int} {m:Nat} (h0:0≤a) (h:∀ k,m≤k→bit a k=false):a<2 ^ m:=by
 have:a.toNat<2 ^ m:=Nat.lt_pow_two_of_testBit _ fun k hk=>h k hk
 have e:((a.toNat:Nat):Int)=a:=VI h0;have h2:((a.toNat:Nat):Int)<((2 ^ m:Nat):Int):=QJ.2 this;rw[e] at h2;push_cast at h2;exact h2
theorem andI_lt {a b:Int} {m:Nat} (h:a<2 ^ m):andI a b<2 ^ m:=Qae (QbI _ _) fun k hk=>by rw[QbF,TY h hk];rfl
theorem QdS {a b:Int} {m:Nat} (h63:a<2 ^ 63) (h:a<2 ^ m):subI a b<2 ^ m:=Qae (MF _ _) fun k hk=>by rw[M8 h63,TY h hk];rfl
theorem NO {a b:Int}:andI a b=0↔∀ k,¬ (bit a k=true∧bit b k=true):=by
 constructor
 ·intro h k ⟨h1,h2⟩;have:=QbF a b k;rw[h,h1,h2,OO] at this;cases this
 ·intro h;refine QbE (QbI _ _) (Int.le_refl _) fun k=>?_
  rw[QbF,OO];have:=h k;cases h1:bit a k <;> cases h2:bit b k <;> simp_all
theorem bit_div (a:Int) (h:0≤a) (k:Nat):((a.tdiv (2 ^ k)).tmod 2 == 1)=bit a k:=by
 obtain ⟨n,rfl⟩:∃ n:Nat,a=n:=⟨a.toNat,by omega⟩;have e:((2:Int) ^ k)=((2 ^ k:Nat):Int):=by push_cast;rfl
 rw[e,← Int.ofNat_tdiv,show (2:Int)=((2:Nat):Int) from rfl,← Int.ofNat_tmod];unfold bit;rw[Int.toNat_natCast,Nat.testBit_eq_decide_div_mod_eq,Q8];simp only[beq_iff_eq,decide_eq_true_eq];omega
end Go.Proofs.YtgkidpolomhghaaGreatDoor.Pl
namespace Go.Proofs.YtgkidpolomhghaaGreatDoor.AM
variable [Dr]
open Go Pl
abbrev setN (s:Sys):Int:=2 ^ s.co.length
theorem HF {m:Nat} (h:m≤8):1≤(2:Int) ^ m∧(2:Int) ^ m≤256:=by
 match m,h with
 | 0,_ | 1,_ | 2,_ | 3,_ | 4,_ | 5,_ | 6,_ | 7,_ | 8,_=>decide
theorem c64 (s:Sys) (cov:CV) (hm:s.co.length≤8):PC Tryz.prog 157 [.cv (.rp [clsR s.cl,strR s.co,cov] 0)] (.i (setN s)):=by
 refine ⟨ZF (fok157 true) (QC rfl) ?_,rfl⟩;have hb:=HF hm;have hsh:VK .shl .i64 1 s.co.length=some (.cv (.int .i64 (setN s))):=by unfold VK;rw[if_neg (by omega),Int.toNat_natCast,show min s.co.length IntKind.i64.bits=s.co.length by simp[IntKind.bits];omega,Int.one_mul,ZC (by omega)]
 simp only[ic157,hsh,evA,simprocAttr];exact frz
theorem c49 (m:Nat) (hm:m≤8):PC Tryz.prog 83 [.i m] (.i (2 ^ m)):=by
 refine ⟨ZF (fok83 true) (QC rfl) ?_,rfl⟩;simp only[ic83,evA,simprocAttr];refine ZW m (fun i s'=>∃ v4,s'=⟨[.i m,.i 0,.i (2 ^ i),.i i,v4],[]⟩) ?_ 0 (QF _) ⟨_,rfl⟩;rintro i s' hi ⟨v4,rfl⟩;by_cases h:i<m
 ·have hb:=HF (show i≤8 by omega);have hw:IntKind.i64.wrap (2*2 ^ i)=2 ^ (i+1):=by rw[ZC (by omega),Int.pow_succ,Int.mul_comm]
  simp only[ic83l0,QJ,h,hw,Q6 (show i+1<2 ^ 63 by omega),evA,simprocAttr];exact ZL (by first | trivial | omega) ⟨_,rfl⟩
 ·have:i=m:=by omega
  subst this;simp only[ic83l0,QJ,h,evA,simprocAttr];exact frz
theorem c52 (a:Int) (h0:0≤a∧a<9223372036854775808) (k:Nat) (hk:k≤8):PC Tryz.prog 43 [.i a,.i k] (.b (bit a k)):=by
 refine ⟨ZF (fok43 true) (QC rfl) ?_,rfl⟩;have hb:=HF hk;have hq:IntKind.i64.wrap (a.tdiv (2 ^ k))=a.tdiv (2 ^ k):=by rw[Int.tdiv_eq_ediv_of_nonneg h0.1];have h1:0≤a / 2 ^ k:=Int.ediv_nonneg h0.1 (by omega);have h2:a / 2 ^ k≤a:=Int.ediv_le_self _ h0.1;exact ZC (by omega)
 have hd:=bit_div a h0.1 k;have hne:¬ ((2:Int) ^ k=0):=by omega
 simp only[ic43,evA,simprocAttr];refine (c49 k hk).call frz ?_;generalize (2:Int) ^ k=p at *;have hx:binI .quo .i64 a p=some (.cv (.int .i64 (a.tdiv p))):=by unfold binI;rw[if_neg hne,hq]
 simp only[hne,hq,hd,evA,simprocAttr];exact frz
def HU (s:Sys) (r:Rt):Int:=if inB r.1 0 ((s.cl.length:Int)-1)=false then 4 else if inB r.2 0 (setN s-1)=false then 7 else 0
def rgsE (s:Sys) (l:List Rt):Int:=if (l.length:Int)>40 then 3 else (XZ (fun i=>HU s l[i]!) 0 l.length).2
theorem S3 {l:List Rt} {k:Nat} (h:k<l.length) (σ:List AObj):YF 2 [.cv (.rp (l.flatMap rgC) (k*2))] σ=some (rgV l[k]!,σ):=by
 have h1:k*2+2≤(l.flatMap rgC).length:=by rw[UG IR];omega
 have h2:=G3 IR h;simp only[YF,h1,if_true];rw[h2];rfl
theorem rg_0 {l:List Rt} {k:Nat} (h:k<l.length):(l.flatMap rgC)[k*2]? = some (.int .i64 (l[k]!).1):=flat_get IR h (j:=0) (by omega)
theorem rg_1 {l:List Rt} {k:Nat} (h:k<l.length):(l.flatMap rgC)[k*2+1]? = some (.int .i64 (l[k]!).2):=flat_get IR h (j:=1) (by omega)
theorem L6 {l:List Rt} {k:Nat} (h:k<l.length) (σ:List AObj):VP 2 [rgL l,.cv (.int .i64 k)] σ=some (.cv (.rp (l.flatMap rgC) (k*2)),σ):=XP h σ
theorem c113 (s:Sys) (hs:SSz s) (cov:CV) (hm:s.co.length≤8) (i:Int) (r:Rt):PC Tryz.prog 168 [.i i,rgV r,.cv (.rp [.rp [clsR s.cl,strR s.co,cov] 0] 0)] (.i (HU s r)):=by
 refine ⟨ZF (fok168 true) (QC rfl) ?_,rfl⟩;have hcl:=hs.cl;have hb:=HF hm;have hw:IntKind.i64.wrap ((s.cl.length:Int)-1)=(s.cl.length:Int)-1:=ZC (by omega);have hw2:IntKind.i64.wrap (setN s-1)=setN s-1:=ZC (by unfold setN;omega);have h1:=c56 0 ((s.cl.length:Int)-1) [r.1] (by simp);have h2:=c56 0 (setN s-1) [r.2] (by simp);rw[FW] at h1 h2;unfold HU;simp only[ic168,WI,cellsOf,evA,simprocAttr];refine DW_s [10] [(0,9),(4,9)] hmix (by kernel_rfl) rfl ?_;simp only[hw,evA,simprocAttr];refine YE (h1.call frz ⟨rfl,rfl⟩) rfl ?_;cases g1:inB r.1 0 ((s.cl.length:Int)-1) with
 | false =>
  rw[if_pos rfl];simp only[ZY,evA,simprocAttr];exact frz
 | true =>
 rw[if_neg (by decide)];simp only[Y2,evA,simprocAttr];refine DW_s [1,6] [(0,5),(1,5)] hmix (by kernel_rfl) rfl ?_;simp only[evA,simprocAttr];refine YE ((c64 s cov hm).call frz ⟨rfl,rfl⟩) rfl ?_;simp only[hw2,evA,simprocAttr];refine YE (h2.call frz ⟨rfl,rfl⟩) rfl ?_;cases g2:inB r.2 0 (setN s-1) with
 | false =>
  rw[if_pos rfl];simp only[ZY,evA,simprocAttr];exact frz
 | true =>
  rw[if_neg (by decide)];simp only[Y2,evA,simprocAttr];exact frz
theorem c112 (l:List Rt) (p:CV) (g:Nat→Int) (hz:l.length<2 ^ 63) (hf:∀ i,i<l.length→∀ σ,AC Tryz.prog 168 [.i i,rgV l[i]!,.cv p] σ fun r τ=>r=.i (g i)∧τ=σ) :
  PC Tryz.prog 167 [rgL l,.fn (.func 168) [.cv p]] (.tup [.i (XZ g 0 l.length).1,.i (XZ g 0 l.length).2]):=by
 refine ⟨ZF (fok167 true) (QC rfl) ?_,rfl⟩;simp only[ic167,evA,simprocAttr];refine ZW l.length (fun i s=>(∀ j,j<i→g j=0)∧∃ v2 v3 v4 v5 v9 v10,s=⟨[rgL l,.fn (.func 168) [.cv p],v2,v3,v4,v5,rgL l,.i l.length,.i i,v9,v10],[]⟩) ?_ 0 (QF _) ⟨by omega,_,_,_,_,_,_,rfl⟩;rintro i s hi ⟨hall,v2,v3,v4,v5,v9,v10,rfl⟩;by_cases h:i<l.length
 ·simp only[ic167l0,QJ,h,L6 h,S3 h,evA,simprocAttr];refine (hf i h _).run ?_;by_cases hg:g i=0
  ·have hb:(g i != 0)=false:=by simpa using hg
   simp only[hb,Q6 (show i+1<2 ^ 63 by omega),evA,simprocAttr];refine W1 [] _ rfl (by first | trivial | omega) (QF _) (by simp) ⟨fun j hj=>?_,_,_,_,_,_,_,rfl⟩;rcases QQ.1 hj with hj | rfl
   ·exact hall j hj
   ·exact hg
  ·have hb:(g i != 0)=true:=by simpa using hg
   rw[VF l.length 0 i (QF _) (by omega) (fun j _ hj=>hall j hj) hg];simp only[hb,evA,simprocAttr];exact frz
 ·have:i=l.length:=by omega
  subst this;rw[JY l.length 0 fun j _ hj=>hall j (by omega)];simp only[ic167l0,QJ,h,evA,simprocAttr];exact frz
theorem c90 (s:Sys) (hs:SSz s) (cov:CV) (hm:s.co.length≤8) (l:List Rt) (hl:l.length<2 ^ 63):PC Tryz.prog 146 [.cv (.rp [clsR s.cl,strR s.co,cov] 0),rgL l] (.i (rgsE s l)):=by
 refine ⟨ZF (fok146 true) (QC rfl) ?_,rfl⟩;unfold rgsE;by_cases h:(l.length:Int)>40
 ·rw[if_pos h];simp only[ic146,WI,cellsOf,h,evA,simprocAttr];exact frz
 ·rw[if_neg h];simp only[ic146,WI,cellsOf,h,evA,simprocAttr];refine (c112 l (.rp [.rp [clsR s.cl,strR s.co,cov] 0] 0) (fun i=>HU s l[i]!) hl fun i hi σ=>(c113 s hs cov hm i l[i]!).call frz ⟨rfl,rfl⟩).call frz ?_;simp only[evA,simprocAttr];exact frz
def rdE (s:Sys) (e:Int) (ls:List (List Rt)):Int:=ls.foldl (fun e l=>if e=0 then rgsE s l else e) e
theorem Qa4 (s:Sys):∀ (ls:List (List Rt)) (e:Int),e≠0→rdE s e ls=e
 | [],_,_=>rfl
 | l::ls,e,h=>by show rdE s (if e=0 then rgsE s l else e) ls=e;rw[if_neg h];exact Qa4 s ls e h
abbrev sysQ (s:Sys):AV:=if (sysE s).2.2=0 then sysP s else .cv .nilp
theorem c63 (s:Sys) (hs:SSz s) (ls:List (List Rt)) (hls:∀ l∈ls,l.length<2 ^ 63) (hn:ls.length<2 ^ 60) (σ:List AObj) (l0:Nat) (h0:rowOf σ l0=some (ls.map fun l=>rgL l)) :
  AC Tryz.prog 110 [sysV s,.sl l0 0 ls.length 1] σ fun r τ=>r=.tup [sysQ s,.i (rdE s (sysE s).2.2 ls)]∧τ=σ:=by
 have hcl:QR 0 (.tup [sysQ s,.i (rdE s (sysE s).2.2 ls)])=true:=by unfold sysQ;split <;> rfl
 refine AC.cutF ?_ hcl;refine ZF (fok110 true) (QC rfl) ?_;have h75:=c75 s hs;have hn0:=QaV (s:=s);have hq:sysQ s=.cv .nilp∨((sysE s).2.2=0∧sysQ s=sysP s):=by
  unfold sysQ;by_cases h:(sysE s).2.2=0
  ·right;exact ⟨h,if_pos h⟩
  ·left;exact if_neg h
 have hqn:(sysE s).2.2=0→sysQ s=sysP s:=fun h=>if_pos h
 have hQ:(sysQ s).isUndef=false:=by rcases hq with h | ⟨_,h⟩ <;> rw[h] <;> rfl
 have ho:sysO s=.tup [sysQ s,.i (sysE s).1,.i (sysE s).2.1,.i (sysE s).2.2]:=rfl;rw[ho] at h75;generalize sysQ s=Q at *;generalize sysE s=e at *;obtain ⟨e1,e2,e3⟩:=e;have g0:=fun J=>ZH h0 J
 have hld:∀ k,k<ls.length→(ls.map fun l=>rgL l)[k]? = some (rgL ls[k]!):=fun k hk=>by rw[ZR,QI hk,getElem!_pos ls k hk];rfl
 simp only[ic110,WI,cellsOf,WW,evA,simprocAttr];refine h75.call ?_;simp only[hQ,evA,simprocAttr];refine ZW ls.length (fun i s'=>∃ v7 v11 v12,s'=⟨[sysV s,.sl l0 0 ls.length 1,.ptr σ.length 0,.cv .nilp,.i 0,Q,.i (rdE s e3 (ls.take i)),v7,.sl l0 0 ls.length 1,.i ls.length,.i i,v11,v12],σ++[.cells [.cv (clsR s.cl),.cv (strR s.co)]]⟩) ?_ 0 (QF _) ⟨_,_,_,rfl⟩;rintro i s' hi ⟨v7,v11,v12,rfl⟩;by_cases hin:i<ls.length
 ·have hsl:∀ σ',VP 1 [.sl l0 0 ls.length 1,.cv (.int .i64 i)] σ'=some (.ptr l0 (0+i),σ'):=W9 hin;have hst:rdE s e3 (ls.take (i+1))=if rdE s e3 (ls.take i)=0 then rgsE s ls[i]! else rdE s e3 (ls.take i):=by
   rw[JC,QI hin,getElem!_pos ls i hin];unfold rdE;rw[List.foldl_append];rfl
  have hE0:rdE s e3 (ls.take i)=0→e3=0:=fun h=>Decidable.byContradiction fun hne=>by rw[Qa4 s _ _ hne] at h;exact hne h
  generalize rdE s e3 (ls.take i)=E at hst hE0;simp only[ic110l0,QJ,hin,hsl,ZV,g0,hld i hin,evA,simprocAttr];by_cases hE:E=0
  ·have hb:(E == 0)=true:=by simpa using hE
   have he3:=hE0 hE;have hQP:=hqn he3;subst hQP;obtain ⟨_,hm,_⟩:=hn0 he3;rw[if_pos hE] at hst;simp only[hb,evA,simprocAttr];refine (c90 s hs (covR s) hm ls[i]! (hls _ (by rw[getElem!_pos ls i hin];exact Q2 hin))).call frz ?_;simp only[Q6 (show i+1<2 ^ 63 by omega),evA,simprocAttr];exact ZL (by first | trivial | omega) ⟨_,_,_,by rw[hst]⟩
  ·have hb:(E == 0)=false:=by simpa using hE
   rw[if_neg hE] at hst;simp only[hb,Q6 (show i+1<2 ^ 63 by omega),evA,simprocAttr];exact ZL (by first | trivial | omega) ⟨_,_,_,by rw[hst]⟩
 ·have hin':i=ls.length:=by omega
  subst hin';simp only[ic110l0,QJ,hin,hQ,X7,evA,simprocAttr];exact ⟨_,rfl⟩
theorem and_wrap {a b:Int} (ha:0≤a∧a<256) (hb:0≤b∧b<9223372036854775808):IntKind.i64.wrap (BitVec.ofInt IntKind.i64.bits a &&& BitVec.ofInt IntKind.i64.bits b).toNat=andI a b:=by
 have e1:(BitVec.ofInt 64 a).toNat=a.toNat:=by rw[BitVec.toNat_ofInt];omega
 have e2:(BitVec.ofInt 64 b).toNat=b.toNat:=by rw[BitVec.toNat_ofInt];omega
 have e3:(BitVec.ofInt IntKind.i64.bits a &&& BitVec.ofInt IntKind.i64.bits b).toNat=a.toNat &&& b.toNat:=by show (BitVec.ofInt 64 a &&& BitVec.ofInt 64 b).toNat=_;rw[BitVec.toNat_and,e1,e2]
 have h1:=andI_lt (a:=a) (b:=b) (m:=8) (by omega);have h0:=QbI a b;rw[e3];have:((a.toNat &&& b.toNat:Nat):Int)=andI a b:=rfl;rw[this,ZC (by omega)]
theorem sub_wrap {a b:Int} (ha:0≤a∧a<256) (hb:0≤b∧b<9223372036854775808):IntKind.i64.wrap (BitVec.ofInt IntKind.i64.bits a &&& ~~~BitVec.ofInt IntKind.i64.bits b).toNat=subI a b:=by
 have e1:BitVec.ofInt 64 a=BitVec.ofNat 64 a.toNat:=by apply BitVec.eq_of_toNat_eq;rw[BitVec.toNat_ofInt,BitVec.toNat_ofNat];omega
 have e2:BitVec.ofInt 64 b=BitVec.ofNat 64 b.toNat:=by apply BitVec.eq_of_toNat_eq;rw[BitVec.toNat_ofInt,BitVec.toNat_ofNat];omega
 have e3:((BitVec.ofInt IntKind.i64.bits a &&& ~~~BitVec.ofInt IntKind.i64.bits b).toNat:Int)=subI a b:=by show ((BitVec.ofInt 64 a &&& ~~~BitVec.ofInt 64 b).toNat:Int)=_;rw[e1,e2];rfl
 have h1:=QdS (a:=a) (b:=b) (m:=8) (by omega) (by omega);have h0:=MF a b;rw[e3,ZC (by omega)]
def RgOk (s:Sys) (r:Rt):Prop:=(0≤r.1∧r.1<s.cl.length)∧0≤r.2∧r.2<setN s
theorem S4 {s:Sys} {r:Rt}:HU s r=0↔RgOk s r:=by
 unfold HU RgOk;cases g1:inB r.1 0 ((s.cl.length:Int)-1) with
 | false =>
  rw[if_pos rfl];constructor
  ·intro h;cases h
  ·rintro ⟨h,_⟩;have:inB r.1 0 ((s.cl.length:Int)-1)=true:=VB.2 (by omega);rw[g1] at this;cases this
 | true =>
  rw[if_neg (by decide)];rw[VB] at g1;cases g2:inB r.2 0 (setN s-1) with
  | false =>
   rw[if_pos rfl];constructor
   ·intro h;cases h
   ·rintro ⟨_,h⟩;have:inB r.2 0 (setN s-1)=true:=VB.2 (by omega);rw[g2] at this;cases this
  | true =>
   rw[if_neg (by decide)];rw[VB] at g2;exact ⟨fun _=>⟨by omega,by omega⟩,fun _=>rfl⟩
theorem ML {s:Sys} {l:List Rt} (h:rgsE s l=0):l.length≤40∧∀ r∈l,RgOk s r:=by
 unfold rgsE at h;split at h
 ·cases h
 ·rename_i h1;refine ⟨by omega,fun r hr=>?_⟩;obtain ⟨i,hi,rfl⟩:=WN.1 hr;have:=NF _ _ h i (QF _) (by omega);rw[getElem!_pos l i hi] at this;exact S4.1 this
def alw1 (s:Sys) (c f:Int) (r:Rt):Bool:=covB s r.1.toNat c.toNat&&(andI r.2 f == 0)
def alwB (s:Sys) (l:List Rt) (c f:Int):Bool:=l.any (alw1 s c f)
theorem QcK (s:Sys) (l:List Rt) (c f:Int):alwB s l c f=anyN (fun i=>alw1 s c f l[i]!) l.length:=by
 rw[Q8,U8,alwB,ZZ];constructor
 ·rintro ⟨r,hr,h⟩;obtain ⟨i,hi,rfl⟩:=WN.1 hr;exact ⟨i,hi,by rw[getElem!_pos l i hi];exact h⟩
 ·rintro ⟨i,hi,h⟩;rw[getElem!_pos l i hi] at h;exact ⟨_,Q2 hi,h⟩
theorem c93 (l:List Rt) (fv:AV) (p:Nat→Bool) (hz:l.length<2 ^ 63) (hf:∀ i,i<l.length→∀ σ,X0 Tryz.prog fv [rgV l[i]!] σ fun r τ=>r=.b (p i)∧τ=σ) (σ:List AObj) :
  AC Tryz.prog 193 [rgL l,fv] σ fun r τ=>r=.i (idxN p l.length)∧τ=σ:=by
 refine ZF (fok193 true) (QC rfl) ?_;simp only[ic193,evA,simprocAttr];refine ZW l.length (fun i s=>(∀ j,j<i→p j=false)∧∃ v3 v6 v7,s=⟨[rgL l,fv,.i 0,v3,.i l.length,.i i,v6,v7],σ⟩) ?_ 0 (QF _) ⟨by omega,_,_,_,rfl⟩;rintro i s hi ⟨hall,v3,v6,v7,rfl⟩;by_cases h:i<l.length
 ·simp only[ic193l0,QJ,h,L6 h,S3 h,evA,simprocAttr];refine (hf i h _).run ?_;cases hp:p i
  ·simp only[Q6 (show i+1<2 ^ 63 by omega),evA,simprocAttr];refine ZL (by first | trivial | omega) ⟨fun j hj=>?_,_,_,_,rfl⟩;rcases QQ.1 hj with hj | rfl
   ·exact hall j hj
   ·exact hp
  ·simp only[evA,simprocAttr];exact (EK h hall hp).symm
 ·simp only[ic193l0,QJ,h,evA,simprocAttr];have:i=l.length:=by omega
  subst this;exact (EL hall).symm
theorem c70 (l:List Rt) (fv:AV) (p:Nat→Bool) (hz:l.length<2 ^ 63) (hf:∀ i,i<l.length→∀ σ,X0 Tryz.prog fv [rgV l[i]!] σ fun r τ=>r=.b (p i)∧τ=σ):PC Tryz.prog 175 [rgL l,fv] (.b (anyN p l.length)):=by
 refine ⟨ZF (fok175 true) (QC rfl) ?_,rfl⟩;simp only[ic175,evA,simprocAttr];refine (c93 l fv p hz hf _).run ?_;simp only[evA,simprocAttr,OA];exact frz
theorem c91 (s:Sys) (r:Rt) (hm:s.co.length≤8) (hr:RgOk s r) (c:Nat) (hc:c<s.cl.length) (f:Int) (hf:0≤f∧f<9223372036854775808):PC Tryz.prog 176 [rgV r,.cv (.rp [.rp (sysR s) 0] 0),.cv (.rp [.int .i64 c] 0),.cv (.rp [.int .i64 f] 0)] (.b (alw1 s c f r)):=by
 refine ⟨ZF (fok176 true) (QC rfl) ?_,rfl⟩;have hb:=HF hm;obtain ⟨⟨h1,h2⟩,h3,h4⟩:=hr;have h4':r.2<256:=by unfold setN at h4;omega
 obtain ⟨z,hz⟩:∃ z:Nat,r.1=(z:Int):=⟨r.1.toNat,by omega⟩;have hzl:z<s.cl.length:=by omega
 unfold alw1;rw[hz,Int.toNat_natCast,Int.toNat_natCast];simp only[ic176,WI,cellsOf,hz,evA,simprocAttr];refine DW_s [] [] hmix (by kernel_rfl) rfl ?_;have haw:=and_wrap (a:=r.2) (b:=f) ⟨h3,h4'⟩ hf;simp only[XP hzl,W3,FD hzl,P1 hc,DN hc,evA,simprocAttr];cases h5:covB s z c with
 | false =>
  simp only[evA,simprocAttr];exact frz
 | true =>
  simp only[haw,evA,simprocAttr];exact frz
theorem c65 (s:Sys) (l:List Rt) (hm:s.co.length≤8) (hl:l.length<2 ^ 63) (hr:∀ r∈l,RgOk s r) (c:Int) (hc:0≤c∧c<s.cl.length) (f:Int) (hf:0≤f∧f<9223372036854775808):PC Tryz.prog 158 [sysP s,rgL l,.i c,.i f] (.b (alwB s l c f)):=by
 refine ⟨ZF (fok158 true) (QC rfl) ?_,rfl⟩;obtain ⟨k,rfl⟩:∃ k:Nat,c=(k:Int):=⟨c.toNat,by omega⟩;rw[QcK];simp only[ic158,WI,cellsOf,evA,simprocAttr];refine (c70 l (.fn (.func 176) [.cv (.rp [.rp (sysR s) 0] 0),.cv (.rp [.int .i64 k] 0),.cv (.rp [.int .i64 f] 0)]) (fun i=>alw1 s k f l[i]!) hl fun i hi σ=>(c91 s l[i]! hm (hr _ (by rw[getElem!_pos l i hi];exact Q2 hi)) k (by omega) f hf).call frz ⟨rfl,rfl⟩).call frz ?_;exact frz
theorem free_any {a f:Int} {m:Nat} (ha:a<2 ^ m):(andI a f == 0) = !anyN (fun k=>bit a k&&bit f k) m:=by
 rw[Q8];rw[beq_iff_eq,NO,Z0,F8];constructor
 ·intro h k hk;have:=h k;cases h1:bit a k <;> cases h2:bit f k <;> simp_all
 ·rintro h k ⟨h1,h2⟩;rcases ZB k m with hk | hk
  ·have:=h k hk;rw[h1,h2] at this;cases this
  ·rw[TY ha hk] at h1;cases h1
theorem c50 (s:Sys) (hs:SSz s) (hn12:s.cl.length≤12) (hok:OkI s) (l:List Rt) (hm:s.co.length≤8) (hl:l.length<2 ^ 63) (hr:∀ r∈l,RgOk s r) (c:Int) (hc:0≤c∧c<s.cl.length) (f:Int) (hf:0≤f∧f<9223372036854775808):PC Tryz.prog 53 [sysV s,rgL l,.i c,.i f] (.b (alwB s l c f)):=by
 refine ⟨ZF (fok53 true) (QC rfl) ?_,rfl⟩;obtain ⟨q,rfl⟩:∃ q:Nat,c=(q:Int):=⟨c.toNat,by omega⟩;have hq:q<s.cl.length:=by omega
 have hbp:=HF hm;rw[QcK];simp only[ic53,WI,cellsOf,evA,simprocAttr];refine ZW l.length (fun i s'=>(∀ j,j<i→alw1 s q f l[j]! = false)∧∃ v7 v8 v9 v10 v11,s'=⟨[sysV s,rgL l,.i q,.i f,.ptr 0 0,.b false,.i i,v7,v8,v9,v10,v11],[.cells [.cv (clsR s.cl),.cv (strR s.co)]]⟩) ?_ 0 (QF _) ⟨by omega,_,_,_,_,_,rfl⟩;rintro i s' hi ⟨hall,v7,v8,v9,v10,v11,rfl⟩;by_cases hin:i<l.length
 ·have hri:=hr l[i]! (by rw[getElem!_pos l i hin];exact Q2 hin);obtain ⟨⟨r1,r2⟩,r3,r4⟩:=hri;have r4':(l[i]!).2<256:=by unfold setN at r4;omega
  have hfr:=free_any (f:=f) r4;obtain ⟨z,hz⟩:∃ z:Nat,(l[i]!).1=(z:Int):=⟨(l[i]!).1.toNat,by omega⟩;have ha1:alw1 s q f l[i]! = (covB s z q && !anyN (fun k=>bit (l[i]!).2 k&&bit f k) s.co.length):=by unfold alw1;rw[hfr,hz,Int.toNat_natCast,Int.toNat_natCast]
  simp only[ic53l1,QJ,hin,evA,simprocAttr];refine ZW s.co.length (fun k s'=>∃ v10,s'=⟨[sysV s,rgL l,.i q,.i f,.ptr 0 0,.b false,.i i,.b (!anyN (fun k=>bit (l[i]!).2 k&&bit f k) k),.i k,.b true,v10,v11],[.cells [.cv (clsR s.cl),.cv (strR s.co)]]⟩) ?_ 0 (QF _) ⟨_,rfl⟩;rintro k s' hk ⟨v10,rfl⟩;by_cases hkm:k<s.co.length
  ·have hst:=QfC (fun k=>bit (l[i]!).2 k&&bit f k) k;cases hA:anyN (fun k=>bit (l[i]!).2 k&&bit f k) k with
   | true =>
    rw[hA,US] at hst;simp only[ic53l0,QJ,hkm,Q6 (show k+1<2 ^ 63 by omega),Y2,evA,simprocAttr];exact ZL (by first | trivial | omega) ⟨_,by rw[hst];rfl⟩
   | false =>
    rw[hA,Y3] at hst;simp only[ic53l0,QJ,hkm,L6 hin,rg_1 hin,ZY,evA,simprocAttr];refine (c52 (l[i]!).2 ⟨r3,by omega⟩ k (by omega)).call frz ?_;cases hb1:bit (l[i]!).2 k with
    | false =>
     rw[hb1,Bool.false_and] at hst;simp only[Q6 (show k+1<2 ^ 63 by omega),ZY,evA,simprocAttr];exact ZL (by first | trivial | omega) ⟨_,by rw[hst];rfl⟩
    | true =>
     rw[hb1,XI] at hst;simp only[evA,simprocAttr];refine (c52 f hf k (by omega)).call frz ?_;simp only[Q6 (show k+1<2 ^ 63 by omega),evA,simprocAttr];exact ZL (by first | trivial | omega) ⟨_,by rw[hst]⟩
  ·have hkm':k=s.co.length:=by omega
   subst hkm';have e40:(2:Nat) ^ 40=1099511627776:=by decide
   cases hA:anyN (fun k=>bit (l[i]!).2 k&&bit f k) s.co.length with
   | true =>
    rw[hA] at ha1;simp only[ic53l0,QJ,hkm,Y2,evA,simprocAttr];refine DW_s [8] [] hmix (by kernel_rfl) rfl ?_;simp only[Q6 (show i+1<2 ^ 63 by omega),evA,simprocAttr];refine ZL (by first | trivial | omega) ⟨fun j hj=>?_,_,_,_,_,_,rfl⟩;rcases QQ.1 hj with hj | rfl
    ·exact hall j hj
    ·rw[ha1];simp
   | false =>
    rw[hA] at ha1;simp only[ic53l0,QJ,hkm,ZY,evA,simprocAttr];refine DW_s [8] [] hmix (by kernel_rfl) rfl ?_;simp only[L6 hin,rg_0 hin,hz,evA,simprocAttr];refine YE ((c51 s hs (by omega) hok z (by omega)).call frz ⟨rfl,rfl⟩) rfl ?_;simp only[P1 hq,W3,DN hq,evA,simprocAttr];cases hcv:covB s z q with
    | true =>
     rw[hcv] at ha1;have:anyN (fun i=>alw1 s q f l[i]!) l.length=true:=U8.2 ⟨i,hin,by rw[ha1];rfl⟩;rw[this];simp only[evA,simprocAttr];exact frz
    | false =>
     rw[hcv] at ha1;simp only[Q6 (show i+1<2 ^ 63 by omega),evA,simprocAttr];refine ZL (by first | trivial | omega) ⟨fun j hj=>?_,_,_,_,_,_,rfl⟩;rcases QQ.1 hj with hj | rfl
     ·exact hall j hj
     ·rw[ha1];rfl
 ·have hin':i=l.length:=by omega
  subst hin';rw[F8.2 hall];simp only[ic53l1,QJ,hin,evA,simprocAttr];exact frz
def mayV (s:Sys) (l:List Rt) (c f:Int):AV :=
 if rdE s (sysE s).2.2 [l]≠0 then .tup [.b false,.i (rdE s (sysE s).2.2 [l])]
 else if inB c 0 ((s.cl.length:Int)-1)=false then .tup [.b false,.i 4]
 else if inB f 0 (setN s-1)=false then .tup [.b false,.i 7]
 else .tup [.b (alwB s l c f),.i 0]
theorem Qcd {s:Sys} {l:List Rt} (h:rdE s (sysE s).2.2 [l]=0):(sysE s).2.2=0∧rgsE s l=0:=by
 have hrd:rdE s (sysE s).2.2 [l]=if (sysE s).2.2=0 then rgsE s l else (sysE s).2.2:=rfl
 rw[hrd] at h;by_cases h2:(sysE s).2.2=0
 ·rw[if_pos h2] at h;exact ⟨h2,h⟩
 ·rw[if_neg h2] at h;exact absurd h h2
theorem c29 (s:Sys) (hs:SSz s) (l:List Rt) (hl:l.length<2 ^ 63) (c f:Int):PC Tryz.prog 136 [sysV s,rgL l,.i c,.i f] (mayV s l c f):=by
 refine ⟨ZF (fok136 true) (QC rfl) ?_,by unfold mayV;repeat (split <;> try rfl)⟩;have hcl:=hs.cl;have h63:=fun σ l0 h0=>c63 s hs [l] (by simpa using hl) (by simp) σ l0 h0
 have hdec:=Qcd (s:=s) (l:=l);have hn0:=QaV (s:=s);have hQ:(sysQ s).isUndef=false:=by unfold sysQ;split <;> rfl
 have hQP:(sysE s).2.2=0→sysQ s=sysP s:=fun h=>if_pos h
 unfold mayV;generalize rdE s (sysE s).2.2 [l]=e at *;have hw:IntKind.i64.wrap ((s.cl.length:Int)-1)=(s.cl.length:Int)-1:=ZC (by omega);by_cases he:e=0
 rotate_left
 ·have hb:(e != 0)=true:=by simpa using he
  rw[if_pos he];simp only[ic136,WI,cellsOf,evA,simprocAttr];refine (h63 _ 1 rfl).run ?_;generalize sysQ s=Q at *;simp only[hQ,hb,evA,simprocAttr];exact frz
 have hb2:(e != 0)=false:=by simpa using he
 obtain ⟨k1,k2⟩:=hdec he;obtain ⟨⟨hn1,hn12⟩,hm,hok⟩:=hn0 k1;obtain ⟨hl40,hr⟩:=ML k2;have hbp:=HF hm;have hw2:IntKind.i64.wrap (setN s-1)=setN s-1:=ZC (by unfold setN;omega);rw[if_neg (show ¬ (e≠0) from fun h=>h he)];rw[hQP k1] at h63;have h56:=c56 0 ((s.cl.length:Int)-1) [c] (by simp);have h56f:=c56 0 (setN s-1) [f] (by simp);rw[FW] at h56 h56f;simp only[ic136,WI,cellsOf,evA,simprocAttr];refine (h63 _ 1 rfl).run ?_;simp only[hb2,hw,evA,simprocAttr];refine h56.call frz ?_;cases hc:inB c 0 ((s.cl.length:Int)-1) with
 | false =>
  rw[if_pos rfl];simp only[ZY,evA,simprocAttr];exact frz
 | true =>
 rw[if_neg (by decide)];simp only[Y2,evA,simprocAttr];refine (c64 s (covR s) hm).call frz ?_;simp only[hw2,evA,simprocAttr];refine h56f.call frz ?_;cases hf:inB f 0 (setN s-1) with
 | false =>
  rw[if_pos rfl];simp only[ZY,evA,simprocAttr];exact frz
 | true =>
 rw[if_neg (by decide)];rw[VB] at hc hf;unfold setN at hf;simp only[Y2,evA,simprocAttr];refine (c65 s l hm hl hr c (by omega) f (by omega)).call frz ?_;simp only[evA,simprocAttr];exact frz
abbrev KR:Bool × List KK:=(true,[.int .i64,.int .i64])
abbrev RgW (r:Rt):Prop:=(-9223372036854775808≤r.1∧r.1≤9223372036854775807)∧-9223372036854775808≤r.2∧r.2≤9223372036854775807
theorem PR {n:Int} (h:-9223372036854775808≤n∧n≤9223372036854775807):(Lit.int .i64 n).wf=true:=by
 simp only[Lit.wf,QD,decide_eq_true_eq,IntKind.min,IntKind.max,IntKind.bits,IntKind.signed];simp;omega
theorem Qb6 {r:Rt} (h:RgW r):F4 KR (rgV r)=true:=by
 simp[F4,JK,rgV,Y4,kkOk,PR h.1,PR h.2]
theorem rg_eq {a b:Rt} (ha:RgW a) (hb:RgW b):JW KR (rgV a) (rgV b)=some (decide (a=b)):=by
 simp[JW,JK,rgV,Y4,kkOk,PR ha.1,PR ha.2,PR hb.1,PR hb.2,VZ,EB];rw[Q8];obtain ⟨a1,a2⟩:=a;obtain ⟨b1,b2⟩:=b;simp
def putE (es:List (Rt × Int)) (r:Rt) (v:Int):List (Rt × Int):=if r∈Z4 es then es.map (fun e=>if e.1=r then (r,v) else e) else es++[(r,v)]
def delE (es:List (Rt × Int)) (x:Rt):List (Rt × Int):=es.filter fun e=>!decide (e.1=x)
theorem MY {r:Rt} (hr:RgW r):∀ (es:List (Rt × Int)) (s:Nat),(∀ e∈es,RgW e.1) →
  (findKey KR (rgV r) (mapE es) s=some none∧r∉Z4 es)∨∃ (j:Nat) (v:Int),es[j]? = some (r,v)∧findKey KR (rgV r) (mapE es) s=some (some (s+j,.i v))
 | [],s,_=>.inl ⟨rfl,by simp[Z4]⟩
 | t :: es,s,h=>by
  have hk:=rg_eq hr (h t (by simp));by_cases e:r=t.1
  ·refine .inr ⟨0,t.2,?_,?_⟩
   ·obtain ⟨a,n⟩:=t;cases e;rfl
   ·rw[decide_eq_true e] at hk;simp only[mapE,Q0,findKey,hk];rfl
  ·rw[decide_eq_false e] at hk;rcases MY hr es (s+1) (fun t ht=>h t (by simp[ht])) with ⟨g1,g2⟩ | ⟨j,n,g1,g2⟩
   ·refine .inl ⟨?_,?_⟩
    ·simp only[mapE,Q0,findKey,hk];exact g1
    ·simp only[Z4,Q0,ZD,not_or];exact ⟨e,g2⟩
   ·refine .inr ⟨j+1,n,by simpa using g1,?_⟩;simp only[mapE,Q0,findKey,hk];rw[show s+(j+1)=s+1+j by omega];exact g2
theorem nodup_at {es:List (Rt × Int)} (hn:(Z4 es).Nodup) {j:Nat} {r:Rt} {v:Int} (h:es[j]? = some (r,v)):∀ i e,es[i]? = some e→(e.1=r↔i=j):=by
 intro i e he;constructor
 ·intro h2;have h1:(Z4 es)[i]? = some r:=by simp[Z4,he,h2]
  have h3:(Z4 es)[j]? = some r:=by simp[Z4,h]
  obtain ⟨a1,a2⟩:=QH.1 h1;obtain ⟨b1,b2⟩:=QH.1 h3;have hp:=List.pairwise_iff_getElem.1 hn;rcases Nat.lt_trichotomy i j with hl | he2 | hl
  ·exact absurd (a2.trans b2.symm) (hp i j a1 b1 hl)
  ·exact he2
  ·exact absurd (b2.trans a2.symm) (hp j i b1 a1 hl)
 ·rintro rfl;rw[h] at he;cases he;rfl
theorem QdX {es:List (Rt × Int)} (hn:(Z4 es).Nodup) {j:Nat} {r:Rt} {v w:Int} (h:es[j]? = some (r,v)):es.set j (r,w)=putE es r w:=by
 have hm:r∈Z4 es:=by rw[Z4,ZP];exact ⟨_,QZ h,rfl⟩
 rw[putE,if_pos hm];apply Z1;intro i;rw[ZO,ZR];by_cases hij:j=i
 ·subst hij;have hl:=(QH.1 h).1;rw[if_pos rfl,if_pos hl,h];simp
 ·rw[if_neg hij];cases he:es[i]? with
  | none=>rfl
  | some e =>
   have:=nodup_at hn h i e he;simp only[Option.map_some];rw[if_neg (fun h=>hij ((this.1 h).symm))]
theorem A9:∀ {es:List (Rt × Int)} (hn:(Z4 es).Nodup) {j:Nat} {r:Rt} {v:Int} (h:es[j]? = some (r,v)),es.eraseIdx j=delE es r
 | e::es,hn,0,r,v,h=>by
  simp only[List.getElem?_cons_zero,Option.some.injEq] at h;subst h;simp only[Z4,Q0,WQ] at hn;rw[List.eraseIdx_cons_zero,delE,XK,if_neg (by simp)];symm;rw[List.filter_eq_self];intro e he;have:e.1≠r:=fun h=>hn.1 (by rw[ZP];exact ⟨e,he,h⟩)
  simp[this]
 | e::es,hn,j+1,r,v,h=>by
  simp only[List.getElem?_cons_succ] at h;simp only[Z4,Q0,WQ] at hn;have hne:e.1≠r:=fun h2=>hn.1 (by rw[ZP];exact ⟨(r,v),QZ h,h2.symm⟩)
  rw[List.eraseIdx_cons_succ,A9 hn.2 h,delE,delE,XK,if_pos (by simp[hne])]
theorem map_put {es:List (Rt × Int)} {r:Rt} {v:Int} (hn:(Z4 es).Nodup) (hw:∀ e∈es,RgW e.1) (hr:RgW r) {σ:List AObj} {l:Nat} (hm:mapOf σ l=some (mapE es)) :
  JZ KR [.map l,rgV r,.i v] σ=some (.undef,σ.set l (.map (mapE (putE es r v)))):=by
 rcases MY hr es 0 hw with ⟨g1,g2⟩ | ⟨j,n,g1,g2⟩
 ·have:mapE (putE es r v)=mapE es++[(rgV r,.i v)]:=by rw[putE,if_neg g2];simp[mapE]
  simp only[JZ,hm,Option.bind_some,Qb6 hr,g1,this];rfl
 ·have:mapE (putE es r v)=(mapE es).set j (rgV r,.i v):=by rw[← QdX hn g1];simp[mapE,List.map_set]
  simp only[JZ,hm,Option.bind_some,Qb6 hr,g2,this];simp[XU]
theorem map_del {es:List (Rt × Int)} {r:Rt} (hn:(Z4 es).Nodup) (hw:∀ e∈es,RgW e.1) (hr:RgW r) {σ:List AObj} {l:Nat} (hm:mapOf σ l=some (mapE es)) :
  J0 KR [.map l,rgV r] σ=some (.tup [],σ.set l (.map (mapE (delE es r)))):=by
 rcases MY hr es 0 hw with ⟨g1,g2⟩ | ⟨j,n,g1,g2⟩
 ·have:delE es r=es:=by
   rw[delE,List.filter_eq_self];intro e he;have:e.1≠r:=fun h=>g2 (by rw[Z4,ZP];exact ⟨e,he,h⟩)
   simp[this]
  simp only[J0,hm,Option.bind_some,Qb6 hr,g1,this];rfl
 ·have:mapE (delE es r)=(mapE es).eraseIdx j:=by
   rw[← A9 hn g1];have:∀ (L:List (Rt × Int)) (j:Nat),mapE (L.eraseIdx j)=(mapE L).eraseIdx j:=by
    intro L
    induction L with
    | nil=>intro j;rfl
    | cons a L ih=>intro j;cases j with
     | zero=>rfl
     | succ j=>simp only[mapE,List.eraseIdx_cons_succ,Q0] at ih ⊢;rw[ih]
   exact this es j
  simp only[J0,hm,Option.bind_some,Qb6 hr,g2,this];simp[mapDel]
theorem Qbn (es:List (Rt × Int)) (r:Rt) (v:Int):Z4 (putE es r v)=if r∈Z4 es then Z4 es else Z4 es++[r]:=by
 unfold putE;by_cases h:r∈Z4 es
 ·rw[if_pos h,if_pos h];unfold Z4;rw[XW];apply JI;intro e _;simp only[Function.comp];split
  ·rename_i h;exact h.symm
  ·rfl
 ·rw[if_neg h,if_neg h];simp[Z4]
theorem S6 {es:List (Rt × Int)} {r:Rt} {v:Int} (h:(Z4 es).Nodup):(Z4 (putE es r v)).Nodup:=by
 rw[Qbn];split
 ·exact h
 ·rename_i hn;rw[List.nodup_append];exact ⟨h,by simp,fun a ha b hb=>by simp at hb;subst hb;rintro rfl;exact hn ha⟩
theorem put_mem {es:List (Rt × Int)} {r x:Rt} {v:Int}:x∈Z4 (putE es r v)↔x∈Z4 es∨x=r:=by
 rw[Qbn];split
 ·rename_i h;constructor
  ·exact .inl
  ·rintro (h2 | rfl) <;> assumption
 ·simp
theorem RR {p:Rt→Bool} (es:List (Rt × Int)):Z4 (es.filter fun e=>p e.1)=(Z4 es).filter p:=by
 unfold Z4
 induction es with
 | nil=>rfl
 | cons e es ih=>simp only[XK,Q0];split <;> simp[ih]
theorem key_w {es:List (Rt × Int)} (h:∀ r∈Z4 es,RgW r):∀ e∈es,RgW e.1:=fun e he=>h _ (by rw[Z4,ZP];exact ⟨e,he,rfl⟩)
def VH (b e:Nat) (σ:List AObj) (v:AV) (n:Nat) (cs:List CV):Prop:=(v=.cv .nils∧n=0∧cs=[])∨∃ l,b≤l∧v=.sl l 0 n e∧cs.length=n*e∧rowOf σ l=some (cs.map .cv)
theorem VH.acc {b e n:Nat} {σ:List AObj} {v:AV} {cs:List CV} (h:VH b e σ v n cs):AccS e σ v n cs:=h.imp id fun ⟨l,_,h1,h2,h3⟩=>⟨l,h1,h2,h3⟩
theorem VH.nu {b e n:Nat} {σ:List AObj} {v:AV} {cs:List CV} (h:VH b e σ v n cs):v.isUndef=false∧v.isSc=true∧cellsOf v=[v]:=by
 rcases h with ⟨rfl,_⟩ | ⟨l,_,rfl,_⟩ <;> exact ⟨rfl,rfl,rfl⟩
theorem K3 {b e by_ n:Nat} {σ:List AObj} {v:AV} {cs x:List CV} (hb0:b≤σ.length) (h:VH b e σ v n cs) (hx:x.length=e) (hb:(n+1)*by_≤2 ^ 44) (hn:n+1≤2 ^ 44) :
  ∃ (v':AV) (σ':List AObj),ZX e by_ [v,.sl σ.length 0 1 e] (σ++[AObj.cells (x.map .cv)])=some (v',σ')∧VH b e σ' v' (n+1) (cs++x)∧(∀ i,i<b→σ'[i]? = σ[i]?)∧σ.length≤σ'.length:=by
 have hsrc:Z9 (σ++[AObj.cells (x.map .cv)]) e (.sl σ.length 0 1 e)=some (x.map .cv):=by
  have h1:0+1*e≤(x.map AV.cv).length:=by simp[hx]
  simp only[Z9,if_true,XH,Option.bind_some];rw[if_pos h1,YO,Q5 (by simp[hx])]
 rcases h with ⟨rfl,rfl,rfl⟩ | ⟨l,hbl,rfl,hl,hr⟩
 ·refine ⟨.sl (σ++[AObj.cells (x.map .cv)]).length 0 1 e,(σ++[AObj.cells (x.map .cv)])++[AObj.cells (x.map .cv)],?_,.inr ⟨_,by simp;omega,rfl,by simp[hx],by rw[XH];simp⟩,fun i hi=>?_,by simp⟩
  ·have h1:1*e=(x.map AV.cv).length∧1*by_≤2 ^ 44∧1≤2 ^ 44∧(x.map AV.cv).all AV.isSc=true:=⟨by simp[hx],by omega,by omega,S2 x⟩;simp only[ZX,hsrc,lenF,Option.bind_some];rw[if_neg (by omega),if_pos h1]
  ·rw[QW,QE (by omega)]
 ·have hr':=FU hr (AObj.cells (x.map .cv));refine ⟨.sl (σ++[AObj.cells (x.map .cv)]).length 0 (n+1) e,(σ++[AObj.cells (x.map .cv)]).set l AObj.dead++[AObj.cells (cs.map .cv++x.map .cv)],?_,.inr ⟨(σ++[AObj.cells (x.map .cv)]).length,by simp;omega,rfl,by rw[QM,hl,hx,XJ],?_⟩,fun i hi=>?_,by simp;omega⟩
  ·have h1:True∧n*e≤(cs.map AV.cv).length∧1*e=(x.map AV.cv).length∧(n+1)*by_≤2 ^ 44∧n+1≤2 ^ 44∧(x.map AV.cv).all AV.isSc=true:=⟨trivial,by simp[hl],by simp[hx],hb,hn,S2 x⟩;simp only[ZX,hr',hsrc,lenF,Option.bind_some];rw[if_pos h1,Q5 (by simp[hl])]
  ·have:(σ++[AObj.cells (x.map .cv)]).length=((σ++[AObj.cells (x.map .cv)]).set l AObj.dead).length:=by simp
   rw[this,XH,ZS]
  ·rw[QE (by simp;omega),QU (by omega),QE (by omega)]
theorem c118 (l:List Rt) (L:Nat) (S:Nat→List AObj→Prop) (σ0:List AObj) (hl:l.length<2 ^ 63) (hL:L<σ0.length) (h0:S 0 σ0)
  (h:∀ n τ,n<l.length→S n τ→σ0.length≤τ.length→YC Tryz.prog L [rgV l[n]!] (τ++[.cells [.i (l[n]!).1,.i (l[n]!).2]]) fun r τ'=>r=.b true∧∃ τ2 J,τ'=τ2++J∧σ0.length≤τ2.length∧(J=[]∨∀ o∈τ2,Z3 τ2.length o=true)∧S (n+1) τ2) :
  AC Tryz.prog 171 [.yld L,.cv (.rp [.rsl (l.flatMap rgC) l.length] 0)] σ0 fun r τ=>r=.tup []∧S l.length τ:=by
 refine ZF (fok171 true) (QC rfl) ?_;simp only[ic171,evA,simprocAttr];refine ZW l.length (fun i s=>∃ v2 v6 v7 τ,S i τ∧σ0.length≤τ.length∧s=⟨[.yld L,.cv (.rp [.rsl (l.flatMap rgC) l.length] 0),v2,rgL l,.i l.length,.i i,v6,v7],τ⟩) ?_ 0 (QF _) ⟨_,_,_,_,h0,QG _,rfl⟩;rintro i s hi ⟨v2,v6,v7,τ,hS,hτ,rfl⟩;by_cases hin:i<l.length
 ·simp only[ic171l0,QJ,hin,L6 hin,S3 hin,WW,VW,evA,simprocAttr];refine (h i τ hin hS hτ).mono ?_;rintro r τ' ⟨rfl,τ2,J,rfl,hlen,hJ,hS2⟩;simp only[Q6 (show i+1<2 ^ 63 by omega),evA,simprocAttr];rcases hJ with rfl | hJ
  ·rw[ZU];exact ZL (by first | trivial | omega) ⟨_,_,_,_,hS2,hlen,rfl⟩
  ·refine W1 τ2 J rfl (by first | trivial | omega) hlen hJ ?_;have hy:QR τ2.length (.yld L)=true:=by simp[QR];omega
   exact ⟨_,_,_,_,hS2,hlen,by simp only[clip,hy,if_true];rfl⟩
 ·have hin':i=l.length:=by omega
  subst hin';simp only[ic171l0,QJ,hin,evA,simprocAttr];exact hS
def ia94:IC:=(.region [jw 4 (.alloc [(.cv (.int .i64 0)),(.cv (.int .i64 0))]) [],jq (.store 2) [.v 4,.v 6]])
def ib94:IC:=(.block 1 (.region [jL 2,jN 2 4,jq (.bslice 2 1 [(.cv (.int .i64 0)),(.cv (.int .i64 0))] [(0,2)]) [.t 1],jq (.append 2 16) [.t 0,.t 2],jq (.store 1) [.v 2,.t 3]]))
theorem ca94:QL Tryz.prog vs147 13 (nav [1,0,1,0,2] (Tryz.f147.body.getD .skip))=some ia94:=by kernel_rfl
theorem cb94:QL Tryz.prog vs147 13 (nav [1,0,1,0,3] (Tryz.f147.body.getD .skip))=some ib94:=by kernel_rfl
theorem ac94 (ks:List Rt) (hl:ks.length<2 ^ 38):AC Tryz.prog 147 [.cv .nils,TU ks] [] fun r τ=>AccS 2 τ r ks.length (ks.flatMap rgC):=by
 have hp2:(2:Nat) ^ 38=274877906944:=by decide
 have hp3:(2:Nat) ^ 44=17592186044416:=by decide
 refine ZF (fok147 true) (QC rfl) ?_;simp only[ic147,WI,cellsOf,evA,simprocAttr];refine RW_s (gf:=171) (cap:=[.cv (.rp [.rsl (ks.flatMap rgC) ks.length] 0)]) rfl (QC rfl) (fun l h=>by cases h) ?_;generalize hRR:VJ _ _ _ _ _=R;simp only[evA,simprocAttr];have e1:R.vars=vs147:=by rw[← hRR];rfl
 have e2:R.ntmps=13:=by rw[← hRR];rfl
 have e3:R.params=[7]:=by rw[← hRR];rfl
 have e4:R.vals=[.cv .nils,TU ks,.ptr 0 0,.cv .nils,.undef,TU ks,.undef]:=by rw[← hRR];rfl
 have e5:R.state=.ready:=by rw[← hRR];rfl
 have e6:R.pending=none:=by rw[← hRR];rfl
 have e7:QL Tryz.prog vs147 13 R.assign=some ia94:=by rw[← hRR];exact ca94
 have e8:QL Tryz.prog vs147 13 R.body=some ib94:=by rw[← hRR];exact cb94
 have e9:({ { R with state:=.busy,pending:=none } with state:=.ready,pending:=none }:XC)=R:=by clear hRR;cases R;simp_all
 clear hRR;refine (c118 ks 1 (fun n τ=>∃ acc τ',τ=.cells [acc] :: .loop R::τ'∧VH 2 2 τ acc n ((ks.take n).flatMap rgC)) [.cells [.cv .nils],.loop R] (by omega) (by simp) ⟨_,_,rfl,.inl ⟨rfl,rfl,rfl⟩⟩ ?_).mono ?_
 ·rintro n τ hn ⟨acc,τ',rfl,hA⟩ _;have hnu:=hA.nu;refine QeH (r:=R) ia94 ib94 rfl e5 (by rw[e3];rfl) (by rw[e1,e2,e3];rfl) (by rw[e1,e2];exact e7) (by rw[e1,e2];exact e8) ?_;rw[e1,e2,e3,e4];have x7:vs147.idxOf? 7=some 6:=by decide
  have hst:(ks.take (n+1)).flatMap rgC=(ks.take n).flatMap rgC++rgC ks[n]! := by rw[JC,QI hn,getElem!_pos ks n hn,List.flatMap_append];simp
  generalize ks[n]! = kr at hst;simp only[ia94,JM,x7,QW,QM,WW,X9,VW,EZ,Qau,CH,get_nz,get_ns,Qam,evA,simprocAttr];refine ⟨R,rfl,e5,?_⟩;rw[e6];simp only[setLoop,evA,simprocAttr];have hA1:VH 2 2 (.cells [acc] :: .loop { R with state:=.busy,pending:=none }::(τ'++[AObj.cells [.i kr.1,.i kr.2],AObj.cells [.i kr.1,.i kr.2]])) acc n ((ks.take n).flatMap rgC):=by
   rcases hA with h | ⟨l,h1,h2,h3,h4⟩
   ·exact .inl h
   ·refine .inr ⟨l,h1,h2,h3,?_⟩;obtain ⟨m,rfl⟩:∃ m,l=m+2:=⟨l-2,by omega⟩;exact ZH (σ:=τ') h4 _
  obtain ⟨v',σ',happ,hA',hfr,hln⟩:=K3 (by_:=16) (x:=rgC kr) (by simp) hA1 rfl (by omega) (by omega);rw[hst];generalize hbz:({ R with state:=.busy,pending:=none }:XC)=RB at *;have f0:=hfr 0 (by omega);have f1:=hfr 1 (by omega)
  match σ',hln with
  | x0::x1::σ2,_ =>
  have g0:x0=.cells [acc]:=by simpa using f0
  have g1:x1=.loop RB:=by simpa using f1
  subst g0 g1;have hnu':=hA'.nu;simp only[QW,QM,WW,X9,VW,EZ,Qau,CH,get_nz,get_ns,List.cons_append,List.nil_append,List.length_cons,List.length_nil,ZV,rgC,Q0,WS] at happ;simp only[ib94,QW,QM,WW,X9,VW,EZ,Qau,CH,get_nz,get_ns,HE,MK,happ,hnu,hnu',P0,evA,simprocAttr];refine ⟨RB,rfl,?_⟩;subst hbz;simp only[setLoop,evA,simprocAttr];rw[e9];refine ⟨_,[],(ZU _).symm,QC rfl,.inl rfl,v',σ2,rfl,?_⟩;rcases hA' with h | ⟨l,h1,h2,h3,h4⟩
  ·exact .inl h
  ·refine .inr ⟨l,h1,h2,h3,?_⟩;obtain ⟨m,rfl⟩:∃ m,l=m+2:=⟨l-2,by omega⟩;exact h4
 ·rintro r τ ⟨rfl,acc,τ',rfl,hA⟩;refine ⟨R,rfl,(by rw[e5];intro h;cases h),?_⟩;rw[e6];have hnu:=hA.nu;simp only[setLoop,hnu,evA,simprocAttr];rw[X7] at hA;rcases hA with h | ⟨l,h1,h2,h3,h4⟩
  ·exact .inl h
  ·refine .inr ⟨l,h2,h3,?_⟩;obtain ⟨m,rfl⟩:∃ m,l=m+2:=⟨l-2,by omega⟩;exact h4
theorem Qcb (g:Nat→Nat):∀ cs:List CV,rens g (cs.map .cv)=cs.map .cv
 | []=>rfl
 | c::cs=>by simp only[Q0,rens,ren,Qcb g cs]
theorem AC.accs {P:Program} {f:FuncId} {args:List AV} {e n:Nat} {cs:List CV} (h:AC P f args [] fun r τ=>AccS e τ r n cs) (hcl:QO 0 args=true) (hr:∀ g,rens g args=args) (σ:List AObj):AC P f args σ fun r τ=>AccS e τ r n cs:=by
 have:=AC.at (σ:=σ) [] h YU hcl trivial;rw[hr] at this;refine this.mono ?_;rintro r τ ⟨r0,τ0,h1,_,rfl,rfl⟩;rcases h1 with ⟨rfl,h1,h2⟩ | ⟨l,rfl,h1,h2⟩
 ·exact .inl ⟨rfl,h1,h2⟩
 ·refine .inr ⟨σ.length+l,by simp[ren,atF],h1,?_⟩;have h3:=WO h2;simp only[putL];unfold rowOf;rw[QS (by omega),X6,ZR,h3];simp only[Option.map_some,renO,Qcb]
theorem AccS.nu {e n:Nat} {σ:List AObj} {v:AV} {cs:List CV} (h:AccS e σ v n cs):v.isUndef=false∧v.isSc=true∧cellsOf v=[v]:=by
 rcases h with ⟨rfl,_⟩ | ⟨l,rfl,_⟩ <;> exact ⟨rfl,rfl,rfl⟩
theorem ac71 (ks:List Rt) (hl:ks.length<2 ^ 38) (σ:List AObj):AC Tryz.prog 112 [TU ks] σ fun r τ=>AccS 2 τ r ks.length (ks.flatMap rgC):=by
 refine ZF (fok112 true) (QC rfl) ?_;simp only[ic112,evA,simprocAttr];refine ((ac94 ks hl).accs rfl (fun g=>rfl) σ).mono ?_;intro r τ h;have hnu:=h.nu;simp only[hnu,evA,simprocAttr];exact h
def Qdp:IC:=(.region [jw 7 (.alloc [(.cv (.int .i64 0)),(.cv (.int .i64 0))]) [],jq (.store 2) [.v 7,.v 14]])
def Qdm:IC:=(.block 5 (.seq (.dr [[],[],[0,1],[2],[3],[4,3],[5,3],[6,3],[3],[8,3],[7,9,3],[10,3],[3],[12,3],[11,13,3],[14,3],[3,15],[16,3],[17],[18,17],[17],[20,17],[19,21,17],[22,17],[17,23]] [jN 2 8,jN 2 7,jq (.eqS true (true,[(.int .i64),(.int .i64)])) [.t 0,.t 1],jt 2,jg 3 true .load1 [.v 2],jg 3 true .nilck [.t 4],jg 3 true (.fadd 2) [.t 5],ji 3 true 6,jg 3 true (.fadd 0) [.v 7],ji 3 true 8,jg 3 true (.iaS 1) [.t 7,.t 9],ji 3 true 10,jg 3 true (.fadd 0) [.v 8],ji 3 true 12,jg 3 true (.iaS 1) [.t 11,.t 13],ji 3 true 14,jq .pick [.t 3,.t 15,jB false],jt 16,jg 17 true (.fadd 1) [.v 7],ji 17 true 18,jg 17 true (.fadd 1) [.v 8],ji 17 true 20,jg 17 true (.bin .andNot .int) [.t 19,.t 21],jg 17 true (.bin .eql .int) [.t 22,jn 0],jw 17 .pick [.t 17,.t 23,jB false]])
 (.cond 17 (.region [jL 4,jN 2 8,jq (.mapdel (true,[(.int .i64),(.int .i64)])) [.t 0,.t 1]])
 .skip)))
def Qdo:IC:=(.region [jw 8 (.alloc [(.cv (.int .i64 0)),(.cv (.int .i64 0))]) [],jq (.store 2) [.v 8,.v 16]])
def Qdn (b67:Code):IC:=(.block 3 (.seq (.region [jL 4,jd 15 113 [.t 0]])
 (.block 4 (.rangef (.v 15) #[27] (nav [1,1,1,0,1,0,3,0,1,0,2] b67) (nav [1,1,1,0,1,0,3,0,1,0,3] b67) (.region [jw 8 (.alloc [(.cv (.int .i64 0)),(.cv (.int .i64 0))]) [],jq (.store 2) [.v 8,.v 16]])
 (.block 5 (.seq (.dr [[],[],[0,1],[2],[3],[4,3],[5,3],[6,3],[3],[8,3],[7,9,3],[10,3],[3],[12,3],[11,13,3],[14,3],[3,15],[16,3],[17],[18,17],[17],[20,17],[19,21,17],[22,17],[17,23]] [jN 2 8,jN 2 7,jq (.eqS true (true,[(.int .i64),(.int .i64)])) [.t 0,.t 1],jt 2,jg 3 true .load1 [.v 2],jg 3 true .nilck [.t 4],jg 3 true (.fadd 2) [.t 5],ji 3 true 6,jg 3 true (.fadd 0) [.v 7],ji 3 true 8,jg 3 true (.iaS 1) [.t 7,.t 9],ji 3 true 10,jg 3 true (.fadd 0) [.v 8],ji 3 true 12,jg 3 true (.iaS 1) [.t 11,.t 13],ji 3 true 14,jq .pick [.t 3,.t 15,jB false],jt 16,jg 17 true (.fadd 1) [.v 7],ji 17 true 18,jg 17 true (.fadd 1) [.v 8],ji 17 true 20,jg 17 true (.bin .andNot .int) [.t 19,.t 21],jg 17 true (.bin .eql .int) [.t 22,jn 0],jw 17 .pick [.t 17,.t 23,jB false]])
 (.cond 17 (.region [jL 4,jN 2 8,jq (.mapdel (true,[(.int .i64),(.int .i64)])) [.t 0,.t 1]])
 .skip)))))))
theorem ca67a:QL Tryz.prog vs111 58 (nav [1,1,1,0,1,0,2] (Tryz.f111.body.getD .skip))=some Qdp:=by kernel_rfl
theorem cb67a:QL Tryz.prog vs111 58 (nav [1,1,1,0,1,0,3] (Tryz.f111.body.getD .skip))=some (Qdn (Tryz.f111.body.getD .skip)):=by kernel_rfl
theorem ca67b:QL Tryz.prog vs111 58 (nav [1,1,1,0,1,0,3,0,1,0,2] (Tryz.f111.body.getD .skip))=some Qdo:=by kernel_rfl
theorem cb67b:QL Tryz.prog vs111 58 (nav [1,1,1,0,1,0,3,0,1,0,3] (Tryz.f111.body.getD .skip))=some Qdm:=by kernel_rfl
def wkB (s:Sys) (x r:Rt):Bool:=!decide (x=r)&&(covB s r.1.toNat x.1.toNat&&(subI r.2 x.2 == 0))
def esN (l:List Rt):Nat→List (Rt × Int)
 | 0=>[]
 | k+1=>putE (esN l k) l[k]! k
def ddR (l:List Rt):List Rt:=Z4 (esN l l.length)
def XV (s:Sys) (l:List Rt):List Rt:=(V2 (ddR l)).filter fun x=>!(ddR l).any fun r=>wkB s x r
theorem K0 (l:List Rt):∀ k,(Z4 (esN l k)).Nodup
 | 0=>YU
 | k+1=>S6 (K0 l k)
theorem Qax (l:List Rt) {x:Rt}:∀ k,k≤l.length→(x∈Z4 (esN l k)↔x∈l.take k)
 | 0,_=>by simp[esN,Z4]
 | k+1,h=>by
  have e:l.take (k+1)=l.take k++[l[k]!]:=by rw[JC,QI (by omega),getElem!_pos l k (by omega)];rfl
  rw[esN,put_mem,Qax l k (by omega),e,YV,WZ]
theorem Qdt (l:List Rt):∀ k,(esN l k).length≤k
 | 0=>QG _
 | k+1=>by have:=Qdt l k;rw[esN,putE];split <;> simp <;> omega
def HR (s:Sys) (es:List (Rt × Int)) (rs:List Rt):List (Rt × Int):=es.filter fun e=>!rs.any fun r=>wkB s e.1 r
def HS (s:Sys) (es:List (Rt × Int)) (r:Rt) (xs:List Rt):List (Rt × Int):=es.filter fun e=>!(decide (e.1∈xs)&&wkB s e.1 r)
theorem wipe_nil (s:Sys) (es:List (Rt × Int)):HR s es []=es:=by simp[HR]
theorem QeS (s:Sys) (es:List (Rt × Int)) (r:Rt):HS s es r []=es:=by simp[HS]
theorem QeT (s:Sys) (es:List (Rt × Int)) (r:Rt) (rs xs:List Rt) (h:∀ e∈HR s es rs,e.1∈xs):HS s (HR s es rs) r xs=HR s es (rs++[r]):=by
 unfold HS;have:(HR s es rs).filter (fun e=>!(decide (e.1∈xs)&&wkB s e.1 r))=(HR s es rs).filter fun e=>!wkB s e.1 r:=by apply JD;intro e he;have:=h e he;simp[this]
 rw[this];unfold HR;rw[List.filter_filter];apply JD;intro e _;simp[List.any_append,Bool.and_comm]
theorem QeR (s:Sys) (es:List (Rt × Int)) (r x:Rt) (xs:List Rt) (h:wkB s x r=true):delE (HS s es r xs) x=HS s es r (xs++[x]):=by
 unfold delE HS;rw[List.filter_filter];apply JD;intro e _;by_cases he:e.1=x
 ·subst he;simp[h]
 ·simp[he]
theorem wipe1_no (s:Sys) (es:List (Rt × Int)) (r x:Rt) (xs:List Rt) (h:wkB s x r=false):HS s es r xs=HS s es r (xs++[x]):=by
 unfold HS;apply JD;intro e _;by_cases he:e.1=x
 ·subst he;simp[h]
 ·simp[he]
theorem FX (k:Nat) (es:List (Rt × Int)):Z3 k (.map (mapE es))=true:=by
 simp only[Z3,Q1,QD];intro e he;simp only[mapE,ZP] at he;obtain ⟨x,_,rfl⟩:=he;exact ⟨rfl,rfl⟩
theorem RgOk.w {s:Sys} {r:Rt} (h:RgOk s r) (hn:s.cl.length≤12) (hm:s.co.length≤8):RgW r:=by
 have hb:=HF hm;obtain ⟨⟨h1,h2⟩,h3,h4⟩:=h;unfold setN at h4;exact ⟨by omega,by omega⟩
theorem ac67 (s:Sys) (hn12:s.cl.length≤12) (hm:s.co.length≤8) (l:List Rt) (hl:l.length<2 ^ 38) (hr:∀ r∈l,RgOk s r):AC Tryz.prog 111 [sysP s,rgL l] [] fun r τ=>AccS 2 τ r (XV s l).length ((XV s l).flatMap rgC):=by
 have hp2:(2:Nat) ^ 38=274877906944:=by decide
 have hbp:=HF hm;refine ZF (fok111 true) (QC rfl) ?_;have hkw:∀ k,k≤l.length→∀ r∈Z4 (esN l k),RgOk s r:=fun k hk r h=>hr r (List.mem_of_mem_take ((Qax l k hk).1 h))
 simp only[ic111,WI,cellsOf,KY,evA,simprocAttr];refine ZW l.length (fun i s'=>∃ v5 v12,(∀ k,QR k v5=true)∧s'=⟨[sysP s,rgL l,.ptr 0 0,.cv .nils,.ptr 2 0,v5,.undef,.undef,.undef,rgL l,.i l.length,.i i,v12,.undef,.undef,.undef,.undef,.undef],[.cells [sysP s],.map (mapE (esN l i)),.cells [.map 1]]⟩) ?_ 0 (QF _) ⟨_,_,fun _=>rfl,rfl⟩;rintro i s' hi ⟨v5,v12,hv5,rfl⟩;by_cases hin:i<l.length
 ·have hrw:RgW l[i]! := (hr _ (by rw[getElem!_pos l i hin];exact Q2 hin)).w hn12 hm;have hput:∀ J,JZ KR [.map 1,rgV l[i]!,.i i] (AObj.cells [sysP s] :: .map (mapE (esN l i))::J)=some (.undef,AObj.cells [sysP s] :: .map (mapE (esN l (i+1)))::J):=fun J =>
   map_put (K0 l i) (key_w fun r h=>(hkw i (by omega) r h).w hn12 hm) hrw rfl
  simp only[ic111l0,QJ,hin,L6 hin,S3 hin,hput,Q6 (show i+1<2 ^ 63 by omega),evA,simprocAttr];refine W1 [.cells [sysP s],.map (mapE (esN l (i+1))),.cells [.map 1]] _ rfl (by first | trivial | omega) (QF _) ?_ ⟨_,_,fun _=>rfl,rfl⟩;intro o ho;simp only[ZD,WK,or_false] at ho;rcases ho with rfl | rfl | rfl
  ·rfl
  ·exact FX _ _
  ·rfl
 have hin':i=l.length:=by omega
 subst hin';have hlen:=Qdt l l.length;have hnd:=K0 l l.length;have hkw2:=hkw l.length (QG _);have hdd:Z4 (esN l l.length)=ddR l:=rfl;generalize esN l l.length=es at *;simp only[ic111l0,QJ,hin,evA,simprocAttr];refine (c72 (es:=es) (by omega) rfl).run ?_;simp only[evA,simprocAttr];obtain ⟨K,hK⟩:∃ K,K=V2 (Z4 es):=⟨_,rfl⟩;rw[← hK];have hKl:K.length=es.length:=by rw[hK,EE];simp[Z4]
 have hKok:∀ r∈K,RgOk s r:=fun r h=>hkw2 r (by rw[hK] at h;exact VM.1 h)
 refine RW_s (gf:=171) (cap:=[.cv (.rp [.rsl (K.flatMap rgC) K.length] 0)]) rfl (QC rfl) (fun l h=>by cases h) ?_;generalize hRR:VJ _ _ _ _ _=R;simp only[evA,simprocAttr];have e1:R.vars=vs111:=by rw[← hRR];rfl
 have e2:R.ntmps=58:=by rw[← hRR];rfl
 have e3:R.params=[24]:=by rw[← hRR];rfl
 have e4:R.vals=[sysP s,rgL l,.ptr 0 0,.cv .nils,.ptr 2 0,v5,.undef,.undef,.undef,rgL l,.i l.length,.i l.length,.b false,TU K,.undef,.undef,.undef,.undef]:=by rw[← hRR];rfl
 have e5:R.state=.ready:=by rw[← hRR];rfl
 have e6:R.pending=none:=by rw[← hRR];rfl
 have e7:QL Tryz.prog vs111 58 R.assign=some Qdp:=by rw[← hRR];exact ca67a
 have e8:QL Tryz.prog vs111 58 R.body=some (Qdn (Tryz.f111.body.getD .skip)):=by rw[← hRR];exact cb67a
 have e9:({ { R with state:=.busy,pending:=none } with state:=.ready,pending:=none }:XC)=R:=by clear hRR;cases R;simp_all
 have eo:∀ k st p,3≤k→Z3 k (.loop { R with state:=st,pending:=p })=true:=fun k st p hk=>by have h1:decide (0<k)=true:=decide_eq_true (by omega);have h2:decide (2<k)=true:=decide_eq_true (by omega);show QO k R.vals=true;rw[e4];simp[QO,QR,hv5];omega
 clear hRR;have hwk:∀ rs,∀ e∈HR s es rs,e.1∈K:=fun rs e he=>by rw[hK,VM,Z4,ZP];exact ⟨e,(YB.1 he).1,rfl⟩
 refine (c118 K 3 (fun n τ=>τ=[.cells [sysP s],.map (mapE (HR s es (K.take n))),.cells [.map 1],.loop R]) [.cells [sysP s],.map (mapE es),.cells [.map 1],.loop R] (by omega) (by simp) (by rw[List.take_zero,wipe_nil]) ?_).mono ?_
 ·rintro n τ hn rfl _;have hst:K.take (n+1)=K.take n++[K[n]!]:=by rw[JC,QI hn,getElem!_pos K n hn];rfl
  have hkr:=hKok K[n]! (by rw[getElem!_pos K n hn];exact Q2 hn);rw[hst];generalize K[n]! = kr at *;obtain ⟨ez,hez⟩:∃ ez,ez=HR s es (K.take n):=⟨_,rfl⟩;have hzl:ez.length≤es.length:=by rw[hez];exact HC _ _
  have hzk:Z4 ez=(Z4 es).filter fun x=>!(K.take n).any fun r=>wkB s x r:=by rw[hez];exact RR (p:=fun x=>!(K.take n).any fun r=>wkB s x r) es
  have hznd:(Z4 ez).Nodup:=by rw[hzk];exact hnd.filter _
  have hzok:∀ r∈Z4 ez,RgOk s r:=fun r h=>hkw2 r (by rw[hzk] at h;exact (YB.1 h).1)
  refine QeH (r:=R) Qdp (Qdn (Tryz.f111.body.getD .skip)) rfl e5 (by rw[e3];rfl) (by rw[e1,e2,e3];rfl) (by rw[e1,e2];exact e7) (by rw[e1,e2];exact e8) ?_;rw[e1,e2,e3,e4,← hez];have x24:vs111.idxOf? 24=some 14:=by decide
  simp only[Qdp,JM,x24,Qam,evA,simprocAttr];refine ⟨R,rfl,e5,?_⟩;rw[e6];simp only[Qdn,setLoop,evA,simprocAttr];refine (c72 (es:=ez) (by omega) rfl).run ?_;simp only[evA,simprocAttr];obtain ⟨K2,hK2⟩:∃ K2,K2=V2 (Z4 ez):=⟨_,rfl⟩;rw[← hK2];have hK2l:K2.length=ez.length:=by rw[hK2,EE];simp[Z4]
  have hK2ok:∀ r∈K2,RgOk s r:=fun r h=>hzok r (by rw[hK2] at h;exact VM.1 h)
  refine RW_s (gf:=171) (cap:=[.cv (.rp [.rsl (K2.flatMap rgC) K2.length] 0)]) rfl (QC rfl) (fun l h=>by cases h;exact ⟨_,rfl⟩) ?_;generalize hRR2:VJ _ _ _ _ _=R2;simp only[evA,simprocAttr];have d1:R2.vars=vs111:=by rw[← hRR2];rfl
  have d2:R2.ntmps=58:=by rw[← hRR2];rfl
  have d3:R2.params=[27]:=by rw[← hRR2];rfl
  have d4:R2.vals=[sysP s,rgL l,.ptr 0 0,.cv .nils,.ptr 2 0,v5,.undef,.ptr 5 0,.undef,rgL l,.i l.length,.i l.length,.b false,TU K,rgV kr,TU K2,.undef,.undef]:=by rw[← hRR2];rfl
  have d5:R2.state=.ready:=by rw[← hRR2];rfl
  have d6:R2.pending=none:=by rw[← hRR2];rfl
  have d7:QL Tryz.prog vs111 58 R2.assign=some Qdo:=by rw[← hRR2];exact ca67b
  have d8:QL Tryz.prog vs111 58 R2.body=some Qdm:=by rw[← hRR2];exact cb67b
  have d9:({ { R2 with state:=.busy,pending:=none } with state:=.ready,pending:=none }:XC)=R2:=by clear hRR2;cases R2;simp_all
  have dO:∀ k,6≤k→Z3 k (.loop R2)=true:=fun k hk=>by show QO k R2.vals=true;rw[d4];simp[QO,QR,hv5];omega
  clear hRR2;obtain ⟨RB,hRB⟩:∃ RB:XC,RB = { R with state:=.busy,pending:=none }:=⟨_,rfl⟩;have hBo:∀ k,6≤k→Z3 k (.loop RB)=true:=fun k hk=>by rw[hRB];exact eo k _ _ (by omega)
  rw[← hRB];have hall2:∀ e∈ez,e.1∈K2:=fun e he=>by rw[hK2,VM,Z4,ZP];exact ⟨e,he,rfl⟩
  refine (c118 K2 6 (fun m τ=>τ=[.cells [sysP s],.map (mapE (HS s ez kr (K2.take m))),.cells [.map 1],.loop RB,.cells [.i kr.1,.i kr.2],.cells [.i kr.1,.i kr.2],.loop R2]) [.cells [sysP s],.map (mapE ez),.cells [.map 1],.loop RB,.cells [.i kr.1,.i kr.2],.cells [.i kr.1,.i kr.2],.loop R2] (by omega) (by simp) (by rw[List.take_zero,QeS]) ?_).mono ?_
  ·rintro m τ hm2 rfl _;have hst2:K2.take (m+1)=K2.take m++[K2[m]!]:=by rw[JC,QI hm2,getElem!_pos K2 m hm2];rfl
   have hkx:=hK2ok K2[m]! (by rw[getElem!_pos K2 m hm2];exact Q2 hm2);rw[hst2];generalize K2[m]! = kx at *;have hwy:=QeR s ez kr kx (K2.take m);have hwn:=wipe1_no s ez kr kx (K2.take m);have hwnd:(Z4 (HS s ez kr (K2.take m))).Nodup:=by
    have:Z4 (HS s ez kr (K2.take m))=(Z4 ez).filter fun x=>!(decide (x∈K2.take m)&&wkB s x kr):=RR (p:=fun x=>!(decide (x∈K2.take m)&&wkB s x kr)) ez
    rw[this];exact hznd.filter _
   have hwok:∀ r∈Z4 (HS s ez kr (K2.take m)),RgOk s r:=fun r h=>hzok r (by
    have:Z4 (HS s ez kr (K2.take m))=(Z4 ez).filter fun x=>!(decide (x∈K2.take m)&&wkB s x kr):=RR (p:=fun x=>!(decide (x∈K2.take m)&&wkB s x kr)) ez
    rw[this] at h;exact (YB.1 h).1)
   generalize HS s ez kr (K2.take m)=em at *;have hxw:=hkx.w hn12 hm;have hrw:=hkr.w hn12 hm;have hdel:∀ J,J0 KR [.map 1,rgV kx] (AObj.cells [sysP s] :: .map (mapE em)::J)=some (.tup [],AObj.cells [sysP s] :: .map (mapE (delE em kx))::J):=fun J =>
    map_del hwnd (key_w fun r h=>(hwok r h).w hn12 hm) hxw rfl
   have heq:∀ σ,OI true KR [rgV kx,rgV kr] σ=some (.b (!decide (kx=kr)),σ):=fun σ=>by simp only[OI,rg_eq hxw hrw,Option.map_some,if_true]
   refine QeH (r:=R2) Qdo Qdm rfl d5 (by rw[d3];rfl) (by rw[d1,d2,d3];rfl) (by rw[d1,d2];exact d7) (by rw[d1,d2];exact d8) ?_;rw[d1,d2,d3,d4];have x27:vs111.idxOf? 27=some 16:=by decide
   simp only[Qdo,JM,x27,Qam,evA,simprocAttr];refine ⟨R2,rfl,d5,?_⟩;rw[d6];simp only[Qdm,setLoop,evA,simprocAttr];refine DW_s [] [] hmix (by kernel_rfl) rfl ?_;obtain ⟨⟨x1,x2⟩,x3,x4⟩:=hkx;obtain ⟨⟨r1,r2⟩,r3,r4⟩:=hkr;have x4':kx.2<256:=by unfold setN at x4;omega
   have r4':kr.2<256:=by unfold setN at r4;omega
   obtain ⟨c,hc⟩:∃ c:Nat,kr.1=(c:Int):=⟨kr.1.toNat,by omega⟩;obtain ⟨d,hd⟩:∃ d:Nat,kx.1=(d:Int):=⟨kx.1.toNat,by omega⟩;have hcl:c<s.cl.length:=by omega
   have hdl:d<s.cl.length:=by omega
   have hsub:=sub_wrap (a:=kr.2) (b:=kx.2) ⟨r3,r4'⟩ ⟨x3,by omega⟩;have hwk1:wkB s kx kr=(!decide (kx=kr)&&(covB s c d&&(subI kr.2 kx.2 == 0))):=by unfold wkB;rw[hc,hd,Int.toNat_natCast,Int.toNat_natCast]
   have clo:∀ em':List (Rt × Int),∀ o∈[AObj.cells [sysP s],.map (mapE em'),.cells [.map 1],.loop RB,.cells [.i kr.1,.i kr.2],.cells [.i kr.1,.i kr.2],.loop R2],Z3 7 o=true:=fun em' o ho=>by
    simp only[ZD,WK,or_false] at ho;rcases ho with rfl | rfl | rfl | rfl | rfl | rfl | rfl
    ·rfl
    ·exact FX _ _
    ·rfl
    ·exact hBo 7 (by omega)
    ·rfl
    ·rfl
    ·exact dO 7 (by omega)
   simp only[heq,evA,simprocAttr];cases hdc:decide (kx=kr) with
   | true =>
    rw[hdc] at hwk1;have hw0:=hwn hwk1;simp only[Y2,P0,evA,simprocAttr];refine ⟨_,rfl,?_⟩;simp only[setLoop,evA,simprocAttr];rw[d9];exact ⟨[.cells [sysP s],.map (mapE em),.cells [.map 1],.loop RB,.cells [.i kr.1,.i kr.2],.cells [.i kr.1,.i kr.2],.loop R2],_,rfl,QC rfl,.inr (clo em),by rw[← hw0]⟩
   | false =>
   rw[hdc] at hwk1;simp only[ZY,hc,hd,XP hcl,W3,FD hcl,P1 hdl,DN hdl,evA,simprocAttr];cases hcv:covB s c d with
   | false =>
    rw[hcv] at hwk1;have hw0:=hwn hwk1;simp only[P0,evA,simprocAttr];refine ⟨_,rfl,?_⟩;simp only[setLoop,evA,simprocAttr];rw[d9];exact ⟨[.cells [sysP s],.map (mapE em),.cells [.map 1],.loop RB,.cells [.i kr.1,.i kr.2],.cells [.i kr.1,.i kr.2],.loop R2],_,by rw[hc];rfl,QC rfl,.inr (clo em),by rw[← hw0]⟩
   | true =>
   rw[hcv] at hwk1;simp only[hsub,evA,simprocAttr];cases hsb:(subI kr.2 kx.2 == 0) with
   | false =>
    rw[hsb] at hwk1;have hw0:=hwn hwk1;simp only[P0,evA,simprocAttr];refine ⟨_,rfl,?_⟩;simp only[setLoop,evA,simprocAttr];rw[d9];exact ⟨[.cells [sysP s],.map (mapE em),.cells [.map 1],.loop RB,.cells [.i kr.1,.i kr.2],.cells [.i kr.1,.i kr.2],.loop R2],_,by rw[hc];rfl,QC rfl,.inr (clo em),by rw[← hw0]⟩
   | true =>
    rw[hsb] at hwk1;have hw0:=hwy hwk1;have hdel':∀ J,J0 KR [.map 1,.agg [.i d,.i kx.2]] (AObj.cells [sysP s] :: .map (mapE em)::J)=some (.tup [],AObj.cells [sysP s] :: .map (mapE (delE em kx))::J):=fun J=>by rw[← hd];exact hdel J
    simp only[hdel',P0,evA,simprocAttr];refine ⟨_,rfl,?_⟩;simp only[setLoop,evA,simprocAttr];rw[d9];exact ⟨[.cells [sysP s],.map (mapE (delE em kx)),.cells [.map 1],.loop RB,.cells [.i kr.1,.i kr.2],.cells [.i kr.1,.i kr.2],.loop R2],_,by rw[hc];rfl,QC rfl,.inr (clo _),by rw[← hw0]⟩
  ·rintro r τ ⟨rfl,rfl⟩;refine ⟨R2,rfl,(by rw[d5];intro h;cases h),?_⟩;rw[d6];simp only[setLoop,P0,evA,simprocAttr];refine ⟨RB,rfl,?_⟩;rw[hRB];simp only[evA,simprocAttr];rw[e9];have hw1:HS s ez kr (K2.take K2.length)=HR s es (K.take n++[kr]):=by
    rw[X7,hez];exact QeT s es kr (K.take n) K2 (by rw[← hez];exact hall2)
   refine ⟨[.cells [sysP s],.map (mapE (HS s ez kr (K2.take K2.length))),.cells [.map 1],.loop R],_,rfl,QC rfl,.inr ?_,by rw[hw1]⟩;intro o ho;simp only[ZD,WK,or_false] at ho;rcases ho with rfl | rfl | rfl | rfl
   ·rfl
   ·exact FX _ _
   ·rfl
   ·rw[← e9];exact eo 4 _ _ (by omega)
 ·rintro r τ ⟨rfl,rfl⟩;refine ⟨R,rfl,(by rw[e5];intro h;cases h),?_⟩;rw[e6,X7];have hwl:(HR s es K).length≤es.length:=HC _ _;have hfin:V2 (Z4 (HR s es K))=XV s l:=by
   have h1:Z4 (HR s es K)=(ddR l).filter fun x=>!(ddR l).any fun r=>wkB s x r:=by
    have:Z4 (HR s es K)=(Z4 es).filter fun x=>!K.any fun r=>wkB s x r:=RR (p:=fun x=>!K.any fun r=>wkB s x r) es
    rw[this,hdd];apply JD;intro x _;congr 1;rw[Q8,ZZ,ZZ];constructor <;> rintro ⟨r,h1,h2⟩ <;> refine ⟨r,?_,h2⟩
    ·rw[hK,VM,hdd] at h1;exact h1
    ·rw[hK,VM,hdd];exact h1
   rw[h1];exact (EF ((H0 _).filter _) ((GY _).filter _)).symm
  simp only[setLoop,evA,simprocAttr];refine (c72 (es:=HR s es K) (by omega) rfl).run ?_;rw[hfin];have hfl:(XV s l).length<2 ^ 38:=by rw[← hfin,EE];show ((HR s es K).map (·.1)).length<_;rw[ZK];omega
  simp only[evA,simprocAttr];refine (ac71 (XV s l) hfl _).mono ?_;intro r τ hA;have hnu:=hA.nu;simp only[hnu,evA,simprocAttr];exact hA
def lstV (s:Sys) (l:List Rt):AV :=
 if rdE s (sysE s).2.2 [l]≠0 then .tup [rgL [],.i (rdE s (sysE s).2.2 [l])] else .tup [rgL (XV s l),.i 0]
theorem p31 (s:Sys) (hs:SSz s) (l:List Rt) (hl:l.length<2 ^ 63):PC Tryz.prog 54 [sysV s,rgL l] (lstV s l):=by
 refine ⟨ZF (fok54 true) (QC rfl) ?_,by unfold lstV;repeat (split <;> try rfl)⟩;have h63:=fun σ l0 h0=>c63 s hs [l] (by simpa using hl) (by simp) σ l0 h0
 have hdec:=Qcd (s:=s) (l:=l);have hn0:=QaV (s:=s);have hQ:(sysQ s).isUndef=false:=by unfold sysQ;split <;> rfl
 have hQP:(sysE s).2.2=0→sysQ s=sysP s:=fun h=>if_pos h
 unfold lstV;generalize rdE s (sysE s).2.2 [l]=e at *;by_cases he:e=0
 rotate_left
 ·have hb:(e != 0)=true:=by simpa using he
  rw[if_pos he];simp only[ic54,WI,cellsOf,evA,simprocAttr];refine (h63 _ 1 rfl).run ?_;generalize sysQ s=Q at *;simp only[hQ,hb,evA,simprocAttr];exact .tup (.cons (.c .nl) (.cons (.c (.c _ trivial)) .nil))
 have hb2:(e != 0)=false:=by simpa using he
 obtain ⟨k1,k2⟩:=hdec he;obtain ⟨⟨hn1,hn12⟩,hm,hok⟩:=hn0 k1;obtain ⟨hl40,hr⟩:=ML k2;rw[if_neg (show ¬ (e≠0) from fun h=>h he)];rw[hQP k1] at h63;simp only[ic54,WI,cellsOf,evA,simprocAttr];refine (h63 _ 1 rfl).run ?_;simp only[hb2,evA,simprocAttr];refine ((ac67 s hn12 hm l (by omega) hr).accs rfl (fun g=>rfl) _).mono ?_;intro r τ hA;have hnu:=hA.nu;simp only[hnu,evA,simprocAttr];exact .tup (.cons (GI hA (MN _)) (.cons (.c (.c _ trivial)) .nil))
section
variable {p q:CV→Prop} {σ:List AObj}
mutual
theorem FrzC.mono (h:∀ c,p c→q c):∀ {a:AV} {c:CV},FrzC p σ a c→FrzC q σ a c
 | _,_,.c c hc=>.c c (h c hc)
 | _,_,.nl=>.nl
 | _,_,.sl l off len esz cs ds h1 h2 h3=>.sl l off len esz cs ds h1 h2 (HL.mono h h3)
 | _,_,.ptr l off cs ds h1 h2=>.ptr l off cs ds h1 (HL.mono h h2)
 | _,_,.slc l off len cap esz cs ds h1 h2 h3=>.slc l off len cap esz cs ds h1 h2 (HL.mono h h3)
theorem HL.mono (h:∀ c,p c→q c):∀ {as_:List AV} {cs:List CV},HL p σ as_ cs→HL q σ as_ cs
 | _,_,.nil=>.nil
 | _,_,.cons h1 h2=>.cons (FrzC.mono h h1) (HL.mono h h2)
end
mutual
theorem FrzV.mono (h:∀ c,p c→q c):∀ {a b:AV},FrzV p σ a b→FrzV q σ a b
 | _,_,.c h1=>.c (FrzC.mono h h1)
 | _,_,.agg h1=>.agg (KS.mono h h1)
 | _,_,.tup h1=>.tup (KS.mono h h1)
 | _,_,.fn h1=>.fn (KS.mono h h1)
 | _,_,.bm h1=>.bm (KS.mono h h1)
 | _,_,.un a=>.un a
theorem KS.mono (h:∀ c,p c→q c):∀ {as_ bs:List AV},KS p σ as_ bs→KS q σ as_ bs
 | _,_,.nil=>.nil
 | _,_,.cons h1 h2=>.cons (FrzV.mono h h1) (KS.mono h h2)
end
end
structure T3 (s:Sys) (es:List (Rt × Int)) (L:List Rt):Prop where
 nd:(Z4 es).Nodup
 mem:∀ x,x∈Z4 es↔x∈L
 ok:∀ x∈L,RgOk s x
theorem T3.len {s:Sys} {es:List (Rt × Int)} {L:List Rt} (h:T3 s es L):es.length≤L.length:=by
 have h1:=h.nd.length_le_of_subset (l₂:=L) fun x hx=>(h.mem x).1 hx
 have:(Z4 es).length=es.length:=by simp[Z4]
 omega
def rowL (l:List Rt) (c k:Nat):List Rt:=(List.range k).flatMap fun j:Nat=>if decide (((c:Int),(j:Int))∈l) then [((c:Int),(j:Int))] else []
theorem Qd8 {n:Nat} (h:n<2 ^ 40) (σ:List AObj):XB 1 24 [.cv .nils] [.i n,.i n] σ=some (.sl σ.length 0 n 1,σ++[.cells (List.replicate n (.cv .nils))]):=by
 have e:(2:Int) ^ 46=70368744177664:=by decide
 have e2:(2:Nat) ^ 40=1099511627776:=by decide
 have h1:0≤(n:Int)∧True∧(n:Int)*(24:Nat)≤2 ^ 46∧(n:Int)≤2 ^ 46∧[AV.cv .nils].length=1:=by refine ⟨by omega,trivial,by omega,by omega,rfl⟩
 simp only[XB];rw[if_pos h1];simp[YW]
def bitsR (L:List Rt) (N c:Nat):List Bool:=(List.range N).map fun k:Nat=>decide (((c:Int),(k:Int))∈L)
theorem c45 (a b:List Int) (ha:a.length<2 ^ 63) (hb:b.length<2 ^ 63):PC Tryz.prog 32 [ints a,ints b] (.b (decide (a=b))):=by
 refine ⟨ZF (fok32 true) (QC rfl) ?_,rfl⟩;by_cases hlen:a.length=b.length
 rotate_left
 ·have hd:decide (a=b)=false:=decide_eq_false fun h=>hlen (by rw[h])
  have hb1:((a.length:Int) != (b.length:Int))=true:=by simp;omega
  rw[hd];simp only[ic32,hb1,evA,simprocAttr];exact frz
 have hb1:((a.length:Int) != (b.length:Int))=false:=by simp;omega
 simp only[ic32,hb1,evA,simprocAttr];refine ZW a.length (fun i s'=>(∀ j,j<i→a[j]?.getD 0=b[j]?.getD 0)∧∃ v5 v6,s'=⟨[ints a,ints b,.b false,.i i,.b false,v5,v6],[]⟩) ?_ 0 (QF _) ⟨by omega,_,_,rfl⟩;rintro i s' hi ⟨hall,v5,v6,rfl⟩;by_cases h:i<a.length
 ·have h':i<b.length:=by omega
  simp only[ic32l0,QJ,h,evA,simprocAttr];refine DW_s [] [] hmix (by kernel_rfl) rfl ?_;simp only[h,h',evA,simprocAttr];cases he:(a[i]?.getD 0 != b[i]?.getD 0) with
  | true =>
   have hd:decide (a=b)=false:=decide_eq_false fun hh=>by rw[hh] at he;simp at he
   rw[hd];simp only[evA,simprocAttr];exact frz
  | false =>
   simp only[Q6 (show i+1<2 ^ 63 by omega),evA,simprocAttr];refine ZL (by first | trivial | omega) ⟨fun j hj=>?_,_,_,rfl⟩;rcases QQ.1 hj with hj | rfl
   ·exact hall j hj
   ·simpa using he
 ·have hd:decide (a=b)=true:=decide_eq_true (by
   apply Y1 hlen;intro j h1 h2;have:=hall j (by omega)
   rwa [QI h1,QI h2] at this)
  rw[hd];simp only[ic32l0,QJ,h,evA,simprocAttr];exact frz
def exS:Sys:=⟨[⟨bts [97,109],[],-1,16,0⟩,⟨bts [98],[0],-1,18,15⟩,⟨bts [98,101],[1],1,18,15⟩,⟨bts [99],[1],1,21,5⟩],[bts [109,97,110,117,97,108],bts [110,105,103,104,116]]⟩
theorem c43:PC Tryz.prog 119 [] (sysV exS):=by
 refine ⟨ZF (fok119 true) (QC rfl) ?_,rfl⟩;simp only[ic119,evA,simprocAttr];have C:∀ {σ:List AObj} {c:CV},scl c→FrzC scl σ (.cv c) c:=fun h=>.c _ h
 refine .agg (.cons (.c (.sl 4 0 4 5 _ _ rfl (QC rfl) ?_)) (.cons (.c (.sl 5 0 2 1 _ _ rfl (QC rfl) ?_)) .nil))
 ·refine .cons (C trivial) (.cons .nl (.cons (C trivial) (.cons (C trivial) (.cons (C trivial) (.cons (C trivial) (.cons (.sl 1 0 1 1 _ _ rfl (QC rfl) (.cons (C trivial) .nil)) (.cons (C trivial) (.cons (C trivial) (.cons (C trivial) (.cons (C trivial) (.cons (.sl 2 0 1 1 _ _ rfl (QC rfl) (.cons (C trivial) .nil)) (.cons (C trivial) (.cons (C trivial) (.cons (C trivial) (.cons (C trivial) (.cons (.sl 3 0 1 1 _ _ rfl (QC rfl) (.cons (C trivial) .nil)) (.cons (C trivial) (.cons (C trivial) (.cons (C trivial) .nil)))))))))))))))))))
 ·exact .cons (C trivial) (.cons (C trivial) .nil)
end Go.Proofs.YtgkidpolomhghaaGreatDoor.AM
namespace Go.Proofs.YtgkidpolomhghaaGreatDoor.Pl
def cnt:Nat→(Nat→Bool)→Nat
 | 0,_=>0
 | n+1,P=>cnt n P+(if P n then 1 else 0)
theorem cnt_mono {n:Nat} {P Q:Nat→Bool} (h:∀ i,i<n→P i=true→Q i=true):cnt n P≤cnt n Q:=by
 induction n with
 | zero=>exact QG _
 | succ n ih =>
  have h1:=ih (fun i hi=>h i (by omega));have h2:=h n (by omega);simp only[cnt];by_cases hp:P n=true
  ·simp only[hp,h2 hp,if_true];omega
  ·rw[if_neg hp];split <;> omega
theorem K1 {n:Nat} {P Q:Nat→Bool} (h:∀ i,i<n→P i=Q i):cnt n P=cnt n Q :=
 Nat.le_antisymm (cnt_mono fun i hi e=>by rw[← h i hi];exact e) (cnt_mono fun i hi e=>by rw[h i hi];exact e)
theorem cnt_lt {n:Nat} {P Q:Nat→Bool} (h:∀ i,i<n→P i=true→Q i=true) {k:Nat} (hk:k<n) (h1:P k=false) (h2:Q k=true):cnt n P+1≤cnt n Q:=by
 induction n with
 | zero=>omega
 | succ n ih =>
  simp only[cnt];by_cases hkn:k=n
  ·subst hkn;have:=cnt_mono (n:=k) (fun i hi=>h i (by omega));simp only[h1,h2,if_true];simp;omega
  ·have h3:=ih (fun i hi=>h i (by omega)) (by omega);by_cases hp:P n=true
   ·simp only[hp,h n (by omega) hp,if_true];omega
   ·rw[if_neg hp];split <;> omega
theorem P7 {n:Nat} {P:Nat→Bool}:cnt n P≤n:=by
 induction n with
 | zero=>exact QG _
 | succ n ih=>simp only[cnt];split <;> omega
theorem M5 {n:Nat} {P:Nat→Bool} (h:0<cnt n P):∃ k,k<n∧P k=true:=by
 induction n with
 | zero=>simp[cnt] at h
 | succ n ih =>
  by_cases hp:P n=true
  ·exact ⟨n,by omega,hp⟩
  ·simp only[cnt,hp] at h;obtain ⟨k,hk,h1⟩:=ih (by simpa using h);exact ⟨k,by omega,h1⟩
theorem KN {n:Nat} {P:Nat→Bool} (h:∀ i,i<n→P i=false):cnt n P=0:=by
 by_cases h0:0<cnt n P
 ·obtain ⟨k,hk,h1⟩:=M5 h0;rw[h k hk] at h1;exact absurd h1 (by decide)
 ·omega
theorem cnt_one {n:Nat} {P Q:Nat→Bool} (h:∀ i k,i<n→k<n→P i=false→Q i=true→P k=false→Q k=true→i=k):cnt n Q≤cnt n P+1:=by
 induction n with
 | zero=>simp[cnt]
 | succ n ih =>
  simp only[cnt];by_cases hq:Q n=true
  ·by_cases hp:P n=true
   ·have:=ih (fun i k hi hk=>h i k (by omega) (by omega));simp only[hq,hp,if_true];omega
   ·have hp:P n=false:=by simpa using hp
    have:cnt n Q≤cnt n P:=by
     apply cnt_mono;intro i hi hqi;cases hpi:P i with
     | true=>rfl
     | false=>exact absurd (h i n (by omega) (by omega) hpi hqi hp hq) (by omega)
    simp only[hq,hp,if_true];simp;omega
  ·have:=ih (fun i k hi hk=>h i k (by omega) (by omega));rw[if_neg hq];split <;> omega
theorem JU {n:Nat} {P Q:Nat→Bool} {x:Nat} (hx:x<n) (h1:P x=false) (h2:Q x=true) (h:∀ i,i<n→i≠x→P i=Q i):cnt n Q=cnt n P+1:=by
 have a:=cnt_lt (P:=P) (Q:=Q) (n:=n) (fun i hi hp=>by
  by_cases e:i=x
  ·subst e;exact h2
  ·rw[← h i hi e];exact hp) hx h1 h2
 have b:=cnt_one (P:=P) (Q:=Q) (n:=n) (fun i k hi hk p1 q1 p2 q2=>by
  have e1:i=x:=by
   by_cases e:i=x
   ·exact e
   ·rw[h i hi e,q1] at p1;exact absurd p1 (by decide)
  have e2:k=x:=by
   by_cases e:k=x
   ·exact e
   ·rw[h k hk e,q2] at p2;exact absurd p2 (by decide)
  rw[e1,e2])
 omega
theorem G6 {m:Nat}:∀ {n:Nat} {P Q:Nat→Bool} (f:Nat→Nat),(∀ i,i<n→P i=true→f i<m∧Q (f i)=true)→(∀ i j,i<n→j<n→P i=true→P j=true→f i=f j→i=j)→cnt n P≤cnt m Q
 | 0,P,Q,f,_,_=>by simp[cnt]
 | n+1,P,Q,f,h1,h2=>by
  have ih:=fun (Q':Nat→Bool) h=>G6 (m:=m) (n:=n) (P:=P) (Q:=Q') f h fun i j hi hj=>h2 i j (by omega) (by omega)
  simp only[cnt];by_cases hp:P n=true
  ·obtain ⟨a,b⟩:=h1 n (by omega) hp;have:=ih (fun k=>Q k && !(k == f n)) fun i hi hpi=>by
    obtain ⟨c,d⟩:=h1 i (by omega) hpi;refine ⟨c,?_⟩;have:f i≠f n:=fun e=>by have:=h2 i n (by omega) (by omega) hpi hp e;omega
    simp[d,this]
   have h3:=JU (n:=m) (P:=fun k=>Q k && !(k == f n)) (Q:=Q) (x:=f n) a (by simp) b fun i _ hne=>by simp[hne]
   rw[if_pos hp];omega
  ·rw[if_neg hp];exact ih Q fun i hi=>h1 i (by omega)
theorem cnt_two {n:Nat} {P:Nat→Bool} {i j:Nat} (hi:i<n) (hj:j<n) (h1:P i=true) (h2:P j=true) (hne:i≠j):2≤cnt n P:=by
 have:=G6 (n:=2) (m:=n) (P:=fun _=>true) (Q:=P) (fun x=>if x=0 then i else j) (fun x hx _=>by split <;> simp[*]) (fun x y hx hy _ _ e=>by by_cases a:x=0 <;> by_cases b:y=0 <;> simp[a,b] at e <;> omega)
 simpa[cnt] using this
theorem ES {n:Nat} (P Q:Nat→Bool):cnt n P=cnt n (fun k=>P k&&Q k)+cnt n (fun k=>P k && !Q k):=by
 induction n with
 | zero=>rfl
 | succ n ih =>
  simp only[cnt,ih];have key:∀ a b:Bool,(if a=true then 1 else 0)=(if (a&&b)=true then 1 else 0)+(if (a && !b)=true then 1 else 0):=by decide
  have:=key (P n) (Q n);omega
def HV:Nat→(Nat→Nat)→Nat→Nat
 | 0,_,b=>b
 | k+1,f,b=>max (HV k f b) (f k)
theorem TL:∀ {n:Nat} {f:Nat→Nat} {b:Nat},b≤HV n f b
 | 0,_,_=>QG _
 | n+1,f,b=>by have:=TL (n:=n) (f:=f) (b:=b);simp only[HV];omega
theorem QcJ:∀ {n:Nat} {f:Nat→Nat} {b k:Nat},k<n→f k≤HV n f b
 | n+1,f,b,k,h=>by
  simp only[HV];by_cases e:k=n
  ·subst e;omega
  ·have:=QcJ (n:=n) (f:=f) (b:=b) (k:=k) (by omega);omega
theorem I1:∀ {n:Nat} {f:Nat→Nat} {b:Nat},HV n f b=b∨∃ k,k<n∧HV n f b=f k
 | 0,_,_=>.inl rfl
 | n+1,f,b=>by
  simp only[HV];rcases Nat.le_total (f n) (HV n f b) with h | h
  ·rw[Nat.max_eq_left h];rcases I1 (n:=n) (f:=f) (b:=b) with h | ⟨k,hk,h⟩
   ·exact .inl h
   ·exact .inr ⟨k,by omega,h⟩
  ·rw[Nat.max_eq_right h];exact .inr ⟨n,by omega,rfl⟩
section
variable (can:Nat→Nat→Bool) (n:Nat)
def prF:Nat→Nat→(Nat→Bool)→Nat
 | 0,_,_=>0
 | m+1,i,B=>HV n (fun k=>if can i k && !B k then 1+prF m (i+1) (fun j=>B j||j == k) else 0) (prF m (i+1) B)
structure Mat (i:Nat) (B:Nat→Bool) (g:Nat→Option Nat):Prop where
 ok:∀ l k,i≤l→l<n→g l=some k→k<n∧can l k=true∧B k=false
 inj:∀ l l' k,i≤l→l<n→i≤l'→l'<n→g l=some k→g l'=some k→l=l'
def UL (i:Nat) (g:Nat→Option Nat):Nat:=cnt n fun l=>decide (i≤l)&&(g l).isSome
variable {can n}
theorem I3 {i:Nat} {g:Nat→Option Nat} (h:g i=none):UL n i g=UL n (i+1) g :=
 K1 fun l _=>by
  by_cases e:l=i
  ·subst e;simp[h]
  ·have:decide (i≤l)=decide (i+1≤l):=by rw[decide_eq_decide];omega
   rw[this]
theorem I2 {i k:Nat} {g:Nat→Option Nat} (hi:i<n) (h:g i=some k):UL n i g=UL n (i+1) g+1 :=
 JU hi (by simp;omega) (by simp[h]) fun l _ hne=>by
  have:decide (i≤l)=decide (i+1≤l):=by rw[decide_eq_decide];omega
  rw[this]
theorem PV:∀ (m i:Nat) (B:Nat→Bool) (g:Nat→Option Nat),i+m=n→Mat can n i B g→UL n i g≤prF can n m i B
 | 0,i,B,g,hm,h=>by simp only[prF,UL];rw[KN fun l hl=>by simp;omega];exact QG _
 | m+1,i,B,g,hm,h=>by
  simp only[prF];cases hg:g i with
  | none =>
   rw[I3 hg];refine YR (PV m (i+1) B g (by omega) ⟨fun l k h1 h2=>h.ok l k (by omega) h2,fun l l' k h1 h2 h3 h4=>h.inj l l' k (by omega) h2 (by omega) h4⟩) TL
  | some k =>
   obtain ⟨hk,hc,hb⟩:=h.ok i k (QG _) (by omega) hg;rw[I2 (by omega) hg];have h1:=PV m (i+1) (fun j=>B j||j == k) g (by omega) ⟨fun l k' h1 h2 h3=>by
    obtain ⟨a,b,c⟩:=h.ok l k' (by omega) h2 h3;refine ⟨a,b,?_⟩;have:k'≠k:=fun e=>by subst e;have:=h.inj l i k' (by omega) h2 (QG _) (by omega) h3 hg;omega
    simp[c,this],fun l l' k h1 h2 h3 h4=>h.inj l l' k (by omega) h2 (by omega) h4⟩
   refine YR ?_ (QcJ hk);simp only[hc,hb,ZY,Bool.and_self,if_true];omega
theorem TE:∀ (m i:Nat) (B:Nat→Bool),i+m=n→∃ g,Mat can n i B g∧UL n i g=prF can n m i B
 | 0,i,B,hm=>⟨fun _=>none,⟨fun l k h1 h2 h3=>(by cases h3),fun l l' k _ _ _ _ h3=>(by cases h3)⟩,by simp only[prF,UL];exact KN fun l _=>by simp⟩
 | m + 1,i,B,hm=>by
  simp only[prF];rcases I1 (n:=n) (f:=fun k=>if can i k && !B k then 1+prF can n m (i+1) (fun j=>B j||j == k) else 0) (b:=prF can n m (i+1) B) with h | ⟨k,hk,h⟩
  ·rw[h];obtain ⟨g,hg,hs⟩:=TE m (i+1) B (by omega);refine ⟨fun l=>if l=i then none else g l,⟨fun l k h1 h2 h3=>?_,fun l l' k h1 h2 h3 h4 h5 h6=>?_⟩,?_⟩
   ·by_cases e:l=i
    ·simp[e] at h3
    ·simp only[e,if_false] at h3;exact hg.ok l k (by omega) h2 h3
   ·by_cases e:l=i
    ·simp[e] at h5
    ·by_cases e':l'=i
     ·simp[e'] at h6
     ·simp only[e,e',if_false] at h5 h6;exact hg.inj l l' k (by omega) h2 (by omega) h4 h5 h6
   ·rw[I3 (by simp),← hs];exact K1 fun l _=>by
     by_cases e:l=i
     ·subst e;simp;intro h;omega
     ·simp[e]
  ·rw [h];by_cases hc:(can i k && !B k)=true
   ·rw[if_pos hc];simp only[QD,Z0] at hc;obtain ⟨g,hg,hs⟩:=TE m (i+1) (fun j=>B j||j == k) (by omega);have hgk:∀ l,i<l→l<n→g l≠some k:=fun l h1 h2 h3=>by
     have:=(hg.ok l k (by omega) h2 h3).2.2;simp at this
    refine ⟨fun l=>if l=i then some k else g l,⟨fun l k' h1 h2 h3=>?_,fun l l' k' h1 h2 h3 h4 h5 h6=>?_⟩,?_⟩
    ·by_cases e:l=i
     ·simp only[e,if_true,Option.some.injEq] at h3;subst h3;subst e;exact ⟨hk,hc.1,hc.2⟩
     ·simp only[e,if_false] at h3;obtain ⟨a,b,c⟩:=hg.ok l k' (by omega) h2 h3;simp only[X8] at c;exact ⟨a,b,c.1⟩
    ·by_cases e:l=i <;> by_cases e':l'=i <;> simp only[e,e',if_true,if_false,Option.some.injEq] at h5 h6
     ·omega
     ·subst h5;exact absurd h6 (hgk l' (by omega) h4)
     ·subst h6;exact absurd h5 (hgk l (by omega) h2)
     ·exact hg.inj l l' k' (by omega) h2 (by omega) h4 h5 h6
    ·rw[I2 (by omega) (k:=k) (by simp),Nat.add_comm 1,← hs];congr 1;exact K1 fun l _=>by
      by_cases e:l=i
      ·subst e;simp;intro h;omega
      ·simp[e]
   ·rw[if_neg hc];obtain ⟨g,hg,hs⟩:=TE m (i+1) B (by omega);have:prF can n m (i+1) B≤0:=by rw[if_neg hc] at h;rw[← h];exact TL
    refine ⟨fun l=>none,⟨fun l k h1 h2 h3=>(by cases h3),fun l l' k _ _ _ _ h3=>(by cases h3)⟩,KN fun l _=>by simp⟩
theorem AF {i:Nat} {B C D:Nat→Bool} {g:Nat→Option Nat} (h:Mat can n i B g) (hc:∀ l k,i≤l→l<n→k<n→can l k=true→B k=false→C l=true∨D k=true):UL n i g≤cnt n C+cnt n D:=by
 unfold UL;rw[ES _ C];refine Nat.add_le_add (cnt_mono fun l _ hl=>?_) (G6 (fun l=>(g l).getD 0) (fun l hl hp=>?_) fun l l' hl hl' hp hp' e=>?_)
 ·simp only[QD] at hl;exact hl.2
 ·simp only[QD,decide_eq_true_eq,Option.isSome_iff_exists,Z0] at hp;obtain ⟨⟨h1,k,h2⟩,h3⟩:=hp;obtain ⟨a,b,c⟩:=h.ok l k h1 hl h2;rw[h2];refine ⟨a,?_⟩;rcases hc l k h1 hl a b c with h4 | h4
  ·rw[h4] at h3;cases h3
  ·exact h4
 ·simp only[QD,decide_eq_true_eq,Option.isSome_iff_exists,Z0] at hp hp';obtain ⟨⟨h1,k,h2⟩,_⟩:=hp;obtain ⟨⟨h1',k',h2'⟩,_⟩:=hp';rw[h2,h2'] at e;simp only[Option.getD_some] at e;subst e;exact h.inj l l' k h1 hl h1' hl' h2 h2'
end
structure Ku where
 seen:List Bool
 bef:List Int
abbrev gI (l:List Int) (k:Nat):Int:=l[k]?.getD 0
abbrev gB (l:List Bool) (k:Nat):Bool:=l[k]?.getD false
theorem JO {l:List Int} {k j:Nat} {v:Int} (hk:k<l.length):gI (l.set k v) j=if j=k then v else gI l j:=by
 unfold gI;by_cases e:j=k
 ·subst e;simp[hk]
 ·rw[if_neg e,QU (Ne.symm e)]
theorem DF {l:List Bool} {k j:Nat} {v:Bool} (hk:k<l.length):gB (l.set k v) j=if j=k then v else gB l j:=by
 unfold gB;by_cases e:j=k
 ·subst e;simp[hk]
 ·rw[if_neg e,QU (Ne.symm e)]
def UC (can:Nat→Nat→Bool) (told:List Int) (mv:Nat→Ku→Bool × Ku) (i:Nat):Nat→Nat→Ku→Bool × Ku
 | 0,_,s=>(false,s)
 | m+1,k,s =>
  if can i k=true∧gB s.seen k=false∧gI told k<0 then
   if gI s.bef k<0 then (true,⟨s.seen.set k true,s.bef.set k i⟩)
   else if (mv (gI s.bef k).toNat ⟨s.seen.set k true,s.bef⟩).1=true then (true,⟨(mv (gI s.bef k).toNat ⟨s.seen.set k true,s.bef⟩).2.seen,(mv (gI s.bef k).toNat ⟨s.seen.set k true,s.bef⟩).2.bef.set k i⟩)
   else UC can told mv i m (k+1) (mv (gI s.bef k).toNat ⟨s.seen.set k true,s.bef⟩).2
  else UC can told mv i m (k+1) s
def VE (can:Nat→Nat→Bool) (told:List Int) (n:Nat):Nat→Nat→Ku→Bool × Ku
 | 0,_,s=>(false,s)
 | f+1,i,s=>UC can told (VE can told n f) i n 0 s
inductive Aug (E:Nat→Nat→Prop) (b:List Int):Nat→List Int→Prop
 | last {i k:Nat}:k<b.length→E i k→gI b k<0→Aug E b i (b.set k i)
 | step {i k l:Nat} {b1:List Int}:k<b.length→E i k→gI b k=(l:Int)→Aug E b l b1→gI b1 k=(l:Int)→Aug E b i (b1.set k i)
theorem Aug.len {E:Nat→Nat→Prop} {b b':List Int} {i:Nat} (h:Aug E b i b'):b'.length=b.length:=by
 induction h with
 | last=>simp
 | step _ _ _ _ _ ih=>simpa using ih
section
variable (can:Nat→Nat→Bool) (told:List Int) (n:Nat)
def Ed (l k:Nat):Prop:=can l k=true∧gI told k<0
structure KuSp (i k0:Nat) (s:Ku) (r:Bool × Ku):Prop where
 ls:r.2.seen.length=n
 lb:r.2.bef.length=n
 mono:∀ k,gB s.seen k=true→gB r.2.seen k=true
 keep:∀ k,gB s.seen k=true→gI r.2.bef k=gI s.bef k
 yes:r.1=true→Aug (Ed can told) s.bef i r.2.bef
 no:r.1=false→r.2.bef=s.bef∧(∀ k,k0≤k→k<n→Ed can told i k→gB r.2.seen k=true) ∧
  ∀ k,k<n→gB r.2.seen k=true→gB s.seen k=true∨(gI told k<0∧0≤gI s.bef k∧∀ k',k'<n→Ed can told (gI s.bef k).toNat k'→gB r.2.seen k'=true)
variable {can told n}
theorem BH {s:List Bool} {k:Nat} (hl:s.length=n) (hk:k<n) (h:gB s k=false):cnt n (fun j=>!gB s j)=cnt n (fun j=>!gB (s.set k true) j)+1 :=
 JU hk (by rw[DF (by omega)];simp) (by simp[h]) fun j _ hne=>by rw[DF (by omega),if_neg hne]
theorem O7 {f:Nat} {mv:Nat→Ku→Bool × Ku} (ih:∀ i s,s.seen.length=n→s.bef.length=n→cnt n (fun k=>!gB s.seen k)<f→KuSp can told n i 0 s (mv i s)) (i:Nat) :
  ∀ (m k:Nat) (s:Ku),k+m=n→s.seen.length=n→s.bef.length=n→cnt n (fun k=>!gB s.seen k)<f+1→KuSp can told n i k s (UC can told mv i m k s)
 | 0,k,s,hm,h1,h2,h3=>⟨h1,h2,fun _ h=>h,fun _ _=>rfl,fun h=>(by cases h),fun _=>⟨rfl,fun k' a b=>by omega,fun k' _ h=>.inl h⟩⟩
 | m + 1,k,s,hm,h1,h2,h3=>by
  simp only[UC];have hk:k<n:=by omega
  by_cases hc:can i k=true∧gB s.seen k=false∧gI told k<0
  ·rw [if_pos hc];obtain ⟨c1,c2,c3⟩:=hc;have hu:=BH h1 hk c2;by_cases hb:gI s.bef k<0
   ·rw[if_pos hb];refine ⟨by simpa using h1,by simpa using h2,fun j hj=>?_,fun j hj=>?_,fun _=>.last (by omega) ⟨c1,c3⟩ hb,fun h=>(by cases h)⟩
    ·show gB (s.seen.set k true) j=true;rw[DF (by omega)];split
     ·rfl
     ·exact hj
    ·show gI (s.bef.set k i) j=_;rw[JO (by omega),if_neg (fun e=>by rw[e,c2] at hj;cases hj)]
   ·rw [if_neg hb];have hs:=ih (gI s.bef k).toNat ⟨s.seen.set k true,s.bef⟩ (by simpa using h1) h2 (by show cnt n (fun j=>!gB (s.seen.set k true) j)<f;omega);have hsk:gB (s.seen.set k true) k=true:=by rw[DF (by omega),if_pos rfl]
    have hup:∀ j,gB s.seen j=true→gB (s.seen.set k true) j=true:=fun j hj=>by
     rw[DF (by omega)];split
     ·rfl
     ·exact hj
    generalize mv (gI s.bef k).toNat ⟨s.seen.set k true,s.bef⟩=r at hs ⊢;by_cases hr:r.1=true
    ·rw[if_pos hr];refine ⟨hs.ls,by simpa using hs.lb,fun j hj=>hs.mono j (hup j hj),fun j hj=>?_,fun _=>.step (l:=(gI s.bef k).toNat) (by omega) ⟨c1,c3⟩ (by omega) (hs.yes hr) ?_,fun h=>(by cases h)⟩
     ·show gI (r.2.bef.set k i) j=_;rw[JO (by rw[hs.lb];omega),if_neg (fun e=>by rw[e,c2] at hj;cases hj)];exact hs.keep j (hup j hj)
     ·have h4:gI r.2.bef k=gI s.bef k:=hs.keep k hsk;omega
    ·rw [if_neg hr];have hr':r.1=false:=by cases h:r.1 <;> simp_all
     obtain ⟨e1,e2,e3⟩:=hs.no hr';have hle:cnt n (fun j=>!gB r.2.seen j)≤cnt n (fun j=>!gB (s.seen.set k true) j):=cnt_mono fun j _ hj=>by
      cases h:gB (s.seen.set k true) j with
      | false=>rfl
      | true=>rw[hs.mono j h] at hj;cases hj
     have hrec:=O7 ih i m (k+1) r.2 (by omega) hs.ls hs.lb (by omega);generalize UC can told mv i m (k+1) r.2=t at hrec ⊢;refine ⟨hrec.ls,hrec.lb,fun j hj=>hrec.mono j (hs.mono j (hup j hj)),fun j hj=>by rw[hrec.keep j (hs.mono j (hup j hj)),hs.keep j (hup j hj)],fun h=>by have:=hrec.yes h;rwa [e1] at this,fun h=>?_⟩;obtain ⟨g1,g2,g3⟩:=hrec.no h;rw[e1] at g1 g3;refine ⟨g1,fun j h4 h5 h6=>?_,fun j h4 h5=>?_⟩
     ·by_cases e:j=k
      ·subst e;exact hrec.mono j (hs.mono j hsk)
      ·exact g2 j (by omega) h5 h6
     ·rcases g3 j h4 h5 with h6 | h6
      ·rcases e3 j h4 h6 with h7 | ⟨h7,h8,h9⟩
       ·by_cases e:j=k
        ·subst e;exact .inr ⟨c3,by omega,fun k' h10 h11=>hrec.mono k' (e2 k' (QF _) h10 h11)⟩
        ·change gB (s.seen.set k true) j=true at h7;rw[DF (by omega),if_neg e] at h7;exact .inl h7
       ·exact .inr ⟨h7,h8,fun k' h10 h11=>hrec.mono k' (h9 k' h10 h11)⟩
      ·exact .inr h6
  ·rw[if_neg hc];have hrec:=O7 ih i m (k+1) s (by omega) h1 h2 h3;refine ⟨hrec.ls,hrec.lb,hrec.mono,hrec.keep,hrec.yes,fun h=>?_⟩;obtain ⟨g1,g2,g3⟩:=hrec.no h;refine ⟨g1,fun j h4 h5 h6=>?_,g3⟩;by_cases e:j=k
   ·subst e;cases h7:gB s.seen j with
    | true=>exact hrec.mono j h7
    | false=>exact absurd ⟨h6.1,h7,h6.2⟩ hc
   ·exact g2 j (by omega) h5 h6
theorem AO:∀ (f i:Nat) (s:Ku),s.seen.length=n→s.bef.length=n→cnt n (fun k=>!gB s.seen k)<f→KuSp can told n i 0 s (VE can told n f i s)
 | 0,_,_,_,_,h=>by omega
 | f+1,i,s,h1,h2,h3=>O7 (AO f) i n 0 s (by omega) h1 h2 h3
theorem QeG {b b':List Int} {i:Nat} (hb:b.length=n) (h:Aug (Ed can told) b i b') (l:Nat) :
  cnt n (fun k=>decide (gI told k<0)&&(gI b' k == (l:Int)))=cnt n (fun k=>decide (gI told k<0)&&(gI b k == (l:Int)))+if l=i then 1 else 0:=by
 induction h with
 | @last i k h1 h2 h3 =>
  by_cases e:l=i
  ·subst e;rw[if_pos rfl];refine JU (x:=k) (by omega) ?_ ?_ fun j _ hne=>?_
   ·have:(gI b k == (l:Int))=false:=by simp;omega
    rw[this,UA]
   ·rw[JO h1,if_pos rfl];simp[h2.2]
   ·rw[JO h1,if_neg hne]
  ·rw[if_neg e];refine K1 fun j _=>?_
   rw[JO h1];split
   ·rename_i e';subst e';have a1:((i:Int) == (l:Int))=false:=by simp;omega
    have a2:(gI b j == (l:Int))=false:=by simp;omega
    rw[a1,a2]
   ·rfl
 | @step i k l1 b1 h1 h2 h3 h4 h5 ih =>
  have hl:=h4.len;have hk1:k<b1.length:=by omega
  have e1:cnt n (fun j=>decide (gI told j<0)&&(gI (b1.set k i) j == (l:Int)))+(if l=l1 then 1 else 0)=cnt n (fun j=>decide (gI told j<0)&&(gI b1 j == (l:Int)))+if l=i then 1 else 0:=by
   by_cases ea:l=i
   ·by_cases eb:l=l1
    ·rw[if_pos ea,if_pos eb];congr 1;refine K1 fun j _=>?_
     rw[JO hk1];split
     ·rename_i e';rw[e',h5,← ea,← eb]
     ·rfl
    ·rw[if_neg eb,if_pos ea];refine JU (x:=k) (by omega) ?_ ?_ fun j _ hne=>?_
     ·rw[h5];have:((l1:Int) == (l:Int))=false:=by simp;omega
      rw[this,UA]
     ·rw[JO hk1,if_pos rfl,ea];simp[h2.2]
     ·rw[JO hk1,if_neg hne]
   ·by_cases eb:l=l1
    ·rw[if_pos eb,if_neg ea];refine (JU (x:=k) (by omega) ?_ ?_ fun j _ hne=>?_).symm
     ·rw[JO hk1,if_pos rfl];have:((i:Int) == (l:Int))=false:=by simp;omega
      rw[this,UA]
     ·rw[h5,eb];simp[h2.2]
     ·rw[JO hk1,if_neg hne]
    ·rw[if_neg eb,if_neg ea];congr 1;refine K1 fun j _=>?_
     rw[JO hk1];split
     ·rename_i e';have a1:((i:Int) == (l:Int))=false:=by simp;omega
      have a2:((l1:Int) == (l:Int))=false:=by simp;omega
      rw[e',h5,a1,a2]
     ·rfl
  omega
theorem aug_val {b b':List Int} {i:Nat} (hb:b.length=n) (h:Aug (Ed can told) b i b'):∀ k,k<n→gI b' k=gI b k∨(∃ l:Nat,gI b' k=(l:Int)∧Ed can told l k∧(l=i∨∃ k',k'<n∧gI told k'<0∧gI b k'=(l:Int))):=by
 induction h with
 | @last i k h1 h2 h3 =>
  intro j hj;rw[JO h1];split
  ·rename_i e;subst e;exact .inr ⟨i,rfl,h2,.inl rfl⟩
  ·exact .inl rfl
 | @step i k l1 b1 h1 h2 h3 h4 h5 ih =>
  intro j hj;have hl:=h4.len;rw[JO (by omega)];split
  ·rename_i e;subst e;exact .inr ⟨i,rfl,h2,.inl rfl⟩
  ·rcases ih j hj with h6 | ⟨l,a1,a2,a3⟩
   ·exact .inl h6
   ·refine .inr ⟨l,a1,a2,.inr ?_⟩;rcases a3 with rfl | a3
    ·exact ⟨k,by omega,h2.2,h3⟩
    ·exact a3
theorem QfA {b b':List Int} {i:Nat} (hb:b.length=n) (h:Aug (Ed can told) b i b') :
  cnt n (fun k=>decide (gI told k<0)&&decide (0≤gI b' k))=cnt n (fun k=>decide (gI told k<0)&&decide (0≤gI b k))+1:=by
 induction h with
 | @last i k h1 h2 h3 =>
  refine JU (x:=k) (by omega) ?_ ?_ fun j _ hne=>?_
  ·have:decide (0≤gI b k)=false:=by simp;omega
   rw[this,UA]
  ·rw[JO h1,if_pos rfl];simp[h2.2]
  ·rw[JO h1,if_neg hne]
 | @step i k l1 b1 h1 h2 h3 h4 h5 ih =>
  have hl:=h4.len;rw[← ih];refine K1 fun j _=>?_
  rw[JO (by omega)];split
  ·rename_i e;rw[e,h5];simp
  ·rfl
theorem aug_shut {b b':List Int} {i:Nat} {F T:Nat→Bool} (hb:b.length=n) (ha:∀ l k,F l=true→k<n→Ed can told l k→T k=true) (hT:∀ k,k<n→T k=true→∃ l:Nat,gI b k=(l:Int)∧F l=true)
  (h:Aug (Ed can told) b i b'):F i=false∧∀ k,k<n→T k=true→gI b' k=gI b k:=by
 induction h with
 | @last i k h1 h2 h3 =>
  have hk:T k=false:=by
   cases h:T k with
   | false=>rfl
   | true=>obtain ⟨l,e,_⟩:=hT k (by omega) h;omega
  refine ⟨?_,fun j hj ht=>?_⟩
  ·cases h:F i with
   | false=>rfl
   | true=>rw[ha i k h (by omega) h2] at hk;cases hk
  ·rw[JO h1,if_neg (fun e=>by subst e;rw[ht] at hk;cases hk)]
 | @step i k l1 b1 h1 h2 h3 h4 h5 ih =>
  obtain ⟨i1,i2⟩:=ih;have hl:=h4.len;have hk:T k=false:=by
   cases h:T k with
   | false=>rfl
   | true =>
    obtain ⟨l,e,hf⟩:=hT k (by omega) h;have:l=l1:=by omega
    subst this;rw[hf] at i1;cases i1
  refine ⟨?_,fun j hj ht=>?_⟩
  ·cases h:F i with
   | false=>rfl
   | true=>rw[ha i k h (by omega) h2] at hk;cases hk
  ·rw[JO (by omega),if_neg (fun e=>by subst e;rw[ht] at hk;cases hk)];exact i2 j hj ht
def F2 (can:Nat→Nat→Bool) (told:List Int) (n:Nat):Nat→Nat→List Int × Nat→List Int × Nat
 | 0,_,s=>s
 | m+1,i,s =>
  F2 can told n m (i+1) ((VE can told n (n+1) i ⟨List.replicate n false,s.1⟩).2.bef,if (VE can told n (n+1) i ⟨List.replicate n false,s.1⟩).1=true then s.2+1 else s.2)
structure C9 (can:Nat→Nat→Bool) (told:List Int) (n f p0 i:Nat) (s:List Int × Nat):Prop where
 len:s.1.length=n
 val:∀ k,k<n→gI told k<0→gI s.1 k<0∨∃ l:Nat,f≤l∧l<i∧gI s.1 k=(l:Int)∧can l k=true
 one:∀ l:Nat,f≤l→cnt n (fun k=>decide (gI told k<0)&&(gI s.1 k == (l:Int)))≤1
 num:s.2=p0+cnt n (fun k=>decide (gI told k<0)&&decide (0≤gI s.1 k))
 shut:∃ F T:Nat→Bool,(∀ l k,F l=true→k<n→Ed can told l k→T k=true)∧(∀ k,k<n→T k=true→gI told k<0∧∃ l:Nat,gI s.1 k=(l:Int)∧F l=true) ∧
  ∀ l,f≤l→l<i→F l=false→∃ k,k<n∧gI told k<0∧gI s.1 k=(l:Int)
theorem Qcn {f p0 i:Nat} {s:List Int × Nat} (hf:f≤i) (h:C9 can told n f p0 i s) :
  C9 can told n f p0 (i+1) ((VE can told n (n+1) i ⟨List.replicate n false,s.1⟩).2.bef,if (VE can told n (n+1) i ⟨List.replicate n false,s.1⟩).1=true then s.2+1 else s.2):=by
 have hs:=AO (can:=can) (told:=told) (n:=n) (n+1) i ⟨List.replicate n false,s.1⟩ (by simp) h.len (by have:=P7 (n:=n) (P:=fun k=>!gB (List.replicate n false) k);show cnt n (fun k=>!gB (List.replicate n false) k)<n+1;omega);have hno:∀ k,gB (List.replicate n false) k=false:=fun k=>by unfold gB;rw[YN];split <;> rfl
 generalize VE can told n (n+1) i ⟨List.replicate n false,s.1⟩=r at hs ⊢;obtain ⟨F,T,ha,hb,hc⟩:=h.shut;cases hr:r.1 with
 | true =>
  have hA:Aug (Ed can told) s.1 i r.2.bef:=hs.yes hr;obtain ⟨s1,s2⟩:=aug_shut h.len ha (fun k h1 h2=>(hb k h1 h2).2) hA;have hni:cnt n (fun k=>decide (gI told k<0)&&(gI s.1 k == (i:Int)))=0:=KN fun k hk=>by
   cases h1:decide (gI told k<0) with
   | false=>rfl
   | true =>
    rcases h.val k hk (of_decide_eq_true h1) with h2 | ⟨l,h2,h3,h4,_⟩
    ·have:(gI s.1 k == (i:Int))=false:=by simp;omega
     rw[this,UA]
    ·have:(gI s.1 k == (i:Int))=false:=by simp;omega
     rw[this,UA]
  refine ⟨hs.lb,fun k hk ht=>?_,fun l hl=>?_,?_,F,T,ha,fun k hk ht=>?_,fun l h1 h2 h3=>?_⟩
  ·rcases aug_val h.len hA k hk with h1 | ⟨l,h1,h2,h3⟩
   ·dsimp only;rw[h1]
    rcases h.val k hk ht with h4 | ⟨l,h4,h5,h6,h7⟩
    ·exact .inl h4
    ·exact .inr ⟨l,h4,by omega,h6,h7⟩
   ·refine .inr ⟨l,?_,?_,h1,h2.1⟩
    all_goals
     rcases h3 with rfl | ⟨k',g1,g2,g3⟩
     ·omega
     ·rcases h.val k' g1 g2 with h4 | ⟨l',h4,h5,h6,h7⟩ <;> omega
  ·dsimp only
   rw[QeG h.len hA l];split
   ·rename_i e;rw[e,hni];omega
   ·have:=h.one l hl;omega
  ·dsimp only
   rw[QfA h.len hA,if_pos rfl,h.num];omega
  ·obtain ⟨h1,l,h2,h3⟩:=hb k hk ht;exact ⟨h1,l,by dsimp only;rw[s2 k hk ht];exact h2,h3⟩
  ·have h4:0<cnt n (fun k=>decide (gI told k<0)&&(gI r.2.bef k == (l:Int))):=by
    rw[QeG h.len hA l];by_cases e:l=i
    ·rw[if_pos e];omega
    ·rw[if_neg e];obtain ⟨k,k1,k2,k3⟩:=hc l h1 (by omega) h3;have:cnt n (fun k=>decide (gI told k<0)&&(gI s.1 k == (l:Int)))≠0:=fun h0=>by
      have:=cnt_lt (n:=n) (P:=fun _=>false) (Q:=fun k=>decide (gI told k<0)&&(gI s.1 k == (l:Int))) (fun _ _ h=>by simp at h) k1 rfl (by simp[k2,k3]);omega
     omega
   obtain ⟨k,k1,k2⟩:=M5 h4;simp only[QD,decide_eq_true_eq,beq_iff_eq] at k2;exact ⟨k,k1,k2.1,k2.2⟩
 | false =>
  obtain ⟨e1,e2,e3⟩:=hs.no hr
  dsimp only at e1 e2 e3
  rw[e1];have e3':∀ k,k<n→gB r.2.seen k=true→gI told k<0∧0≤gI s.1 k∧∀ k',k'<n→Ed can told (gI s.1 k).toNat k'→gB r.2.seen k'=true:=fun k hk hk'=>by
   rcases e3 k hk hk' with h1 | h1
   ·rw[hno] at h1;cases h1
   ·exact h1
  let G:Nat→Bool:=fun l=>l == i||decide (0<cnt n fun k=>gB r.2.seen k&&(gI s.1 k == (l:Int)))
  have hG:∀ l,G l=true→l=i∨∃ k,k<n∧gB r.2.seen k=true∧gI s.1 k=(l:Int):=fun l hl=>by
   simp only[G,WR,beq_iff_eq,decide_eq_true_eq] at hl;rcases hl with h1 | h1
   ·exact .inl h1
   ·obtain ⟨k,k1,k2⟩:=M5 h1;simp only[QD,beq_iff_eq] at k2;exact .inr ⟨k,k1,k2.1,k2.2⟩
  refine ⟨h.len,fun k hk ht=>?_,h.one,by simpa using h.num,fun l=>F l||G l,fun k=>T k||gB r.2.seen k,fun l k h1 h2 h3=>?_,fun k hk ht=>?_,fun l h1 h2 h3=>?_⟩
  ·rcases h.val k hk ht with h4 | ⟨l,h4,h5,h6,h7⟩
   ·exact .inl h4
   ·exact .inr ⟨l,h4,by omega,h6,h7⟩
  ·simp only[WR] at h1 ⊢;rcases h1 with h1 | h1
   ·exact .inl (ha l k h1 h2 h3)
   ·rcases hG l h1 with rfl | ⟨k1,a1,a2,a3⟩
    ·exact .inr (e2 k (QF _) h2 h3)
    ·obtain ⟨_,_,h4⟩:=e3' k1 a1 a2;rw[a3] at h4;exact .inr (h4 k h2 h3)
  ·simp only[WR] at ht;rcases ht with ht | ht
   ·obtain ⟨h1,l,h2,h3⟩:=hb k hk ht;exact ⟨h1,l,h2,by simp[h3]⟩
   ·obtain ⟨h1,h2,h3⟩:=e3' k hk ht;refine ⟨h1,(gI s.1 k).toNat,by dsimp only;omega,?_⟩;have:0<cnt n fun k'=>gB r.2.seen k'&&(gI s.1 k' == ((gI s.1 k).toNat:Int)):=by
     have:=cnt_lt (n:=n) (P:=fun _=>false) (Q:=fun k'=>gB r.2.seen k'&&(gI s.1 k' == ((gI s.1 k).toNat:Int))) (fun _ _ h=>by simp at h) hk rfl (by simp[ht];omega);omega
    show (F _||(_ == i||decide _))=true;rw[decide_eq_true this];simp
  ·simp only[X8] at h3;have hli:l≠i:=fun e=>by
    have:=h3.2;simp[G,e] at this
   exact hc l h1 (by omega) h3.1
theorem O8 {f p0:Nat}:∀ (m i:Nat) (s:List Int × Nat),f≤i→C9 can told n f p0 i s→C9 can told n f p0 (i+m) (F2 can told n m i s)
 | 0,_,_,_,h=>h
 | m+1,i,s,hf,h=>by
  have:=O8 m (i+1) _ (by omega) (Qcn hf h)
  rwa [show i+1+m=i+(m+1) by omega] at this
theorem Qde {f p0:Nat} {s:List Int × Nat} (hfn:f≤n) (h:C9 can told n f p0 n s) :
  s.2=p0+prF can n (n-f) f (fun k=>!decide (gI told k<0)) ∧
  ∃ C D:Nat→Bool,(∀ l k,f≤l→l<n→k<n→can l k=true→gI told k<0→C l=true∨D k=true)∧cnt n C+cnt n D=prF can n (n-f) f (fun k=>!decide (gI told k<0)):=by
 obtain ⟨F,T,ha,hb,hc⟩:=h.shut;have hone:=h.one;have hval:=h.val;have inj:∀ (l:Nat),f≤l→∀ k k',k<n→k'<n→gI told k<0→gI told k'<0→gI s.1 k=(l:Int)→gI s.1 k'=(l:Int)→k=k':=fun l hl k k' h1 h2 h3 h4 h5 h6=>by
  by_cases e:k=k'
  ·exact e
  ·have:=cnt_two (n:=n) (P:=fun k=>decide (gI told k<0)&&(gI s.1 k == (l:Int))) h1 h2 (by simp[h3,h5]) (by simp[h4,h6]) e;have:=hone l hl;omega
 have hlow:cnt n (fun k=>decide (gI told k<0)&&decide (0≤gI s.1 k))≤prF can n (n-f) f (fun k=>!decide (gI told k<0)):=by
  have hex:∀ l:Nat,∃ o:Option Nat,(∀ k,o=some k→k<n∧gI told k<0∧gI s.1 k=(l:Int))∧(o=none→∀ k,k<n→gI told k<0→gI s.1 k≠(l:Int)):=fun l=>by
   by_cases h1:∃ k,k<n∧gI told k<0∧gI s.1 k=(l:Int)
   ·obtain ⟨k,hk⟩:=h1;exact ⟨some k,fun k' e=>by cases e;exact hk,fun e=>by cases e⟩
   ·exact ⟨none,fun k e=>by (cases e),fun _ k a b c=>h1 ⟨k,a,b,c⟩⟩
  obtain ⟨g,hg⟩:=Classical.axiomOfChoice hex;have hM:Mat can n f (fun k=>!decide (gI told k<0)) g:=by
   refine ⟨fun l k h1 h2 h3=>?_,fun l l' k h1 h2 h3 h4 h5 h6=>?_⟩
   ·obtain ⟨a,b,c⟩:=(hg l).1 k h3;refine ⟨a,?_,by simp[b]⟩;rcases hval k a b with h4 | ⟨l',h4,h5,h6,h7⟩
    ·omega
    ·have:l'=l:=by omega
     rw[← this];exact h7
   ·have a:=((hg l).1 k h5).2.2;have b:=((hg l').1 k h6).2.2;omega
  refine YR (G6 (fun k=>(gI s.1 k).toNat) (fun k hk hp=>?_) fun k k' hk hk' hp hp' e=>?_) (PV (n-f) f _ g (by omega) hM)
  ·simp only[QD,decide_eq_true_eq] at hp;rcases hval k hk hp.1 with h4 | ⟨l,h4,h5,h6,h7⟩
   ·omega
   ·refine ⟨by rw[h6];simpa using h5,?_⟩;rw[h6];simp only[Int.toNat_natCast,QD,decide_eq_true_eq];refine ⟨h4,?_⟩;cases h8:g l with
    | some _=>rfl
    | none=>exact absurd h6 ((hg l).2 h8 k hk hp.1)
  ·simp only[QD,decide_eq_true_eq] at hp hp';rcases hval k hk hp.1 with h4 | ⟨l,h4,h5,h6,h7⟩
   ·omega
   ·exact inj l h4 k k' hk hk' hp.1 hp'.1 h6 (by omega)
 have hcov:cnt n (fun l=>decide (f≤l) && !F l)+cnt n T≤cnt n (fun k=>decide (gI told k<0)&&decide (0≤gI s.1 k)):=by
  rw[ES (fun k=>decide (gI told k<0)&&decide (0≤gI s.1 k)) T,Nat.add_comm];refine Nat.add_le_add (cnt_mono fun k hk ht=>?_) ?_
  ·obtain ⟨h1,l,h2,h3⟩:=hb k hk ht;simp[h1,ht,h2]
  ·have hex:∀ l:Nat,∃ k:Nat,f≤l→l<n→F l=false→k<n∧gI told k<0∧gI s.1 k=(l:Int):=fun l=>by
    by_cases h1:f≤l∧l<n∧F l=false
    ·obtain ⟨k,hk⟩:=hc l h1.1 h1.2.1 h1.2.2;exact ⟨k,fun _ _ _=>hk⟩
    ·exact ⟨0,fun a b c=>absurd ⟨a,b,c⟩ h1⟩
   obtain ⟨g,hg⟩:=Classical.axiomOfChoice hex;refine G6 g (fun l hl hp=>?_) fun l l' hl hl' hp hp' e=>?_
   ·simp only[QD,decide_eq_true_eq,Z0] at hp;obtain ⟨a,b,c⟩:=hg l hp.1 hl hp.2;refine ⟨a,?_⟩;have hTk:T (g l)=false:=by
     cases h4:T (g l) with
     | false=>rfl
     | true =>
      obtain ⟨_,l',h5,h6⟩:=hb (g l) a h4;have:l'=l:=by omega
      rw[this,hp.2] at h6;cases h6
    simp[b,c,hTk]
   ·simp only[QD,decide_eq_true_eq,Z0] at hp hp';have c:=(hg l hp.1 hl hp.2).2.2;have c':=(hg l' hp'.1 hl' hp'.2).2.2;rw[e] at c;omega
 have hcv:∀ l k,f≤l→l<n→k<n→can l k=true→gI told k<0→(decide (f≤l) && !F l)=true∨T k=true:=fun l k h1 h2 h3 h4 h5=>by
  cases h6:F l with
  | false=>simp[h1]
  | true=>exact .inr (ha l k h6 h3 ⟨h4,h5⟩)
 have hup:prF can n (n-f) f (fun k=>!decide (gI told k<0))≤cnt n (fun l=>decide (f≤l) && !F l)+cnt n T:=by obtain ⟨g,hg,hs⟩:=TE (can:=can) (n:=n) (n-f) f (fun k=>!decide (gI told k<0)) (by omega);rw[← hs];exact AF hg fun l k h1 h2 h3 h4 h5=>hcv l k h1 h2 h3 h4 (by simpa using h5)
 refine ⟨by rw[h.num];omega,_,_,hcv,by omega⟩
end
end Go.Proofs.YtgkidpolomhghaaGreatDoor.Pl

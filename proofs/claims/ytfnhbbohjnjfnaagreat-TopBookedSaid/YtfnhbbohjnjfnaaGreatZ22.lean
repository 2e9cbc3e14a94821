/- Parts of the proof, joined: TqC14 to BkE2. -/
import Derived.Sort.LotA
import Derived.Test.YtfnhbbohjnjfnaaGreatZ21
set_option linter.unusedVariables false
set_option linter.unusedSimpArgs false
set_option linter.unusedSectionVars false
namespace Go.Proofs.YtfnhbbohjnjfnaaGreat.AM
variable [Dr]
open Go Go.Proofs.YtfnhbbohjnjfnaaGreat.Qu Pl
theorem ordF_get {q:QL₀} {c:Nat} (hL:∀ i,i<q.ls.length→LeaOk q i):∀ i,i≤q.ls.length→∀ k,k<i→(ordF q c i)[Mk.rankOf q.ls.length (bef q c) k]? = some (k:Int)
 | 0,_,k,h=>by omega
 | i+1,hi,k,h=>by
  have hlen:=ordF_len q c i
  have hri:=rank_lt_n (q:=q) (c:=c) (show i<q.ls.length by omega)
  simp only[ordF]
  by_cases e:k=i
  ·subst e;rw[Z2 (by omega)]
  ·rw[QU (fun h2=>e (Mk.rank_inj (bef_strict hL c) (by omega) (by omega) h2.symm))]
   exact ordF_get hL i (by omega) k (by omega)
theorem countP_split {α:Type} (P:α→Bool) (L:List α) (p:Nat) (hp:p≤L.length) (h1:∀ j (h:j<L.length),j<p→P L[j]=true) (h2:∀ j (h:j<L.length),p≤j→P L[j]=false):L.countP P=p:=by
 rw[← List.take_append_drop p L,List.countP_append]
 have e1:(L.take p).countP P=p:=by
  rw[List.countP_eq_length.2,List.length_take]
  ·omega
  ·intro x hx
   obtain ⟨j,hj,rfl⟩:=WN.1 hx
   simp only[List.length_take] at hj
   rw[List.getElem_take];exact h1 j (by omega) (by omega)
 have e2:(L.drop p).countP P=0:=by
  rw[List.countP_eq_zero]
  intro x hx
  obtain ⟨j,hj,rfl⟩:=WN.1 hx
  simp only[List.length_drop] at hj
  rw[List.getElem_drop,h2 (p+j) (by omega) (by omega)];simp
 rw[e1,e2];rfl
theorem rank_sorted {q:QL₀} {c:Nat} (hL:∀ i,i<q.ls.length→LeaOk q i) {L:List Nat} (hp:L.Perm (List.range q.ls.length)) (hs:∀ i j,i<j→∀ (hj:j<L.length) (hi:i<L.length),bef q c L[j] L[i]=false) :
  (∀ j (h:j<L.length),L[j]<q.ls.length)∧∀ p (h:p<L.length),Mk.rankOf q.ls.length (bef q c) L[p]=p:=by
 have hlen:L.length=q.ls.length:=by simpa using hp.length_eq
 have hnd:L.Nodup:=hp.nodup_iff.2 List.nodup_range
 have hst:=bef_strict hL c
 have hlt:∀ j (h:j<L.length),L[j]<q.ls.length:=fun j h=>by simpa using (hp.mem_iff (a:=L[j])).1 (Q2 h)
 have hrank:∀ p (h:p<L.length),Mk.rankOf q.ls.length (bef q c) L[p]=p:=by
  intro p h
  unfold Mk.rankOf
  rw[cnt_range,← hp.countP_eq]
  refine countP_split _ L p (by omega) (fun j hj hjp=>?_) (fun j hj hpj=>?_)
  ·have hne:L[j]≠L[p]:=List.pairwise_iff_getElem.1 hnd j p hj h hjp
   rcases hst.tot _ _ (hlt j hj) (hlt p h) hne with g | g
   ·exact g
   ·rw[hs j p hjp h hj] at g;cases g
  ·by_cases e:p=j
   ·subst e;exact hst.irr _ (hlt p h)
   ·exact hs p j (by omega) hj h
 exact ⟨hlt,hrank⟩
theorem ord_of_sorted {q:QL₀} {c:Nat} (hL:∀ i,i<q.ls.length→LeaOk q i) {L:List Nat} (hp:L.Perm (List.range q.ls.length)) (hs:∀ i j,i<j→∀ (hj:j<L.length) (hi:i<L.length),bef q c L[j] L[i]=false) :
  L.map (fun (i:Nat)=>(i:Int))=ordQ q c:=by
 obtain ⟨hlt,hrank⟩:=rank_sorted hL hp hs
 have hlen:L.length=q.ls.length:=by simpa using hp.length_eq
 unfold ordQ
 apply Y1
 ·rw[ZK,ordF_len,hlen]
 ·intro p h1 h2
  have hpl:p<L.length:=by simpa using h1
  have:=ordF_get hL (c:=c) q.ls.length (QG _) L[p] (hlt p hpl)
  rw[hrank p hpl,QI h2] at this
  rw[List.getElem_map]
  exact (Option.some.inj this).symm
theorem swo_bef (q:QL₀) (c:Nat):Sort.SWO (ltC (cmpQ q c)):=by
 have e:∀ a b,ltC (cmpQ q c) a b=bef q c a b:=fun a b=>LP c _ _ _
 have nt:∀ (x y z:Lea) rs,byRules c x y rs=false→byRules c y z rs=false→byRules c x z rs=false:=by
  intro x y z rs
  induction rs with
  | nil =>
   intro h g
   show Op.bytesLess _ _=false
   have h:Op.bytesLess x.nm.toList y.nm.toList=false:=h
   have g:Op.bytesLess y.nm.toList z.nm.toList=false:=g
   by_cases e1:x.nm.toList=y.nm.toList
   ·rw[e1];exact g
   ·rcases bl_tot _ _ e1 with k | k
    ·rw[h] at k;cases k
    ·by_cases e2:y.nm.toList=z.nm.toList
     ·rw[← e2];exact h
     ·rcases bl_tot _ _ e2 with k2 | k2
      ·rw[g] at k2;cases k2
      ·have k3:=bl_tr _ _ _ k2 k
       cases hx:Op.bytesLess x.nm.toList z.nm.toList with
       | false=>rfl
       | true =>
        have:=bl_tr _ _ _ hx k3
        rw[bl_irr] at this;cases this
  | cons r rs ih =>
   intro h g
   unfold byRules at h g ⊢
   by_cases e1:key c x r=key c y r
   ·rw[if_pos e1] at h
    by_cases e2:key c y r=key c z r
    ·rw[if_pos e2] at g;rw[if_pos (e1.trans e2)];exact ih h g
    ·rw[if_neg e2] at g;rw[if_neg (by rw[e1];exact e2)]
     simp only[decide_eq_false_iff_not] at g ⊢;omega
   ·rw[if_neg e1] at h
    simp only[decide_eq_false_iff_not] at h
    by_cases e2:key c y r=key c z r
    ·rw[if_neg (by rw[← e2];exact e1)];simp only[decide_eq_false_iff_not];omega
    ·rw[if_neg e2] at g
     simp only[decide_eq_false_iff_not] at g
     rw[if_neg (by omega)];simp only[decide_eq_false_iff_not];omega
 refine ⟨fun x=>by rw[e];exact byRules_irr _ _ _,fun x y z h g=>?_,fun x y z h g=>?_⟩
 ·rw[e] at h g ⊢;exact byRules_tr _ _ _ _ _ h g
 ·rw[e] at h g ⊢;exact nt _ _ _ _ h g
theorem ins_sorted (q:QL₀) (c:Nat):(Sort.insertionSort (ltC (cmpQ q c)) (List.range q.ls.length).toArray 0 q.ls.length).toList.Perm (List.range q.ls.length)∧∀ i j,i<j→∀ (hj:j<(Sort.insertionSort (ltC (cmpQ q c)) (List.range q.ls.length).toArray 0 q.ls.length).toList.length) (hi:i<(Sort.insertionSort (ltC (cmpQ q c)) (List.range q.ls.length).toArray 0 q.ls.length).toList.length),bef q c (Sort.insertionSort (ltC (cmpQ q c)) (List.range q.ls.length).toArray 0 q.ls.length).toList[j] (Sort.insertionSort (ltC (cmpQ q c)) (List.range q.ls.length).toArray 0 q.ls.length).toList[i]=false:=by
 have hsz:(List.range q.ls.length).toArray.size=q.ls.length:=by simp
 obtain ⟨h1,h2⟩:=Sort.insertionSort_holds (swo_bef q c) (List.range q.ls.length).toArray 0 q.ls.length (QF _) (by omega)
 generalize Sort.insertionSort (ltC (cmpQ q c)) (List.range q.ls.length).toArray 0 q.ls.length=d at h1 h2
 obtain ⟨g1,g2,g3⟩:=h1
 have hds:d.size=q.ls.length:=by omega
 refine ⟨?_,?_⟩
 ·have e1:d.extract 0 q.ls.length=d:=by rw[← hds];exact Array.extract_size
  have e2:(List.range q.ls.length).toArray.extract 0 q.ls.length=(List.range q.ls.length).toArray:=by
   conv=>lhs;arg 3;rw[← hsz]
   exact Array.extract_size
  rw[e1,e2] at g3
  exact g3
 ·intro i j hij hj hi
  have:=h2 i j (QF _) hij (by simpa[hds] using hj)
  have e:∀ a b,ltC (cmpQ q c) a b=bef q c a b:=fun a b=>LP c _ _ _
  rw[e,getElem!_pos d j (by simpa using hj),getElem!_pos d i (by simpa using hi)] at this
  simpa using this
theorem ins_ord {q:QL₀} {c:Nat} (hL:∀ i,i<q.ls.length→LeaOk q i):(Sort.insertionSort (ltC (cmpQ q c)) (List.range q.ls.length).toArray 0 q.ls.length).toList.map (fun (i:Nat)=>(i:Int))=ordQ q c :=
 ord_of_sorted hL (ins_sorted q c).1 (ins_sorted q c).2
theorem row_range (n:Nat):rowA (fun i:Nat=>AV.i i) (List.range n).toArray=(listN n fun i=>(i:Int)).map AV.i:=by
 simp[rowA,listN]
theorem c51 (q:QL₀) (hq:QSz q) (he:QOk q) (c:Nat) (hc:c<q.cs.length) {L:Nat} {x:AV} {σ:List AObj} (hL:rowOf σ L=some [cenL q.cs,leaL q.ls,x]) (hlv:∀ o∈σ,o.live) :
  AC Tryz.prog 51 [.ptr L 0,.i c] σ fun r τ=>r=ints (ordQ q c)∧τ=σ:=by
 obtain ⟨hc5,hl8,hLe,hCe⟩:=id he
 have hLlt:=(QH.1 (WO hL)).1
 refine AC.made0 (Q:=fun r τ=>r=.sl (σ.length+2) 0 q.ls.length 1∧∃ o,τ=σ++[.cells [.ptr L 0],.cells [.i c],.cells ((ordQ q c).map AV.i),o]) (ZF (fok51 true) (QC rfl) ?_) ?_ hlv
 rotate_left
 ·rintro r τ ⟨rfl,o,rfl⟩
  have hol:(ordQ q c).length=q.ls.length:=ordF_len q c _
  refine ⟨_,rfl,?_⟩
  refine U4 (fun _=>trivial) hol.symm ?_
  have:=X9 (List.replicate σ.length .dead) [.cells [.ptr L 0],.cells [.i c],.cells ((ordQ q c).map AV.i),o] 2
  rw[List.length_replicate] at this
  exact this
 have gL:=fun J=>ZH hL J
 have hmk:=fun σ=>MP (n:=q.ls.length) (by omega) σ
 rw[show List.replicate q.ls.length (0:Int)=listN q.ls.length fun k=>if k<0 then (k:Int) else 0 by rw[listN_zero];exact listN_congr fun i _=>by simp] at hmk
 simp only[ic51,gL,hmk,QW,QM,WW,X9,VW,EZ,Qau,CH,get_nz,get_ns,evA,simprocAttr]
 refine ZW q.ls.length (fun i s=>∃ v6 v7 v10,s=⟨[.ptr L 0,.i c,.ptr σ.length 0,.ptr (σ.length+1) 0,.cv .nils,.sl (σ.length+2) 0 q.ls.length 1,v6,v7,.i q.ls.length,.i i,v10],σ++[.cells [.ptr L 0],.cells [.i c],.cells ((listN q.ls.length fun k=>if k<i then (k:Int) else 0).map AV.i)]⟩) ?_ 0 (QF _) ⟨_,_,_,rfl⟩
 rintro i s hi ⟨v6,v7,v10,rfl⟩
 by_cases h:i<q.ls.length
 ·have hset:((listN q.ls.length fun k=>if k<i then (k:Int) else 0).map AV.i).set i (.i i)=(listN q.ls.length fun k=>if k<i+1 then (k:Int) else 0).map AV.i:=by
   have:(listN q.ls.length fun k=>if k<i then (k:Int) else 0).set i (i:Int)=listN q.ls.length fun k=>if k<i+1 then (k:Int) else 0:=by
    rw[listN_set h]
    refine listN_congr fun k hk=>?_
    by_cases e:k=i
    ·subst e;simp
    ·by_cases h1:k<i
     ·rw[if_neg e,if_pos h1,if_pos (by omega)]
     ·rw[if_neg e,if_neg h1,if_neg (by omega)]
   rw[← this,List.map_set]
  have hle:i+1≤(listN q.ls.length fun k=>if k<i then (k:Int) else 0).length:=by rw[listN_len];exact h
  simp only[ic51l0,QJ,h,hset,hle,ZV,QW,QM,WW,X9,VW,EZ,Qau,CH,get_nz,get_ns,evA,simprocAttr]
  exact ZL (by first | trivial | omega) ⟨_,_,_,by rw[Q6 (by omega)]⟩
 have:i=q.ls.length:=by omega
 subst this
 have hrow:(listN q.ls.length fun k=>if k<q.ls.length then (k:Int) else 0)=listN q.ls.length fun k=>(k:Int):=listN_congr fun k hk=>by rw[if_pos hk]
 rw[hrow]
 simp only[ic51l0,QJ,h,QW,QM,WW,X9,VW,EZ,Qau,CH,get_nz,get_ns,evA,simprocAttr]
 have hsz:(List.range q.ls.length).toArray.size=q.ls.length:=by simp
 have hC:CmpOk (.fn (.func 86) [.ptr σ.length 0,.ptr (σ.length+1) 0,.ptr (σ.length+3) 0]) (fun i:Nat=>AV.i i) (cmpQ q c) (σ.length+2) (fun i=>i<q.ls.length) (OrdAt q c σ.length (σ.length+1) (σ.length+3) L x) :=
  ⟨fun a b τ ha hb hI=>c86 q hq c a b hc (hCe c hc) ha hb hI,fun _=>rfl,fun _=>rfl,fun τ d hI=>by
   obtain ⟨h2,h3,h7,h8⟩:=hI
   exact ⟨by rw[QX (by omega)];exact h2,by rw[QX (by omega)];exact h3,by rw[QX (by omega)];exact h7,by rw[QX (by omega)];exact h8⟩⟩
 have hI:OrdAt q c σ.length (σ.length+1) (σ.length+3) L x (σ++[.cells [.ptr L 0],.cells [.i c],.cells ((listN q.ls.length fun k=>(k:Int)).map AV.i),.cells [.bm 82 [.ptr L 0],.bm 83 [.ptr L 0],.bm 84 [.ptr L 0]]]) :=
  ⟨by rw[WW];rfl,by rw[X9];rfl,by rw[X9];rfl,gL _⟩
 have hs:=c85 hC hI (List.range q.ls.length).toArray (fun k hk=>by simp at hk;simp[hk]) (by rw[X9,row_range];rfl) (by omega)
 rw[hsz] at hs
 refine hs.run ?_
 have hrow2:rowA (fun i:Nat=>AV.i i) (Sort.insertionSort (ltC (cmpQ q c)) (List.range q.ls.length).toArray 0 q.ls.length)=(ordQ q c).map AV.i:=by
  rw[← ins_ord hLe,XW];rfl
 have hput:putA (fun i:Nat=>AV.i i) (σ++[.cells [.ptr L 0],.cells [.i c],.cells ((listN q.ls.length fun k=>(k:Int)).map AV.i),.cells [.bm 82 [.ptr L 0],.bm 83 [.ptr L 0],.bm 84 [.ptr L 0]]]) (σ.length+2) (Sort.insertionSort (ltC (cmpQ q c)) (List.range q.ls.length).toArray 0 q.ls.length)=σ++[.cells [.ptr L 0],.cells [.i c],.cells ((ordQ q c).map AV.i),.cells [.bm 82 [.ptr L 0],.bm 83 [.ptr L 0],.bm 84 [.ptr L 0]]]:=by
  unfold putA
  rw[hrow2,EZ];rfl
 rw[hput]
 simp only[evA,simprocAttr]
 exact ⟨_,rfl⟩
def kAV (c i:Nat):AV:=.agg [.i c,.i i]
abbrev KS₀:Bool × List KK:=(true,[.int .i64,.int .i64])
def esT (tr:List (Nat × Nat × Nat)):List (AV × AV):=tr.map fun t=>(kAV t.1 t.2.1,.i (t.2.2:Int))
theorem wf_nat {n:Nat} (h:n<2 ^ 63):(Lit.int .i64 (n:Int)).wf=true:=by
 simp only[Lit.wf,QD,decide_eq_true_eq,IntKind.min,IntKind.max,IntKind.bits,IntKind.signed]
 simp;omega
theorem Qco {c i:Nat} (hc:c<2 ^ 63) (hi:i<2 ^ 63):F4 KS₀ (kAV c i)=true:=by
 simp[F4,JK,kAV,Y4,kkOk,wf_nat hc,wf_nat hi]
theorem key_eq {c i c' i':Nat} (hc:c<2 ^ 63) (hi:i<2 ^ 63) (hc':c'<2 ^ 63) (hi':i'<2 ^ 63):JW KS₀ (kAV c i) (kAV c' i')=some (decide (c=c'∧i=i')):=by
 simp[JW,JK,kAV,Y4,kkOk,wf_nat hc,wf_nat hi,wf_nat hc',wf_nat hi',VZ,EB]
 rw[Q8];simp only[QD,decide_eq_true_eq];omega
theorem find_cases {c i:Nat} (hc:c<2 ^ 63) (hi:i<2 ^ 63):∀ (tr:List (Nat × Nat × Nat)) (s:Nat),(∀ t∈tr,t.1<2 ^ 63∧t.2.1<2 ^ 63) →
  (findKey KS₀ (kAV c i) (esT tr) s=some none∧∀ t∈tr,¬ (t.1=c∧t.2.1=i))∨∃ (j n:Nat),tr[j]? = some (c,i,n)∧findKey KS₀ (kAV c i) (esT tr) s=some (some (s+j,.i n))
 | [],s,_=>.inl ⟨rfl,by simp⟩
 | t :: tr,s,h=>by
  obtain ⟨h1,h2⟩:=h t (by simp)
  have hk:=key_eq hc hi h1 h2
  by_cases e:c=t.1∧i=t.2.1
  ·refine .inr ⟨0,t.2.2,?_,?_⟩
   ·obtain ⟨a,b,n⟩:=t
    obtain ⟨rfl,rfl⟩:=e
    rfl
   ·rw[decide_eq_true e] at hk
    simp only[esT,Q0,findKey,hk];rfl
  ·rw[decide_eq_false e] at hk
   rcases find_cases hc hi tr (s+1) (fun t ht=>h t (by simp[ht])) with ⟨g1,g2⟩ | ⟨j,n,g1,g2⟩
   ·refine .inl ⟨?_,?_⟩
    ·simp only[esT,Q0,findKey,hk];exact g1
    ·intro u hu
     rcases ZD.1 hu with rfl | hu
     ·intro h;exact e ⟨h.1.symm,h.2.symm⟩
     ·exact g2 u hu
   ·refine .inr ⟨j+1,n,by simpa using g1,?_⟩
    simp only[esT,Q0,findKey,hk]
    rw[show s+(j+1)=s+1+j by omega];exact g2
structure RanksAt (q:QL₀) (c p:Nat) (tr:List (Nat × Nat × Nat)):Prop where
 sound:∀ t∈tr,t.1<q.cs.length∧t.2.1<q.ls.length∧t.2.2=rankQ q t.1 t.2.1
 full:∀ d i,d<q.cs.length→i<q.ls.length→d<c∨d=c∧Mk.rankOf q.ls.length (bef q d) i<p→∃ t∈tr,t.1=d∧t.2.1=i
theorem map_look {q:QL₀} {tr:List (Nat × Nat × Nat)} (hq:QSz q) (h:RanksAt q q.cs.length 0 tr) {c i:Nat} (hc:c<q.cs.length) (hi:i<q.ls.length) {σ:List AObj} {l:Nat} (hm:mapOf σ l=some (esT tr)) :
  KL KS₀ (.i 0) false [.map l,.agg [.i c,.i i]] σ=some (.i (rankQ q c i),σ):=by
 have hcs:=hq.cs
 have hls:=hq.ls
 have hk:=Qco (c:=c) (i:=i) (by omega) (by omega)
 rcases find_cases (c:=c) (i:=i) (by omega) (by omega) tr 0 (fun t ht=>by have:=h.sound t ht;omega) with ⟨_,g2⟩ | ⟨j,n,g1,g2⟩
 ·obtain ⟨t,ht,he⟩:=h.full c i hc hi (.inl hc)
  exact absurd he (g2 t ht)
 ·have hn:=(h.sound _ (QZ g1)).2.2
  simp only at hn
  subst hn
  show KL KS₀ (.i 0) false [.map l,kAV c i] σ=_
  simp only[KL,hm,Option.bind_some,hk,g2]
  rfl
def putTr (tr:List (Nat × Nat × Nat)) (c i r:Nat):List (Nat × Nat × Nat):=if (tr.any fun t=>t.1 == c&&t.2.1 == i)=true then tr else tr++[(c,i,r)]
theorem map_put {q:QL₀} {c p:Nat} {tr:List (Nat × Nat × Nat)} (hq:QSz q) (h:RanksAt q c p tr) {i:Nat} (hL:∀ i,i<q.ls.length→LeaOk q i) (hc:c<q.cs.length) (hi:i<q.ls.length) (hr:Mk.rankOf q.ls.length (bef q c) i=p) {σ:List AObj} {l:Nat} (hm:mapOf σ l=some (esT tr)) :
  RanksAt q c (p+1) (putTr tr c i (p+1))∧JZ KS₀ [.map l,.agg [.i c,.i i],.i ((p+1:Nat):Int)] σ=some (.undef,σ.set l (.map (esT (putTr tr c i (p+1))))):=by
 have hcs:=hq.cs
 have hls:=hq.ls
 have hk:=Qco (c:=c) (i:=i) (by omega) (by omega)
 have hrq:rankQ q c i=p+1:=by unfold rankQ;rw[hr]
 have inj:∀ k,k<q.ls.length→Mk.rankOf q.ls.length (bef q c) k=p→k=i:=fun k hk e=>Mk.rank_inj (bef_strict hL c) hk hi (by rw[e,hr])
 rcases find_cases (c:=c) (i:=i) (by omega) (by omega) tr 0 (fun t ht=>by have:=h.sound t ht;omega) with ⟨g1,g2⟩ | ⟨j,n,g1,g2⟩
 ·have hp:putTr tr c i (p+1)=tr++[(c,i,p+1)]:=by
   unfold putTr
   rw[if_neg]
   simp only[ZZ,QD,beq_iff_eq,not_exists,not_and]
   exact fun t ht h1 h2=>g2 t ht ⟨h1,h2⟩
  rw[hp]
  refine ⟨⟨fun t ht=>?_,fun d k hd hk' hor=>?_⟩,?_⟩
  ·rcases YV.1 ht with ht | ht
   ·exact h.sound t ht
   ·rw[WZ] at ht;subst ht;exact ⟨hc,hi,hrq.symm⟩
  ·by_cases h1:d<c∨d=c∧Mk.rankOf q.ls.length (bef q d) k<p
   ·obtain ⟨t,ht,he⟩:=h.full d k hd hk' h1
    exact ⟨t,J3 _ ht,he⟩
   ·have hd':d=c:=by omega
    subst hd'
    have:k=i:=inj k hk' (by omega)
    subst this
    exact ⟨(d,k,p+1),by simp,rfl,rfl⟩
  ·show JZ KS₀ [.map l,kAV c i,.i ((p+1:Nat):Int)] σ=_
   simp only[JZ,hm,Option.bind_some,hk,g1]
   simp[XU,esT]
 ·have hn:=(h.sound _ (QZ g1)).2.2
  simp only at hn
  rw[hrq] at hn
  subst hn
  have hp:putTr tr c i (p+1)=tr:=by
   unfold putTr
   rw[if_pos]
   rw[ZZ]
   exact ⟨_,QZ g1,by simp⟩
  rw[hp]
  refine ⟨⟨h.sound,fun d k hd hk' hor=>?_⟩,?_⟩
  ·by_cases h1:d<c∨d=c∧Mk.rankOf q.ls.length (bef q d) k<p
   ·exact h.full d k hd hk' h1
   ·have hd':d=c:=by omega
    subst hd'
    have:k=i:=inj k hk' (by omega)
    subst this
    exact ⟨_,QZ g1,rfl,rfl⟩
  ·show JZ KS₀ [.map l,kAV c i,.i ((p+1:Nat):Int)] σ=_
   simp only[JZ,hm,Option.bind_some,hk,g2]
   have hset:(esT tr).set (0+j) (kAV c i,.i ((p+1:Nat):Int))=esT tr:=by
    rw[ZV]
    apply Z1
    intro k
    by_cases e:j=k
    ·subst e
     have hjl:j<(esT tr).length:=by simp[esT];exact (QH.1 g1).1
     rw[Z2 hjl]
     simp[esT,g1]
    ·rw[QU e]
   simp only[Option.map_some,XU,hset];rfl
theorem ranks_next {q:QL₀} {c:Nat} {tr:List (Nat × Nat × Nat)} (h:RanksAt q c q.ls.length tr):RanksAt q (c+1) 0 tr :=
 ⟨h.sound,fun d i hd hi hor=>h.full d i hd hi (by
  have:=rank_lt_n (q:=q) (c:=d) hi
  omega)⟩
theorem ord_at {q:QL₀} {c p:Nat} (hL:∀ i,i<q.ls.length→LeaOk q i) (hp:p<q.ls.length):∃ i:Nat,i<q.ls.length∧(ordQ q c)[p]?.getD 0=(i:Int)∧Mk.rankOf q.ls.length (bef q c) i=p:=by
 obtain ⟨h1,h2⟩:=ins_sorted q c
 obtain ⟨hlt,hrank⟩:=rank_sorted hL h1 h2
 have hlen:=h1.length_eq
 rw[List.length_range] at hlen
 generalize (Sort.insertionSort (ltC (cmpQ q c)) (List.range q.ls.length).toArray 0 q.ls.length).toList=M at hlt hrank hlen
 obtain ⟨i,hi⟩:∃ i,i=M[p]'(by omega):=⟨_,rfl⟩
 have he:=hrank p (by omega)
 have hl:=hlt p (by omega)
 rw[← hi] at he hl
 have hi:=hl
 have:=ordF_get hL (c:=c) q.ls.length (QG _) i hi
 rw[he] at this
 refine ⟨i,hi,?_,he⟩
 unfold ordQ
 rw[this];rfl
def trP (q:QL₀) (c:Nat) (tr:List (Nat × Nat × Nat)):Nat→List (Nat × Nat × Nat)
 | 0=>tr
 | p+1=>putTr (trP q c tr p) c ((ordQ q c)[p]?.getD 0).toNat (p+1)
def trC (q:QL₀):Nat→List (Nat × Nat × Nat)
 | 0=>[]
 | c+1=>trP q c (trC q c) q.ls.length
abbrev rankH (q:QL₀):List AObj:=[.cells [cenL q.cs,leaL q.ls],.map (esT (trC q q.cs.length)),.cells [cenL q.cs,leaL q.ls,.map 1]]
theorem trP_ranks {q:QL₀} (hL:∀ i,i<q.ls.length→LeaOk q i) (hq:QSz q) {c:Nat} (hc:c<q.cs.length) {tr:List (Nat × Nat × Nat)} (h:RanksAt q c 0 tr):∀ p,p≤q.ls.length→RanksAt q c p (trP q c tr p)
 | 0,_=>h
 | p+1,hp=>by
  obtain ⟨i,hi,hio,hir⟩:=ord_at (c:=c) hL (show p<q.ls.length by omega)
  have:=(map_put hq (trP_ranks hL hq hc h p (by omega)) hL hc hi hir (σ:=[.map (esT (trP q c tr p))]) (l:=0) rfl).1
  unfold trP
  rw[hio,Int.toNat_natCast]
  exact this
theorem trC_ranks {q:QL₀} (hL:∀ i,i<q.ls.length→LeaOk q i) (hq:QSz q):∀ c,c≤q.cs.length→RanksAt q c 0 (trC q c)
 | 0,_=>⟨by simp[trC],fun d i hd hi hor=>by omega⟩
 | c+1,hc=>ranks_next (trP_ranks hL hq (by omega) (trC_ranks hL hq c (by omega)) _ (QG _))
theorem c39 (q:QL₀) (hq:QSz q) (he:QOk q) :
  AC Tryz.prog 39 [qV q] [] fun r τ=>r=.ptr 2 0∧τ=rankH q:=by
 obtain ⟨hc5,hl8,hLe,hCe⟩:=id he
 refine ZF (fok39 true) (QC rfl) ?_
 simp only[ic39,evA,simprocAttr]
 refine ZW q.cs.length (fun c s=>∃ v4 v5 v6 v9 v10 v11 v12 v13,s=⟨[qV q,.ptr 0 0,.cv .nilp,.ptr 2 0,v4,v5,v6,.i q.cs.length,.i c,v9,v10,v11,v12,v13],[.cells [cenL q.cs,leaL q.ls],.map (esT (trC q c)),.cells [cenL q.cs,leaL q.ls,.map 1]]⟩) ?_ 0 (QF _) ⟨_,_,_,_,_,_,_,_,rfl⟩
 rintro c s hc ⟨v4,v5,v6,v9,v10,v11,v12,v13,rfl⟩
 by_cases h:c<q.cs.length
 rotate_left
 ·have:c=q.cs.length:=by omega
  subst this
  simp only[ic39l1,QJ,h,evA,simprocAttr]
 have hR:=trC_ranks hLe hq c hc
 simp only[ic39l1,QJ,h,evA,simprocAttr]
 refine (c51 q hq he c h (L:=2) (x:=.map 1) rfl (by simp[AObj.live])).run ?_
 have hol:(ordQ q c).length=q.ls.length:=ordF_len q c _
 simp only[hol,evA,simprocAttr]
 refine ZW q.ls.length (fun p s=>∃ v5 v6 v13,s=⟨[qV q,.ptr 0 0,.cv .nilp,.ptr 2 0,.i c,v5,v6,.i q.cs.length,.i c,.b true,ints (ordQ q c),.i q.ls.length,.i p,v13],[.cells [cenL q.cs,leaL q.ls],.map (esT (trP q c (trC q c) p)),.cells [cenL q.cs,leaL q.ls,.map 1]]⟩) ?_ 0 (QF _) ⟨_,_,_,rfl⟩
 rintro p s hp ⟨v5,v6,v13,rfl⟩
 by_cases h2:p<q.ls.length
 rotate_left
 ·have:p=q.ls.length:=by omega
  subst this
  simp only[ic39l0,QJ,h2,evA,simprocAttr]
  exact ZL (by first | trivial | omega) ⟨_,_,_,_,_,_,_,_,by rw[Q6 (by omega)];rfl⟩
 obtain ⟨i,hi,hio,hir⟩:=ord_at (c:=c) hLe h2
 have hpl:p<(ordQ q c).length:=by omega
 have hput:=(map_put hq (trP_ranks hLe hq h hR p (by omega)) hLe h hi hir (σ:=[.cells [cenL q.cs,leaL q.ls],.map (esT (trP q c (trC q c) p)),.cells [cenL q.cs,leaL q.ls,.map 1]]) (l:=1) rfl).2
 have htp:trP q c (trC q c) (p+1)=putTr (trP q c (trC q c) p) c i (p+1):=by
  show putTr _ c _ (p+1)=_
  rw[hio,Int.toNat_natCast]
 have hws:IntKind.i64.wrap ((p:Int)+1)=((p+1:Nat):Int):=Q6 (by omega)
 simp only[ic39l0,QJ,h2,hpl,hio,hws,hput,evA,simprocAttr]
 exact ZL (by first | trivial | omega) ⟨_,_,_,by rw[htp]⟩
def openV (q:QL₀) (tr:List (Nat × Nat × Nat)):List AObj:=[.cells [cenL q.cs,leaL q.ls],.cells [cenL q.cs,leaL q.ls],.map (esT tr),.cells [cenL q.cs,leaL q.ls,.map 2]]
theorem c33 (q:QL₀) (hq:QSz q) :
  AC Tryz.prog 33 [qV q] [] fun r τ=>(eQ q=0∧∃ tr,RanksAt q q.cs.length 0 tr∧r=.tup [.ptr 3 0,.i 0]∧τ=openV q tr)∨(eQ q≠0∧r=.tup [.cv .nilp,.i (eQ q)]∧τ=[.cells [cenL q.cs,leaL q.ls]]):=by
 refine ZF (fok33 true) (QC rfl) ?_
 simp only[ic33,evA,simprocAttr]
 refine (c57 q hq).call frz ?_
 rw[chkV_e]
 by_cases h0:eQ q=0
 ·simp only[h0,evA,simprocAttr]
  refine (AC.frame (by simp[QO,QR]) (c39 q hq (val_of h0)) _).mono ?_
  rintro r τ ⟨r0,τ0,⟨rfl,rfl⟩,rfl,rfl⟩
  have hR:=trC_ranks (val_of h0).2.2.1 hq _ (QG _)
  have hes:(esT (trC q q.cs.length)).map (fun e=>(ren (sh 1) e.1,ren (sh 1) e.2))=esT (trC q q.cs.length):=by
   simp[esT,kAV,ren,rens]
  simp only[Q0,WS,renO,ren,rens,evA,simprocAttr]
  refine .inl ⟨_,hR,?_⟩
  rw[hes];rfl
 ·have hb:=bne_t h0
  simp only[hb,evA,simprocAttr]
  exact .inr h0
abbrev nats (zs:List Nat):List AV:=zs.map fun k=>AV.i (k:Nat)
theorem nats_at {zs:List Nat} {rest:List AV} {i:Nat} (h:i<zs.length):(nats zs++rest)[i]? = some (.i (zs[i]! : Nat)):=by
 rw[QE (by simpa using h)]
 simp[h]
structure RkAt (q:QL₀) (tr:List (Nat × Nat × Nat)) (B lc L lm c:Nat) (σ:List AObj):Prop where
 hB:rowOf σ B=some [.ptr L 0]
 hL:rowOf σ L=some [cenL q.cs,leaL q.ls,.map lm]
 hm:mapOf σ lm=some (esT tr)
 hc:rowOf σ lc=some [.i c]
theorem c60 (q:QL₀) (hq:QSz q) {tr:List (Nat × Nat × Nat)} (hR:RanksAt q q.cs.length 0 tr) {a b c:Nat} (hc:c<q.cs.length) (ha:a<q.ls.length) (hb:b<q.ls.length) {B lc L lm:Nat} {σ:List AObj} (h:RkAt q tr B lc L lm c σ) :
  AC Tryz.prog 60 [.i a,.i b,.ptr B 0,.ptr lc 0] σ fun r τ=>r=.i (cmpI (rankQ q c a) (rankQ q c b))∧τ=σ:=by
 obtain ⟨hB,hL,hm,hcc⟩:=h
 have g1:=map_look hq hR hc ha hm
 have g2:=map_look hq hR hc hb hm
 refine ZF (fok60 true) (QC rfl) ?_
 simp only[ic60,evA,simprocAttr]
 refine DW_s [16] [] hmix (by kernel_rfl) rfl ?_
 simp only[hB,hL,hcc,g1,g2,evA,simprocAttr]
 refine YE ((c61 _ _).call frz ⟨rfl,rfl⟩) rfl ?_
 simp only[evA,simprocAttr]
theorem c63 (k last:Nat) {lv:Nat} {σ:List AObj} (h:rowOf σ lv=some [.i last]):AC Tryz.prog 63 [.i k,.ptr lv 0] σ fun r τ=>r=.b (k == last)∧τ=σ:=by
 refine ZF (fok63 true) (QC rfl) ?_
 have e:((k:Int) == (last:Int))=(k == last):=by rw[Q8];simp;omega
 simp only[ic63,h,e,evA,simprocAttr]
theorem c59 (zs:List Nat) (rest:List AV) (R:Nat→Int) (hz:0<zs.length) (hn:zs.length<2 ^ 40) {l:Nat} {σ:List AObj} (hr:rowOf σ l=some (nats zs++rest)) {fv:AV}
  (hf:∀ a b,a∈zs→b∈zs→X0 Tryz.prog fv [.i (a:Nat),.i (b:Nat)] σ fun r τ=>r=.i (cmpI (R a) (R b))∧τ=σ) :
  AC Tryz.prog 59 [.sl l 0 zs.length 1,fv] σ fun r τ=>∃ m,(m∈zs∧∀ k∈zs,R k≤R m)∧r=.i (m:Nat)∧τ=σ:=by
 refine ZF (fok59 true) (QC rfl) ?_
 have h1:¬ ((zs.length:Int)<1):=by omega
 have h0:=nats_at (rest:=rest) hz
 have h00:VP 1 [.sl l 0 zs.length 1,.cv (.int .i64 0)] σ=some (.ptr l 0,σ):=W9 (off:=0) hz σ
 have hmem:∀ i,i<zs.length→zs[i]!∈zs:=fun i h=>by simp[h]
 simp only[ic59,h1,h00,hr,h0,evA,simprocAttr]
 refine ZW zs.length (fun i s=>∃ v6 v7 v2 m,(m∈zs∧∀ j,j<i→R (zs[j]!)≤R m)∧s=⟨[.sl l 0 zs.length 1,fv,v2,.i (m:Nat),.i i,.b false,v6,v7],σ⟩) ?_ 1 (by omega) ⟨_,_,_,zs[0]!,⟨hmem 0 hz,fun j hj=>by
  have:j=0:=by omega
  subst this;exact Int.le_refl _⟩,rfl⟩
 rintro i s hi ⟨v6,v7,v2,m,⟨hm,hall⟩,rfl⟩
 by_cases h:i<zs.length
 ·have hget:=nats_at (rest:=rest) h
  simp only[ic59l0,QJ,h,hr,hget,ZV,evA,simprocAttr]
  refine (hf _ _ (hmem i h) hm).run ?_
  by_cases hgt:R (zs[i]!)>R m
  ·have hc:cmpI (R (zs[i]!)) (R m)>0:=by unfold cmpI;rw[if_neg (by omega),if_pos hgt];decide
   simp only[hc,h,hr,hget,ZV,evA,simprocAttr]
   refine ZL (by first | trivial | omega) ⟨_,_,_,zs[i]!,⟨hmem i h,fun j hj=>?_⟩,by rw[Q6 (by omega)]⟩
   rcases QQ.1 hj with hj | rfl
   ·have:=hall j hj;omega
   ·exact Int.le_refl _
  ·have hc:¬ cmpI (R (zs[i]!)) (R m)>0:=by unfold cmpI;split <;> (try split) <;> omega
   simp only[hc,evA,simprocAttr]
   refine ZL (by first | trivial | omega) ⟨_,_,_,m,⟨hm,fun j hj=>?_⟩,by rw[Q6 (by omega)]⟩
   rcases QQ.1 hj with hj | rfl
   ·exact hall j hj
   ·omega
 ·have:i=zs.length:=by omega
  subst this
  simp only[ic59l0,QJ,h,evA,simprocAttr]
  refine ⟨m,⟨hm,fun k hk=>?_⟩,rfl⟩
  obtain ⟨j,hj,rfl⟩:=WN.1 hk
  have:=hall j hj
  simpa[hj] using this
theorem idxf_open (zs:List Nat) (rest:List AV) (p:Nat→Bool) (hn:zs.length<2 ^ 40) {l:Nat} {σ:List AObj} (hr:rowOf σ l=some (nats zs++rest)) {fv:AV} (hf:∀ a,a∈zs→X0 Tryz.prog fv [.i (a:Nat)] σ fun r τ=>r=.b (p a)∧τ=σ) :
  AC Tryz.prog 96 [.sl l 0 zs.length 1,fv] σ fun r τ=>r=.i (idxN (fun i=>p zs[i]!) zs.length)∧τ=σ:=by
 refine ZF (fok96 true) (QC rfl) ?_
 have hmem:∀ i,i<zs.length→zs[i]!∈zs:=fun i h=>by simp[h]
 simp only[ic96,evA,simprocAttr]
 refine ZW zs.length (fun i s=>(∀ j,j<i→p zs[j]! = false)∧∃ v3 v6 v7,s=⟨[.sl l 0 zs.length 1,fv,.i 0,v3,.i zs.length,.i i,v6,v7],σ⟩) ?_ 0 (QF _) ⟨by omega,_,_,_,rfl⟩
 rintro i s hi ⟨hall,v3,v6,v7,rfl⟩
 by_cases h:i<zs.length
 ·have hget:=nats_at (rest:=rest) h
  simp only[ic96l0,QJ,h,hr,hget,ZV,evA,simprocAttr]
  refine (hf _ (hmem i h)).run ?_
  cases hp:p zs[i]!
  ·simp only[evA,simprocAttr]
   refine ZL (by first | trivial | omega) ⟨fun j hj=>?_,_,_,_,by rw[ZC (by omega)];rfl⟩
   rcases QQ.1 hj with hj | rfl
   ·exact hall j hj
   ·exact hp
  ·simp only[evA,simprocAttr]
   exact (EK (p:=fun i=>p zs[i]!) h hall hp).symm
 ·simp only[ic96l0,QJ,h,evA,simprocAttr]
  have:i=zs.length:=by omega
  subst this
  exact (EL (p:=fun i=>p zs[i]!) hall).symm
theorem filter_take {zs:List Nat} {p:Nat→Bool} {j:Nat} (h:j<zs.length):(zs.take (j+1)).filter p=(zs.take j).filter p++if p zs[j]! = true then [zs[j]!] else []:=by
 rw[JC,QI h,List.filter_append]
 have:zs[j]! = zs[j]:=by simp[h]
 rw[this]
 cases hp:p zs[j] <;> simp[hp]
theorem zcells_one (n:Nat) (z:AV):YW n [z]=List.replicate n z:=rfl
theorem c62 (zs:List Nat) (rest:List AV) (p:Nat→Bool) (I:List AObj→Prop) (hn:zs.length<2 ^ 40) {l:Nat} {σ:List AObj} (hr:rowOf σ l=some (nats zs++rest)) (hI:I σ) (hIs:∀ x,I (σ.set l x)) {fv:AV}
  (hf:∀ a τ,a∈zs→I τ→X0 Tryz.prog fv [.i (a:Nat)] τ fun r τ'=>r=.b (p a)∧τ'=τ) :
  AC Tryz.prog 62 [.sl l 0 zs.length 1,fv] σ fun r τ=>r=.sl l 0 (zs.filter fun k=>!p k).length 1∧τ=σ.set l (.cells (nats (zs.filter fun k=>!p k)++(List.replicate (zs.length-(zs.filter fun k=>!p k).length) (.i 0)++rest))):=by
 refine ZF (fok62 true) (QC rfl) ?_
 have hmem:∀ i,i<zs.length→zs[i]!∈zs:=fun i h=>by simp[h]
 simp only[ic62,evA,simprocAttr]
 refine (idxf_open zs rest p hn hr (fun a ha=>hf a σ ha hI)).run ?_
 by_cases hnone:∀ j,j<zs.length→p zs[j]! = false
 ·have hidx:idxN (fun i=>p zs[i]!) zs.length = -1:=EL hnone
  have hfil:(zs.filter fun k=>!p k)=zs:=by
   rw[List.filter_eq_self]
   intro k hk
   obtain ⟨j,hj,rfl⟩:=WN.1 hk
   have:=hnone j hj
   rw[getElem!_pos zs j hj] at this
   rw[this];rfl
  have hset:σ.set l (.cells (nats zs++rest))=σ:=Qec (WO hr)
  simp only[hidx,hfil,Nat.sub_self,List.replicate_zero,List.nil_append,hset,evA,simprocAttr]
 ·obtain ⟨i0,hi0,hp0,hall0⟩:∃ i0,i0<zs.length∧p zs[i0]! = true∧∀ j,j<i0→p zs[j]! = false:=by
   cases hfd:(List.range zs.length).find? (fun i=>p zs[i]!) with
   | none =>
    refine absurd (fun j hj=>?_) hnone
    rw[List.find?_eq_none] at hfd
    have:=hfd j (ZI.2 hj)
    simpa using this
   | some i0 =>
    rw[List.find?_range_eq_some] at hfd
    obtain ⟨h1,h2,h3⟩:=hfd
    exact ⟨i0,by simpa using h2,by simpa using h1,fun j hj=>by simpa using h3 j hj⟩
  have hidx:idxN (fun i=>p zs[i]!) zs.length=i0:=EK (p:=fun i=>p zs[i]!) hi0 hall0 hp0
  have hb:((i0:Int) == -1)=false:=beq_f (by omega)
  have hw0:IntKind.i64.wrap ((i0:Int)+1)=((i0+1:Nat):Int):=Q6 (by omega)
  obtain ⟨F,hF⟩:∃ F,F=fun j=>(zs.take j).filter fun k=>!p k:=⟨_,rfl⟩
  have hstep:∀ j,j<zs.length→F (j+1)=F j++if p zs[j]! = false then [zs[j]!] else []:=fun j hj=>by
   rw[hF]
   simp only
   rw[filter_take hj]
   cases p zs[j]! <;> simp
  have hfull:F zs.length=zs.filter fun k=>!p k:=by rw[hF];simp only;rw[X7]
  have hlow:∀ j,j≤i0→F j=zs.take j:=by
   intro j
   induction j with
   | zero=>intro _;rw[hF];simp
   | succ j ih =>
    intro hj
    rw[hstep j (by omega),ih (by omega),hall0 j (by omega),if_pos rfl,JC,QI (by omega)]
    simp[show j<zs.length by omega]
  have hlen0:(F (i0+1)).length=i0:=by
   rw[hstep i0 hi0,hp0,hlow i0 (QG _)]
   simp;omega
  have hFd:∀ d,i0+1+d≤zs.length→(F (i0+1+d)).length≤i0+d:=by
   intro d
   induction d with
   | zero=>intro _;rw[Nat.add_zero,hlen0];exact QG _
   | succ d ih =>
    intro hj
    have:=ih (by omega)
    rw[show i0+1+(d+1)=i0+1+d+1 by omega,hstep _ (by omega),QM]
    split
    ·simp only[List.length_singleton];omega
    ·simp only[List.length_nil];omega
  have hFle:∀ j,i0+1≤j→j≤zs.length→(F j).length+1≤j:=fun j h1 h2=>by
   have:=hFd (j-(i0+1)) (by omega)
   rw[show i0+1+(j-(i0+1))=j by omega] at this
   omega
  have hsame:σ.set l (.cells (nats zs++rest))=σ:=Qec (WO hr)
  simp only[hidx,hb,hw0,evA,simprocAttr]
  refine ZW zs.length (fun j s=>∃ (row:List AV) (v5 v7 v8:AV),(i0+1≤j∧row.length=zs.length+rest.length∧row.take (F j).length=nats (F j)∧row.drop j=nats (zs.drop j)++rest)∧s=⟨[.sl l 0 zs.length 1,fv,.cv .nils,.i ((F j).length:Nat),.i j,v5,.b false,v7,v8],σ.set l (.cells row)⟩) ?_ (i0+1) (by omega) ⟨nats zs++rest,_,_,_,⟨QG _,by simp,?_,?_⟩,by rw[hlen0,hsame]⟩
  ·rintro j s hj ⟨row,v5,v7,v8,⟨hj0,hrl,htk,hdr⟩,rfl⟩
   have hrow:rowOf (σ.set l (.cells row)) l=some row:=W0 hr
   have hle:=hFle j hj0 hj
   by_cases h:j<zs.length
   ·have hget:row[j]? = some (.i (zs[j]! : Nat)):=by
     have:(row.drop j)[0]? = some (.i (zs[j]! : Nat)):=by
      rw[hdr,List.drop_eq_getElem_cons h,getElem!_pos zs j h];rfl
     rw[X4,Nat.add_zero] at this
     exact this
    have hdr':row.drop (j+1)=nats (zs.drop (j+1))++rest:=by
     have e:row.drop (j+1)=(row.drop j).drop 1:=by rw[List.drop_drop]
     rw[e,hdr,List.drop_eq_getElem_cons h];rfl
    have hst:=hstep j h
    simp only[ic62l0,QJ,h,hrow,hget,ZV,evA,simprocAttr]
    refine (hf _ _ (hmem j h) (hIs _)).run ?_
    cases hp:p zs[j]!
    ·rw[hp,if_pos rfl] at hst
     have hwl:(F j).length<zs.length:=by omega
     have hbd:(F j).length+1≤row.length:=by omega
     have hws:IntKind.i64.wrap (((F j).length:Int)+1)=(((F (j+1)).length:Nat):Int):=by rw[hst,QM];exact Q6 (by omega)
     simp only[hwl,hrow,hbd,hws,ZV,List.set_set,evA,simprocAttr]
     refine ZL (by first | trivial | omega) ⟨row.set (F j).length (.i (zs[j]! : Nat)),_,_,_,⟨by omega,by rw[WE];exact hrl,?_,?_⟩,by rw[Q6 (by omega)]⟩
     ·rw[hst,QM,List.length_singleton,JC,List.take_set,Z2 (by omega),htk,KE (by simp)]
      simp[nats]
     ·rw[List.drop_set,if_pos (by omega)];exact hdr'
    ·rw[hp,if_neg (by decide),ZU] at hst
     simp only[evA,simprocAttr]
     exact ZL (by first | trivial | omega) ⟨row,_,_,_,⟨by omega,hrl,by rw[hst];exact htk,hdr'⟩,by rw[Q6 (by omega),hst]⟩
   ·have:j=zs.length:=by omega
    subst this
    rw[hfull] at htk hle ⊢
    obtain ⟨w,hw⟩:∃ w,w=(zs.filter fun k=>!p k).length:=⟨_,rfl⟩
    rw[← hw] at htk hle ⊢
    have hdr0:row.drop zs.length=rest:=by rw[hdr];simp
    have hbd:w+(zs.length-w)≤row.length:=by omega
    have hsr:setRange row w (List.replicate (zs.length-w) (AV.i 0))=nats (zs.filter fun k=>!p k)++(List.replicate (zs.length-w) (AV.i 0)++rest):=by
     rw[KG _ _ _ (by rw[List.length_replicate];omega),List.length_replicate,show w+(zs.length-w)=zs.length by omega,hdr0,htk,QW]
    simp only[ic62l0,QJ,h,BP (show w<zs.length by omega),Qb1 (show w≤zs.length by omega),UN,hrow,hbd,zcells_one,hsr,List.set_set,evA,simprocAttr]
  ·rw[hlen0]
   rw[List.take_append_of_le_length (by simp;omega)]
   have:=hlow i0 (QG _)
   rw[hstep i0 hi0,hp0,this]
   simp
  ·rw[List.drop_append_of_le_length (by simp;omega)]
   simp
def KAt (τ:List AObj) (b:Nat) (v:AV) (zs:List Nat):Prop:=(v=.cv .nils∧zs=[])∨∃ l rest,b≤l∧v=.sl l 0 zs.length 1∧rowOf τ l=some (nats zs++rest)
def capsA (B:Nat):List AV:=[.ptr (B+4) 0,.ptr (B+5) 0,.ptr B 0,.ptr (B+6) 0,.ptr (B+7) 0]
structure Rep (q:QL₀) (σ0:List AObj) (L:Nat) (s:Qu.St) (τ:List AObj):Prop where
 old:∀ l,l<σ0.length→τ[l]? = σ0[l]?
 sz:σ0.length+8≤τ.length
 r0:rowOf τ σ0.length=some [.ptr L 0]
 r1:rowOf τ (σ0.length+1)=some ((listN q.ls.length s.g).map AV.i)
 r2:rowOf τ (σ0.length+2)=some ((listN q.ls.length fun k=>(s.a k:Int)).map AV.i)
 r3:∃ kc:List AV,rowOf τ (σ0.length+3)=some kc∧kc.length=q.cs.length∧(∀ c,c<q.cs.length→KAt τ (σ0.length+8) (kc.getD c .undef) (s.ks c)) ∧
  ∀ c d,c<q.cs.length→d<q.cs.length→c≠d→∀ l n l' n',kc.getD c .undef=.sl l 0 n 1→kc.getD d .undef=.sl l' 0 n' 1→l≠l'
 r4:rowOf τ (σ0.length+4)=some [.slc (σ0.length+1) 0 q.ls.length q.ls.length 1]
 r5:rowOf τ (σ0.length+5)=some [.slc (σ0.length+2) 0 q.ls.length q.ls.length 1]
 r6:rowOf τ (σ0.length+6)=some [.slc (σ0.length+3) 0 q.cs.length q.cs.length 1]
 r7:rowOf τ (σ0.length+7)=some [.fn (.func 58) (capsA σ0.length)]
section
variable {q:QL₀} {σ0:List AObj} {L:Nat} {s:Qu.St} {τ:List AObj}
theorem rowOf_eq {σ τ:List AObj} {l:Nat} (h:τ[l]? = σ[l]?):rowOf τ l=rowOf σ l:=by unfold rowOf;rw[h]
theorem mapOf_eq {σ τ:List AObj} {l:Nat} (h:τ[l]? = σ[l]?):mapOf τ l=mapOf σ l:=by unfold mapOf;rw[h]
theorem KAt.keep {τ τ':List AObj} {b:Nat} {v:AV} {zs:List Nat} (h:KAt τ b v zs) (hk:∀ l n,v=.sl l 0 n 1→τ'[l]? = τ[l]?):KAt τ' b v zs:=by
 rcases h with h | ⟨l,rest,h1,h2,h3⟩
 ·exact .inl h
 ·exact .inr ⟨l,rest,h1,h2,by rw[rowOf_eq (hk l _ h2)];exact h3⟩
theorem KAt.ge {τ:List AObj} {b:Nat} {v:AV} {zs:List Nat} (h:KAt τ b v zs) {l n:Nat} (hv:v=.sl l 0 n 1):b≤l∧l<τ.length:=by
 rcases h with ⟨h,_⟩ | ⟨l',rest,h1,h2,h3⟩
 ·rw[h] at hv;cases hv
 ·rw[h2] at hv;cases hv;exact ⟨h1,(QH.1 (WO h3)).1⟩
theorem Rep.setG (h:Rep q σ0 L s τ) (g:Nat→Int):Rep q σ0 L { s with g:=g } (τ.set (σ0.length+1) (.cells ((listN q.ls.length g).map AV.i))):=by
 obtain ⟨kc,k1,k2,k3,k4⟩:=h.r3
 refine ⟨fun l hl=>by rw[QU (by omega)];exact h.old l hl,by rw[WE];exact h.sz,?_,W0 h.r1,?_,⟨kc,?_,k2,fun c hc=>(k3 c hc).keep fun l n hv=>?_,k4⟩,?_,?_,?_,?_⟩
 ·rw[QX (by omega)];exact h.r0
 ·rw[QX (by omega)];exact h.r2
 ·rw[QX (by omega)];exact k1
 ·rw[QU (by have:=(k3 c hc).ge hv;omega)]
 ·rw[QX (by omega)];exact h.r4
 ·rw[QX (by omega)];exact h.r5
 ·rw[QX (by omega)];exact h.r6
 ·rw[QX (by omega)];exact h.r7
theorem Rep.setA (h:Rep q σ0 L s τ) (a:Nat→Nat):Rep q σ0 L { s with a:=a } (τ.set (σ0.length+2) (.cells ((listN q.ls.length fun k=>(a k:Int)).map AV.i))):=by
 obtain ⟨kc,k1,k2,k3,k4⟩:=h.r3
 refine ⟨fun l hl=>by rw[QU (by omega)];exact h.old l hl,by rw[WE];exact h.sz,?_,?_,W0 h.r2,⟨kc,?_,k2,fun c hc=>(k3 c hc).keep fun l n hv=>?_,k4⟩,?_,?_,?_,?_⟩
 ·rw[QX (by omega)];exact h.r0
 ·rw[QX (by omega)];exact h.r1
 ·rw[QX (by omega)];exact k1
 ·rw[QU (by have:=(k3 c hc).ge hv;omega)]
 ·rw[QX (by omega)];exact h.r4
 ·rw[QX (by omega)];exact h.r5
 ·rw[QX (by omega)];exact h.r6
 ·rw[QX (by omega)];exact h.r7
theorem Rep.push (h:Rep q σ0 L s τ) (J:List AObj):Rep q σ0 L s (τ++J):=by
 obtain ⟨kc,k1,k2,k3,k4⟩:=h.r3
 have hsz:=h.sz
 refine ⟨fun l hl=>by rw[QE (by omega)];exact h.old l hl,by rw[QM];omega,ZH h.r0 J,ZH h.r1 J,ZH h.r2 J,⟨kc,ZH k1 J,k2,fun c hc=>(k3 c hc).keep fun l n hv=>?_,k4⟩,ZH h.r4 J,ZH h.r5 J,ZH h.r6 J,ZH h.r7 J⟩
 rw[QE ((k3 c hc).ge hv).2]
theorem Rep.setK (h:Rep q σ0 L s τ) {kc:List AV} (hkc:rowOf τ (σ0.length+3)=some kc) {c:Nat} (hc:c<q.cs.length) {τ':List AObj} {v':AV} {zs':List Nat} (hsz:τ.length≤τ'.length)
  (hsame:∀ l,l<τ.length→l≠σ0.length+3→(∀ n,kc.getD c .undef≠.sl l 0 n 1)→τ'[l]? = τ[l]?) (hrow:rowOf τ' (σ0.length+3)=some (kc.set c v')) (hv:KAt τ' (σ0.length+8) v' zs')
  (hnew:∀ l n,v'=.sl l 0 n 1→τ.length≤l∨∃ n',kc.getD c .undef=.sl l 0 n' 1):Rep q σ0 L { s with ks:=upd s.ks c zs' } τ':=by
 obtain ⟨kc',k1,k2,k3,k4⟩:=h.r3
 rw[hkc] at k1;cases k1
 have hs0:=h.sz
 have hold:∀ l,l<σ0.length+8→l≠σ0.length+3→τ'[l]? = τ[l]? := fun l hl hne=>hsame l (by omega) hne fun n hn=>by have:=(k3 c hc).ge hn;omega
 have get_ne:∀ d,d≠c→(kc.set c v').getD d .undef=kc.getD d .undef:=fun d hd=>by
  rw[WA,WA,QU (Ne.symm hd)]
 have get_self:(kc.set c v').getD c .undef=v':=by
  rw[WA,Z2 (by omega)];rfl
 refine ⟨fun l hl=>by rw[hold l (by omega) (by omega)];exact h.old l hl,by omega,?_,?_,?_,⟨kc.set c v',hrow,by rw[WE];exact k2,fun d hd=>?_,fun d e hd he hne l n l' n' h1 h2=>?_⟩,?_,?_,?_,?_⟩
 ·rw[rowOf_eq (hold _ (by omega) (by omega))];exact h.r0
 ·rw[rowOf_eq (hold _ (by omega) (by omega))];exact h.r1
 ·rw[rowOf_eq (hold _ (by omega) (by omega))];exact h.r2
 ·by_cases e:d=c
  ·subst e;rw[get_self]
   show KAt τ' _ v' (upd s.ks d zs' d)
   rw[upd_same];exact hv
  ·rw[get_ne d e]
   show KAt τ' _ _ (upd s.ks c zs' d)
   rw[upd_ne _ _ e]
   refine (k3 d hd).keep fun l n hl=>hsame l ((k3 d hd).ge hl).2 (by have:=(k3 d hd).ge hl;omega) fun n' hn'=>k4 c d hc hd (Ne.symm e) l n' l n hn' hl rfl
 ·by_cases e1:d=c
  ·subst e1
   rw[get_self] at h1
   rw[get_ne e (Ne.symm hne)] at h2
   rcases hnew l n h1 with h3 | ⟨n3,h3⟩
   ·have:=(k3 e he).ge h2;omega
   ·exact k4 d e hd he hne l n3 l' n' h3 h2
  ·by_cases e2:e=c
   ·subst e2
    rw[get_self] at h2
    rw[get_ne d e1] at h1
    rcases hnew l' n' h2 with h3 | ⟨n3,h3⟩
    ·have:=(k3 d hd).ge h1;omega
    ·exact k4 d e hd he hne l n l' n3 h1 h3
   ·rw[get_ne d e1] at h1
    rw[get_ne e e2] at h2
    exact k4 d e hd he hne l n l' n' h1 h2
 ·rw[rowOf_eq (hold _ (by omega) (by omega))];exact h.r4
 ·rw[rowOf_eq (hold _ (by omega) (by omega))];exact h.r5
 ·rw[rowOf_eq (hold _ (by omega) (by omega))];exact h.r6
 ·rw[rowOf_eq (hold _ (by omega) (by omega))];exact h.r7
end
theorem kat_append {τ:List AObj} {b:Nat} {v:AV} {zs:List Nat} (h:KAt τ b v zs) (hb:b≤τ.length) (x:Nat) (hn:zs.length<2 ^ 40) :
  ∃ σ',ZX 1 8 [v,.sl τ.length 0 1 1] (τ++[AObj.cells [.i x]])=some (.sl (τ.length+1) 0 (zs.length+1) 1,σ')∧rowOf σ' (τ.length+1)=some (nats (zs++[x])) ∧
   (∀ l,l<τ.length+1→(∀ n,v≠.sl l 0 n 1)→σ'[l]? = (τ++[AObj.cells [.i x]])[l]?)∧σ'.length=τ.length+2:=by
 have hsrc:Z9 (τ++[AObj.cells [.i x]]) 1 (.sl τ.length 0 1 1)=some [.i x]:=by simp[Z9,rowOf]
 have hp:(2:Nat) ^ 40=1099511627776:=by decide
 have hp2:(2:Nat) ^ 44=17592186044416:=by decide
 rcases h with ⟨rfl,rfl⟩ | ⟨l,rest,hbl,rfl,hr⟩
 ·refine ⟨τ++[AObj.cells [.i x]]++[AObj.cells [.i x]],?_,?_,fun l hl _=>?_,by simp⟩
  ·simp only[ZX,hsrc,lenF,Option.bind_some]
   simp[AV.isSc]
  ·have:=XH (τ++[AObj.cells [.i x]]) [.i x]
   simpa using this
  ·rw[QE (by simp;omega)]
 ·have hlt:=(QH.1 (WO hr)).1
  have hr':=FU hr (AObj.cells [.i x])
  refine ⟨(τ++[AObj.cells [.i x]]).set l AObj.dead++[AObj.cells (nats zs++[.i x])],?_,?_,fun k hk hne=>?_,by simp⟩
  ·simp only[ZX,hr',hsrc,lenF,Option.bind_some]
   have hc:(True∧zs.length*1≤(nats zs++rest).length∧1*1=[AV.i x].length∧(zs.length+1)*8≤2 ^ 44∧zs.length+1≤2 ^ 44∧[AV.i x].all AV.isSc=true):=by
    refine ⟨trivial,by simp,rfl,by omega,by omega,rfl⟩
   rw[if_pos hc,W3,List.take_append_of_le_length (by simp),Q5 (by simp)]
   simp
  ·have h1:τ.length+1=((τ++[AObj.cells [.i x]]).set l AObj.dead).length:=by simp
   rw[h1,XH];simp[nats]
  ·have hkl:k≠l:=fun e=>hne zs.length (by rw[e])
   rw[QE (by simp;omega),QU (Ne.symm hkl)]
def muS (q:QL₀) (s:Qu.St):Nat:=sumTo q.ls.length fun k=>(q.ls[k]!).wi.length-s.a k
theorem listN_upd {n:Nat} {f:Nat→Int} {i:Nat} (h:i<n) (z:Int):((listN n f).map AV.i).set i (.i z)=(listN n (upd f i z)).map AV.i:=by
 rw[← List.map_set,listN_set h];rfl
theorem listN_updN {n:Nat} {f:Nat→Nat} {i:Nat} (h:i<n) (z:Nat):((listN n fun k=>(f k:Int)).map AV.i).set i (.i (z:Int))=(listN n fun k=>((upd f i z k:Nat):Int)).map AV.i:=by
 rw[← List.map_set,listN_set h]
 congr 1
 refine listN_congr fun k hk=>?_
 unfold upd
 split <;> rfl
theorem muS_lt {q:QL₀} {s:Qu.St} {x:Nat} (hx:x<q.ls.length) (h:s.a x<(q.ls[x]!).wi.length) (g:Nat→Int) (ks:Nat→List Nat):muS q ⟨g,upd s.a x (s.a x+1),ks⟩<muS q s:=by
 unfold muS
 refine Nat.lt_of_not_le fun hle=>?_
 have:=QcZ (m:=q.ls.length) (f:=fun k=>(q.ls[k]!).wi.length-upd s.a x (s.a x+1) k) (g:=fun k=>(q.ls[k]!).wi.length-s.a k) (fun k _=>by
  simp only[upd];split
  ·rename_i e;subst e;omega
  ·exact QG _) hle x hx
 simp only[upd,if_true] at this
 omega
theorem ask {q:QL₀} (hq:QSz q) (he:QOk q) {tr:List (Nat × Nat × Nat)} (hR:RanksAt q q.cs.length 0 tr) {σ0:List AObj} {L lm:Nat} (hL0:rowOf σ0 L=some [cenL q.cs,leaL q.ls,.map lm]) (hm0:mapOf σ0 lm=some (esT tr)) (t:Nat):∀ (N:Nat) (s:Qu.St) (x:Nat) (τ:List AObj),muS q s<N→(mk q).Inv t (some x) s→Rep q σ0 L s τ →
  AC Tryz.prog 58 (.i x::capsA σ0.length) τ fun r τ'=>r=.tup []∧∃ s',(mk q).Inv t none s'∧Rep q σ0 L s' τ':=by
 obtain ⟨hc5,hl8,hLe,hCe⟩:=id he
 have hLlt:=(QH.1 (WO hL0)).1
 intro N
 induction N with
 | zero=>intro s x τ hmu;omega
 | succ N ih =>
  intro s x τ hmu hI hRep
  have hxt:=hI.xt x rfl
  have htn:t≤q.ls.length:=hI.tn
  have hx:x<q.ls.length:=by omega
  have hxg:x<(listN q.ls.length s.g).length:=by rw[listN_len];exact hx
  have hset1:=listN_upd (f:=s.g) hx (-1)
  refine ZF (fok58 true) (QC rfl) ?_
  simp only[ic58,capsA,hRep.r4,hRep.r1,hset1,hx,show x+1≤(listN q.ls.length s.g).length from hxg,ZV,evA,simprocAttr]
  have hRep1:=hRep.setG (upd s.g x (-1))
  generalize τ.set (σ0.length+1) (.cells ((listN q.ls.length (upd s.g x (-1))).map AV.i))=τ1 at hRep1 ⊢
  have hLr:rowOf τ1 L=some [cenL q.cs,leaL q.ls,.map lm]:=by rw[rowOf_eq (hRep1.old L hLlt)];exact hL0
  refine DW_s [] [] hmix (by kernel_rfl) rfl ?_
  have hxa:x<(listN q.ls.length fun k=>(s.a k:Int)).length:=by rw[listN_len];exact hx
  have hga:(listN q.ls.length fun k=>(s.a k:Int))[x]?.getD 0=(s.a x:Int):=listN_get hx
  simp only[hRep1.r5,hRep1.r2,hRep1.r0,hLr,hx,hxa,hga,XP hx,lea_4 hx,ZV,evA,simprocAttr]
  have hwx:(mk q).w x=(q.ls[x]!).wi.map Int.toNat:=rfl
  by_cases hlast:s.a x=(q.ls[x]!).wi.length
  ·have hb:((s.a x:Int) == ((q.ls[x]!).wi.length:Int))=true:=by simp[hlast]
   simp only[hb,evA,simprocAttr]
   exact ⟨_,hI.noneLeft (by rw[hwx,ZK];exact hlast),hRep1⟩
  have hb:((s.a x:Int) == ((q.ls[x]!).wi.length:Int))=false:=beq_f (by omega)
  have hal:=hI.al x hxt
  rw[hwx,ZK] at hal
  have hlt:s.a x<(q.ls[x]!).wi.length:=by omega
  have hcm:=(hLe x hx).wi _ (Q2 hlt)
  obtain ⟨c,hce⟩:∃ c:Nat,(q.ls[x]!).wi[s.a x]?.getD 0=(c:Int):=⟨((q.ls[x]!).wi[s.a x]?.getD 0).toNat,by rw[QI hlt];simp only[Option.getD_some];omega⟩
  have hcl:c<q.cs.length:=by rw[QI hlt] at hce;simp only[Option.getD_some] at hce;omega
  have hwc:((mk q).w x)[s.a x]? = some c:=by
   rw[hwx,ZR,QI hlt]
   rw[QI hlt] at hce
   simp only[Option.getD_some] at hce
   rw[hce];simp
  simp only[hb,evA,simprocAttr]
  refine DW_s [] [(0,15),(4,15),(8,15),(9,15),(12,15),(14,15)] hmix (by kernel_rfl) rfl ?_
  have k0:=fun J=>Qdq hRep1.r0 J
  have kL:=fun J=>Qdq hLr J
  have k5:=fun J=>Qdq hRep1.r5 J
  have k2:=fun J=>Qdq hRep1.r2 J
  simp only[hRep1.r5,hRep1.r2,hRep1.r0,hLr,hx,hxa,hga,hlt,hce,XP hx,lea_4 hx,ZV,QW,QM,WW,X9,VW,EZ,Qau,CH,get_nz,get_ns,k0,kL,k5,k2,WO hRep1.r0,WO hLr,WO hRep1.r5,WO hRep1.r2,evA,simprocAttr]
  have hRep2:=hRep1.push [.cells [.i c]]
  have hc6:rowOf (τ1++[.cells [.i c]]) τ1.length=some [.i c]:=XH _ _
  have hlc:σ0.length+8≤τ1.length:=hRep1.sz
  obtain ⟨kc,kk0,kk2,kk3,_⟩:=hRep1.r3
  have hlcne:∀ n,kc.getD c .undef≠.sl τ1.length 0 n 1:=fun n hv=>by have:=(kk3 c hcl).ge hv;omega
  have kk1:=ZH kk0 [.cells [.i c]]
  clear kk3
  generalize hlcv:τ1.length=lc at hc6 hlc hlcne ⊢
  generalize τ1++[.cells [.i c]]=τ2 at hRep2 hc6 kk1 ⊢
  have hL2:rowOf τ2 L=some [cenL q.cs,leaL q.ls,.map lm]:=by rw[rowOf_eq (hRep2.old L hLlt)];exact hL0
  have hset2:=listN_updN (f:=s.a) hx (s.a x+1)
  have hwi:=hq.wi x hx
  have hws:IntKind.i64.wrap ((s.a x:Int)+1)=((s.a x+1:Nat):Int):=Q6 (by omega)
  simp only[hRep2.r5,hRep2.r2,hx,hxa,hga,hws,hset2,show x+1≤(listN q.ls.length fun k=>(s.a k:Int)).length from hxa,ZV,evA,simprocAttr]
  have hRep3:=hRep2.setA (upd s.a x (s.a x+1))
  have hc6':rowOf (τ2.set (σ0.length+2) (.cells ((listN q.ls.length fun k=>((upd s.a x (s.a x+1) k:Nat):Int)).map AV.i))) lc=some [.i c]:=by rw[QX (by omega)];exact hc6
  clear hc6
  have kk1':rowOf (τ2.set (σ0.length+2) (.cells ((listN q.ls.length fun k=>((upd s.a x (s.a x+1) k:Nat):Int)).map AV.i))) (σ0.length+3)=some kc:=by rw[QX (by omega)];exact kk1
  clear kk1
  generalize τ2.set (σ0.length+2) (.cells ((listN q.ls.length fun k=>((upd s.a x (s.a x+1) k:Nat):Int)).map AV.i))=τ3 at hRep3 hc6' kk1' ⊢
  have hxg3:x<(listN q.ls.length (upd s.g x (-1))).length:=by rw[listN_len];exact hx
  have hset3:=listN_upd (f:=upd s.g x (-1)) hx (c:Int)
  simp only[hRep3.r4,hRep3.r1,hc6',hx,hset3,show x+1≤(listN q.ls.length (upd s.g x (-1))).length from hxg3,ZV,evA,simprocAttr]
  have hRep4:=hRep3.setG (upd (upd s.g x (-1)) x (c:Int))
  have hc4:rowOf (τ3.set (σ0.length+1) (.cells ((listN q.ls.length (upd (upd s.g x (-1)) x (c:Int))).map AV.i))) lc=some [.i c]:=by rw[QX (by omega)];exact hc6'
  clear hc6'
  have kk1:rowOf (τ3.set (σ0.length+1) (.cells ((listN q.ls.length (upd (upd s.g x (-1)) x (c:Int))).map AV.i))) (σ0.length+3)=some kc:=by rw[QX (by omega)];exact kk1'
  clear kk1'
  generalize τ3.set (σ0.length+1) (.cells ((listN q.ls.length (upd (upd s.g x (-1)) x (c:Int))).map AV.i))=τ4 at hRep4 hc4 kk1 ⊢
  have hupd:upd (upd s.g x (-1)) x (c:Int)=upd s.g x (c:Int):=by funext k;unfold upd;split <;> rfl
  rw[hupd] at hRep4
  have hkat:KAt τ4 (σ0.length+8) (kc.getD c .undef) (s.ks c):=by
   obtain ⟨kc',g1,_,g3,_⟩:=hRep4.r3
   rw[kk1] at g1;cases g1
   exact g3 c hcl
  have hckc:c<kc.length:=by omega
  have hkv:kc[c]? = some (kc.getD c .undef):=by rw[WA,QI hckc];rfl
  obtain ⟨v,hv⟩:∃ v,kc.getD c .undef=v:=⟨_,rfl⟩
  rw[hv] at hkat hkv hlcne
  have hsz4:=hRep4.sz
  have hkslen:(s.ks c).length≤8:=by
   have h1:=hI.cap c
   have h2:=(hCe c hcl).pl
   have h3:(mk q).q c=((q.cs[c]!).pl).toNat:=rfl
   omega
  obtain ⟨σ',happ,hnr,hsm,hsl⟩:=kat_append hkat hsz4 x (by show (s.ks c).length<_;omega)
  have hne:∀ l,l<σ0.length+8→∀ n,v≠.sl l 0 n 1:=fun l hl n hv=>by have:=hkat.ge hv;omega
  have e3:σ'[σ0.length+3]? = (τ4++[AObj.cells [.i x]])[σ0.length+3]? := hsm _ (by omega) (hne _ (by omega))
  have e6:σ'[σ0.length+6]? = (τ4++[AObj.cells [.i x]])[σ0.length+6]? := hsm _ (by omega) (hne _ (by omega))
  have hlc4:lc<τ4.length:=(QH.1 (WO hc4)).1
  have ec:σ'[lc]? = (τ4++[AObj.cells [.i x]])[lc]? := hsm _ (by omega) hlcne
  have k3:=fun J=>Qdq kk1 J
  have k6:=fun J=>Qdq hRep4.r6 J
  have kc4:=fun J=>Qdq hc4 J
  have hrow3:rowOf σ' (σ0.length+3)=some kc:=by rw[rowOf_eq e3];exact ZH kk1 _
  refine DW_s [] [(0,7),(0,8),(1,7),(1,8),(2,7),(3,7),(5,7)] hmix (by kernel_rfl) rfl ?_
  simp only[V4,hRep4.r6,hc4,kk1,hcl,hkv,happ,hrow3,e3,e6,ec,k3,k6,kc4,kk2,show c+1≤q.cs.length from hcl,WO hRep4.r6,WO hc4,WO kk1,ZV,evA,simprocAttr]
  obtain ⟨Z,hZ⟩:∃ Z,Z=s.ks c++[x]:=⟨_,rfl⟩
  have hZl:Z.length=(s.ks c).length+1:=by rw[hZ];simp
  rw[← hZl]
  rw[← hZ] at hnr
  obtain ⟨v5,hv5⟩:∃ v5,v5=AV.sl (τ4.length+1) 0 Z.length 1:=⟨_,rfl⟩
  have hRep5:Rep q σ0 L ⟨upd s.g x (c:Int),upd s.a x (s.a x+1),upd s.ks c Z⟩ (σ'.set (σ0.length+3) (.cells (kc.set c v5))):=by
   refine hRep4.setK kk1 hcl (v':=v5) (by rw[WE,hsl];omega) (fun l hl hl3 hnv=>?_) (W0 hrow3) ?_ (fun l n hl=>?_)
   ·rw[hv] at hnv
    rw[QU (Ne.symm hl3),hsm l (by omega) hnv,QE hl]
   ·exact .inr ⟨τ4.length+1,[],by omega,hv5,by rw[QX (by omega),ZU];exact hnr⟩
   ·rw[hv5] at hl;cases hl;exact .inl (by omega)
  have hlc3:lc≠σ0.length+3:=by omega
  have hc5:rowOf (σ'.set (σ0.length+3) (.cells (kc.set c v5))) lc=some [.i c]:=by rw[QX (Ne.symm hlc3),rowOf_eq ec];exact ZH hc4 _
  have hk5:rowOf (σ'.set (σ0.length+3) (.cells (kc.set c v5))) (σ0.length+3)=some (kc.set c v5):=W0 hrow3
  have hz5:rowOf (σ'.set (σ0.length+3) (.cells (kc.set c v5))) (τ4.length+1)=some (nats Z):=by rw[QX (by omega)];exact hnr
  have hs5:(σ'.set (σ0.length+3) (.cells (kc.set c v5))).length=τ4.length+2:=by rw[WE];exact hsl
  rw[← hv5]
  generalize σ'.set (σ0.length+3) (.cells (kc.set c v5))=τ5 at hRep5 hc5 hk5 hz5 hs5 ⊢
  have hkc5:(kc.set c v5)[c]? = some (.sl (τ4.length+1) 0 Z.length 1):=by rw[Z2 hckc,hv5]
  have hL5:rowOf τ5 L=some [cenL q.cs,leaL q.ls,.map lm]:=by rw[rowOf_eq (hRep5.old L hLlt)];exact hL0
  refine DW_s [] [] hmix (by kernel_rfl) rfl ?_
  simp only[hRep5.r6,hRep5.r0,hL5,hc5,hk5,hkc5,hcl,XP hcl,cen_1 hcl,ZV,evA,simprocAttr]
  by_cases hfit:(Z.length:Int)≤(q.cs[c]!).pl
  ·simp only[hfit,evA,simprocAttr]
   refine ⟨_,hI.keep hwc ?_,by rw[hZ] at hRep5;exact hRep5⟩
   show _≤(q.cs[c]!).pl.toNat
   omega
  simp only[hfit,hRep5.r6,hc5,hk5,hkc5,hcl,ZV,evA,simprocAttr]
  have hZm:∀ k∈Z,k<q.ls.length:=by
   intro k hk
   rw[hZ] at hk
   rcases YV.1 hk with hk | hk
   ·have:=(hI.mem c k hk).1;omega
   ·rw[WZ] at hk;omega
  have hlm:lm<σ0.length:=by
   unfold mapOf at hm0
   split at hm0
   ·rename_i hh;exact (QH.1 hh).1
   ·cases hm0
  have hrk:RkAt q tr σ0.length lc L lm c τ5:=⟨hRep5.r0,hL5,by rw[mapOf_eq (hRep5.old lm hlm)];exact hm0,hc5⟩
  refine (c59 Z [] (fun k=>(rankQ q c k:Int)) (by omega) (by omega) (l:=τ4.length+1) (σ:=τ5) (by rw[ZU];exact hz5) (fv:=.fn (.func 60) [.ptr σ0.length 0,.ptr lc 0]) (fun a b ha hb=>c60 q hq hR hcl (hZm a ha) (hZm b hb) hrk)).mono ?_
  rintro r τ' ⟨last,⟨hm1,hm2⟩,rfl,rfl⟩
  simp only[QW,QM,WW,X9,VW,EZ,Qau,CH,get_nz,get_ns,evA,simprocAttr]
  have hRep6:=hRep5.push [.cells [.i (last:Nat)]]
  have hl6:rowOf (τ'++[AObj.cells [.i (last:Nat)]]) τ'.length=some [.i (last:Nat)]:=XH _ _
  have hc6:=ZH hc5 [AObj.cells [.i (last:Nat)]]
  have hk6:=ZH hk5 [AObj.cells [.i (last:Nat)]]
  have hz6:=ZH hz5 [AObj.cells [.i (last:Nat)]]
  have hs6:(τ'++[AObj.cells [.i (last:Nat)]]).length=τ4.length+3:=by simp[hs5]
  rw[hs5] at hl6 ⊢
  generalize τ'++[AObj.cells [.i (last:Nat)]]=τ6 at hRep6 hl6 hc6 hk6 hz6 hs6 ⊢
  refine DW_s [] [(0,7),(1,7)] hmix (by kernel_rfl) rfl ?_
  have hlc6:lc<τ4.length:=hlc4
  obtain ⟨W,hW⟩:∃ W,W=Z.filter fun k=>!(k == last):=⟨_,rfl⟩
  have hdel:=c62 Z [] (fun k=>k == last) (fun τ=>rowOf τ (τ4.length+2)=some [.i (last:Nat)]) (by omega) (l:=τ4.length+1) (σ:=τ6) (by rw[ZU];exact hz6) hl6 (fun x=>by rw[QX (by omega)];exact hl6) (fv:=.fn (.func 63) [.ptr (τ4.length+2) 0]) (fun a τ _ hI=>c63 a last hI)
  rw[← hW,ZU] at hdel
  simp only[hRep6.r6,hc6,hk6,hkc5,hcl,ZV,evA,simprocAttr]
  refine MS hdel (callOk_set ?_ ?_) ?_
  ·simp only[QR,decide_eq_true_eq];omega
  ·simp only[Z3]
   rw[VN (by simp[Z8,nats,QR]) (by simp[Z8,QR])]
  have hRep8:Rep q σ0 L ⟨upd s.g x (c:Int),upd s.a x (s.a x+1),upd (upd s.ks c Z) c W⟩ ((τ6.set (τ4.length+1) (.cells (nats W++List.replicate (Z.length-W.length) (.i 0)))).set (σ0.length+3) (.cells ((kc.set c v5).set c (.sl (τ4.length+1) 0 W.length 1)))):=by
   have hg5:(kc.set c v5).getD c .undef=.sl (τ4.length+1) 0 Z.length 1:=by rw[WA,hkc5];rfl
   refine hRep6.setK hk6 hcl (v':=.sl (τ4.length+1) 0 W.length 1) (by simp) (fun l hl hl3 hnv=>?_) (W0 (by rw[QX (by omega)];exact hk6)) ?_ (fun l n hl=>?_)
   ·rw[hg5] at hnv
    have:l≠τ4.length+1:=fun e=>hnv Z.length (by rw[e])
    rw[QU (Ne.symm hl3),QU (Ne.symm this)]
   ·exact .inr ⟨τ4.length+1,List.replicate (Z.length-W.length) (.i 0),by omega,rfl,by rw[QX (by omega)];exact W0 hz6⟩
   ·cases hl;exact .inr ⟨_,hg5⟩
  have hkupd:upd (upd s.ks c Z) c W=upd s.ks c W:=by funext k;unfold upd;split <;> rfl
  rw[hkupd] at hRep8
  have hk7:rowOf (τ6.set (τ4.length+1) (.cells (nats W++List.replicate (Z.length-W.length) (.i 0)))) (σ0.length+3)=some (kc.set c v5):=by rw[QX (by omega)];exact hk6
  have hl8:rowOf ((τ6.set (τ4.length+1) (.cells (nats W++List.replicate (Z.length-W.length) (.i 0)))).set (σ0.length+3) (.cells ((kc.set c v5).set c (.sl (τ4.length+1) 0 W.length 1)))) (τ4.length+2)=some [.i (last:Nat)]:=by
   rw[QX (by omega),QX (by omega)];exact hl6
  have x1:(τ6.set (τ4.length+1) (.cells (nats W++List.replicate (Z.length-W.length) (.i 0))))[σ0.length+6]? = τ6[σ0.length+6]? := QU (by omega)
  have x2:(τ6.set (τ4.length+1) (.cells (nats W++List.replicate (Z.length-W.length) (.i 0))))[lc]? = τ6[lc]? := QU (by omega)
  have hkl5:(kc.set c v5).length=q.cs.length:=by rw[WE];exact kk2
  generalize τ6.set (τ4.length+1) (.cells (nats W++List.replicate (Z.length-W.length) (.i 0)))=τ7 at hRep8 hk7 hl8 x1 x2 ⊢
  simp only[hcl,hk7,hkl5,x1,x2,show c+1≤q.cs.length from hcl,ZV,evA,simprocAttr]
  generalize τ7.set (σ0.length+3) (AObj.cells ((kc.set c v5).set c (AV.sl (τ4.length+1) 0 W.length 1)))=τ8 at hRep8 hl8 ⊢
  have hzq:(mk q).q c<(s.ks c).length+1:=by
   show (q.cs[c]!).pl.toNat<_
   omega
  have hlZ:last∈s.ks c++[x]:=by rw[← hZ];exact hm1
  have hlast':last<q.ls.length:=hZm last hm1
  have hInv:=hI.turn hwc hzq hlZ (fun k hk hne=>by
   rw[← hZ] at hk
   have h1:=hm2 k hk
   have h2:Mk.rankOf q.ls.length (bef q c) k≠Mk.rankOf q.ls.length (bef q c) last:=fun e=>hne (Mk.rank_inj (bef_strict hLe c) (hZm k hk) hlast' e)
   show Mk.rankOf q.ls.length (bef q c) k<Mk.rankOf q.ls.length (bef q c) last
   unfold rankQ at h1
   omega)
  rw[← hZ,← hW] at hInv
  have hmu2:muS q ⟨upd s.g x (c:Int),upd s.a x (s.a x+1),upd s.ks c W⟩<N:=by
   have:=muS_lt hx hlt (upd s.g x (c:Int)) (upd s.ks c W)
   omega
  have hcall:=ih _ last τ8 hmu2 hInv hRep8
  simp only[hRep8.r7,hl8,evA,simprocAttr]
  refine AC.mono hcall ?_
  rintro r τ9 ⟨rfl,s',h1,h2⟩
  simp only[evA,simprocAttr]
  exact ⟨s',h1,h2⟩
end Go.Proofs.YtfnhbbohjnjfnaaGreat.AM
namespace Go.Proofs.YtfnhbbohjnjfnaaGreat.AM
variable [Dr]
open Go
theorem mkC_ints {n:Nat} (h:n<2 ^ 40) (σ:List AObj):XR 1 8 [.i 0] [.i n,.i n] σ=some (.slc σ.length 0 n n 1,σ++[.cells ((List.replicate n (0:Int)).map AV.i)]):=by
 have e:(2:Int) ^ 46=70368744177664:=by decide
 have e2:(2:Nat) ^ 40=1099511627776:=by decide
 have h1:0≤(n:Int)∧True∧(n:Int)*(8:Nat)≤2 ^ 46∧(n:Int)≤2 ^ 46∧[AV.i 0].length=1:=by
  refine ⟨by omega,trivial,by omega,by omega,rfl⟩
 simp only[XR]
 rw[if_pos h1]
 simp[YW]
theorem mkC_nils {n:Nat} (h:n<2 ^ 40) (σ:List AObj):XR 1 24 [.cv .nils] [.i n,.i n] σ=some (.slc σ.length 0 n n 1,σ++[.cells (List.replicate n (.cv .nils))]):=by
 have e:(2:Int) ^ 46=70368744177664:=by decide
 have e2:(2:Nat) ^ 40=1099511627776:=by decide
 have h1:0≤(n:Int)∧True∧(n:Int)*(24:Nat)≤2 ^ 46∧(n:Int)≤2 ^ 46∧[AV.cv .nils].length=1:=by
  refine ⟨by omega,trivial,by omega,by omega,rfl⟩
 simp only[XR]
 rw[if_pos h1]
 simp[YW]
theorem slc_hi {l n cap e k:Nat} (h:k≤cap) (σ:List AObj):VG e false true [.slc l 0 n cap e,.cv (.int .i64 k)] σ=some (.slc l 0 k cap e,σ):=by
 have h2:¬ (0=cap∧0<0):=by omega
 simp[VG,bnds,bnd,h]
theorem slc_lo {l n cap e k:Nat} (h:k≤n) (hc:n≤cap) (hk:k<cap) (σ:List AObj):VG e true false [.slc l 0 n cap e,.cv (.int .i64 k)] σ=some (.slc l (k*e) (n-k) (cap-k) e,σ):=by
 have h2:¬ (k=cap∧0<k):=by omega
 simp[VG,bnds,bnd,h,hc,h2]
theorem slc_lo0 {l n cap e k:Nat} (h:k=n) (hc:k=cap) (hk:0<k) (σ:List AObj):VG e true false [.slc l 0 n cap e,.cv (.int .i64 k)] σ=some (.cv (.rsl [] 0),σ):=by
 subst h;subst hc
 simp[VG,bnds,bnd,hk]
theorem slc_mid {l n cap e a b:Nat} (h:a≤b) (hc:b≤cap) (hk:a<cap) (σ:List AObj):VG e true true [.slc l 0 n cap e,.cv (.int .i64 a),.cv (.int .i64 b)] σ=some (.slc l (a*e) (b-a) (cap-a) e,σ):=by
 have h2:¬ (a=cap∧0<a):=by omega
 simp[VG,bnds,bnd,h,hc,h2]
theorem slc_3 {l n cap e a b c:Nat} (h:a≤b) (h2:b≤c) (h3:c≤n) (σ:List AObj):TR [.slc l 0 n cap e,.cv (.int .i64 a),.cv (.int .i64 b),.cv (.int .i64 c)] σ=some (.undef,σ):=by
 simp[TR,bnd,h,h2,h3]
theorem TB {α:Type} {xs ys zs vs:List α} (h:vs.length≤ys.length):setRange (xs++ys++zs) xs.length vs=xs++vs++ys.drop vs.length++zs:=by
 rw[KG _ _ _ (by simp;omega),QW xs ys zs,List.take_left' rfl]
 rw[List.drop_append,List.drop_of_length_le (by omega),List.nil_append,X6,List.drop_append_of_le_length h]
 simp
theorem S2 (cs:List CV):(cs.map AV.cv).all AV.isSc=true:=by simp[AV.isSc]
theorem Qa3 (zs:List Int):(zs.map AV.i).all AV.isSc=true:=by simp[AV.isSc]
theorem append_out {σ:List AObj} {l n cap e by_ i:Nat} {as_ bs cs:List AV} (hr:rowOf σ l=some (as_++bs++cs)) (ha:as_.length=i*e) (hb:bs.length=e) (hc:cs.length=(n-(i+1))*e) (hi:i<n) (hn:n≤cap) (hsc:cs.all AV.isSc=true) {src:AV}
  (hs:Z9 σ e src=some cs) (hl:lenF src=some (n-(i+1))) :
  ZX e by_ [.slc l 0 i cap e,src] σ=some (.slc l 0 (n-1) cap e,σ.set l (.cells (as_++cs++(bs++cs).drop cs.length))):=by
 have h1:i+(n-(i+1))=n-1:=by omega
 have h2:i+(n-(i+1))≤cap:=by omega
 have h3:True∧0+(i+(n-(i+1)))*e≤(as_++bs++cs).length∧(n-(i+1))*e=cs.length∧cs.all AV.isSc=true:=by
  refine ⟨trivial,?_,hc.symm,hsc⟩
  simp only[QM,ha,hb,hc,WP];omega
 simp only[ZX,hr,hs,hl,Option.bind_some,h2,if_true]
 rw[if_pos h3,h1]
 congr 4
 have:=TB (xs:=as_) (ys:=bs++cs) (zs:=[]) (vs:=cs) (by simp)
 rw[ZU,ZU,ha] at this
 rw[ZV,QW];exact this
def AccS (e:Nat) (σ:List AObj) (v:AV) (n:Nat) (cs:List CV):Prop:=(v=.cv .nils∧n=0∧cs=[])∨∃ l,v=.sl l 0 n e∧cs.length=n*e∧rowOf σ l=some (cs.map .cv)
theorem AccS.nil (e:Nat) (σ:List AObj):AccS e σ (.cv .nils) 0 []:=.inl ⟨rfl,rfl,rfl⟩
theorem QcM {e by_ n:Nat} {σ:List AObj} {v:AV} {cs x:List CV} (h:AccS e σ v n cs) (hx:x.length=e) (hb:(n+1)*by_≤2 ^ 44) (hn:n+1≤2 ^ 44) :
  ∃ (v':AV) (σ':List AObj),ZX e by_ [v,.sl σ.length 0 1 e] (σ++[AObj.cells (x.map .cv)])=some (v',σ')∧AccS e σ' v' (n+1) (cs++x):=by
 have hsrc:Z9 (σ++[AObj.cells (x.map .cv)]) e (.sl σ.length 0 1 e)=some (x.map .cv):=by
  have h1:0+1*e≤(x.map AV.cv).length:=by simp[hx]
  simp only[Z9,if_true,XH,Option.bind_some]
  rw[if_pos h1,YO,Q5 (by simp[hx])]
 rcases h with ⟨rfl,rfl,rfl⟩ | ⟨l,rfl,hl,hr⟩
 ·refine ⟨.sl (σ++[AObj.cells (x.map .cv)]).length 0 1 e,(σ++[AObj.cells (x.map .cv)])++[AObj.cells (x.map .cv)],?_,.inr ⟨_,rfl,by simp[hx],by rw[XH];simp⟩⟩
  have h1:1*e=(x.map AV.cv).length∧1*by_≤2 ^ 44∧1≤2 ^ 44∧(x.map AV.cv).all AV.isSc=true:=⟨by simp[hx],by omega,by omega,S2 x⟩
  simp only[ZX,hsrc,lenF,Option.bind_some]
  rw[if_neg (by omega),if_pos h1]
 ·have hr':=FU hr (AObj.cells (x.map .cv))
  refine ⟨.sl (σ++[AObj.cells (x.map .cv)]).length 0 (n+1) e,(σ++[AObj.cells (x.map .cv)]).set l AObj.dead++[AObj.cells (cs.map .cv++x.map .cv)],?_,.inr ⟨(σ++[AObj.cells (x.map .cv)]).length,rfl,by rw[QM,hl,hx,XJ],?_⟩⟩
  ·have h1:True∧n*e≤(cs.map AV.cv).length∧1*e=(x.map AV.cv).length∧(n+1)*by_≤2 ^ 44∧n+1≤2 ^ 44∧(x.map AV.cv).all AV.isSc=true:=⟨trivial,by simp[hl],by simp[hx],hb,hn,S2 x⟩
   simp only[ZX,hr',hsrc,lenF,Option.bind_some]
   rw[if_pos h1,Q5 (by simp[hl])]
  ·have:(σ++[AObj.cells (x.map .cv)]).length=((σ++[AObj.cells (x.map .cv)]).set l AObj.dead).length:=by simp
   rw[this,XH,ZS]
theorem TP {p:CV→Prop} {σ:List AObj}:∀ {cs:List CV},(∀ c∈cs,p c)→HL p σ (cs.map .cv) cs
 | [],_=>.nil
 | c::cs,h=>.cons (.c _ (h c (by simp))) (TP fun c' hc=>h c' (by simp[hc]))
theorem GI {p:CV→Prop} {e n:Nat} {σ:List AObj} {v:AV} {cs:List CV} (h:AccS e σ v n cs) (hp:∀ c∈cs,p c):FrzV p σ v (.cv (.rsl cs n)):=by
 rcases h with ⟨rfl,rfl,rfl⟩ | ⟨l,rfl,hl,hr⟩
 ·exact .c .nl
 ·refine .c (.sl l 0 n e _ _ hr (by simp[hl]) ?_)
  rw[YO,Q5 (by simp[hl])]
  exact TP hp
theorem sl_frz {p:CV→Prop} {l n e:Nat} {σ:List AObj} {cs:List CV} {rest:List AV} (hr:rowOf σ l=some (cs.map .cv++rest)) (hl:cs.length=n*e) (hp:∀ c∈cs,p c):FrzV p σ (.sl l 0 n e) (.cv (.rsl cs n)):=by
 refine .c (.sl l 0 n e _ _ hr (by simp[hl]) ?_)
 rw[YO,List.take_left' (by simp[hl])]
 exact TP hp
end Go.Proofs.YtfnhbbohjnjfnaaGreat.AM
namespace Go.Proofs.YtfnhbbohjnjfnaaGreat.AM
variable [Dr]
open Go Go.Proofs.YtfnhbbohjnjfnaaGreat.Qu Pl
set_option maxRecDepth 20000 in
theorem c34o {q:QL₀} (hq:QSz q) (he:QOk q) {tr:List (Nat × Nat × Nat)} (hR:RanksAt q q.cs.length 0 tr) {σ:List AObj} {L lm:Nat} (hL0:rowOf σ L=some [cenL q.cs,leaL q.ls,.map lm]) (hm0:mapOf σ lm=some (esT tr)) (hlv:∀ o∈σ,o.live) :
  AC Tryz.prog 34 [.ptr L 0] σ fun r τ=>r=.slc (σ.length+1) 0 q.ls.length q.ls.length 1∧(∀ l,l<σ.length→τ[l]? = σ[l]?)∧rowOf τ (σ.length+1)=some ((giveQ q).map AV.i)∧σ.length≤τ.length:=by
 obtain ⟨hc5,hl8,hLe,hCe⟩:=id he
 have he:QOk q:=⟨hc5,hl8,hLe,hCe⟩
 have hLlt:=(QH.1 (WO hL0)).1
 refine AC.mono (Q:=fun r τ=>r=.slc (σ.length+1) 0 q.ls.length q.ls.length 1∧∃ s,(mk q).Inv q.ls.length none s∧Rep q σ L s τ) (ZF (fok34 true) (QC rfl) ?_) ?_
 rotate_left
 ·rintro r τ ⟨rfl,s,hI,hRep⟩
  have hsz:=hRep.sz
  obtain ⟨hbest,hg⟩:=hI.best
  have hgq:listN q.ls.length s.g=giveQ q:=by
   rw[← giveQ_of hLe hbest]
   refine listN_congr fun k hk=>?_
   rw[hg k hk]
   cases (mk q).has (Mk.rej none s) k <;> rfl
  exact ⟨rfl,hRep.old,by rw[← hgq];exact hRep.r1,by omega⟩
 have gL:=fun J=>ZH hL0 J
 have kL:=fun J=>Qdq hL0 J
 have hmk:=fun σ=>mkC_ints (n:=q.ls.length) (by omega) σ
 rw[listN_zero] at hmk
 have hmkn:=fun σ=>mkC_nils (n:=q.cs.length) (by omega) σ
 simp only[ic34,evA,simprocAttr]
 refine DW_s [] [(0,13),(0,20),(0,21),(0,22),(0,23),(4,13),(4,20),(4,21),(4,22),(4,23),(6,13),(6,20),(6,21),(6,22),(6,23),(7,6),(7,20),(7,21),(7,22),(7,23),(7,24),(11,6),(11,20),(11,21),(11,22),(11,23),(11,24),(13,6),(13,20),(13,21),(13,22),(13,23),(13,24),(14,6),(14,13),(14,21),(14,22),(14,23),(14,24),(14,25),(18,6),(18,13),(18,21),(18,22),(18,23),(18,24),(18,25),(20,6),(20,13),(20,21),(20,22),(20,23),(20,24),(20,25),(21,6),(21,13),(21,20),(21,22),(21,23),(22,6),(22,13),(22,20),(22,21),(22,23),(23,6),(23,13),(23,20),(23,21),(23,22),(24,13),(24,20),(25,20)] hmix (by kernel_rfl) rfl ?_
 simp only[gL,kL,hmk,hmkn,QW,QM,WW,X9,VW,EZ,Qau,CH,get_nz,get_ns,evA,simprocAttr]
 have hRep0:Rep q σ L ⟨fun _=>0,fun _=>0,fun _=>[]⟩ (σ++[.cells [.ptr L 0],.cells ((listN q.ls.length fun x=>0).map AV.i),.cells ((listN q.ls.length fun x=>0).map AV.i),.cells (List.replicate q.cs.length (.cv .nils)),.cells [.slc (σ.length+1) 0 q.ls.length q.ls.length 1],.cells [.slc (σ.length+2) 0 q.ls.length q.ls.length 1],.cells [.slc (σ.length+3) 0 q.cs.length q.cs.length 1],.cells [.fn (.func 58) [.ptr (σ.length+4) 0,.ptr (σ.length+5) 0,.ptr σ.length 0,.ptr (σ.length+6) 0,.ptr (σ.length+7) 0]]]):=by
  have hrep:∀ c,c<q.cs.length→(List.replicate q.cs.length (AV.cv .nils)).getD c .undef=.cv .nils:=fun c hc=>by simp[List.getD,hc]
  refine ⟨fun l hl=>by rw[QE hl],by simp,by rw[WW];rfl,by rw[X9];rfl,by rw[X9];rfl,⟨_,by rw[X9];rfl,by simp,fun c hc=>.inl ⟨hrep c hc,rfl⟩,fun c d hc hd _ l n l' n' h1=>by rw[hrep c hc] at h1;cases h1⟩,by rw[X9];rfl,by rw[X9];rfl,by rw[X9];rfl,by rw[X9];rfl⟩
 generalize σ++[.cells [.ptr L 0],.cells ((listN q.ls.length fun x=>0).map AV.i),.cells ((listN q.ls.length fun x=>0).map AV.i),.cells (List.replicate q.cs.length (.cv .nils)),.cells [.slc (σ.length+1) 0 q.ls.length q.ls.length 1],.cells [.slc (σ.length+2) 0 q.ls.length q.ls.length 1],.cells [.slc (σ.length+3) 0 q.cs.length q.cs.length 1],.cells [.fn (.func 58) [.ptr (σ.length+4) 0,.ptr (σ.length+5) 0,.ptr σ.length 0,.ptr (σ.length+6) 0,.ptr (σ.length+7) 0]]]=τ0 at hRep0 ⊢
 refine ZW q.ls.length (fun i s=>∃ st τ v7 v10,((mk q).Inv i none st∧Rep q σ L st τ)∧s=⟨[.ptr L 0,.ptr σ.length 0,.cv .nils,.ptr (σ.length+4) 0,.ptr (σ.length+5) 0,.ptr (σ.length+6) 0,.ptr (σ.length+7) 0,v7,.i q.ls.length,v10,.i i],τ⟩) ?_ 0 (QF _) ⟨_,τ0,_,_,⟨Mk.Inv.start _ _,hRep0⟩,rfl⟩
 rintro i s hi ⟨st,τ,v7,v10,⟨hI,hRep⟩,rfl⟩
 by_cases h:i<q.ls.length
 ·have hI2:=hI.next h
  have hcall:=ask hq he hR hL0 hm0 (i+1) (muS q st+1) st i τ (Nat.lt_succ_self _) hI2 hRep
  simp only[ic34l0,QJ,h,hRep.r7,evA,simprocAttr]
  refine AC.mono hcall ?_
  rintro r τ' ⟨rfl,st',h1,h2⟩
  simp only[evA,simprocAttr]
  exact ZL (by first | trivial | omega) ⟨st',τ',_,_,⟨h1,h2⟩,by rw[Q6 (by omega)]⟩
 ·have:i=q.ls.length:=by omega
  subst this
  simp only[ic34l0,QJ,h,hRep.r4,evA,simprocAttr]
  exact ⟨st,hI,hRep⟩
theorem c34 {q:QL₀} (hq:QSz q) (he:QOk q) {tr:List (Nat × Nat × Nat)} (hR:RanksAt q q.cs.length 0 tr) {σ:List AObj} {L lm:Nat} (hL0:rowOf σ L=some [cenL q.cs,leaL q.ls,.map lm]) (hm0:mapOf σ lm=some (esT tr)) (hlv:∀ o∈σ,o.live) :
  AC Tryz.prog 34 [.ptr L 0] σ fun r τ=>r=ints (giveQ q)∧τ=σ:=by
 refine AC.made0 (c34o hq he hR hL0 hm0 hlv) ?_ hlv
 rintro r τ ⟨rfl,hold,h1,hsz⟩
 refine ⟨τ.drop σ.length,?_,?_⟩
 ·apply Z1
  intro l
  by_cases hl:l<σ.length
  ·rw[hold l hl,QE hl]
  ·rw[QS (by omega),X4,show σ.length+(l-σ.length)=l by omega]
 ·refine frz_slc (fun _=>trivial) (by simp[giveQ]) ?_
  have h1:=WO h1
  unfold rowOf
  rw[QS (by simp),List.length_replicate,X4,show σ.length+(σ.length+1-σ.length)=σ.length+1 by omega,h1]
theorem c34t {q:QL₀} (hq:QSz q) (he:QOk q) {tr:List (Nat × Nat × Nat)} (hR:RanksAt q q.cs.length 0 tr) {σ:List AObj} {L lm:Nat} (hL0:rowOf σ L=some [cenL q.cs,leaL q.ls,.map lm]) (hm0:mapOf σ lm=some (esT tr)) (hlv:∀ o∈σ,o.live) :
  AC Tryz.prog 34 [.ptr L 0] σ fun r τ=>r=.slc σ.length 0 q.ls.length q.ls.length 1∧τ=σ++[.cells ((giveQ q).map AV.i)]:=by
 refine (c34o hq he hR hL0 hm0 hlv).tidy ?_
 rintro r τ ⟨rfl,hold,h1,hsz⟩
 have hcl:QO 0 ((giveQ q).map AV.i)=true:=by
  rw[Z8]
  intro v hv
  obtain ⟨z,_,rfl⟩:=ZP.1 hv
  rfl
 obtain ⟨g,hg⟩:∃ g:Nat→Nat,g=fun l=>if l=σ.length then σ.length+1 else l:=⟨_,rfl⟩
 have g1:g σ.length=σ.length+1:=by rw[hg];simp
 have g2:∀ l,l<σ.length→g l=l:=fun l hl=>by rw[hg];simp only;rw[if_neg (by omega)]
 refine ⟨g,.slc σ.length 0 q.ls.length q.ls.length 1,σ++[.cells ((giveQ q).map AV.i)],⟨g2,fun a b ha hb=>?_,by simp,by simp only[ren,g1],by simp[QR],fun l o hlo=>?_⟩,rfl,rfl⟩
 ·rw[QM,List.length_singleton] at hb
  rw[g2 a (by omega)]
  by_cases h:b=σ.length
  ·rw[h,g1];omega
  ·rw[g2 b (by omega)];exact ha
 ·by_cases h:l<σ.length
  ·rw[QE h] at hlo
   exact .inl ⟨h,hlo,by rw[hold l h];exact hlo⟩
  ·rw[QS (by omega)] at hlo
   have hl:l-σ.length=0:=by
    have:=(QH.1 hlo).1
    simp at this;omega
   rw[hl] at hlo
   simp only[List.getElem?_cons_zero,Option.some.injEq] at hlo
   subst hlo
   have hl':l=σ.length:=by omega
   subst hl'
   refine .inr ⟨XN (QF _) _ hcl,?_⟩
   rw[g1,E1 (k:=0) (fun l h=>absurd h (W5 _)) (show Z3 0 (.cells _)=true from hcl)]
   exact WO h1
theorem c37 (ls:List Lea) (h0:0<ls.length) (hn:ls.length<2 ^ 38) (σ:List AObj) :
  AC Tryz.prog 37 [leaL ls] σ fun r τ=>∃ l,r=.sl l 0 ls.length 5∧rowOf τ l=some ((leaCs ls).map .cv)∧σ.length≤l∧∀ k,k<σ.length→τ[k]? = σ[k]? := by
 refine ZF (fok37 true) (QC rfl) ?_
 have hsc:=S2 (leaCs ls)
 have hl:(leaCs ls).length=ls.length*5:=leaCs_len ls
 have hp:(2:Nat) ^ 38=274877906944:=by decide
 have hp2:(2:Nat) ^ 44=17592186044416:=by decide
 have hb:binF .eql .slc (leaL ls) (.cv .nils)=some (.b false):=by
  obtain ⟨k,hk⟩:∃ k,ls.length=k+1:=⟨ls.length-1,by omega⟩
  simp only[leaL,hk,binF,K8]
 have hz:YW 0 []=[]:=rfl
 have happ:ZX 5 64 [.sl σ.length 0 0 5,leaL ls] (σ++[AObj.cells []])=some (.sl (σ.length+1) 0 ls.length 5,(σ++[AObj.cells []]).set σ.length .dead++[.cells ((leaCs ls).map .cv)]):=by
  have hr:rowOf (σ++[AObj.cells []]) σ.length=some []:=by rw[WW];rfl
  simp only[ZX,hr,Z9,hl,if_true,lenF,Option.bind_some]
  have hc:True∧0*5≤([]:List AV).length∧ls.length*5=((leaCs ls).map AV.cv).length∧(0+ls.length)*64≤2 ^ 44∧0+ls.length≤2 ^ 44∧((leaCs ls).map AV.cv).all AV.isSc=true:=by
   refine ⟨trivial,by simp,by simp[hl],by omega,by omega,hsc⟩
  rw[if_pos hc]
  simp
 simp only[ic37,hb,happ,evA,simprocAttr]
 refine ⟨σ.length+1,rfl,?_,by omega,fun k hk=>?_⟩
 ·have:σ.length+1=((σ++[AObj.cells []]).set σ.length AObj.dead).length:=by simp
  rw[this,XH]
 ·rw[QE (by simp;omega),QU (by omega),QE hk]
theorem c56 (ls:List Cen) (h0:0<ls.length) (hn:ls.length<2 ^ 38) (σ:List AObj) :
  AC Tryz.prog 56 [cenL ls] σ fun r τ=>∃ l,r=.sl l 0 ls.length 3∧rowOf τ l=some ((cenCs ls).map .cv)∧σ.length≤l∧∀ k,k<σ.length→τ[k]? = σ[k]? := by
 refine ZF (fok56 true) (QC rfl) ?_
 have hsc:=S2 (cenCs ls)
 have hl:(cenCs ls).length=ls.length*3:=cenCs_len ls
 have hp:(2:Nat) ^ 38=274877906944:=by decide
 have hp2:(2:Nat) ^ 44=17592186044416:=by decide
 have hb:binF .eql .slc (cenL ls) (.cv .nils)=some (.b false):=by
  obtain ⟨k,hk⟩:∃ k,ls.length=k+1:=⟨ls.length-1,by omega⟩
  simp only[cenL,hk,binF,K8]
 have hz:YW 0 []=[]:=rfl
 have happ:ZX 3 48 [.sl σ.length 0 0 3,cenL ls] (σ++[AObj.cells []])=some (.sl (σ.length+1) 0 ls.length 3,(σ++[AObj.cells []]).set σ.length .dead++[.cells ((cenCs ls).map .cv)]):=by
  have hr:rowOf (σ++[AObj.cells []]) σ.length=some []:=by rw[WW];rfl
  simp only[ZX,hr,Z9,hl,if_true,lenF,Option.bind_some]
  have hc:True∧0*3≤([]:List AV).length∧ls.length*3=((cenCs ls).map AV.cv).length∧(0+ls.length)*48≤2 ^ 44∧0+ls.length≤2 ^ 44∧((cenCs ls).map AV.cv).all AV.isSc=true:=by
   refine ⟨trivial,by simp,by simp[hl],by omega,by omega,hsc⟩
  rw[if_pos hc]
  simp
 simp only[ic56,hb,happ,evA,simprocAttr]
 refine ⟨σ.length+1,rfl,?_,by omega,fun k hk=>?_⟩
 ·have:σ.length+1=((σ++[AObj.cells []]).set σ.length AObj.dead).length:=by simp
  rw[this,XH]
 ·rw[QE (by simp;omega),QU (by omega),QE hk]
theorem clear_end {σ:List AObj} {l off n cap:Nat} {as_ bs zs:List AV} (hr:rowOf σ l=some (as_++bs)) (ha:as_.length=off) (hb:bs.length=n*zs.length) (hz:zs.all AV.isSc=true) :
  UN zs [.slc l off n cap zs.length] σ=some (.tup [],σ.set l (.cells (as_++YW n zs))):=by
 have hc:True∧off+n*zs.length≤(as_++bs).length∧zs.all AV.isSc=true:=⟨trivial,by rw[QM,ha,hb];exact QG _,hz⟩
 simp only[UN,hr,Option.bind_some]
 rw[if_pos hc]
 congr 4
 have:=TB (xs:=as_) (ys:=bs) (zs:=[]) (vs:=YW n zs) (by rw[QcX,hb];exact QG _)
 rw[ZU,ZU,ha] at this
 rw[this,List.drop_of_length_le (by rw[QcX,hb];exact QG _),ZU]
def leaZ:List AV:=[.cv (.str (bts [])),.cv (.int .i64 0),.cv (.int .i64 0),.cv (.int .i64 0),.cv .nils]
theorem row_split {ls:List Lea} {i:Nat} (hi:i<ls.length):(leaCs ls).map AV.cv=(leaCs (ls.take i)).map AV.cv++(leaC ls[i]!).map AV.cv++(leaCs (ls.drop (i+1))).map AV.cv:=by
 have e:ls=ls.take i++ls[i]! :: ls.drop (i+1):=by
  have h1:ls.drop i=ls[i]! :: ls.drop (i+1):=by rw[List.drop_eq_getElem_cons hi];simp[hi]
  rw[← h1,List.take_append_drop]
 conv=>lhs;rw[e]
 simp[leaCs]
theorem c36 (ls:List Lea) (i:Nat) (hi:i<ls.length) (hn:ls.length<2 ^ 38) {l:Nat} {σ:List AObj} (hr:rowOf σ l=some ((leaCs ls).map .cv)) :
  AC Tryz.prog 36 [.sl l 0 ls.length 5,.i i,.i ((i+1:Nat):Int)] σ fun r τ=>∃ cap rest,r=.slc l 0 (ls.length-1) cap 5∧rowOf τ l=some ((leaCs (ls.eraseIdx i)).map .cv++rest)∧∀ k,k≠l→τ[k]? = σ[k]? := by
 refine AC.caps [] fun cap hcap=>ZF (fok36 true) (QC rfl) ?_
 have hlt:=(QH.1 (WO hr)).1
 rw[row_split hi] at hr
 have ha:((leaCs (ls.take i)).map AV.cv).length=i*5:=by rw[ZK,leaCs_len,List.length_take,VD (by omega)]
 have hb:((leaC ls[i]!).map AV.cv).length=5:=rfl
 have hc:((leaCs (ls.drop (i+1))).map AV.cv).length=(ls.length-(i+1))*5:=by rw[ZK,leaCs_len,List.length_drop]
 have hsc:=S2 (leaCs (ls.drop (i+1)))
 have her:(leaCs (ls.eraseIdx i)).map AV.cv=(leaCs (ls.take i)).map AV.cv++(leaCs (ls.drop (i+1))).map AV.cv:=by
  rw[List.eraseIdx_eq_take_drop_succ];simp[leaCs]
 rw[her]
 generalize hA:(leaCs (ls.take i)).map AV.cv=as_ at hr ha ⊢
 generalize hB:(leaC ls[i]!).map AV.cv=bs at hr hb
 generalize hC:(leaCs (ls.drop (i+1))).map AV.cv=cs at hr hc hsc ⊢
 have h3:=fun σ=>slc_3 (l:=l) (n:=ls.length) (cap:=cap) (e:=5) (a:=i) (b:=i+1) (c:=ls.length) (by omega) (by omega) (QG _) σ
 have hhi:=fun σ=>slc_hi (l:=l) (n:=ls.length) (cap:=cap) (e:=5) (k:=i) (by omega) σ
 have hbq:((i:Int) == ((i+1:Nat):Int))=false:=beq_f (by omega)
 obtain ⟨src,hlo,hs,hl⟩:∃ src,(∀ τ,VG 5 true false [.slc l 0 ls.length cap 5,.cv (.int .i64 ((i+1:Nat):Int))] τ=some (src,τ))∧Z9 σ 5 src=some cs∧lenF src=some (ls.length-(i+1)):=by
  by_cases h:i+1<cap
  ·refine ⟨_,fun τ=>slc_lo (by omega) hcap h τ,?_,rfl⟩
   have h1:(i+1)*5+(ls.length-(i+1))*5≤(as_++bs++cs).length:=by simp only[QM,ha,hb,hc];omega
   simp only[Z9,hr,if_true,Option.bind_some]
   rw[if_pos h1,List.drop_left' (by rw[QM,ha,hb];omega),Q5 (by omega)]
  ·refine ⟨_,fun τ=>slc_lo0 (by omega) (by omega) (by omega) τ,?_,?_⟩
   ·have:cs=[]:=ZT (by rw[hc,show ls.length-(i+1)=0 by omega,Nat.zero_mul])
    rw[this];rfl
   ·rw[show ls.length-(i+1)=0 by omega];rfl
 have happ:=append_out (by_:=64) (cap:=cap) hr ha hb hc hi hcap hsc hs hl
 have hdr:((bs++cs).drop cs.length).length=1*5:=by rw[List.length_drop,QM,hb];omega
 have hr2:rowOf (σ.set l (.cells (as_++cs++(bs++cs).drop cs.length))) l=some (as_++cs++(bs++cs).drop cs.length):=W0 hr
 have hac:(as_++cs).length=(ls.length-1)*5:=by rw[QM,ha,hc];omega
 generalize hD:(bs++cs).drop cs.length=ds at happ hdr hr2
 have hmid:=fun σ=>slc_mid (l:=l) (n:=ls.length-1) (cap:=cap) (e:=5) (a:=ls.length-1) (b:=ls.length) (by omega) hcap (by omega) σ
 rw[show ls.length-(ls.length-1)=1 by omega] at hmid
 have hclr:=clear_end (cap:=cap-(ls.length-1)) (zs:=leaZ) hr2 hac hdr rfl
 have hwr:IntKind.i64.wrap ((i:Int)+1)=((i+1:Nat):Int):=Q6 (by omega)
 simp only[ic36,h3,hbq,evA,simprocAttr]
 refine DW_s [] [] hmix (by kernel_rfl) rfl ?_
 simp only[hhi,hlo,happ,hmid,evA,simprocAttr]
 have hclr2:UN [AV.cv (CV.str (bts [])),AV.cv (CV.int IntKind.i64 0),AV.cv (CV.int IntKind.i64 0),AV.cv (CV.int IntKind.i64 0),AV.cv CV.nils] [AV.slc l ((ls.length-1)*5) 1 (cap-(ls.length-1)) 5] (σ.set l (AObj.cells (as_++cs++ds)))=_:=hclr
 simp only[hclr2,evA,simprocAttr]
 exact ⟨cap,_,rfl,W0 hr2,fun k hk=>by rw[QU (Ne.symm hk),QU (Ne.symm hk)]⟩
theorem c38 (zs:List Int) (i:Nat) (z:Int) (hi:i≤zs.length) (hn:zs.length<2 ^ 38) {l l1:Nat} {σ:List AObj} (hr:rowOf σ l=some (zs.map AV.i)) (h1:rowOf σ l1=some [.i z]) :
  AC Tryz.prog 38 [.slc l 0 zs.length zs.length 1,.i i,.sl l1 0 1 1] σ fun r τ=>r=.sl σ.length 0 (zs.length+1) 1∧τ=σ++[.cells ((zs.take i++z::zs.drop i).map AV.i)]:=by
 refine ZF (fok38 true) (QC rfl) ?_
 have hp:(2:Nat) ^ 38=274877906944:=by decide
 have hp2:(2:Nat) ^ 44=17592186044416:=by decide
 have hlt:=(QH.1 (WO hr)).1
 have hlt1:=(QH.1 (WO h1)).1
 obtain ⟨v0,hv0⟩:∃ v,∀ τ,VG 1 true false [.slc l 0 zs.length zs.length 1,.cv (.int .i64 i)] τ=some (v,τ):=by
  by_cases h:i<zs.length
  ·exact ⟨_,fun τ=>slc_lo (by omega) (QG _) h τ⟩
  ·by_cases h0:0<i
   ·exact ⟨_,fun τ=>slc_lo0 (by omega) (by omega) h0 τ⟩
   ·have e1:i=0:=by omega
    have e2:zs.length=0:=by omega
    rw[e1,e2]
    exact ⟨_,fun τ=>by simp[VG,bnds,bnd];rfl⟩
 have hb1:((1:Int) == 0)=false:=rfl
 have h1c:((1:Nat):Int)=1:=rfl
 by_cases h:i=zs.length
 ·have hb:((i:Int) == (zs.length:Int))=true:=by simp[h]
  have happ:ZX 1 8 [.slc l 0 zs.length zs.length 1,.sl l1 0 1 1] σ=some (.sl σ.length 0 (zs.length+1) 1,σ++[.cells (zs.map AV.i++[.i z])]):=by
   have hs:Z9 σ 1 (.sl l1 0 1 1)=some [.i z]:=by simp[Z9,h1]
   have hc:True∧0+zs.length*1≤(zs.map AV.i).length∧1*1=[AV.i z].length∧(zs.length+1)*8≤2 ^ 44∧zs.length+1≤2 ^ 44∧[AV.i z].all AV.isSc=true:=⟨trivial,by simp,rfl,by omega,by omega,rfl⟩
   simp only[ZX,hr,hs,lenF,Option.bind_some]
   rw[if_neg (by omega),if_pos hc,YO,W3,Q5 (by simp)]
  simp only[ic38,h1c,hb1,hv0,hb,happ,evA,if_true,if_false,reduceIte,Nat.reduceAdd,Nat.reduceMul,Nat.reduceSub,Nat.reduceLeDiff,Nat.reduceEqDiff,Nat.reduceBEq,Nat.reduceBNe,Int.reduceAdd,Int.reduceMul,Int.reduceSub,Int.reduceLT,Int.reduceGT,Int.reduceGE,Int.reduceLE,Int.reduceEq,Int.reduceNeg,Int.reduceToNat,reduceCtorEq,QaK,Int.reduceBEq,Int.reduceBNe]
  rw[h]
  simp
 have hin:i<zs.length:=by omega
 have hb:((i:Int) == (zs.length:Int))=false:=beq_f (by omega)
 have hw1:IntKind.i64.wrap ((zs.length:Int)+1)=((zs.length+1:Nat):Int):=Q6 (by omega)
 have hw2:IntKind.i64.wrap (((zs.length+1:Nat):Int)-(i:Int))=((zs.length+1-i:Nat):Int):=by rw[ZC (by omega)];omega
 have hw3:IntKind.i64.wrap ((i:Int)+1)=((i+1:Nat):Int):=Q6 (by omega)
 have hgt:decide (((zs.length+1:Nat):Int)>(zs.length:Int))=true:=by simp;omega
 have hhi:=fun σ=>slc_hi (l:=l) (n:=zs.length) (cap:=zs.length) (e:=1) (k:=i) (by omega) σ
 have htk:((zs.map AV.i).take i).length=i:=by simp;omega
 have hz:VQ 1 8 [.i 0] [.slc l 0 i zs.length 1,.cv (.int .i64 ((zs.length+1-i:Nat):Int))] σ=some (.sl σ.length 0 (zs.length+1) 1,σ++[.cells ((zs.map AV.i).take i++List.replicate (zs.length+1-i) (.i 0))]):=by
  have e:((zs.length+1-i:Nat):Int).toNat=zs.length+1-i:=Int.toNat_natCast _
  have e2:i+(zs.length+1-i)=zs.length+1:=by omega
  have hc:0<((zs.length+1-i:Nat):Int)∧zs.length<zs.length+1∧True∧0+i*1≤(zs.map AV.i).length∧(zs.length+1)*8≤2 ^ 44∧zs.length+1≤2 ^ 44:=⟨by omega,by omega,trivial,by simp;omega,by omega,by omega⟩
  simp only[VQ,hr,Option.bind_some,e,e2]
  rw[if_pos hc,zcells_one]
  simp
 have hs1:=fun σ'=>BP (l:=σ.length) (n:=zs.length+1) (w:=i) (by omega) σ'
 have hs2:=fun σ'=>BP (l:=σ.length) (n:=zs.length+1) (w:=i+1) (by omega) σ'
 have hs3:=fun σ'=>slc_lo (l:=l) (n:=zs.length) (cap:=zs.length) (e:=1) (k:=i) (by omega) (QG _) hin σ'
 have hc1:UE 1 [.sl σ.length i (zs.length+1-i) 1,.sl l1 0 1 1] (σ++[.cells ((zs.map AV.i).take i++List.replicate (zs.length+1-i) (.i 0))])=some (.i 1,σ++[.cells ((zs.map AV.i).take i++(.i z::List.replicate (zs.length-i) (.i 0)))]):=by
  have hs:Z9 (σ++[.cells ((zs.map AV.i).take i++List.replicate (zs.length+1-i) (.i 0))]) 1 (.sl l1 0 1 1)=some [.i z]:=by simp[Z9,ZH h1]
  have hr2:rowOf (σ++[.cells ((zs.map AV.i).take i++List.replicate (zs.length+1-i) (.i 0))]) σ.length=some ((zs.map AV.i).take i++List.replicate (zs.length+1-i) (.i 0)):=XH _ _
  have hm:Nat.min 1 (zs.length+1-i)=1:=VD (by omega)
  have hc:True∧i+(zs.length+1-i)*1≤((zs.map AV.i).take i++List.replicate (zs.length+1-i) (AV.i 0)).length∧1*1=[AV.i z].length∧[AV.i z].all AV.isSc=true:=⟨trivial,by simp;omega,rfl,rfl⟩
  simp only[UE,hr2,hs,lenF,Option.bind_some,hm]
  rw[if_pos hc,VW]
  have:=TB (xs:=(zs.map AV.i).take i) (ys:=List.replicate (zs.length+1-i) (AV.i 0)) (zs:=[]) (vs:=[AV.i z]) (by simp;omega)
  rw[ZU,ZU,htk] at this
  simp only[W3,List.take_succ_cons,List.take_zero,this]
  simp[show zs.length+1-i-1=zs.length-i by omega]
 have hc2:UE 1 [.sl σ.length (i+1) (zs.length+1-(i+1)) 1,.slc l (i*1) (zs.length-i) (zs.length-i) 1] (σ++[.cells ((zs.map AV.i).take i++(.i z::List.replicate (zs.length-i) (.i 0)))])=some (.i ((zs.length-i:Nat):Int),σ++[.cells ((zs.map AV.i).take i++(.i z::(zs.map AV.i).drop i))]):=by
  have hdl:((zs.map AV.i).drop i).length=zs.length-i:=by simp
  have ht:((zs.map AV.i).drop i).take (zs.length-i)=(zs.map AV.i).drop i:=Q5 (by rw[hdl];exact QG _)
  have hd0:(List.replicate (zs.length-i) (AV.i 0)).drop (zs.length-i)=[]:=by simp
  have hs:Z9 (σ++[.cells ((zs.map AV.i).take i++(.i z::List.replicate (zs.length-i) (.i 0)))]) 1 (.slc l (i*1) (zs.length-i) (zs.length-i) 1)=some ((zs.map AV.i).drop i):=by
   have h2:i*1+(zs.length-i)*1≤(zs.map AV.i).length:=by simp;omega
   simp only[Z9,ZH hr,if_true,Option.bind_some]
   rw[if_pos h2]
   simp only[W3,ht]
  have hr2:rowOf (σ++[.cells ((zs.map AV.i).take i++(.i z::List.replicate (zs.length-i) (.i 0)))]) σ.length=some ((zs.map AV.i).take i++(.i z::List.replicate (zs.length-i) (.i 0))):=XH _ _
  have hm:Nat.min (zs.length-i) (zs.length+1-(i+1))=zs.length-i:=VD (by omega)
  have hc:True∧i+1+(zs.length+1-(i+1))*1≤((zs.map AV.i).take i++(.i z::List.replicate (zs.length-i) (AV.i 0))).length∧(zs.length-i)*1=((zs.map AV.i).drop i).length∧((zs.map AV.i).drop i).all AV.isSc=true:=⟨trivial,by simp;omega,by simp,by rw[← List.map_drop];exact Qa3 _⟩
  simp only[UE,hr2,hs,lenF,Option.bind_some,hm]
  rw[if_pos hc,VW]
  simp only[W3,ht]
  have:=TB (xs:=(zs.map AV.i).take i++[.i z]) (ys:=List.replicate (zs.length-i) (AV.i 0)) (zs:=[]) (vs:=(zs.map AV.i).drop i) (by simp)
  rw[ZU,ZU,QM,htk,hdl,hd0,ZU] at this
  simp only[QW,List.cons_append,List.nil_append,List.length_cons,List.length_nil,ZV] at this
  rw[this];rfl
 simp only[W3] at hs3 hc2
 simp only[ic38,h1c,hb1,hv0,hb,hw1,hw2,hgt,hhi,hz,hs1,hc1,evA,if_true,if_false,reduceIte,Nat.reduceAdd,Nat.reduceMul,Nat.reduceSub,Nat.reduceLeDiff,Nat.reduceEqDiff,Nat.reduceBEq,Nat.reduceBNe,Int.reduceAdd,Int.reduceMul,Int.reduceSub,Int.reduceLT,Int.reduceGT,Int.reduceGE,Int.reduceLE,Int.reduceEq,Int.reduceNeg,Int.reduceToNat,reduceCtorEq,QaK,Int.reduceBEq,Int.reduceBNe]
 refine DW_s [] [] hmix (by kernel_rfl) rfl ?_
 simp only[h1c,hw3,hs2,hs3,hc2,evA,if_true,if_false,reduceIte,Nat.reduceAdd,Nat.reduceMul,Nat.reduceSub,Nat.reduceLeDiff,Nat.reduceEqDiff,Nat.reduceBEq,Nat.reduceBNe,Int.reduceAdd,Int.reduceMul,Int.reduceSub,Int.reduceLT,Int.reduceGT,Int.reduceGE,Int.reduceLE,Int.reduceEq,Int.reduceNeg,Int.reduceToNat,reduceCtorEq,QaK,Int.reduceBEq,Int.reduceBNe]
 simp
end Go.Proofs.YtfnhbbohjnjfnaaGreat.AM
namespace Go.Proofs.YtfnhbbohjnjfnaaGreat.Qu
open Pl
def woQ (q:QL₀) (i:Nat):QL₀:=⟨q.cs,q.ls.eraseIdx i⟩
def moreQ (q:QL₀) (c:Nat):QL₀:=⟨q.cs.set c { q.cs[c]! with pl:=(q.cs[c]!).pl+1 },q.ls⟩
def upI (i k:Nat):Nat:=if k<i then k else k+1
theorem wo_len (q:QL₀) {i:Nat} (hi:i<q.ls.length):(woQ q i).ls.length=q.ls.length-1:=by
 simp[woQ,List.length_eraseIdx,hi]
theorem wo_get (q:QL₀) {i k:Nat} (hk:k<(woQ q i).ls.length):(woQ q i).ls[k]! = q.ls[upI i k]! := by
 have hl:=List.length_eraseIdx (l:=q.ls) (i:=i)
 simp only[woQ,upI,List.getElem!_eq_getElem?_getD] at hk ⊢
 rw[List.getElem?_eraseIdx]
 split <;> rfl
theorem leaOk_wo {q:QL₀} (hL:∀ i,i<q.ls.length→LeaOk q i) {i:Nat} (hi:i<q.ls.length):∀ k,k<(woQ q i).ls.length→LeaOk (woQ q i) k:=by
 intro k hk
 have hl:=wo_len q hi
 have hu:upI i k<q.ls.length:=by unfold upI;split <;> omega
 have h:=hL _ hu
 have e:=wo_get q hk
 refine ⟨fun k' hk'=>?_,by rw[e];exact h.si,by rw[e];exact h.fa,by rw[e];exact h.ho,fun x hx=>h.wi x (by rw[← e];exact hx),by rw[e];exact h.nd⟩
 rw[e,wo_get q (by omega)]
 refine h.nm _ ?_
 unfold upI
 split <;> split <;> omega
theorem more_len (q:QL₀) (c:Nat):(moreQ q c).cs.length=q.cs.length:=by simp[moreQ]
theorem more_get (q:QL₀) {c k:Nat} (hc:c<q.cs.length):(moreQ q c).cs[k]! = if k=c then { q.cs[c]! with pl:=(q.cs[c]!).pl+1 } else q.cs[k]! := by
 by_cases h:k=c
 ·subst h;rw[if_pos rfl,getElem!_pos _ _ (by rw[more_len];exact hc)];simp[moreQ]
 ·rw[if_neg h]
  simp only[moreQ,List.getElem!_eq_getElem?_getD]
  rw[QU (Ne.symm h)]
theorem leaOk_more {q:QL₀} (hL:∀ i,i<q.ls.length→LeaOk q i) (c:Nat):∀ k,k<(moreQ q c).ls.length→LeaOk (moreQ q c) k:=fun k hk =>
 let h:=hL k hk
 ⟨h.nm,h.si,h.fa,by rw[more_len];exact h.ho,by rw[more_len];exact h.wi,h.nd⟩
theorem cenOk_more {q:QL₀} (hC:∀ c,c<q.cs.length→CenOk q c) {c:Nat} (hc:c<q.cs.length) (hp:(q.cs[c]!).pl≠6):∀ k,k<(moreQ q c).cs.length→CenOk (moreQ q c) k:=by
 intro k hk
 rw[more_len] at hk
 by_cases h:k=c
 ·subst h
  have:=hC k hk
  refine ⟨?_,?_⟩
  ·rw[more_get q hc,if_pos rfl]
   have:=this.pl
   exact ⟨by show 0≤(q.cs[k]!).pl+1;omega,by show (q.cs[k]!).pl+1≤6;omega⟩
  ·rw[more_get q hc,if_pos rfl];exact this.ru
 ·have:=hC k hk
  exact ⟨by rw[more_get q hc,if_neg h];exact this.pl,by rw[more_get q hc,if_neg h];exact this.ru⟩
def movs (b a:Nat→Int):Nat→List (Nat × Int × Int)
 | 0=>[]
 | n+1=>movs b a n++if a n=b n then [] else [(n,b n,a n)]
theorem movs_congr {b a b' a':Nat→Int}:∀ {n:Nat},(∀ k,k<n→b k=b' k∧a k=a' k)→movs b a n=movs b' a' n
 | 0,_=>rfl
 | n+1,h=>by
  simp only[movs]
  rw[movs_congr fun k hk=>h k (by omega),(h n (by omega)).1,(h n (by omega)).2]
theorem movs_len {b a:Nat→Int}:∀ n:Nat,(movs b a n).length≤n
 | 0=>QG _
 | n+1=>by
  have:=movs_len (b:=b) (a:=a) n
  simp only[movs,QM]
  split <;> simp <;> omega
theorem giveQ_len (q:QL₀):(giveQ q).length=q.ls.length:=by simp[giveQ]
noncomputable def leftA (q:QL₀) (i k:Nat):Int:=if k=i then (giveQ q)[k]! else (giveQ (woQ q i))[if k<i then k else k-1]!
noncomputable def cancM (q:QL₀) (i:Nat):List (Nat × Int × Int):=movs (fun k=>(giveQ q)[k]!) (leftA q i) q.ls.length
noncomputable def openM (q:QL₀) (c:Nat):List (Nat × Int × Int):=movs (fun k=>(giveQ q)[k]!) (fun k=>(giveQ (moreQ q c))[k]!) q.ls.length
theorem left_at {q:QL₀} {i:Nat} (hi:i<q.ls.length) {k:Nat} (hk:k<q.ls.length):((giveQ (woQ q i)).take i++(giveQ q)[i]! :: (giveQ (woQ q i)).drop i)[k]! = leftA q i k:=by
 have hl:(giveQ (woQ q i)).length=q.ls.length-1:=by rw[giveQ_len,wo_len q hi]
 unfold leftA
 rcases Nat.lt_trichotomy k i with h | h | h
 ·rw[if_neg (by omega),if_pos h,List.getElem!_eq_getElem?_getD,QE (by simp;omega),Z7,if_pos h,List.getElem!_eq_getElem?_getD]
 ·subst h
  rw[if_pos rfl,List.getElem!_eq_getElem?_getD,QS (by simp;omega)]
  simp[hl,show min k (q.ls.length-1)=k by omega]
 ·rw[if_neg (by omega),if_neg (by omega),List.getElem!_eq_getElem?_getD,QS (by simp;omega),List.length_take,hl,show min i (q.ls.length-1)=i by omega]
  obtain ⟨d,rfl⟩:∃ d,k=i+(d+1):=⟨k-i-1,by omega⟩
  rw[show i+(d+1)-i=d+1 by omega,List.getElem?_cons_succ,X4,show i+(d+1)-1=i+d by omega,List.getElem!_eq_getElem?_getD]
end Go.Proofs.YtfnhbbohjnjfnaaGreat.Qu
namespace Go.Proofs.YtfnhbbohjnjfnaaGreat.AM
variable [Dr]
open Go Go.Proofs.YtfnhbbohjnjfnaaGreat.Qu Pl
def movC (m:Nat × Int × Int):List CV:=[.int .i64 m.1,.int .i64 m.2.1,.int .i64 m.2.2]
abbrev movL (ms:List (Nat × Int × Int)):AV:=.cv (.rsl (ms.flatMap movC) ms.length)
theorem movC_len (m:Nat × Int × Int):(movC m).length=3:=rfl
theorem movL_scl (ms:List (Nat × Int × Int)):∀ c∈ms.flatMap movC,scl c:=by
 intro c hc
 rw[YM] at hc
 obtain ⟨m,_,hm⟩:=hc
 simp only[movC,ZD,WK,or_false] at hm
 rcases hm with rfl | rfl | rfl <;> trivial
theorem getB (zs:List Int) (k:Nat):zs[k]! = zs[k]?.getD 0:=List.getElem!_eq_getElem?_getD ..
theorem c40 (b a:List Int) (hn:b.length<2 ^ 38) (hl:b.length≤a.length):PC Tryz.prog 40 [ints b,ints a] (movL (movs (fun k=>b[k]!) (fun k=>a[k]!) b.length)):=by
 have hp:(2:Nat) ^ 38=274877906944:=by decide
 have hp2:(2:Nat) ^ 44=17592186044416:=by decide
 rw[movs_congr (b:=fun k=>b[k]!) (a:=fun k=>a[k]!) (b':=fun k=>b[k]?.getD 0) (a':=fun k=>a[k]?.getD 0) fun k _=>⟨getB b k,getB a k⟩]
 generalize hM:movs (fun k=>b[k]?.getD 0) (fun k=>a[k]?.getD 0)=M
 have hMl:∀ k,(M k).length≤k:=fun k=>by rw[← hM];exact movs_len k
 refine ⟨ZF (fok40 true) (QC rfl) ?_,rfl⟩
 simp only[ic40,evA,simprocAttr]
 refine ZW b.length (fun k s=>∃ v2 v3 v4 v8 v9 τ,AccS 3 τ v2 (M k).length ((M k).flatMap movC)∧s=⟨[ints b,ints a,v2,v3,v4,ints b,.i b.length,.i k,v8,v9],τ⟩) ?_ 0 (QF _) ⟨_,_,_,_,_,_,by rw[← hM];exact AccS.nil _ _,rfl⟩
 rintro k s hk ⟨v2,v3,v4,v8,v9,τ,hA,rfl⟩
 by_cases h:k<b.length
 rotate_left
 ·have:k=b.length:=by omega
  subst this
  simp only[ic40l0,QJ,h,evA,simprocAttr]
  exact GI hA (movL_scl _)
 have hka:k<a.length:=by omega
 have hws:IntKind.i64.wrap ((k:Int)+1)=((k+1:Nat):Int):=Q6 (by omega)
 by_cases he:a[k]?.getD 0=b[k]?.getD 0
 ·have hM1:M (k+1)=M k:=by rw[← hM];simp[movs,he]
  have hb:(a[k]?.getD 0 != b[k]?.getD 0)=false:=by simp[he]
  simp only[ic40l0,QJ,h,hka,hb,evA,simprocAttr]
  exact ZL (by first | trivial | omega) ⟨_,_,_,_,_,τ,by rw[hM1];exact hA,by rw[hws]⟩
 ·have hM1:M (k+1)=M k++[(k,b[k]?.getD 0,a[k]?.getD 0)]:=by rw[← hM];simp[movs,he]
  have hb:(a[k]?.getD 0 != b[k]?.getD 0)=true:=by simp[he]
  have hml:=hMl k
  obtain ⟨v',σ',happ,hA'⟩:=QcM (by_:=24) (x:=movC (k,b[k]?.getD 0,a[k]?.getD 0)) hA rfl (by omega) (by omega)
  have happ':ZX 3 24 [v2,.sl τ.length 0 1 3] (τ++[AObj.cells [.i k,.i (b[k]?.getD 0),.i (a[k]?.getD 0)]])=some (v',σ'):=happ
  simp only[ic40l0,QJ,h,hka,hb,happ',evA,simprocAttr]
  refine ZL (by first | trivial | omega) ⟨_,_,_,_,_,σ',?_,by rw[hws]⟩
  rw[hM1,QM,List.flatMap_append]
  simpa using hA'
theorem callOk_push {σ J:List AObj} {v:AV} (hv:QR (σ++J).length v=true) (ho:∀ o∈J,Z3 (σ++J).length o=true∧o.live):HM σ v (σ++J):=by
 refine ⟨hv,by simp,fun l o h1 h2=>?_⟩
 rcases ZB l σ.length with h | h
 ·rw[QE h] at h1;exact absurd h1 h2
 ·rw[QS h] at h1
  have:=ho o (QZ h1)
  exact ⟨this.1,fun _=>this.2⟩
theorem slc_frzC {p:CV→Prop} {l n c e:Nat} {σ:List AObj} {cs:List CV} {rest:List AV} (hr:rowOf σ l=some (cs.map .cv++rest)) (hl:cs.length=n*e) (hp:∀ c∈cs,p c):FrzC p σ (.slc l 0 n c e) (.rsl cs n):=by
 refine .slc l 0 n c e _ _ hr (by simp[hl]) ?_
 rw[YO,List.take_left' (by simp[hl])]
 exact TP hp
theorem sl_frzC {p:CV→Prop} {l n e:Nat} {σ:List AObj} {cs:List CV} (hr:rowOf σ l=some (cs.map .cv)) (hl:cs.length=n*e) (hp:∀ c∈cs,p c):FrzC p σ (.sl l 0 n e) (.rsl cs n):=by
 refine .sl l 0 n e _ _ hr (by simp[hl]) ?_
 rw[YO,Q5 (by simp[hl])]
 exact TP hp
theorem ints_locs (k:Nat) (zs:List Int):QO k (zs.map AV.i)=true:=by
 rw[Z8]
 intro v hv
 obtain ⟨z,_,rfl⟩:=ZP.1 hv
 rfl
theorem qsz_wo {q:QL₀} (hq:QSz q) {i:Nat} (hi:i<q.ls.length):QSz (woQ q i):=by
 have hl:=wo_len q hi
 have hls:=hq.ls
 have hu:∀ k,k<(woQ q i).ls.length→upI i k<q.ls.length:=fun k hk=>by unfold upI;split <;> omega
 exact ⟨hq.cs,by omega,hq.nm,hq.ru,fun k hk=>by rw[wo_get q hk];exact hq.lm _ (hu k hk),fun k hk=>by rw[wo_get q hk];exact hq.wi _ (hu k hk)⟩
theorem qok_wo {q:QL₀} (h:QOk q) {i:Nat} (hi:i<q.ls.length):QOk (woQ q i) :=
 ⟨h.1,by rw[wo_len q hi];have:=h.2.1;omega,leaOk_wo h.2.2.1 hi,fun c hc=>⟨(h.2.2.2 c hc).pl,(h.2.2.2 c hc).ru⟩⟩
theorem esT_locs (k:Nat) (tr:List (Nat × Nat × Nat)):Z3 k (.map (esT tr))=true:=by
 simp[Z3,esT,kAV,QR,QO]
theorem rankH_ok (q:QL₀):HM [] (.ptr 2 0) (rankH q):=by
 refine callOk_push (σ:=[]) (by simp[QR]) fun o ho=>?_
 simp only[ZD,WK,or_false] at ho
 rcases ho with rfl | rfl | rfl
 ·exact ⟨rfl,trivial⟩
 ·exact ⟨esT_locs _ _,trivial⟩
 ·exact ⟨rfl,trivial⟩
noncomputable def cancV (q:QL₀) (x:Int):AV:=if eQ q=0 then (if inB x 0 ((q.ls.length:Int)-1)=true then .tup [movL (cancM q x.toNat),.i 0] else .tup [movL [],.i 4]) else .tup [movL [],.i (eQ q)]
theorem c8 (q:QL₀) (hq:QSz q) (x:Int):PA Tryz.prog 8 [qV q,.i x] (cancV q x):=by
 refine ⟨AC_SW (fok8 true) (QC rfl) ?_,by unfold cancV;split <;> (try split) <;> rfl,rfl⟩
 simp only[ic8]
 refine SW_seq ?_
 simp only[kSW_n,evA,simprocAttr]
 refine SW_seq ?_
 simp only[kSW_n,evA,simprocAttr]
 refine (AC.frame (by simp[QO,QR]) (c33 q hq) _).mono ?_
 rintro r τ ⟨r0,τ0,⟨he,tr,hR,rfl,rfl⟩ | ⟨he,rfl,rfl⟩,rfl,rfl⟩
 rotate_left
 ·have hb:=bne_t he
  simp only[Q0,WS,renO,ren,rens,kSW_n,evA,simprocAttr]
  refine SW_seq ?_
  simp only[hb,kSW_n,kSW_r,evA,simprocAttr]
  unfold cancV
  rw[if_neg he]
  exact .tup (.cons (.c .nl) (.cons (.c (.c _ trivial)) .nil))
 have hes:(esT tr).map (fun e=>(ren (sh 1) e.1,ren (sh 1) e.2))=esT tr:=by
  simp[esT,kAV,ren,rens]
 have hls:=hq.ls
 have hqo:=val_of he
 have hwn:IntKind.i64.wrap ((q.ls.length:Int)-1)=(q.ls.length:Int)-1:=ZC (by omega)
 simp only[openV,Q0,WS,List.length_cons,List.length_nil,renO,ren,rens,hes,sh,kSW_n,evA,simprocAttr]
 refine SW_seq ?_
 simp only[kSW_n,hwn,evA,simprocAttr]
 refine (c35 0 ((q.ls.length:Int)-1) [x] (by simp)).call frz ?_
 rw[FW]
 unfold cancV
 rw[if_pos he]
 cases hin:inB x 0 ((q.ls.length:Int)-1) with
 | false =>
  simp only[kSW_n,kSW_r,evA,simprocAttr]
  exact .tup (.cons (.c .nl) (.cons (.c (.c _ trivial)) .nil))
 | true =>
 rw[VB] at hin
 obtain ⟨i,rfl⟩:∃ i:Nat,x=i:=⟨x.toNat,by omega⟩
 have hi:i<q.ls.length:=by omega
 simp only[kSW_n,kSW_r,Int.toNat_natCast,evA,simprocAttr]
 refine SW_seq ?_
 simp only[kSW_n,evA,simprocAttr]
 refine (c34 hq hqo hR (L:=4) (lm:=3) rfl rfl (by simp[AObj.live])).run ?_
 simp only[kSW_n,evA,simprocAttr]
 refine SW_seq ?_
 simp only[kSW_n,evA,simprocAttr]
 refine (c37 q.ls (by omega) (by have:=hqo.2.1;omega) _).mono ?_
 rintro r τ ⟨l,rfl,hl,hlg,hkp⟩
 have hws:IntKind.i64.wrap ((i:Int)+1)=((i+1:Nat):Int):=Q6 (by omega)
 simp only[hws,kSW_n,evA,simprocAttr]
 refine (c36 q.ls i hi (by have:=hqo.2.1;omega) hl).mono ?_
 rintro r τ2 ⟨cap,rest,rfl,hl2,hkp2⟩
 have hl0:l≠0:=by simp at hlg;omega
 have h0:rowOf τ2 0=some [cenL q.cs,leaL q.ls]:=by
  rw[rowOf_eq (hkp2 0 (Ne.symm hl0)),rowOf_eq (hkp 0 (by simp))]
  rfl
 simp only[h0,kSW_n,evA,simprocAttr]
 have hlen:=wo_len q hi
 have hq2:=qsz_wo hq hi
 have hqo2:=qok_wo hqo hi
 refine SW.freeze rfl (vals':=[qV q,.i i,.cv (.rp [.rsl (cenCs q.cs) q.cs.length,.rsl (leaCs (q.ls.eraseIdx i)) (q.ls.length-1)] 0),.cv .nils,.i 0,.undef,.i 0,ints (giveQ q),.undef,.b false,.b false]) ?_ ?_
 ·refine .cons (.agg (.cons (.c (.c _ trivial)) (.cons (.c (.c _ trivial)) .nil))) (.cons (.c (.c _ trivial)) (.cons (.c (.ptr 0 0 _ _ (W0 h0) (.cons (.c _ trivial) (.cons (slc_frzC (rest:=rest) ?_ ?_ (fun _ _=>trivial)) .nil)))) (.cons (.c (.c _ trivial)) (.cons (.c (.c _ trivial)) (.cons (.un _) (.cons (.c (.c _ trivial)) (.cons (.c (.c _ trivial)) (.cons (.un _) (.cons (.c (.c _ trivial)) (.cons (.c (.c _ trivial)) .nil))))))))))
  ·rw[QX (Ne.symm hl0)];exact hl2
  ·have:=leaCs_len (q.ls.eraseIdx i)
   rw[this];congr 1
 rw[← hlen]
 refine SW_of ?_
 simp only[evA,simprocAttr]
 refine DW_s [] [(0,8),(1,8),(2,8),(7,1),(7,2),(8,1),(8,2)] hmix (by kernel_rfl) rfl ?_
 simp only[evA,simprocAttr]
 have hL2:=hqo2.2.1
 have hR2:=trC_ranks hqo2.2.2.1 hq2 _ (QG _)
 have hco1:HM [] (.ptr 2 0) (rankH (woQ q i)):=rankH_ok _
 refine MS (c39 (woQ q i) hq2 hqo2) hco1 ?_
 simp only[evA,simprocAttr]
 have hco2:HM (rankH (woQ q i)) (.slc 3 0 (woQ q i).ls.length (woQ q i).ls.length 1) (rankH (woQ q i)++[.cells ((giveQ (woQ q i)).map AV.i)]) :=
  callOk_push (by simp[QR]) fun o ho=>by rw[WZ] at ho;subst ho;exact ⟨ints_locs _ _,trivial⟩
 refine MS (c34t hq2 hqo2 hR2 (L:=2) (lm:=1) rfl rfl (by simp[AObj.live])) hco2 ?_
 have hgl:=giveQ_len q
 have hgl2:=giveQ_len (woQ q i)
 have hig:i<(giveQ q).length:=by omega
 simp only[hig,List.cons_append,List.nil_append,evA,simprocAttr]
 have hins:=c38 (giveQ (woQ q i)) i ((giveQ q)[i]?.getD 0) (by omega) (by omega) (l:=3) (l1:=4) (σ:=rankH (woQ q i)++[.cells ((giveQ (woQ q i)).map AV.i),.cells [.i ((giveQ q)[i]?.getD 0)]]) rfl rfl
 rw[giveQ_len] at hins
 obtain ⟨A,hA⟩:∃ A,A=(giveQ (woQ q i)).take i++(giveQ q)[i]?.getD 0::(giveQ (woQ q i)).drop i:=⟨_,rfl⟩
 have hAl:A.length=(woQ q i).ls.length+1:=by rw[hA];simp;omega
 rw[← hA] at hins
 have hco3:HM (rankH (woQ q i)++[.cells ((giveQ (woQ q i)).map AV.i),.cells [.i ((giveQ q)[i]?.getD 0)]]) (.sl 5 0 ((woQ q i).ls.length+1) 1) (rankH (woQ q i)++[.cells ((giveQ (woQ q i)).map AV.i),.cells [.i ((giveQ q)[i]?.getD 0)]]++[.cells (A.map AV.i)]) :=
  callOk_push (by simp[QR]) fun o ho=>by rw[WZ] at ho;subst ho;exact ⟨ints_locs _ _,trivial⟩
 refine MS hins hco3 ?_
 simp only[List.cons_append,List.nil_append,evA,simprocAttr]
 refine (c40 (giveQ q) A (by omega) (by omega)).call (σ:=rankH (woQ q i)++[.cells ((giveQ (woQ q i)).map AV.i),.cells [.i ((giveQ q)[i]?.getD 0)]]++[.cells (A.map AV.i)]) (args':=[ints (giveQ q),.sl 5 0 ((woQ q i).ls.length+1) 1]) (.cons (.c (.c _ trivial)) (.cons (U4 (l:=5) (fun _=>trivial) hAl.symm rfl) .nil)) ?_
 have hmv:movs (fun k=>(giveQ q)[k]!) (fun k=>A[k]!) (giveQ q).length=cancM q i:=by
  unfold cancM
  rw[giveQ_len]
  refine movs_congr fun k hk=>⟨rfl,?_⟩
  rw[hA,← getB]
  exact left_at hi hk
 rw[hmv]
 simp only[evA,simprocAttr]
 exact .tup (.cons (.c (.c _ trivial)) (.cons (.c (.c _ trivial)) .nil))
theorem flat_set {α:Type} [Inhabited α] {f:α→List CV} {e:Nat} (hf:∀ x,(f x).length=e) {j:Nat} (hj:j<e) {v:CV} {y:α}:∀ {xs:List α} {k:Nat},k<xs.length→f y=(f xs[k]!).set j v→(xs.flatMap f).set (k*e+j) v=(xs.set k y).flatMap f
 | [],k,hk,_=>by simp at hk
 | x::xs,0,_,hy=>by
  rw[Nat.zero_mul,ZV,YH,List.set_cons_zero,YH,YG _ _ (by rw[hf];exact hj),hy]
  rfl
 | x::xs,k+1,hk,hy=>by
  have h1:(k+1)*e+j=(f x).length+(k*e+j):=by rw[hf,XJ];omega
  rw[YH,List.set_cons_succ,YH,List.set_append_right _ _ (by omega),h1,X6]
  rw[flat_set hf hj (by simpa using hk) (by simpa using hy)]
theorem qsz_more {q:QL₀} (hq:QSz q) {c:Nat} (hc:c<q.cs.length):QSz (moreQ q c):=by
 refine ⟨by rw[more_len];exact hq.cs,hq.ls,fun k hk=>?_,fun k hk=>?_,hq.lm,hq.wi⟩
 ·rw[more_len] at hk
  rw[more_get q hc]
  split
  ·exact hq.nm _ hc
  ·exact hq.nm _ hk
 ·rw[more_len] at hk
  rw[more_get q hc]
  split
  ·exact hq.ru _ hc
  ·exact hq.ru _ hk
theorem qok_more {q:QL₀} (h:QOk q) {c:Nat} (hc:c<q.cs.length) (hp:(q.cs[c]!).pl≠6):QOk (moreQ q c) :=
 ⟨by rw[more_len];exact h.1,h.2.1,leaOk_more h.2.2.1 c,cenOk_more h.2.2.2 hc hp⟩
noncomputable def openQV (q:QL₀) (c:Int):AV :=
 if eQ q=0 then (if inB c 0 ((q.cs.length:Int)-1)=true then (if (q.cs[c.toNat]!).pl=6 then .tup [movL [],.i 7] else .tup [movL (openM q c.toNat),.i 0]) else .tup [movL [],.i 4]) else .tup [movL [],.i (eQ q)]
theorem c30 (q:QL₀) (hq:QSz q) (x:Int):PA Tryz.prog 30 [qV q,.i x] (openQV q x):=by
 refine ⟨AC_SW (fok30 true) (QC rfl) ?_,by unfold openQV;split <;> (try split) <;> (try split) <;> rfl,rfl⟩
 simp only[ic30]
 refine SW_seq ?_
 simp only[kSW_n,evA,simprocAttr]
 refine SW_seq ?_
 simp only[kSW_n,evA,simprocAttr]
 refine (AC.frame (by simp[QO,QR]) (c33 q hq) _).mono ?_
 rintro r τ ⟨r0,τ0,⟨he,tr,hR,rfl,rfl⟩ | ⟨he,rfl,rfl⟩,rfl,rfl⟩
 rotate_left
 ·have hb:=bne_t he
  simp only[Q0,WS,renO,ren,rens,kSW_n,evA,simprocAttr]
  refine SW_seq ?_
  simp only[hb,kSW_n,kSW_r,evA,simprocAttr]
  unfold openQV
  rw[if_neg he]
  exact .tup (.cons (.c .nl) (.cons (.c (.c _ trivial)) .nil))
 have hes:(esT tr).map (fun e=>(ren (sh 1) e.1,ren (sh 1) e.2))=esT tr:=by
  simp[esT,kAV,ren,rens]
 have hcs:=hq.cs
 have hqo:=val_of he
 have hwn:IntKind.i64.wrap ((q.cs.length:Int)-1)=(q.cs.length:Int)-1:=ZC (by omega)
 simp only[openV,Q0,WS,List.length_cons,List.length_nil,renO,ren,rens,hes,sh,kSW_n,evA,simprocAttr]
 refine SW_seq ?_
 simp only[kSW_n,hwn,evA,simprocAttr]
 refine (c35 0 ((q.cs.length:Int)-1) [x] (by simp)).call frz ?_
 rw[FW]
 unfold openQV
 rw[if_pos he]
 cases hin:inB x 0 ((q.cs.length:Int)-1) with
 | false =>
  simp only[kSW_n,kSW_r,evA,simprocAttr]
  exact .tup (.cons (.c .nl) (.cons (.c (.c _ trivial)) .nil))
 | true =>
 rw[VB] at hin
 obtain ⟨c,rfl⟩:∃ c:Nat,x=c:=⟨x.toNat,by omega⟩
 have hc:c<q.cs.length:=by omega
 simp only[kSW_n,kSW_r,Int.toNat_natCast,XP hc,cen_1 hc,evA,simprocAttr]
 by_cases h6:(q.cs[c]!).pl=6
 ·have hb:((q.cs[c]!).pl == 6)=true:=by rw[h6];rfl
  simp only[hb,h6,kSW_n,kSW_r,evA,simprocAttr]
  exact .tup (.cons (.c .nl) (.cons (.c (.c _ trivial)) .nil))
 have hb:((q.cs[c]!).pl == 6)=false:=beq_f h6
 simp only[hb,h6,kSW_n,kSW_r,evA,simprocAttr]
 refine SW_seq ?_
 simp only[kSW_n,evA,simprocAttr]
 refine (c34 hq hqo hR (L:=4) (lm:=3) rfl rfl (by simp[AObj.live])).run ?_
 simp only[kSW_n,evA,simprocAttr]
 refine SW_seq ?_
 simp only[kSW_n,evA,simprocAttr]
 refine (c56 q.cs (by omega) (by have:=hqo.1;omega) _).mono ?_
 rintro r τ ⟨l,rfl,hl,hlg,hkp⟩
 have hl0:l≠0:=by simp at hlg;omega
 have h0:rowOf τ 0=some [cenL q.cs,leaL q.ls]:=by
  rw[rowOf_eq (hkp 0 (by simp))]
  rfl
 simp only[h0,kSW_n,evA,simprocAttr]
 refine SW_seq ?_
 obtain ⟨σ1,hσ1⟩:∃ σ1,σ1=τ.set 0 (AObj.cells [.sl l 0 q.cs.length 3,leaL q.ls]):=⟨_,rfl⟩
 have h00:rowOf σ1 0=some [.sl l 0 q.cs.length 3,leaL q.ls]:=by rw[hσ1];exact W0 h0
 have h0l:rowOf σ1 l=some ((cenCs q.cs).map .cv):=by rw[hσ1,QX (Ne.symm hl0)];exact hl
 have hia:∀ σ,VP 3 [.sl l 0 q.cs.length 3,.cv (.int .i64 c)] σ=some (.ptr l (c*3),σ):=fun σ=>by simp[VP,hc]
 have hget:((cenCs q.cs).map AV.cv)[c*3+1]? = some (.i (q.cs[c]!).pl):=by rw[ZR,cen_1 hc];rfl
 have hpl:=(hqo.2.2.2 c hc).pl
 have hwp:IntKind.i64.wrap ((q.cs[c]!).pl+1)=(q.cs[c]!).pl+1:=ZC (by omega)
 have hset:((cenCs q.cs).map AV.cv).set (c*3+1) (.i ((q.cs[c]!).pl+1))=(cenCs (moreQ q c).cs).map .cv:=by
  rw[← List.map_set (f:=AV.cv) (a:=.int .i64 ((q.cs[c]!).pl+1))]
  congr 1
  exact flat_set cenC_len (j:=1) (by omega) hc rfl
 have hst:UM 1 [.ptr l (c*3+1),.i ((q.cs[c]!).pl+1)] σ1=some (.undef,σ1.set l (.cells ((cenCs (moreQ q c).cs).map .cv))):=by
  have h1:(cellsOf (.i ((q.cs[c]!).pl+1))).length=1∧c*3+1+1≤((cenCs q.cs).map AV.cv).length∧(cellsOf (.i ((q.cs[c]!).pl+1))).all AV.isSc=true:=⟨rfl,by rw[ZK,cenCs_len];omega,rfl⟩
  simp only[UM,h0l,Option.bind_some]
  rw[if_pos h1]
  simp only[cellsOf,setRange,hset]
 rw[← hσ1]
 simp only[h00,h0l,hia,hget,hwp,hst,kSW_n,evA,simprocAttr]
 have hlen:=more_len q c
 have hq2:=qsz_more hq hc
 have hqo2:=qok_more hqo hc h6
 refine SW.freeze rfl (vals':=[qV q,.i c,.cv (.rp [.rsl (cenCs (moreQ q c).cs) q.cs.length,.rsl (leaCs q.ls) q.ls.length] 0),.cv .nils,.i 0,.undef,.i 0,ints (giveQ q),.b false,.b false,.b false]) ?_ ?_
 ·have hr0:rowOf (σ1.set l (.cells ((cenCs (moreQ q c).cs).map .cv))) 0=some [.sl l 0 q.cs.length 3,leaL q.ls]:=by rw[QX hl0];exact h00
  refine .cons (.agg (.cons (.c (.c _ trivial)) (.cons (.c (.c _ trivial)) .nil))) (.cons (.c (.c _ trivial)) (.cons (.c (.ptr 0 0 _ _ hr0 (.cons (sl_frzC (W0 h0l) ?_ (fun _ _=>trivial)) (.cons (.c _ trivial) .nil)))) (.cons (.c (.c _ trivial)) (.cons (.c (.c _ trivial)) (.cons (.un _) (.cons (.c (.c _ trivial)) (.cons (.c (.c _ trivial)) (.cons (.c (.c _ trivial)) (.cons (.c (.c _ trivial)) (.cons (.c (.c _ trivial)) .nil))))))))))
  rw[cenCs_len,hlen]
 rw[← hlen]
 refine SW_of ?_
 simp only[evA,simprocAttr]
 refine AC.run (c39 (moreQ q c) hq2 hqo2) ?_
 simp only[evA,simprocAttr]
 have hR2:=trC_ranks hqo2.2.2.1 hq2 _ (QG _)
 refine (c34 hq2 hqo2 hR2 (L:=2) (lm:=1) rfl rfl (by simp[AObj.live])).run ?_
 simp only[evA,simprocAttr]
 have hgl:=giveQ_len q
 have hgl2:(giveQ (moreQ q c)).length=q.ls.length:=giveQ_len (moreQ q c)
 refine (c40 (giveQ q) (giveQ (moreQ q c)) (by have:=hqo.2.1;omega) (by omega)).call (.cons (.c (.c _ trivial)) (.cons (.c (.c _ trivial)) .nil)) ?_
 rw[giveQ_len]
 simp only[evA,simprocAttr]
 exact .tup (.cons (.c (.c _ trivial)) (.cons (.c (.c _ trivial)) .nil))
theorem c26 (q:QL₀) (hq:QSz q) (x:Int):PA Tryz.prog 26 [qV q,.i x] (ordV q x):=by
 refine ⟨ZF (fok26 true) (QC rfl) ?_,by unfold ordV;split <;> (try split) <;> rfl,rfl⟩
 simp only[ic26,evA,simprocAttr]
 refine (AC.frame (by simp[QO,QR]) (c33 q hq) _).mono ?_
 rintro r τ ⟨r0,τ0,⟨he,tr,hR,rfl,rfl⟩ | ⟨he,rfl,rfl⟩,rfl,rfl⟩
 rotate_left
 ·have hb:=bne_t he
  simp only[Q0,WS,renO,ren,rens,hb,evA,simprocAttr]
  unfold ordV
  rw[if_neg he]
  exact .tup (.cons (.c .nl) (.cons (.c (.c _ trivial)) .nil))
 have hes:(esT tr).map (fun e=>(ren (sh 1) e.1,ren (sh 1) e.2))=esT tr:=by
  simp[esT,kAV,ren,rens]
 have hcs:=hq.cs
 have hqo:=val_of he
 have hwn:IntKind.i64.wrap ((q.cs.length:Int)-1)=(q.cs.length:Int)-1:=ZC (by omega)
 simp only[openV,Q0,WS,List.length_cons,List.length_nil,renO,ren,rens,hes,sh,hwn,evA,simprocAttr]
 refine (c35 0 ((q.cs.length:Int)-1) [x] (by simp)).call frz ?_
 rw[FW]
 unfold ordV
 rw[if_pos he]
 cases hin:inB x 0 ((q.cs.length:Int)-1) with
 | false =>
  simp only[evA,simprocAttr]
  exact .tup (.cons (.c .nl) (.cons (.c (.c _ trivial)) .nil))
 | true =>
 rw[VB] at hin
 obtain ⟨c,rfl⟩:∃ c:Nat,x=c:=⟨x.toNat,by omega⟩
 have hc:c<q.cs.length:=by omega
 simp only[Int.toNat_natCast,evA,simprocAttr]
 refine (c51 q hq hqo c hc (L:=4) (x:=.map 3) rfl (by simp[AObj.live])).run ?_
 simp only[evA,simprocAttr]
 exact .tup (.cons (.c (.c _ trivial)) (.cons (.c (.c _ trivial)) .nil))
theorem c7 (q:QL₀) (hq:QSz q):PA Tryz.prog 7 [qV q] (giveV q):=by
 refine ⟨ZF (fok7 true) (QC rfl) ?_,by unfold giveV;split <;> rfl,rfl⟩
 simp only[ic7,evA,simprocAttr]
 refine (AC.frame (by simp[QO,QR]) (c33 q hq) _).mono ?_
 rintro r τ ⟨r0,τ0,⟨he,tr,hR,rfl,rfl⟩ | ⟨he,rfl,rfl⟩,rfl,rfl⟩
 rotate_left
 ·have hb:=bne_t he
  simp only[Q0,WS,renO,ren,rens,hb,evA,simprocAttr]
  unfold giveV
  rw[if_neg he]
  exact .tup (.cons (.c .nl) (.cons (.c (.c _ trivial)) .nil))
 have hes:(esT tr).map (fun e=>(ren (sh 1) e.1,ren (sh 1) e.2))=esT tr:=by
  simp[esT,kAV,ren,rens]
 have hqo:=val_of he
 simp only[openV,Q0,WS,List.length_cons,List.length_nil,renO,ren,rens,hes,sh,evA,simprocAttr]
 refine (c34 hq hqo hR (L:=4) (lm:=3) rfl rfl (by simp[AObj.live])).run ?_
 simp only[evA,simprocAttr]
 unfold giveV
 rw[if_pos he]
 exact .tup (.cons (.c (.c _ trivial)) (.cons (.c (.c _ trivial)) .nil))
theorem count_take {zs:List Int} {z:Int} {k:Nat} (h:k<zs.length):(zs.take (k+1)).count z=(zs.take k).count z+if zs[k]?.getD 0=z then 1 else 0:=by
 rw[JC,QI h,List.count_append]
 simp[List.count_singleton]
theorem c53 (g:List Int) (c:Int) (hg:g.length<2 ^ 63):PC Tryz.prog 53 [ints g,.i c] (.i (g.count c)):=by
 refine ⟨ZF (fok53 true) (QC rfl) ?_,rfl⟩
 simp only[ic53,evA,simprocAttr]
 refine ZW g.length (fun k s=>∃ v3 v7 v8,s=⟨[ints g,.i c,.i (((g.take k).count c:Nat):Int),v3,ints g,.i g.length,.i k,v7,v8],[]⟩) ?_ 0 (QF _) ⟨_,_,_,rfl⟩
 rintro k s hk ⟨v3,v7,v8,rfl⟩
 by_cases h:k<g.length
 rotate_left
 ·have:k=g.length:=by omega
  subst this
  simp only[ic53l0,QJ,h,X7,evA,simprocAttr]
  exact .c (.c _ trivial)
 have hws:IntKind.i64.wrap ((k:Int)+1)=((k+1:Nat):Int):=Q6 (by omega)
 have hct:=count_take (z:=c) h
 have hcl:(g.take k).count c≤k:=YR List.count_le_length (by simp;omega)
 by_cases he:g[k]?.getD 0=c
 ·have hb:(g[k]?.getD 0 == c)=true:=by simp[he]
  have hw2:IntKind.i64.wrap ((((g.take k).count c:Nat):Int)+1)=(((g.take k).count c+1:Nat):Int):=Q6 (by omega)
  rw[if_pos he] at hct
  simp only[ic53l0,QJ,h,hb,hws,hw2,evA,simprocAttr]
  exact ZL (by first | trivial | omega) ⟨_,_,_,by rw[hct]⟩
 ·have hb:(g[k]?.getD 0 == c)=false:=by simp[he]
  rw[if_neg he] at hct
  simp only[ic53l0,QJ,h,hb,hws,evA,simprocAttr]
  exact ZL (by first | trivial | omega) ⟨_,_,_,by rw[hct];rfl⟩
noncomputable def cutV (q:QL₀):AV:=if eQ q=0 then .tup [ints (cutQ q),.i 0] else .tup [ints [],.i (eQ q)]
theorem cutV_cl (q:QL₀):QR 0 (cutV q)=true:=by unfold cutV;split <;> rfl
noncomputable def cutN (q:QL₀) (c:Nat):Int:=if ((giveQ q).count (c:Int):Int)<(q.cs[c]!).pl then (q.ls.length:Int) else (HV q (giveQ q) c q.ls.length:Nat)
theorem cutQ_list (q:QL₀):cutQ q=listN q.cs.length (cutN q):=rfl
theorem give_range {q:QL₀} (hL:∀ i,i<q.ls.length→LeaOk q i) {i:Nat} (hi:i<q.ls.length):(giveQ q)[i]?.getD 0 = -1∨∃ c:Nat,c<q.cs.length∧(giveQ q)[i]?.getD 0=(c:Int):=by
 rw[← getB,give_get hi]
 cases h:(mk q).has (bestP q) i with
 | none=>exact .inl rfl
 | some c=>exact .inr ⟨c,wish_lt hL i hi c (QZ h),rfl⟩
abbrev openH (q:QL₀) (tr:List (Nat × Nat × Nat)):List AObj:=[.cells [cenL q.cs,leaL q.ls],.cells [cenL q.cs,leaL q.ls],.cells [cenL q.cs,leaL q.ls],.map (esT tr),.cells [cenL q.cs,leaL q.ls,.map 3]]
set_option maxRecDepth 4000 in
theorem c29 (q:QL₀) (hq:QSz q):PC Tryz.prog 29 [qV q] (cutV q):=by
 refine ⟨ZF (fok29 true) (QC rfl) ?_,cutV_cl q⟩
 simp only[ic29,evA,simprocAttr]
 refine (AC.frame (by simp[QO,QR]) (c33 q hq) _).mono ?_
 rintro r τ ⟨r0,τ0,⟨he,tr,hR,rfl,rfl⟩ | ⟨he,rfl,rfl⟩,rfl,rfl⟩
 rotate_left
 ·have hb:=bne_t he
  simp only[Q0,WS,renO,ren,rens,hb,evA,simprocAttr]
  unfold cutV
  rw[if_neg he]
  exact .tup (.cons (.c .nl) (.cons (.c (.c _ trivial)) .nil))
 have hes:(esT tr).map (fun e=>(ren (sh 1) e.1,ren (sh 1) e.2))=esT tr:=by
  simp[esT,kAV,ren,rens]
 have hqo:=val_of he
 obtain ⟨hc5,hl8,hL,hC⟩:=id hqo
 have hgl:=giveQ_len q
 have hmk:=fun σ=>MP (n:=q.cs.length) (by omega) σ
 rw[listN_zero] at hmk
 simp only[openV,Q0,WS,List.length_cons,List.length_nil,renO,ren,rens,hes,sh,evA,simprocAttr]
 refine (c34 hq hqo hR (L:=4) (lm:=3) rfl rfl (by simp[AObj.live])).run ?_
 simp only[hmk,evA,simprocAttr]
 obtain ⟨g,hg⟩:∃ g,g=giveQ q:=⟨_,rfl⟩
 have hrg:=fun i (hi:i<q.ls.length)=>give_range hL hi
 rw[← hg] at hgl hrg ⊢
 obtain ⟨M,hM⟩:∃ M:Nat→Nat→Int,M=fun i c=>(HV q g c i:Int):=⟨_,rfl⟩
 have hM0:(fun _=>(0:Int))=M 0:=by rw[hM];rfl
 rw[hM0]
 refine ZW g.length (fun i s=>∃ v6 v7 v14 v15,s=⟨[qV q,.ptr 0 0,.sl 5 0 q.cs.length 1,.i 0,.ptr 4 0,ints g,v6,v7,.undef,.undef,.b false,ints g,.i g.length,.i i,v14,v15,.undef,.undef,.undef,.undef,.undef],openH q tr++[.cells ((listN q.cs.length (M i)).map AV.i)]⟩) ?_ 0 (QF _) ⟨_,_,_,_,rfl⟩
 rintro i s hi ⟨v6,v7,v14,v15,rfl⟩
 by_cases h:i<g.length
 ·have hil:i<q.ls.length:=by omega
  have hws:IntKind.i64.wrap ((i:Int)+1)=((i+1:Nat):Int):=Q6 (by omega)
  rcases hrg i hil with hm1 | ⟨c,hc,hgc⟩
  ·have hd:decide ((-1:Int)≥0)=false:=rfl
   have hMi:listN q.cs.length (M (i+1))=listN q.cs.length (M i):=listN_congr fun c hc=>by
    rw[hM]
    simp only[HV,getB,hm1]
    rw[if_neg (by omega)]
   simp only[ic29l1,QJ,h,hm1,hd,hws,evA,simprocAttr]
   exact ZL (by first | trivial | omega) ⟨_,_,_,_,by rw[hMi]⟩
  ·have hd:decide ((c:Int)≥0)=true:=by simp
   have hMi:listN q.cs.length (M (i+1))=listN q.cs.length (upd (M i) c (if (rankQ q c i:Int)>M i c then (rankQ q c i:Int) else M i c)):=listN_congr fun d hdl=>by
    rw[hM]
    simp only[HV,getB,hgc,upd]
    by_cases e:d=c
    ·subst e
     rw[if_pos rfl,if_pos rfl]
     split <;> omega
    ·rw[if_neg e,if_neg (by omega)]
   have hlk:=map_look hq hR hc hil (σ:=openH q tr++[.cells ((listN q.cs.length (M i)).map AV.i)]) (l:=3) rfl
   have hcl:c<(listN q.cs.length (M i)).length:=by rw[listN_len];exact hc
   have hgt:=listN_get (f:=M i) hc
   simp only[List.cons_append,List.nil_append] at hlk
   simp only[ic29l1,QJ,h,hgc,hd,hws,List.cons_append,List.nil_append,evA,simprocAttr]
   refine DW_s [] [] hmix (by kernel_rfl) rfl ?_
   simp only[W9 hc,ZV,hcl,hgt,hlk,show c+1≤(listN q.cs.length (M i)).length from hcl,listN_upd hc,evA,simprocAttr]
   exact ZL (by first | trivial | omega) ⟨_,_,_,_,by rw[hMi,hws]⟩
 ·have:i=g.length:=by omega
  subst this
  simp only[ic29l1,QJ,h,List.cons_append,List.nil_append,evA,simprocAttr]
  obtain ⟨F,hF⟩:∃ F:Nat→Nat→Int,F=fun k c=>if c<k then cutN q c else M g.length c:=⟨_,rfl⟩
  have hF0:M g.length=F 0:=by rw[hF];funext c;simp
  rw[hF0]
  refine ZW q.cs.length (fun k s=>∃ v6 v7 v15 v8 v9 v19 v20,s=⟨[qV q,.ptr 0 0,.sl 5 0 q.cs.length 1,.i 0,.ptr 4 0,ints g,v6,v7,v8,v9,.b false,ints g,.i g.length,.i g.length,.b false,v15,cenL q.cs,.i q.cs.length,.i k,v19,v20],openH q tr++[.cells ((listN q.cs.length (F k)).map AV.i)]⟩) ?_ 0 (QF _) ⟨_,_,_,_,_,_,_,rfl⟩
  clear v6 v7 v14 v15
  rintro k s hk ⟨v6,v7,v15,v8,v9,v19,v20,rfl⟩
  by_cases h1:k<q.cs.length
  rotate_left
  ·have:k=q.cs.length:=by omega
   subst this
   have hfin:listN q.cs.length (F q.cs.length)=cutQ q:=by
    rw[cutQ_list]
    refine listN_congr fun c hc=>?_
    rw[hF]
    simp only
    rw[if_pos hc]
   simp only[ic29l0,QJ,h1,List.cons_append,List.nil_append,evA,simprocAttr]
   rw[hfin]
   unfold cutV
   rw[if_pos he]
   exact .tup (.cons (U4 (l:=5) (fun _=>trivial) (by rw[← hfin,listN_len]) rfl) (.cons (.c (.c _ trivial)) .nil))
  have hws:IntKind.i64.wrap ((k:Int)+1)=((k+1:Nat):Int):=Q6 (by omega)
  have hFk:listN q.cs.length (F (k+1))=listN q.cs.length (upd (F k) k (cutN q k)):=listN_congr fun d hd=>by
   rw[hF]
   simp only[upd]
   by_cases e:d=k
   ·subst e;rw[if_pos rfl,if_pos (by omega)]
   ·rw[if_neg e]
    by_cases e2:d<k
    ·rw[if_pos (by omega),if_pos e2]
    ·rw[if_neg (by omega),if_neg e2]
  have hob:∀ (zs:List Int),∀ o∈openH q tr++[AObj.cells (zs.map AV.i)],Z3 (openH q tr++[AObj.cells (zs.map AV.i)]).length o=true:=by
   intro zs o ho
   simp only[List.cons_append,List.nil_append,ZD,WK,or_false] at ho
   rcases ho with rfl | rfl | rfl | rfl | rfl | rfl
   ·rfl
   ·rfl
   ·rfl
   ·exact esT_locs _ _
   ·rfl
   ·exact ints_locs _ _
  simp only[ic29l0,QJ,h1,hws,XP h1,cen_ld h1,List.cons_append,List.nil_append,evA,simprocAttr]
  refine DW_s [2] [] hmix (by kernel_rfl) rfl ?_
  simp only[evA,simprocAttr]
  refine YE ((c53 g (k:Int) (by omega)).call frz ⟨rfl,rfl⟩) rfl ?_
  by_cases h2:((giveQ q).count (k:Int):Int)<(q.cs[k]!).pl
  ·have hcn:cutN q k=(q.ls.length:Int):=by unfold cutN;rw[if_pos h2]
   have hd:decide (((g.count (k:Int):Nat):Int)<(q.cs[k]!).pl)=true:=by rw[hg];exact decide_eq_true h2
   have hkl:k+1≤(listN q.cs.length (F k)).length:=by rw[listN_len];exact h1
   simp only[hd,hws,W9 h1,ZV,hkl,listN_upd h1,evA,simprocAttr]
   exact W1 (openH q tr++[.cells ((listN q.cs.length (F (k+1))).map AV.i)]) [.cells [.cv (.str (q.cs[k]!).nm),.i (q.cs[k]!).pl,ints (q.cs[k]!).ru]] (by rw[hFk,hcn];rfl) (by first | trivial | omega) (QF _) (hob _) ⟨_,_,_,_,_,_,_,rfl⟩
  ·have hsame:listN q.cs.length (F (k+1))=listN q.cs.length (F k):=by
    rw[hFk]
    refine listN_congr fun d hd=>?_
    simp only[upd]
    split
    ·rename_i e
     subst e
     have hcn:cutN q d=M g.length d:=by unfold cutN;rw[if_neg h2,hM,hg,giveQ_len]
     rw[hcn,hF]
     simp only
     rw[if_neg (by omega)]
    ·rfl
   have hd:decide (((g.count (k:Int):Nat):Int)<(q.cs[k]!).pl)=false:=by rw[hg];exact decide_eq_false h2
   simp only[hd,hws,evA,simprocAttr]
   exact W1 (openH q tr++[.cells ((listN q.cs.length (F (k+1))).map AV.i)]) [.cells [.cv (.str (q.cs[k]!).nm),.i (q.cs[k]!).pl,ints (q.cs[k]!).ru]] (by rw[hsame];rfl) (by first | trivial | omega) (QF _) (hob _) ⟨_,_,_,_,_,_,_,rfl⟩
def pasQ (q:QL₀) (g:List Int) (i c k:Nat):Bool:=g[k]?.getD 0 == (c:Int)&&decide ((rankQ q c k:Int)>(rankQ q c i:Int))
def passQ (q:QL₀) (g:List Int) (i c:Nat):Bool:=decide (((g.count (c:Int):Nat):Int)<(q.cs[c]!).pl)||anyN (pasQ q g i c) g.length
theorem c55 {q:QL₀} (hq:QSz q) (he:QOk q) {tr:List (Nat × Nat × Nat)} (hR:RanksAt q q.cs.length 0 tr) {g:List Int} (hgl:g.length=q.ls.length) {i c:Nat} (hi:i<q.ls.length) (hc:c<q.cs.length) {σ:List AObj} {L lm:Nat}
  (hL0:rowOf σ L=some [cenL q.cs,leaL q.ls,.map lm]) (hm0:mapOf σ lm=some (esT tr)) :
  AC Tryz.prog 55 [.ptr L 0,ints g,.i i,.i c] σ fun r τ=>r=.b (passQ q g i c)∧τ=σ:=by
 refine ZF (fok55 true) (QC rfl) ?_
 have hl8:=he.2.1
 simp only[ic55,evA,simprocAttr]
 refine DW_s [2] [] hmix (by kernel_rfl) rfl ?_
 simp only[evA,simprocAttr]
 refine YE ((c53 g (c:Int) (by omega)).call frz ⟨rfl,rfl⟩) rfl ?_
 simp only[hL0,XP hc,cen_1 hc,evA,simprocAttr]
 unfold passQ
 cases hd:decide (((g.count (c:Int):Nat):Int)<(q.cs[c]!).pl) with
 | true=>simp only[evA,simprocAttr]
 | false =>
 simp only[evA,simprocAttr]
 refine ZW g.length (fun k s=>(∀ j,j<k→pasQ q g i c j=false)∧∃ v5 v6 v11 v12,s=⟨[.ptr L 0,ints g,.i i,.i c,.b false,v5,v6,.b false,ints g,.i g.length,.i k,v11,v12],σ⟩) ?_ 0 (QF _) ⟨by omega,_,_,_,_,rfl⟩
 rintro k s hk ⟨hall,v5,v6,v11,v12,rfl⟩
 have hgo:pasQ q g i c k=false→∀ j,j<k+1→pasQ q g i c j=false:=fun hb j hj=>by
  rcases QQ.1 hj with hj | rfl
  ·exact hall j hj
  ·exact hb
 by_cases h:k<g.length
 rotate_left
 ·have:k=g.length:=by omega
  subst this
  have hany:anyN (pasQ q g i c) g.length=false:=by
   unfold anyN
   rw[W6]
   intro j hj
   rw[hall j (by simpa using hj)];simp
  simp only[ic55l0,QJ,h,hany,evA,simprocAttr]
 have hkl:k<q.ls.length:=by omega
 have hws:IntKind.i64.wrap ((k:Int)+1)=((k+1:Nat):Int):=Q6 (by omega)
 have hl1:=map_look hq hR hc hkl hm0
 have hl2:=map_look hq hR hc hi hm0
 simp only[ic55l0,QJ,h,hws,evA,simprocAttr]
 refine DW_s [] [] hmix (by kernel_rfl) rfl ?_
 cases h1:(g[k]?.getD 0 == (c:Int)) with
 | false =>
  simp only[h1,hws,evA,simprocAttr]
  exact ZL (by first | trivial | omega) ⟨hgo (by unfold pasQ;rw[h1];rfl),_,_,_,_,rfl⟩
 | true =>
  cases h2:decide ((rankQ q c k:Int)>(rankQ q c i:Int)) with
  | false =>
   simp only[h1,h2,hws,hL0,hl1,hl2,evA,simprocAttr]
   exact ZL (by first | trivial | omega) ⟨hgo (by unfold pasQ;rw[h1,h2];rfl),_,_,_,_,rfl⟩
  | true =>
   have hany:anyN (pasQ q g i c) g.length=true:=by
    unfold anyN
    rw[ZZ]
    exact ⟨k,by simpa using h,by unfold pasQ;rw[h1,h2];rfl⟩
   simp only[h1,h2,hL0,hl1,hl2,hany,evA,simprocAttr]
theorem pass_bad {q:QL₀} (hL:∀ i,i<q.ls.length→LeaOk q i) {g:List Int} (hgl:g.length=q.ls.length) {i n c:Nat} (hi:i<q.ls.length) (hn:(q.ls[i]!).wi[n]?.getD 0=(c:Int)):badQ q g i n=passQ q g i c:=by
 unfold badQ passQ
 rw[hn,Int.toNat_natCast]
 congr 1
 unfold anyN
 rw[Q8,ZZ,ZZ]
 refine exists_congr fun k=>and_congr_right fun hk=>?_
 have hk':k<q.ls.length:=by rw[← hgl];simpa using hk
 rw[mk_lt hL hk' hi]
 unfold pasQ rankQ
 simp only[mk,QD,decide_eq_true_eq]
 refine and_congr_right fun _=>?_
 refine Iff.trans (decide_eq_true_iff (p:=Mk.rankOf q.ls.length (bef q c) i<Mk.rankOf q.ls.length (bef q c) k)) ?_
 omega
theorem place_first {w:List Int} {c:Int} {n:Nat} (h:w[n]? = some c):place w c≤n:=by
 refine Nat.le_of_not_lt fun hlt=>?_
 have:=List.not_of_lt_findIdx (xs:=w) (p:=(· == c)) hlt
 obtain ⟨h1,h2⟩:=QH.1 h
 simp[h2] at this
theorem c54 (i now:Int) (L:Nat) (σ:List AObj):AC Tryz.prog 54 [.ptr L 0,.i i,.i now] σ fun r τ=>r=.fn (.func 89) [.ptr σ.length 0,.ptr (σ.length+1) 0,.ptr (σ.length+2) 0]∧τ=σ++[.cells [.ptr L 0],.cells [.i i],.cells [.i now]]:=by
 refine ZF (fok54 true) (QC rfl) ?_
 simp only[ic54,QW,QM,WW,X9,VW,EZ,Qau,CH,get_nz,get_ns,evA,simprocAttr]
theorem c89 {q:QL₀} {H:List AObj} {a b d l L i:Nat} {x:AV} {now:Int} (hi:i<q.ls.length) (hw:(q.ls[i]!).wi.length<2 ^ 63) (ha:rowOf H a=some [.ptr L 0]) (hb:rowOf H b=some [.i i]) (hd:rowOf H d=some [.i now]) (hL:rowOf H L=some [cenL q.cs,leaL q.ls,x])
  (go:Nat→Bool) (F:Nat→List AObj)
  (hy:∀ n,n<place (q.ls[i]!).wi now→(∀ j,j<n→go j=true)→YC Tryz.prog l [.i ((q.ls[i]!).wi[n]?.getD 0)] H fun v τ=>v=.b (go n)∧τ=if go n then H else F n) :
  AC Tryz.prog 89 [.yld l,.ptr a 0,.ptr b 0,.ptr d 0] H fun v τ =>
   (τ=H∧∀ j,j<place (q.ls[i]!).wi now→go j=true)∨∃ j,τ=F j∧j<place (q.ls[i]!).wi now∧go j=false∧∀ k,k<j→go k=true:=by
 refine ZF (fok89 true) (QC rfl) ?_
 simp only[ic89,evA,simprocAttr]
 refine DW_s [] [] hmix (by kernel_rfl) rfl ?_
 simp only[ha,hb,hL,XP hi,lea_4 hi,evA,simprocAttr]
 generalize hW:(q.ls[i]!).wi=W at *
 have hP:=place_le W now
 refine ZW W.length (fun n s=>(n≤place W now∧∀ j,j<n→go j=true)∧∃ v4 v8 v9,s=⟨[.yld l,.ptr a 0,.ptr b 0,.ptr d 0,v4,ints W,.i W.length,.i n,v8,v9],H⟩) ?_ 0 (QF _) ⟨⟨QF _,by omega⟩,_,_,_,rfl⟩
 rintro n s hn ⟨⟨hnP,hall⟩,v4,v8,v9,rfl⟩
 by_cases h:n<W.length
 rotate_left
 ·have:n=W.length:=by omega
  subst this
  simp only[ic89l0,QJ,h,evA,simprocAttr]
  exact .inl fun j hj=>hall j (by omega)
 have hws:IntKind.i64.wrap ((n:Int)+1)=((n+1:Nat):Int):=Q6 (by omega)
 by_cases he:W[n]?.getD 0=now
 ·have hbq:(W[n]?.getD 0 == now)=true:=by simp[he]
  have hpn:place W now≤n:=place_first (by rw[QI h] at he ⊢;simpa using he)
  simp only[ic89l0,QJ,h,hd,hbq,evA,simprocAttr]
  exact .inl fun j hj=>hall j (by omega)
 ·have hbq:(W[n]?.getD 0 == now)=false:=by simp[he]
  have hlt:n<place W now:=by
   refine Nat.lt_of_le_of_ne hnP fun e=>he ?_
   have:=place_get (w:=W) (c:=now) (by omega)
   rw[← e] at this
   rw[this];rfl
  simp only[ic89l0,QJ,h,hd,hbq,evA,simprocAttr]
  refine YC.mono (hy n hlt hall) ?_
  rintro v τ ⟨rfl,rfl⟩
  cases hg:go n with
  | true =>
   simp only[hg,hws,evA,simprocAttr]
   exact ZL (by first | trivial | omega) ⟨⟨hlt,fun j hj=>by
    rcases QQ.1 hj with hj | rfl
    ·exact hall j hj
    ·exact hg⟩,_,_,_,rfl⟩
  | false =>
   simp only[hg,evA,simprocAttr]
   exact .inr ⟨n,rfl,hlt,hg,hall⟩
def ia26:IC:=(.region [jw 14 .mv [.v 32]])
def ib26:IC:=(.block 8 (.seq (.region [jL 7,jL 3,jL 12,jv 14,jd 33 55 [.t 0,.t 1,.t 2,.t 3]])
 (.cond 33 (.seq (.region [jL 12,jv 14,jq (.store 1) [.v 4,.t 0],jq (.store 1) [.v 5,.t 1],jq (.store 1) [.v 6,jn 9]])
 .ret)
 .skip)))
theorem ca26:QL Tryz.prog vs28 98 (nav [1,1,1,1,1,0,1,0,0,1,1,0,0,1,1,0,2] (Tryz.f28.body.getD .skip))=some ia26:=by kernel_rfl
theorem cb26:QL Tryz.prog vs28 98 (nav [1,1,1,1,1,0,1,0,0,1,1,0,0,1,1,0,3] (Tryz.f28.body.getD .skip))=some ib26:=by kernel_rfl
theorem any_place (w:List Int) (c:Int):(!(w.any (· == c)))=((place w c:Int) == (w.length:Int)):=by
 rw[Q8]
 simp only[Z0,W6,beq_iff_eq,Int.natCast_inj]
 unfold place
 rw[List.findIdx_eq_length]
 simp
abbrev acH (q:QL₀) (g:List Int) (tr:List (Nat × Nat × Nat)) (a b c:Int):List AObj :=
 [.cells [cenL q.cs,leaL q.ls],.cells [ints g],.cells [.i a],.cells [.i b],.cells [.i c],.cells [cenL q.cs,leaL q.ls],.cells [cenL q.cs,leaL q.ls],.map (esT tr),.cells [cenL q.cs,leaL q.ls,.map 7],.cells [.ptr 8 0]]
theorem acH_in (q:QL₀) (g:List Int) (tr:List (Nat × Nat × Nat)) (a b c:Int):∀ o∈acH q g tr a b c,Z3 (acH q g tr a b c).length o=true:=by
 intro o ho
 simp only[ZD,WK,or_false] at ho
 rcases ho with rfl | rfl | rfl | rfl | rfl | rfl | rfl | rfl | rfl | rfl <;> first | rfl | exact esT_locs _ _
set_option maxRecDepth 4000 in
theorem c28 (q:QL₀) (hq:QSz q) (g:List Int) (hg62:g.length<2 ^ 63):PC Tryz.prog 28 [qV q,ints g] (accV q g):=by
 refine ⟨ZF (fok28 true) (QC rfl) ?_,rfl⟩
 have hcs:=hq.cs
 have hls:=hq.ls
 simp only[ic28,evA,simprocAttr]
 refine (AC.frame (by simp[QO,QR]) (c33 q hq) _).mono ?_
 rintro r τ ⟨r0,τ0,⟨he,tr,hR,rfl,rfl⟩ | ⟨he,rfl,rfl⟩,rfl,rfl⟩
 rotate_left
 ·have hb:=bne_t he
  have hv:=accV_of (accQ_e (g:=g) he)
  simp only[Q0,WS,renO,ren,rens,hb,evA,simprocAttr]
  refine DW_s [] [(0,1),(0,2)] hmix (by kernel_rfl) rfl ?_
  simp only[hv,evA,simprocAttr]
  exact frz
 have hes:(esT tr).map (fun e=>(ren (sh 5) e.1,ren (sh 5) e.2))=esT tr:=by
  simp[esT,kAV,ren,rens]
 have hqo:=val_of he
 obtain ⟨hc5,hl8,hL,hC⟩:=id hqo
 simp only[openV,Q0,WS,List.length_cons,List.length_nil,renO,ren,rens,hes,sh,evA,simprocAttr]
 refine DW_s [] [] hmix (by kernel_rfl) rfl ?_
 by_cases hl:g.length=q.ls.length
 rotate_left
 ·have hb:((g.length:Int) != (q.ls.length:Int))=true:=by simp;omega
  have hv:=accV_of (accQ_l he hl)
  simp only[hb,hv,evA,simprocAttr]
  exact frz
 have hb:((g.length:Int) != (q.ls.length:Int))=false:=by simp;omega
 simp only[hb,evA,simprocAttr]
 refine ZW g.length (fun i s=>(∀ j,j<i→acc1 q g j=false)∧∃ v8 v9 v20 v21,s=⟨[qV q,ints g,.ptr 0 0,.ptr 1 0,.ptr 2 0,.ptr 3 0,.ptr 4 0,.ptr 9 0,v8,v9,.undef,.undef,.undef,.undef,.undef,.b false,.b false,ints g,.i g.length,.i i,v20,v21,.undef,.undef,.undef,.undef,.undef,.undef,.undef,.undef,.undef,.undef,.undef,.undef],acH q g tr 0 0 0⟩) ?_ 0 (QF _) ⟨by omega,_,_,_,_,rfl⟩
 rintro i s hi ⟨hall,v8,v9,v20,v21,rfl⟩
 by_cases h:i<g.length
 ·have hil:i<q.ls.length:=by omega
  have hws:IntKind.i64.wrap ((i:Int)+1)=((i+1:Nat):Int):=Q6 (by omega)
  have hgo:acc1 q g i=false→∀ j,j<i+1→acc1 q g j=false:=fun hb j hj=>by
   rcases QQ.1 hj with hj | rfl
   ·exact hall j hj
   ·exact hb
  simp only[ic28l2,QJ,h,evA,simprocAttr]
  cases h1:(g[i]?.getD 0 != -1) with
  | false =>
   simp only[h1,hws,evA,simprocAttr]
   exact ZL (by first | trivial | omega) ⟨hgo (by unfold acc1;rw[h1];rfl),_,_,_,_,rfl⟩
  | true =>
  simp only[h1,XP hil,lea_4 hil,evA,simprocAttr]
  refine (c52 (q.ls[i]!).wi (g[i]?.getD 0) (by have:=hq.wi i hil;omega)).call frz ?_
  have hap:=any_place (q.ls[i]!).wi (g[i]?.getD 0)
  cases h2:((place (q.ls[i]!).wi (g[i]?.getD 0):Int) == ((q.ls[i]!).wi.length:Int)) with
  | false =>
   rw[h2] at hap
   simp only[hap,hws,evA,simprocAttr]
   exact ZL (by first | trivial | omega) ⟨hgo (by unfold acc1;rw[h1,h2];rfl),_,_,_,_,rfl⟩
  | true =>
   rw[h2] at hap
   have hv:=accV_of (accQ_1 he hl h hall (by unfold acc1;rw[h1,h2];rfl))
   simp only[hap,hv,evA,simprocAttr]
   exact frz
 have:i=g.length:=by omega
 subst this
 simp only[ic28l2,QJ,h,evA,simprocAttr]
 refine ZW q.cs.length (fun c s=>(∀ j,j<c→acc2 q g j=false)∧∃ v8 v9 v21 v10 v11 v25 v26,s=⟨[qV q,ints g,.ptr 0 0,.ptr 1 0,.ptr 2 0,.ptr 3 0,.ptr 4 0,.ptr 9 0,v8,v9,v10,v11,.undef,.undef,.undef,.b false,.b false,ints g,.i g.length,.i g.length,.b false,v21,cenL q.cs,.i q.cs.length,.i c,v25,v26,.undef,.undef,.undef,.undef,.undef,.undef,.undef],acH q g tr 0 0 0⟩) ?_ 0 (QF _) ⟨by omega,_,_,_,_,_,_,_,rfl⟩
 clear v8 v9 v20 v21 h hi
 rintro c s hi ⟨hall2,v8,v9,v21,v10,v11,v25,v26,rfl⟩
 by_cases h:c<q.cs.length
 ·have hws:IntKind.i64.wrap ((c:Int)+1)=((c+1:Nat):Int):=Q6 (by omega)
  have hgo:acc2 q g c=false→∀ j,j<c+1→acc2 q g j=false:=fun hb j hj=>by
   rcases QQ.1 hj with hj | rfl
   ·exact hall2 j hj
   ·exact hb
  simp only[ic28l1,QJ,h,XP h,cen_ld h,evA,simprocAttr]
  refine DW_s [2] [] hmix (by kernel_rfl) rfl ?_
  simp only[evA,simprocAttr]
  refine YE ((c53 g (c:Int) (by omega)).call frz ⟨rfl,rfl⟩) rfl ?_
  cases h2:decide (((g.count (c:Int):Nat):Int)>(q.cs[c]!).pl) with
  | false =>
   simp only[h2,hws,evA,simprocAttr]
   exact W1 (acH q g tr 0 0 0) [.cells [.cv (.str (q.cs[c]!).nm),.i (q.cs[c]!).pl,ints (q.cs[c]!).ru]] rfl (by first | trivial | omega) (QF _) (acH_in _ _ _ _ _ _) ⟨hgo (by unfold acc2;rw[h2]),_,_,_,_,_,_,_,rfl⟩
  | true =>
   have hv:=accV_of (accQ_2 he hl hall h hall2 (by unfold acc2;rw[h2]))
   simp only[h2,hv,evA,simprocAttr]
   exact frz
 have:c=q.cs.length:=by omega
 subst this
 simp only[ic28l1,QJ,h,evA,simprocAttr]
 refine ZW g.length (fun i s=>(∀ j,j<i→acc3 q g j=false)∧∃ v8 v9 v10 v11 v12 v13 v14 v21 v26 v30 v31 v32 v33,s=⟨[qV q,ints g,.ptr 0 0,.ptr 1 0,.ptr 2 0,.ptr 3 0,.ptr 4 0,.ptr 9 0,v8,v9,v10,v11,v12,v13,v14,.b false,.b false,ints g,.i g.length,.i g.length,.b false,v21,cenL q.cs,.i q.cs.length,.i q.cs.length,.b false,v26,ints g,.i g.length,.i i,v30,v31,v32,v33],acH q g tr 0 0 0⟩) ?_ 0 (QF _) ⟨by omega,_,_,_,_,_,_,_,_,_,_,_,_,_,rfl⟩
 clear v8 v9 v21 v10 v11 v25 v26 h hi
 rintro i s hi ⟨hall3,v8,v9,v10,v11,v12,v13,v14,v21,v26,v30,v31,v32,v33,rfl⟩
 by_cases h:i<g.length
 rotate_left
 ·have:i=g.length:=by omega
  subst this
  have hv:=accV_of (accQ_0 he hl hall hall2 hall3)
  simp only[ic28l0,QJ,h,hv,evA,simprocAttr]
  exact frz
 have hil:i<q.ls.length:=by omega
 have hws:IntKind.i64.wrap ((i:Int)+1)=((i+1:Nat):Int):=Q6 (by omega)
 have hgo:acc3 q g i=false→∀ j,j<i+1→acc3 q g j=false:=fun hb j hj=>by
  rcases QQ.1 hj with hj | rfl
  ·exact hall3 j hj
  ·exact hb
 simp only[ic28l0,QJ,h,evA,simprocAttr]
 refine (c54 (i:Int) (g[i]?.getD 0) 8 _).run ?_
 simp only[List.cons_append,List.nil_append,evA,simprocAttr]
 refine RW_s (gf:=89) (cap:=[.ptr 11 0,.ptr 12 0,.ptr 13 0]) rfl (QC rfl) (fun l h=>by cases h) ?_
 generalize hRR:VJ _ _ _ _ _=R
 simp only[List.cons_append,List.nil_append,evA,simprocAttr]
 have e1:R.vars=vs28:=by rw[← hRR];rfl
 have e2:R.ntmps=98:=by rw[← hRR];rfl
 have e3:R.params=[89]:=by rw[← hRR];rfl
 have e4:R.vals=[qV q,ints g,.ptr 0 0,.ptr 1 0,.ptr 2 0,.ptr 3 0,.ptr 4 0,.ptr 9 0,v8,v9,v10,v11,.ptr 10 0,.i (g[i]?.getD 0),v14,.b false,.b false,ints g,.i g.length,.i g.length,.b false,v21,cenL q.cs,.i q.cs.length,.i q.cs.length,.b false,v26,ints g,.i g.length,.i i,.b true,.fn (.func 89) [.ptr 11 0,.ptr 12 0,.ptr 13 0],v32,v33]:=by rw[← hRR];rfl
 have e5:R.state=.ready:=by rw[← hRR];rfl
 have e6:R.pending=none:=by rw[← hRR];rfl
 have e7:QL Tryz.prog vs28 98 R.assign=some ia26:=by rw[← hRR];exact ca26
 have e8:QL Tryz.prog vs28 98 R.body=some ib26:=by rw[← hRR];exact cb26
 have e9:({ { R with state:=.busy,pending:=none } with state:=.ready,pending:=none }:XC)=R:=by
  clear hRR;cases R;simp_all
 clear hRR
 obtain ⟨W,hW⟩:∃ W,W=(q.ls[i]!).wi:=⟨_,rfl⟩
 have hwi:∀ n,n<W.length→∃ c:Nat,c<q.cs.length∧W[n]?.getD 0=(c:Int):=fun n hn=>by
  have hm:W[n]?.getD 0∈(q.ls[i]!).wi:=by rw[QI hn,← hW];exact Q2 hn
  have:=(hL i hil).wi _ hm
  exact ⟨(W[n]?.getD 0).toNat,by omega,by omega⟩
 have hPl:place W (g[i]?.getD 0)≤W.length:=place_le _ _
 refine (c89 (q:=q) (a:=11) (b:=12) (d:=13) (l:=14) (L:=8) (i:=i) (x:=.map 7) (now:=g[i]?.getD 0) hil (hq.wi i hil) rfl rfl rfl rfl (fun n=>!badQ q g i n)
  (fun n=>[.cells [cenL q.cs,leaL q.ls],.cells [ints g],.cells [.i i],.cells [.i (W[n]?.getD 0)],.cells [.i 9],.cells [cenL q.cs,leaL q.ls],.cells [cenL q.cs,leaL q.ls],.map (esT tr),.cells [cenL q.cs,leaL q.ls,.map 7],.cells [.ptr 8 0],.cells [.i i],.cells [.ptr 8 0],.cells [.i i],.cells [.i (g[i]?.getD 0)],.loop { R with state:=.done,pending:=some .ret }]) (fun n hn hgo1=>?_)).mono ?_
 ·rw[← hW] at hn ⊢
  obtain ⟨c,hc,hwc⟩:=hwi n (by omega)
  have hpb:=pass_bad hL hl hil (n:=n) (c:=c) (by rw[← hW];exact hwc)
  refine QeH (r:=R) ia26 ib26 rfl e5 (by rw[e3];rfl) (by rw[e1,e2,e3];rfl) (by rw[e1,e2];exact e7) (by rw[e1,e2];exact e8) ?_
  rw[e1,e2,e3,e4,hwc]
  have x89:vs28.idxOf? 89=some 32:=by decide
  simp only[ia26,JM,x89,Qam,evA,simprocAttr]
  refine ⟨R,rfl,e5,?_⟩
  rw[e6]
  simp only[ib26,setLoop,evA,simprocAttr]
  refine (c55 hq hqo hR hl hil hc (L:=8) (lm:=7) rfl rfl).run ?_
  rw[← hpb]
  cases hbd:badQ q g i n with
  | false =>
   simp only[P0,evA,simprocAttr]
   refine ⟨_,rfl,?_⟩
   simp only[setLoop,ZY,evA,simprocAttr]
   rw[e9]
  | true =>
   simp only[kRnd_r,evA,simprocAttr]
   refine ⟨_,rfl,?_⟩
   simp only[setLoop,Y2,evA,simprocAttr]
   rw[e1,e2,e3,e4]
 ·rw[← hW]
  rintro v τ (⟨rfl,hgall⟩ | ⟨n,rfl,hn,hgn,hgall⟩)
  ·refine ⟨R,rfl,(by rw[e5];intro h;cases h),?_⟩
   rw[e6]
   have hcq:complQ q g i = -1:=complQ_none fun j hj=>by
    have:=hgall j (by rw[hW];exact hj)
    simpa using this
   simp only[setLoop,hws,evA,simprocAttr]
   exact W1 (acH q g tr 0 0 0) _ rfl (by first | trivial | omega) (QF _) (acH_in _ _ _ _ _ _) ⟨hgo (by unfold acc3;rw[hcq];rfl),_,_,_,_,_,_,_,_,_,_,_,_,_,rfl⟩
  ·refine ⟨{ R with state:=.done,pending:=some .ret },rfl,(by intro h;cases h),?_⟩
   obtain ⟨c,hc,hwc⟩:=hwi n (by omega)
   have hcq:complQ q g i=(c:Int):=by
    rw[complQ_at (n:=n) (by rw[← hW];exact hn) (fun j hj=>by simpa using hgall j hj) (by simpa using hgn),← hW,hwc]
   have hv:=accV_of (accQ_3 he hl hall hall2 h hall3 (by unfold acc3;rw[hcq];simp))
   rw[hcq] at hv
   refine QcP ?_
   simp only[setLoop,hv,hwc,evA,simprocAttr]
   exact frz
def q0:QL₀:=⟨[⟨bts [110,111,114,116,104],1,[1,0]⟩,⟨bts [115,111,117,116,104],1,[0]⟩],
 [⟨bts [97,110,110],10,-1,0,[0,1]⟩,⟨bts [98,101,110],20,0,0,[0,1]⟩,⟨bts [99,121],15,-1,0,[1,0]⟩]⟩
theorem give_at {q:QL₀} (hL:∀ i,i<q.ls.length→LeaOk q i) (k:Nat) (h:∀ i,i<q.ls.length→(mk q).away ((mk q).iter k) i=false):giveQ q=(List.range q.ls.length).map fun i=>numOf ((mk q).has ((mk q).iter k) i) :=
 (giveQ_of hL (Mk.iter_best (mk_inj hL) h)).symm
theorem q0_e:eQ q0=0:=by kernel_rfl
theorem q0_ok:QOk q0:=val_of q0_e
theorem q0_sz:QSz q0:=by
 refine ⟨by decide,by decide,?_,?_,?_,?_⟩
 ·intro i hi;match i,hi with | 0,_=>exact by decide | 1,_=>exact by decide
 ·intro i hi;match i,hi with | 0,_=>exact by decide | 1,_=>exact by decide
 ·intro i hi;match i,hi with | 0,_=>exact by decide | 1,_=>exact by decide | 2,_=>exact by decide
 ·intro i hi;match i,hi with | 0,_=>exact by decide | 1,_=>exact by decide | 2,_=>exact by decide
theorem q0_give:giveQ q0=[1,0,-1]:=by
 rw[give_at q0_ok.2.2.1 4 (by decide +kernel)]
 decide +kernel
theorem q0_give1:giveQ (woQ q0 1)=[0,1]:=by
 rw[give_at (leaOk_wo q0_ok.2.2.1 (by decide)) 4 (by decide +kernel)]
 decide +kernel
theorem q0_give2:giveQ (woQ q0 2)=[1,0]:=by
 rw[give_at (leaOk_wo q0_ok.2.2.1 (by decide)) 4 (by decide +kernel)]
 decide +kernel
theorem q0_more1:giveQ (moreQ q0 1)=[1,0,1]:=by
 rw[give_at (leaOk_more q0_ok.2.2.1 1) 4 (by decide +kernel)]
 decide +kernel
theorem q0_more0:giveQ (moreQ q0 0)=[0,0,1]:=by
 rw[give_at (leaOk_more q0_ok.2.2.1 0) 4 (by decide +kernel)]
 decide +kernel
theorem q0_ord0:ordQ q0 0=[1,0,2]:=by decide +kernel
theorem q0_ord1:ordQ q0 1=[0,2,1]:=by decide +kernel
theorem q0_cut:cutQ q0=[1,1]:=by
 unfold cutQ
 rw[q0_give]
 decide +kernel
theorem q0_acc:accQ q0 [0,1,-1]=(1,0,9):=by decide +kernel
theorem q0_acc2:accQ q0 [1,0,-1]=(0,0,0):=by decide +kernel
theorem q0_canc1:cancM q0 1=[(0,1,0),(2,-1,1)]:=by
 unfold cancM
 have h:∀ k,leftA q0 1 k=if k=1 then ([1,0,-1]:List Int)[k]! else ([0,1]:List Int)[if k<1 then k else k-1]! := fun k=>by
  unfold leftA;rw[q0_give,q0_give1]
 rw[movs_congr (b':=fun k=>([1,0,-1]:List Int)[k]!) (a':=fun k=>if k=1 then ([1,0,-1]:List Int)[k]! else ([0,1]:List Int)[if k<1 then k else k-1]!) fun k _=>⟨by rw[q0_give],h k⟩]
 decide +kernel
theorem q0_canc2:cancM q0 2=[]:=by
 unfold cancM
 have h:∀ k,leftA q0 2 k=if k=2 then ([1,0,-1]:List Int)[k]! else ([1,0]:List Int)[if k<2 then k else k-1]! := fun k=>by
  unfold leftA;rw[q0_give,q0_give2]
 rw[movs_congr (b':=fun k=>([1,0,-1]:List Int)[k]!) (a':=fun k=>if k=2 then ([1,0,-1]:List Int)[k]! else ([1,0]:List Int)[if k<2 then k else k-1]!) fun k _=>⟨by rw[q0_give],h k⟩]
 decide +kernel
theorem q0_open1:openM q0 1=[(2,-1,1)]:=by
 unfold openM
 rw[q0_give,q0_more1]
 decide +kernel
theorem q0_open0:openM q0 0=[(0,1,0),(2,-1,1)]:=by
 unfold openM
 rw[q0_give,q0_more0]
 decide +kernel
abbrev movA (m:Nat × Int × Int):AV:=.agg [.i m.1,.i m.2.1,.i m.2.2]
abbrev KS3:Bool × List KK:=(true,[.int .i64,.int .i64,.int .i64])
structure MvOk (m:Nat × Int × Int):Prop where
 a:m.1<2 ^ 63
 b:-(2 ^ 62)≤m.2.1∧m.2.1<2 ^ 62
 c:-(2 ^ 62)≤m.2.2∧m.2.2<2 ^ 62
theorem PR {n:Int} (h:-(2 ^ 62)≤n∧n<2 ^ 62):(Lit.int .i64 n).wf=true:=by
 simp only[Lit.wf,QD,decide_eq_true_eq,IntKind.min,IntKind.max,IntKind.bits,IntKind.signed]
 simp;omega
theorem mov_eq {x y:Nat × Int × Int} (hx:MvOk x) (hy:MvOk y):JW KS3 (movA x) (movA y)=some (decide (x=y)):=by
 obtain ⟨a,b,c⟩:=x
 obtain ⟨a',b',c'⟩:=y
 simp only[JW,JK,movA,Y4,kkOk,wf_nat hx.a,wf_nat hy.a,PR hx.b,PR hy.b,PR hx.c,PR hy.c,decide_true,Bool.and_self,if_true,VZ,EB,WH,Option.some.injEq]
 rw[Q8]
 simp only[QD,decide_eq_true_eq,Prod.mk.injEq,Int.natCast_inj]
theorem mov_ld {xs:List (Nat × Int × Int)} {k:Nat} (h:k<xs.length) (σ:List AObj):YF 3 [.cv (.rp (xs.flatMap movC) (k*3))] σ=some (movA xs[k]!,σ):=by
 have h1:k*3+3≤(xs.flatMap movC).length:=by rw[UG movC_len];omega
 have h2:=G3 movC_len h
 simp only[YF,h1,if_true]
 rw[h2];rfl
theorem c32 (xs ys:List (Nat × Int × Int)) (hx:xs.length<2 ^ 62) (h1:∀ k,k<xs.length→MvOk xs[k]!) (h2:∀ k,k<ys.length→MvOk ys[k]!):PC Tryz.prog 32 [movL xs,movL ys] (.b (decide (xs=ys))):=by
 refine ⟨ZF (fok32 true) (QC rfl) ?_,rfl⟩
 simp only[ic32,evA,simprocAttr]
 by_cases hl:xs.length=ys.length
 rotate_left
 ·have hb:((xs.length:Int) != ys.length)=true:=by simp;omega
  have hne:decide (xs=ys)=false:=by simp;intro h;exact hl (by rw[h])
  simp only[hb,hne,evA,simprocAttr]
  exact frz
 have hb:((xs.length:Int) != ys.length)=false:=by simp;omega
 simp only[hb,evA,simprocAttr]
 refine ZW xs.length (fun i s=>(∀ j,j<i→xs[j]! = ys[j]!)∧∃ v5 v6,s=⟨[movL xs,movL ys,.b false,.i i,.b false,v5,v6],[]⟩) ?_ 0 (QF _) ⟨by omega,_,_,rfl⟩
 rintro i s hi ⟨hall,v5,v6,rfl⟩
 by_cases h:i<xs.length
 rotate_left
 ·have heq:decide (xs=ys)=true:=by
   simp
   apply Y1 hl
   intro j g1 g2
   have:=hall j (by omega)
   rwa [getElem!_pos xs j g1,getElem!_pos ys j g2] at this
  simp only[ic32l0,QJ,h,heq,evA,simprocAttr]
  exact frz
 have hy:i<ys.length:=by omega
 have hws:IntKind.i64.wrap ((i:Int)+1)=((i+1:Nat):Int):=Q6 (by omega)
 simp only[ic32l0,QJ,h,evA,simprocAttr]
 refine DW_s [] [] hmix (by kernel_rfl) rfl ?_
 have hk:=mov_eq (h1 i h) (h2 i hy)
 by_cases he:xs[i]! = ys[i]!
 ·rw[decide_eq_true he] at hk
  simp only[XP h,XP hy,mov_ld h,mov_ld hy,hk,hws,evA,simprocAttr]
  refine ZL (by first | trivial | omega) ⟨fun j hj=>?_,_,_,rfl⟩
  rcases QQ.1 hj with hj | rfl
  ·exact hall j hj
  ·exact he
 ·rw[decide_eq_false he] at hk
  have hne:decide (xs=ys)=false:=by simp;intro h;exact he (by rw[h])
  simp only[XP h,XP hy,mov_ld h,mov_ld hy,hk,hne,evA,simprocAttr]
  exact frz
theorem c27:PC Tryz.prog 27 [] (qV q0):=by
 refine ⟨ZF (fok27 true) (QC rfl) ?_,rfl⟩
 simp only[ic27,evA,simprocAttr]
 have in2:∀ {τ:List AObj} (l:Nat) (a b:Int),rowOf τ l=some [.i a,.i b]→FrzC scl τ (.sl l 0 2 1) (.rsl [.int .i64 a,.int .i64 b] 2):=fun l a b h=>.sl l 0 2 1 _ _ h (QG _) (.cons (.c _ trivial) (.cons (.c _ trivial) .nil))
 have in1:∀ {τ:List AObj} (l:Nat) (a:Int),rowOf τ l=some [.i a]→FrzC scl τ (.sl l 0 1 1) (.rsl [.int .i64 a] 1):=fun l a h=>.sl l 0 1 1 _ _ h (QG _) (.cons (.c _ trivial) .nil)
 refine .agg (.cons (.c (.sl 3 0 2 3 _ _ rfl (QG _) ?_)) (.cons (.c (.sl 7 0 3 5 _ _ rfl (QG _) ?_)) .nil))
 ·exact .cons (.c _ trivial) (.cons (.c _ trivial) (.cons (in2 1 1 0 rfl) (.cons (.c _ trivial) (.cons (.c _ trivial) (.cons (in1 2 0 rfl) .nil)))))
 ·exact .cons (.c _ trivial) (.cons (.c _ trivial) (.cons (.c _ trivial) (.cons (.c _ trivial) (.cons (in2 4 0 1 rfl) (.cons (.c _ trivial) (.cons (.c _ trivial) (.cons (.c _ trivial) (.cons (.c _ trivial) (.cons (in2 5 0 1 rfl) (.cons (.c _ trivial) (.cons (.c _ trivial) (.cons (.c _ trivial) (.cons (.c _ trivial) (.cons (in2 6 1 0 rfl) .nil))))))))))))))
theorem vord (x:Int) (c:Nat) (hx:x=c) (hc:inB x 0 1=true):ordV q0 x=.tup [ints (ordQ q0 c),.i 0]:=by
 subst hx
 unfold ordV
 have e:((q0.cs.length:Int)-1)=1:=rfl
 rw[if_pos q0_e,e,if_pos hc,Int.toNat_natCast]
theorem v_ord0:ordV q0 0=.tup [ints [1,0,2],.i 0]:=by rw[vord 0 0 rfl rfl,q0_ord0]
theorem v_ord1:ordV q0 1=.tup [ints [0,2,1],.i 0]:=by rw[vord 1 1 rfl rfl,q0_ord1]
theorem v_ord2:ordV q0 2=.tup [ints [],.i 4]:=by unfold ordV;rw[if_pos q0_e,if_neg (by decide)]
theorem v_give:giveV q0=.tup [ints [1,0,-1],.i 0]:=by unfold giveV;rw[if_pos q0_e,q0_give]
theorem v_cut:cutV q0=.tup [ints [1,1],.i 0]:=by unfold cutV;rw[if_pos q0_e,q0_cut]
theorem v_acc:accV q0 [0,1,-1]=.tup [.i 1,.i 0,.i 9]:=accV_of q0_acc
theorem v_acc2:accV q0 [1,0,-1]=.tup [.i 0,.i 0,.i 0]:=accV_of q0_acc2
theorem v_canc1:cancV q0 1=.tup [movL [(0,1,0),(2,-1,1)],.i 0]:=by unfold cancV;rw[if_pos q0_e,if_pos (by decide)];exact congrArg (fun l=>AV.tup [movL l,.i 0]) q0_canc1
theorem v_canc2:cancV q0 2=.tup [movL [],.i 0]:=by unfold cancV;rw[if_pos q0_e,if_pos (by decide)];exact congrArg (fun l=>AV.tup [movL l,.i 0]) q0_canc2
theorem v_open1:openQV q0 1=.tup [movL [(2,-1,1)],.i 0]:=by unfold openQV;rw[if_pos q0_e,if_pos (by decide),if_neg (by decide)];exact congrArg (fun l=>AV.tup [movL l,.i 0]) q0_open1
theorem v_open0:openQV q0 0=.tup [movL [(0,1,0),(2,-1,1)],.i 0]:=by unfold openQV;rw[if_pos q0_e,if_pos (by decide),if_neg (by decide)];exact congrArg (fun l=>AV.tup [movL l,.i 0]) q0_open0
set_option maxRecDepth 4000 in
theorem c6:PC Tryz.prog 6 [] (.b true):=by
 refine ⟨ZF (fok6 true) (QC rfl) ?_,rfl⟩
 simp only[ic6,evA,simprocAttr]
 refine c27.call .nil ?_
 simp only[evA,simprocAttr]
 refine (c26 q0 q0_sz 0).call ?_
 simp only[v_ord0,evA,simprocAttr]
 refine c27.call .nil ?_
 simp only[evA,simprocAttr]
 refine (c7 q0 q0_sz).call ?_
 simp only[v_give,evA,simprocAttr]
 refine c27.call .nil ?_
 simp only[evA,simprocAttr]
 refine (c28 q0 q0_sz [0,1,-1] (by decide)).call frz ?_
 simp only[v_acc,evA,simprocAttr]
 refine c27.call .nil ?_
 simp only[evA,simprocAttr]
 refine (c29 q0 q0_sz).call frz ?_
 simp only[v_cut,evA,simprocAttr]
 refine c27.call .nil ?_
 simp only[evA,simprocAttr]
 refine (c8 q0 q0_sz 1).call ?_
 simp only[v_canc1,evA,simprocAttr]
 refine c27.call .nil ?_
 simp only[evA,simprocAttr]
 refine (c30 q0 q0_sz 1).call ?_
 simp only[v_open1,evA,simprocAttr]
 refine c27.call .nil ?_
 simp only[evA,simprocAttr]
 refine (c26 q0 q0_sz 2).call ?_
 simp only[v_ord2,evA,simprocAttr]
 have mk6:∀ (τ:List AObj) (l:Nat) (a b c d e f:Int),rowOf τ l=some [.i a,.i b,.i c,.i d,.i e,.i f]→FrzV anyC τ (.sl l 0 2 3) (.cv (.rsl [.int .i64 a,.int .i64 b,.int .i64 c,.int .i64 d,.int .i64 e,.int .i64 f] 2)):=fun τ l a b c d e f h =>
  .c (.sl l 0 2 3 _ _ h (QG _) (.cons (.c _ trivial) (.cons (.c _ trivial) (.cons (.c _ trivial) (.cons (.c _ trivial) (.cons (.c _ trivial) (.cons (.c _ trivial) .nil)))))))
 have mk3:∀ (τ:List AObj) (l:Nat) (a b c:Int),rowOf τ l=some [.i a,.i b,.i c]→FrzV anyC τ (.sl l 0 1 3) (.cv (.rsl [.int .i64 a,.int .i64 b,.int .i64 c] 1)):=fun τ l a b c h =>
  .c (.sl l 0 1 3 _ _ h (QG _) (.cons (.c _ trivial) (.cons (.c _ trivial) (.cons (.c _ trivial) .nil))))
 have ok:∀ m∈[((0:Nat),(1:Int),(0:Int)),(2,-1,1)],MvOk m:=by
  intro m hm
  simp only[ZD,WK,or_false] at hm
  rcases hm with rfl | rfl
  ·exact ⟨by decide,by decide,by decide⟩
  ·exact ⟨by decide,by decide,by decide⟩
 have d1:decide (([1,0,2]:List Int)=[1,0,2])=true:=rfl
 have d2:decide (([1,0,-1]:List Int)=[1,0,-1])=true:=rfl
 have d3:decide (([1,1]:List Int)=[1,1])=true:=rfl
 have d4:decide ([((0:Nat),(1:Int),(0:Int)),(2,-1,1)]=[((0:Nat),(1:Int),(0:Int)),(2,-1,1)])=true:=by decide
 have d5:decide ([((2:Nat),(-1:Int),(1:Int))]=[((2:Nat),(-1:Int),(1:Int))])=true:=by decide
 refine (c31 [1,0,2] [1,0,2] (by decide)).call (.cons (.c (.c _ trivial)) (.cons (U4 (l:=1) (zs:=[1,0,2]) (fun _=>trivial) rfl rfl) .nil)) ?_
 simp only[d1,evA,simprocAttr]
 refine (c31 [1,0,-1] [1,0,-1] (by decide)).call (.cons (.c (.c _ trivial)) (.cons (U4 (l:=2) (zs:=[1,0,-1]) (fun _=>trivial) rfl rfl) .nil)) ?_
 simp only[d2,evA,simprocAttr]
 refine (c31 [1,1] [1,1] (by decide)).call (.cons (.c (.c _ trivial)) (.cons (U4 (l:=3) (zs:=[1,1]) (fun _=>trivial) rfl rfl) .nil)) ?_
 simp only[d3,evA,simprocAttr]
 refine (c32 [(0,1,0),(2,-1,1)] [(0,1,0),(2,-1,1)] (by decide) (fun k hk=>ok _ (by rw[getElem!_pos _ k hk];exact Q2 hk)) (fun k hk=>ok _ (by rw[getElem!_pos _ k hk];exact Q2 hk))).call (.cons (.c (.c _ trivial)) (.cons (mk6 _ 4 0 1 0 2 (-1) 1 rfl) .nil)) ?_
 simp only[d4,evA,simprocAttr]
 refine (c32 [(2,-1,1)] [(2,-1,1)] (by decide) (fun k hk=>ok _ (by rw[getElem!_pos _ k hk];exact WU _ (Q2 hk))) (fun k hk=>ok _ (by rw[getElem!_pos _ k hk];exact WU _ (Q2 hk)))).call (.cons (.c (.c _ trivial)) (.cons (mk3 _ 5 2 (-1) 1 rfl) .nil)) ?_
 simp only[d5,evA,simprocAttr]
 exact frz
theorem idxN_lt {p:Nat→Bool} {n:Nat} (h:0≤idxN p n):(idxN p n).toNat<n:=by
 have:=OA p n
 rw[decide_eq_true (by omega)] at this
 obtain ⟨i,hi,hp⟩:=U8.1 this.symm
 unfold idxN at h ⊢
 cases hf:(List.range n).find? p with
 | none=>rw[hf] at h;exact absurd h (by decide)
 | some k=>simpa using List.mem_of_find?_eq_some hf
section
variable {q:QL₀} {g:List Int}
end
theorem bk140 {σ:List AObj} {a:Nat} {b:BK₀} {lv pv:AV} {tm ev:Int} (hX:rowOf σ a=some (bX b lv pv tm ev)):AC Tryz.prog 140 [.ptr a 0] σ fun r τ=>r=.i b.ws.length∧τ=σ:=by
 refine ZF (fok140 true) (QC rfl) ?_
 simp only[ic140,hX,evA,simprocAttr]
def tmC (t:Int × Int):List CV:=[.int .i64 t.1,.int .i64 t.2]
theorem tmC_len (t:Int × Int):(tmC t).length=2:=rfl
def TcOf (tc:CV) (ts:List (Int × Int)):Prop:=(tc=.nils∧ts=[])∨tc=.rsl (ts.flatMap tmC) ts.length
theorem bk77 (t:Int × Int) (bf:Int) {σ:List AObj} {l:Nat} (h:rowOf σ l=some [.i bf]):AC Tryz.prog 77 [.agg [.i t.1,.i t.2],.ptr l 0] σ fun r τ=>r=.b (decide (t.1≤bf))∧τ=σ:=by
 refine AC.cutF ?_ rfl
 refine ZF (fok77 true) (QC rfl) ?_
 have g:=fun J=>ZH h J
 simp only[ic77,WI,cellsOf,g,QW,QM,WW,X9,VW,EZ,Qau,CH,get_nz,get_ns,evA,simprocAttr]
 exact ⟨_,rfl⟩
theorem tm_ld {ts:List (Int × Int)} {k:Nat} (h:k<ts.length) (σ:List AObj):YF 2 [.cv (.rp (ts.flatMap tmC) (k*2))] σ=some (.agg [.i (ts[k]!).1,.i (ts[k]!).2],σ):=by
 have h1:k*2+2≤(ts.flatMap tmC).length:=by rw[UG tmC_len];omega
 have h2:=G3 tmC_len h
 simp only[YF,h1,if_true]
 rw[h2];rfl
theorem bk76 {tc:CV} {ts:List (Int × Int)} (htc:TcOf tc ts) (fv:AV) (p:Nat→Bool) (hz:ts.length<2 ^ 60) (σ:List AObj) (hf:∀ i,i<ts.length→X0 Tryz.prog fv [.agg [.i (ts[i]!).1,.i (ts[i]!).2]] σ fun r τ=>r=.b (p i)∧τ=σ) :
  AC Tryz.prog 76 [.cv tc,fv] σ fun r τ=>r=.i (idxN p ts.length)∧τ=σ:=by
 refine ZF (fok76 true) (QC rfl) ?_
 have hlen:RZ false [.cv tc] σ=some (.i ts.length,σ):=by
  rcases htc with ⟨rfl,rfl⟩ | rfl <;> rfl
 have hia:∀ i,i<ts.length→∀ σ,VP 2 [.cv tc,.cv (.int .i64 i)] σ=some (.cv (.rp (ts.flatMap tmC) (i*2)),σ):=fun i hi σ=>by
  rcases htc with ⟨rfl,rfl⟩ | rfl
  ·simp at hi
  ·exact XP hi σ
 simp only[ic76,hlen,evA,simprocAttr]
 refine ZW ts.length (fun i s=>(∀ j,j<i→p j=false)∧∃ v3 v6 v7,s=⟨[.cv tc,fv,.i 0,v3,.i ts.length,.i i,v6,v7],σ⟩) ?_ 0 (QF _) ⟨by omega,_,_,_,rfl⟩
 rintro i s hi ⟨hall,v3,v6,v7,rfl⟩
 by_cases h:i<ts.length
 ·have h1:=hia i h
  simp only[ic76l0,QJ,h,h1,tm_ld h,evA,simprocAttr]
  refine (hf i h).run ?_
  cases hp:p i
  ·simp only[evA,simprocAttr]
   refine ZL (by first | trivial | omega) ⟨fun j hj=>?_,_,_,_,by rw[ZC (by omega)];rfl⟩
   rcases QQ.1 hj with hj | rfl
   ·exact hall j hj
   ·exact hp
  ·simp only[evA,simprocAttr]
   exact (EK h hall hp).symm
 ·simp only[ic76l0,QJ,h,evA,simprocAttr]
  have:i=ts.length:=by omega
  subst this
  exact (EL hall).symm
def partT (ts:List (Int × Int)) (bf:Int):Int:=if 0≤idxN (fun i=>decide ((ts[i]!).1≤bf)) ts.length then (ts[(idxN (fun i=>decide ((ts[i]!).1≤bf)) ts.length).toNat]!).2 else 1000
def feeT (ts:List (Int × Int)) (h pr bf:Int):Int:=(h*pr*partT ts bf+999).tdiv 1000
theorem bk46 {tc:CV} {ts:List (Int × Int)} (htc:TcOf tc ts) (hz:ts.length<2 ^ 60) (x0 x1:CV) (pr ex lo hi h bf:Int) (hpr:0≤pr∧pr≤10000) (hh:0≤h∧h≤4) (hpt:0≤partT ts bf∧partT ts bf≤1000) :
  PC Tryz.prog 46 [.agg [.cv x0,.cv x1,.i pr,.i ex,.i lo,.i hi,.cv tc],.i h,.i bf] (.i (feeT ts h pr bf)):=by
 refine ⟨ZF (fok46 true) (QC rfl) ?_,rfl⟩
 have h76:=bk76 htc (.fn (.func 77) [.ptr 1 0]) (fun i=>decide ((ts[i]!).1≤bf)) hz [.cells [.cv x0,.cv x1,.i pr,.i ex,.i lo,.i hi,.cv tc],.cells [.i bf]] (fun i hi=>bk77 _ bf rfl)
 have m1:0≤h*pr∧h*pr≤40000:=⟨Int.mul_nonneg hh.1 hpr.1,by
  have:=Int.mul_le_mul hh.2 hpr.2 hpr.1 (by decide);simpa using this⟩
 have m2:0≤h*pr*partT ts bf∧h*pr*partT ts bf≤40000000:=⟨Int.mul_nonneg m1.1 hpt.1,by
  have:=Int.mul_le_mul m1.2 hpt.2 hpt.1 (by decide);simpa using this⟩
 have hF:feeT ts h pr bf=(h*pr*partT ts bf+999).tdiv 1000:=rfl
 have hP:partT ts bf=if 0≤idxN (fun i=>decide ((ts[i]!).1≤bf)) ts.length then (ts[(idxN (fun i=>decide ((ts[i]!).1≤bf)) ts.length).toNat]!).2 else 1000:=rfl
 have w1:IntKind.i64.wrap (h*pr)=h*pr:=ZC (by omega)
 have w2:IntKind.i64.wrap (h*pr*partT ts bf)=h*pr*partT ts bf:=ZC (by omega)
 have w3:IntKind.i64.wrap (h*pr*partT ts bf+1000)=h*pr*partT ts bf+1000:=ZC (by omega)
 have w4:IntKind.i64.wrap (h*pr*partT ts bf+1000-1)=h*pr*partT ts bf+999:=by rw[ZC (by omega)];omega
 have w5:IntKind.i64.wrap ((h*pr*partT ts bf+999).tdiv 1000)=(h*pr*partT ts bf+999).tdiv 1000:=ZC (by
  rw[Int.tdiv_eq_ediv_of_nonneg (by omega)];omega)
 have hlt:0≤idxN (fun i=>decide ((ts[i]!).1≤bf)) ts.length→(idxN (fun i=>decide ((ts[i]!).1≤bf)) ts.length).toNat<ts.length:=fun h=>idxN_lt h
 generalize idxN (fun i=>decide ((ts[i]!).1≤bf)) ts.length=z at *
 generalize partT ts bf=q at *
 simp only[ic46,WI,cellsOf,QW,QM,WW,X9,VW,EZ,Qau,CH,get_nz,get_ns,evA,simprocAttr]
 refine h76.run ?_
 by_cases hz0:0≤z
 ·have hd:decide (z≥0)=true:=decide_eq_true hz0
  obtain ⟨i,rfl⟩:∃ i:Nat,z=i:=⟨z.toNat,by omega⟩
  have hi:i<ts.length:=by simpa using hlt hz0
  rw[if_pos hz0] at hP
  simp only[Int.toNat_natCast] at hP
  have hia:∀ σ,VP 2 [.cv tc,.cv (.int .i64 i)] σ=some (.cv (.rp (ts.flatMap tmC) (i*2)),σ):=fun σ=>by
   rcases htc with ⟨rfl,rfl⟩ | rfl
   ·simp at hi
   ·exact XP hi σ
  have h1:(ts.flatMap tmC)[i*2+1]? = some (.int .i64 q):=by rw[flat_get tmC_len hi (by decide),hP];rfl
  simp only[hd,hia,h1,w1,w2,w3,w4,w5,QW,QM,WW,X9,VW,EZ,Qau,CH,get_nz,get_ns,evA,simprocAttr]
  rw[hF]
  exact frz
 ·have hd:decide (z≥0)=false:=decide_eq_false hz0
  rw[if_neg hz0] at hP
  subst hP
  simp only[hd,w1,w2,w3,w4,w5,QW,QM,WW,X9,VW,EZ,Qau,CH,get_nz,get_ns,evA,simprocAttr]
  rw[hF]
  exact frz
end Go.Proofs.YtfnhbbohjnjfnaaGreat.AM
namespace Go.Proofs.YtfnhbbohjnjfnaaGreat.Pl
section
variable (can:Nat→Nat→Bool) (n:Nat)
structure Mat (i:Nat) (B:Nat→Bool) (g:Nat→Option Nat):Prop where
 ok:∀ l k,i≤l→l<n→g l=some k→k<n∧can l k=true∧B k=false
 inj:∀ l l' k,i≤l→l<n→i≤l'→l'<n→g l=some k→g l'=some k→l=l'
variable {can n}
end
structure Ku where
 seen:List Bool
 bef:List Int
abbrev gI (l:List Int) (k:Nat):Int:=l[k]?.getD 0
abbrev gB (l:List Bool) (k:Nat):Bool:=l[k]?.getD false
inductive Aug (E:Nat→Nat→Prop) (b:List Int):Nat→List Int→Prop
 | last {i k:Nat}:k<b.length→E i k→gI b k<0→Aug E b i (b.set k i)
 | step {i k l:Nat} {b1:List Int}:k<b.length→E i k→gI b k=(l:Int)→Aug E b l b1→gI b1 k=(l:Int)→Aug E b i (b1.set k i)
theorem Aug.len {E:Nat→Nat→Prop} {b b':List Int} {i:Nat} (h:Aug E b i b'):b'.length=b.length:=by
 induction h with
 | last=>simp
 | step _ _ _ _ _ ih=>simpa using ih
section
variable (can:Nat→Nat→Bool) (told:List Int) (n:Nat)
def Ed (l k:Nat):Prop:=can l k=true∧gI told k<0
structure KuSp (i k0:Nat) (s:Ku) (r:Bool × Ku):Prop where
 ls:r.2.seen.length=n
 lb:r.2.bef.length=n
 mono:∀ k,gB s.seen k=true→gB r.2.seen k=true
 keep:∀ k,gB s.seen k=true→gI r.2.bef k=gI s.bef k
 yes:r.1=true→Aug (Ed can told) s.bef i r.2.bef
 no:r.1=false→r.2.bef=s.bef∧(∀ k,k0≤k→k<n→Ed can told i k→gB r.2.seen k=true) ∧
  ∀ k,k<n→gB r.2.seen k=true→gB s.seen k=true∨(gI told k<0∧0≤gI s.bef k∧∀ k',k'<n→Ed can told (gI s.bef k).toNat k'→gB r.2.seen k'=true)
variable {can told n}
structure C9 (can:Nat→Nat→Bool) (told:List Int) (n f p0 i:Nat) (s:List Int × Nat):Prop where
 len:s.1.length=n
 val:∀ k,k<n→gI told k<0→gI s.1 k<0∨∃ l:Nat,f≤l∧l<i∧gI s.1 k=(l:Int)∧can l k=true
 one:∀ l:Nat,f≤l→cnt n (fun k=>decide (gI told k<0)&&(gI s.1 k == (l:Int)))≤1
 num:s.2=p0+cnt n (fun k=>decide (gI told k<0)&&decide (0≤gI s.1 k))
 shut:∃ F T:Nat→Bool,(∀ l k,F l=true→k<n→Ed can told l k→T k=true)∧(∀ k,k<n→T k=true→gI told k<0∧∃ l:Nat,gI s.1 k=(l:Int)∧F l=true) ∧
  ∀ l,f≤l→l<i→F l=false→∃ k,k<n∧gI told k<0∧gI s.1 k=(l:Int)
end
end Go.Proofs.YtfnhbbohjnjfnaaGreat.Pl
namespace Go.Proofs.YtfnhbbohjnjfnaaGreat.AM
variable [Dr]
open Go Go.Proofs.YtfnhbbohjnjfnaaGreat.Qu Pl
structure AcOk (b:BK₀) (st:BS₀):Prop where
 al:st.ac.length=b.ws.length+4
 ac:∀ j,-1000000000000≤gI st.ac j∧gI st.ac j≤1000000000000
 pn:st.ps.length≤1000
theorem BkAt.box {σ:List AObj} {a:Nat} {b:BK₀} {st:BS₀} {lv pv:AV} {O:List (Nat × AObj)} (hB:BkAt σ a b st lv pv O) {l:Nat} {cs:List AV} (h:(l,AObj.cells cs)∈O):rowOf σ l=some cs:=by
 have:=hB.hO _ h
 unfold rowOf;rw[this]
theorem BkAt.drop {σ:List AObj} {a l:Nat} {o:AObj} {b:BK₀} {st:BS₀} {lv pv:AV} {O:List (Nat × AObj)} (h:BkAt σ a b st lv pv (O++[(l,o)])) (x:AObj):BkAt (σ.set l x) a b st lv pv O:=by
 have h0:=h.sub (O':=O) (by simp)
 have nd:=h.nd
 have hl:l∉a::b.k::b.s::b.c::b.w::(slOf lv++(slOf pv++O.map (·.1))):=by
  have e:(a::b.k::b.s::b.c::b.w::(slOf lv++(slOf pv++(O++[(l,o)]).map (·.1))))=(a::b.k::b.s::b.c::b.w::(slOf lv++(slOf pv++O.map (·.1))))++[l]:=by simp
  rw[e,List.nodup_append] at nd
  exact fun hm=>nd.2.2 l hm l (by simp) rfl
 have hS:Same [l] σ (σ.set l x):=fun y hy hn=>QU (fun e=>hn (by simp[e]))
 obtain ⟨x1,x2,x3,x4,x5,x6,x7,x8,x9,x10⟩:=h0
 simp only[ZD,YV,not_or] at hl
 obtain ⟨l1,l2,l3,l4,l5,l6,l7,l8⟩:=hl
 have ne:∀ {y:Nat},¬ l=y→y∉[l]:=fun h hm=>h (WZ.1 hm).symm
 refine ⟨hS.row x1 (ne l1),hS.row x2 (ne l2),hS.row x3 (ne l3),hS.row x4 (ne l4),hS.map x5 (ne l5),x6.same hS fun y hy hm=>?_,x7.same hS fun y hy hm=>?_,fun p hp=>?_,x9,x10⟩
 ·rw[WZ] at hm;subst hm;exact l6 hy
 ·rw[WZ] at hm;subst hm;exact l7 hy
 ·rw[QU]
  ·exact x8 p hp
  ·intro e;exact l8 (e ▸ List.mem_map_of_mem hp)
structure Sch where
 ws:List ByteArray
 cs:List Car
 pr:Int
 ex:Int
 lo:Int
 hi:Int
abbrev schT (x:Sch) (tc:CV):AV:=.agg [namL x.ws,carL x.cs,.i x.pr,.i x.ex,.i x.lo,.i x.hi,.cv tc]
structure SchOk (x:Sch):Prop where
 w1:1≤x.ws.length
 w8:x.ws.length≤8
 c1:1≤x.cs.length
 c5:x.cs.length≤5
 wz:∀ i,i<x.ws.length→(x.ws[i]!).size<2 ^ 63
 cz:∀ i,i<x.cs.length→(x.cs[i]!).nm.size<2 ^ 63
 wn:∀ i,i<x.ws.length→nmE (fun i=>x.ws[i]!) i=0
 cn:∀ i,i<x.cs.length→nmE (fun i=>(x.cs[i]!).nm) i=0
 ck:∀ i,i<x.cs.length→(0≤(x.cs[i]!).km∧(x.cs[i]!).km≤1000000)∧(1≤(x.cs[i]!).ev∧(x.cs[i]!).ev≤1000000)∧(0≤(x.cs[i]!).ne∧(x.cs[i]!).ne≤255)
 pr:1≤x.pr∧x.pr≤10000
 ex:0≤x.ex∧x.ex≤10000000
 lo:0≤x.lo∧x.lo<x.hi∧x.hi≤24
structure TsOk (ts:List (Int × Int)):Prop where
 n:ts.length≤4
 b:∀ i,i<ts.length→(0≤(ts[i]!).1∧(ts[i]!).1≤240)∧(0≤(ts[i]!).2∧(ts[i]!).2≤1000)
 o:∀ i,i+1<ts.length→(ts[i+1]!).1<(ts[i]!).1∧(ts[i]!).2≤(ts[i+1]!).2
def kmC (c:Car):List CV:=[.int .i64 c.km]
theorem kmC_len (c:Car):(kmC c).length=1:=rfl
abbrev opX (x:Sch) (tc:CV) (w:Nat) (kv:AV):List AV:=[namL x.ws,carL x.cs,.i x.pr,.i x.ex,.i x.lo,.i x.hi,.cv tc,.cv .nils,kv,.cv .nils,.cv .nils,.map w,.cv .nils,.i 0,.i 0]
structure OpAt (σ τ:List AObj) (N:Nat) (x:Sch) (tc:CV) (kv:AV) (i:Nat):Prop where
 s:rowOf τ N=some [namL x.ws,carL x.cs,.i x.pr,.i x.ex,.i x.lo,.i x.hi,.cv tc]
 m:mapOf τ (N+1)=some []
 b:rowOf τ (N+2)=some (opX x tc (N+1) kv)
 k:(kv=.cv .nils∧x.cs.take i=[])∨∃ p,kv=.sl p 0 (x.cs.take i).length 1∧rowOf τ p=some (((x.cs.take i).flatMap kmC).map .cv)
 n:∀ l∈slOf kv,N+3≤l
 o:∀ l,l<σ.length→τ[l]? = σ[l]?
def bk0 (x:Sch) (tc:CV) (k s c w:Nat):BK₀:=⟨x.ws,x.cs,x.pr,x.ex,x.lo,x.hi,tc,k,s,c,w⟩
def st0 (x:Sch):BS₀:=⟨[],x.cs.map (·.km),List.replicate x.cs.length 0,List.replicate (x.ws.length+4) 0,[],[],0,0⟩
set_option maxRecDepth 4000 in
theorem bk68 (x:Sch) (tc:CV) (hchk:PC Tryz.prog 44 [schT x tc] (.tup [.i 0,.i 0,.i 0])) (c1:1≤x.cs.length) (c5:x.cs.length≤5) (w8:x.ws.length≤8) {ne:Nat} (hne:ne≤60) (σ:List AObj) (O0₀:List (Nat × AObj)) (hO0:∀ o∈O0₀,σ[o.1]? = some o.2) (hnd:(O0₀.map (·.1)).Nodup) :
  AC Tryz.prog 68 [schT x tc,.i ne] σ fun r τ=>∃ a k s c w,r=.tup [.ptr a 0,.i 0]∧BkAt τ a (bk0 x tc k s c w) (st0 x) (.cv .nils) (.cv .nils) O0₀:=by
 refine ZF (fok68 true) (QC rfl) ?_
 have hp44:(2:Nat) ^ 44=17592186044416:=by decide
 have d1:decide ((ne:Int)>60)=false:=decide_eq_false (by omega)
 simp only[ic68,WI,cellsOf,QW,QM,WW,X9,VW,EZ,Qau,CH,get_nz,get_ns,evA,simprocAttr]
 refine hchk.call frz ?_
 simp only[d1,QW,QM,WW,X9,VW,EZ,Qau,CH,get_nz,get_ns,evA,simprocAttr]
 simp only[KY,WI,cellsOf,QW,QM,WW,X9,VW,EZ,Qau,CH,get_nz,get_ns,evA,simprocAttr]
 have hOp:OpAt σ (σ++[.cells [namL x.ws,carL x.cs,.i x.pr,.i x.ex,.i x.lo,.i x.hi,.cv tc],.map [],.cells (opX x tc (σ.length+1) (.cv .nils))]) σ.length x tc (.cv .nils) 0 :=
  ⟨by simp only[QW,QM,WW,X9,VW,EZ,Qau,CH,get_nz,get_ns];rfl,by simp[mapOf],by simp only[QW,QM,WW,X9,VW,EZ,Qau,CH,get_nz,get_ns];rfl,.inl ⟨rfl,rfl⟩,fun l h=>by simp[slOf] at h,fun l hl=>QE hl⟩
 generalize hτ:σ++[AObj.cells [namL x.ws,carL x.cs,.i x.pr,.i x.ex,.i x.lo,.i x.hi,.cv tc],.map [],.cells (opX x tc (σ.length+1) (.cv .nils))]=τ0 at hOp ⊢
 have hl0:σ.length+3≤τ0.length:=by rw[← hτ];simp
 refine ZW x.cs.length (fun i s=>∃ kv τ v7 v8 v13,OpAt σ τ σ.length x tc kv i∧σ.length+3≤τ.length∧s=⟨[schT x tc,.i ne,.ptr σ.length 0,.cv .nilp,.i 0,.i 0,.ptr (σ.length+2) 0,v7,v8,.b false,carL x.cs,.i x.cs.length,.i i,v13],τ⟩) ?_ 0 (QF _) ⟨_,τ0,_,_,_,hOp,hl0,rfl⟩
 rintro i s hi ⟨kv,τ,v7,v8,v13,hO,hlτ,rfl⟩
 by_cases h:i<x.cs.length
 ·have hws:IntKind.i64.wrap ((i:Int)+1)=((i+1:Nat):Int):=Q6 (by omega)
  have gb:=fun J=>ZH hO.b J
  have kb:=fun J=>Qdq hO.b J
  have htl:(x.cs.take i).length=i:=by simp;omega
  have hSa:∀ J,Same [] τ (τ++J):=fun J=>Same.app _ _
  obtain ⟨v',τ1,z,hap,hv',hz,hzr,hS,hle,_⟩:=row_append (f:=kmC) (by_:=8) kmC_len (by decide) (H:=τ++[.cells [.cv (.str (x.cs[i]!).nm),.i (x.cs[i]!).km,.i (x.cs[i]!).ev,.i (x.cs[i]!).ne],.cells [.i (x.cs[i]!).km]]) (lv:=kv) (x:=x.cs[i]!) (q:=τ.length+1) (by
   rcases hO.k with h | ⟨p,h1,h2⟩
   ·exact .inl h
   ·exact .inr ⟨p,h1,ZH h2 _⟩) (by simp only[QW,QM,WW,X9,VW,EZ,Qau,CH,get_nz,get_ns];rfl) (by omega) (by omega)
  have hn:=hO.n
  have hS0:Same (slOf kv) τ τ1:=(Same.app _ _).trans hS (by simp)
  have hN0:∀ {l:Nat},l<σ.length+3→l∉slOf kv:=fun hl hm=>by have:=hn _ hm;omega
  have hb1:rowOf τ1 (σ.length+2)=some (opX x tc (σ.length+1) kv):=hS0.row hO.b (hN0 (by omega))
  have u:v'.isUndef=false∧v'.isSc=true∧cellsOf v'=[v']:=by rw[hv'];exact ⟨rfl,rfl,rfl⟩
  have uk:kv.isUndef=false:=by rcases hO.k with ⟨h,_⟩ | ⟨p,h,_⟩ <;> rw[h] <;> rfl
  obtain ⟨u1,u2,u3⟩:=u
  have hzl:τ.length≤z:=by simp at hz;omega
  simp only[ic68l0,QJ,h,XP h,car_ld h,QW,QM,WW,X9,VW,EZ,Qau,CH,get_nz,get_ns,evA,simprocAttr]
  refine DW_s [] [(5,8)] hmix (by kernel_rfl) rfl ?_
  simp only[gb,kb,hap,u1,u2,u3,uk,QW,QM,WW,X9,VW,EZ,Qau,CH,get_nz,get_ns,evA,simprocAttr]
  simp only[kb,hb1,u1,u2,u3,hws,QW,QM,WW,X9,VW,EZ,Qau,CH,get_nz,get_ns,evA,simprocAttr]
  refine ZL (by first | trivial | omega) ⟨v',_,_,_,_,?_,?_,rfl⟩
  ·have hne:σ.length+2≠z:=by omega
   have ht1:x.cs.take (i+1)=x.cs.take i++[x.cs[i]!]:=by rw[JC,QI h,getElem!_pos x.cs i h];rfl
   refine ⟨?_,?_,?_,.inr ⟨z,by rw[hv',ht1];simp,?_⟩,fun l hl=>?_,fun l hl=>?_⟩
   ·rw[QX (by omega)];exact hS0.row hO.s (hN0 (by omega))
   ·have hm1:=hS0.map hO.m (hN0 (by omega))
    unfold mapOf at hm1 ⊢
    rw[QU (by omega)];exact hm1
   ·rw[W0 hb1]
   ·rw[QX hne,ht1];exact hzr
   ·rw[hv'] at hl;simp only[slOf,WZ] at hl;subst hl;omega
   ·rw[QU (by omega),hS0 l (by omega) (hN0 (by omega))];exact hO.o l hl
  ·simp at hle ⊢;omega
 have hie:i=x.cs.length:=by omega
 subst hie
 obtain ⟨p,rfl,hp⟩:∃ p,kv=.sl p 0 x.cs.length 1∧rowOf τ p=some ((x.cs.flatMap kmC).map .cv):=by
  have:=hO.k
  rw[X7] at this
  rcases this with ⟨_,h0⟩ | h
  ·rw[h0] at c1;simp at c1
  ·exact h
 have hpn:=hO.n p (by simp[slOf])
 have gs:=fun J=>ZH hO.s J
 have ks:=fun J=>Qdq hO.s J
 have gb:=fun J=>ZH hO.b J
 have kb:=fun J=>Qdq hO.b J
 simp only[ic68l0,QJ,h,QW,QM,WW,X9,VW,EZ,Qau,CH,get_nz,get_ns,evA,simprocAttr]
 refine DW_s [] [(3,10),(5,10),(7,5),(7,14),(10,5),(10,14),(14,10)] hmix (by kernel_rfl) rfl ?_
 have hmk1:=fun σ=>MP (n:=x.cs.length) (by omega) σ
 have hmk2:=fun σ=>MP (n:=x.ws.length+4) (by omega) σ
 have hw4:IntKind.i64.wrap ((x.ws.length:Int)+4)=((x.ws.length+4:Nat):Int):=by rw[ZC (by omega)];rfl
 have gs2:∀ J Y,rowOf ((τ++J).set (σ.length+2) (.cells Y)) (σ.length+2)=some Y:=fun J Y=>W0 (gb J)
 have gs3:∀ J Y,((τ++J).set (σ.length+2) (.cells Y))[σ.length]? = (τ++J)[σ.length]? := fun J Y=>QU (by omega)
 simp only[hO.s,gs,gb,ks,kb,gs2,gs3,hmk1,hmk2,hw4,QW,QM,WW,X9,VW,EZ,Qau,CH,get_nz,get_ns,evA,simprocAttr]
 have km:(x.cs.flatMap kmC).map AV.cv=(x.cs.map (·.km)).map AV.i:=by
  generalize x.cs=L
  induction L with
  | nil=>rfl
  | cons c L ih=>simp only[YH,ZS,Q0,ih];rfl
 have lb:=row_lt hO.b
 have lp:=row_lt hp
 refine ⟨⟨(WO hO.s).symm,by rw[QU (by omega),CH];rfl⟩,σ.length+2,p,τ.length,τ.length+1,σ.length+1,rfl,?_⟩
 rw[List.set_set]
 refine ⟨?_,?_,?_,?_,?_,.inl ⟨rfl,rfl⟩,.inl ⟨rfl,rfl⟩,fun o ho=>?_,?_,fun _=>rfl⟩
 ·rw[W0 (gb _)];rfl
 ·show rowOf _ p=some ((x.cs.map (·.km)).map AV.i)
  rw[QX (by omega),← km];exact ZH hp _
 ·show rowOf _ τ.length=_
  rw[QX (by omega),WW];rfl
 ·show rowOf _ (τ.length+1)=_
  rw[QX (by omega),X9];rfl
 ·have hm:=hO.m
  show mapOf _ (σ.length+1)=_
  have hlm:=map_lt hm
  unfold mapOf at hm ⊢
  rw[QU (by omega),QE hlm];exact hm
 ·have h1:=hO0 o ho
  have hl:=(QH.1 h1).1
  rw[QU (by omega),QE (by omega),hO.o _ hl];exact h1
 ·have hlo:∀ y∈O0₀.map (·.1),y<σ.length:=fun y hy=>by
   obtain ⟨o,ho,rfl⟩:=ZP.1 hy
   exact (QH.1 (hO0 o ho)).1
  have hno:∀ {y:Nat},σ.length≤y→y∉O0₀.map (·.1):=fun h1 h2=>by have:=hlo _ h2;omega
  simp only[slOf,List.nil_append,bk0,WQ,ZD,not_or]
  exact ⟨⟨by omega,by omega,by omega,by omega,hno (by omega)⟩,⟨by omega,by omega,by omega,hno (by omega)⟩,⟨by omega,by omega,hno (by omega)⟩,⟨by omega,hno (by omega)⟩,hno (by omega),hnd⟩
structure E11 where
 kd:Int
 at_:Int
 l:Int
 c:Int
 bk:Int
 s:Int
 h:Int
 d:Int
 w:Int
 km:Int
 ce:Int
instance:Inhabited E11:=⟨⟨0,0,0,0,0,0,0,0,0,0,0⟩⟩
def evC (e:E11):List CV:=[.int .i64 e.kd,.int .i64 e.at_,.int .i64 e.l,.int .i64 e.c,.int .i64 e.bk,.int .i64 e.s,.int .i64 e.h,.int .i64 e.d,.int .i64 e.w,.int .i64 e.km,.int .i64 e.ce]
theorem evC_len (e:E11):(evC e).length=11:=rfl
abbrev bvE (e:E11):AV:=bvA e.kd e.at_ e.l e.c e.bk e.s e.h e.d e.w e.km e.ce
abbrev evL (es:List E11):AV:=.cv (.rsl (es.flatMap evC) es.length)
theorem ev_ld {es:List E11} {k:Nat} (h:k<es.length) (σ:List AObj):YF 11 [.cv (.rp (es.flatMap evC) (k*11))] σ=some (bvE es[k]!,σ):=by
 have h1:k*11+11≤(es.flatMap evC).length:=by rw[UG evC_len];omega
 have h2:=G3 evC_len h
 simp only[YF,h1,if_true]
 rw[h2];rfl
def StepAt (x:Sch) (tc:CV) (n:Nat) (e:E11) (st st':BS₀) (r:Int):Prop :=
 ∀ (σ:List AObj) (a k s c w:Nat) (lv pv:AV) (O:List (Nat × AObj)),BkAt σ a (bk0 x tc k s c w) st lv pv O→AC Tryz.prog 69 [.ptr a 0,.i n,bvE e] σ fun rr τ=>rr=.i r∧∃ lv' pv',BkAt τ a (bk0 x tc k s c w) st' lv' pv' O
def ErAt (O0₀:List (Nat × AObj)) (lv:AV) (O:List (Nat × AObj)) (zs:List Int):Prop:=(lv=.cv .nils∧zs=[]∧O=O0₀)∨∃ z,lv=.sl z 0 zs.length 1∧O=O0₀++[(z,.cells (zs.map AV.i))]
theorem er_app {σ:List AObj} {a:Nat} {b:BK₀} {st:BS₀} {lv pv ev:AV} {O0₀ O:List (Nat × AObj)} {zs:List Int} (hB:BkAt σ a b st lv pv O) (hE:ErAt O0₀ ev O zs) (r:Int) (hn:zs.length<1000) :
  ∃ ev' τ O',ZX 1 8 [ev,.sl σ.length 0 1 1] (σ++[.cells [.i r]])=some (ev',τ)∧BkAt τ a b st lv pv O'∧ErAt O0₀ ev' O' (zs++[r]):=by
 have hp44:(2:Nat) ^ 44=17592186044416:=by decide
 have hsrc:Z9 (σ++[AObj.cells [.i r]]) 1 (.sl σ.length 0 1 1)=some [.i r]:=by simp[Z9,rowOf]
 have hB1:=hB.push [.cells [.i r]]
 rcases hE with ⟨rfl,rfl,rfl⟩ | ⟨z,rfl,rfl⟩
 ·refine ⟨.sl (σ++[AObj.cells [.i r]]).length 0 1 1,(σ++[AObj.cells [.i r]])++[.cells [.i r]],_,?_,hB1.more _,.inr ⟨_,rfl,rfl⟩⟩
  simp only[ZX,hsrc,lenF,Option.bind_some]
  rfl
 ·have hz:rowOf σ z=some (zs.map AV.i):=hB.box (by simp)
  have hz':=ZH hz [AObj.cells [.i r]]
  have hB2:=(hB1.drop (O:=O0₀) .dead).more (.cells ((zs++[r]).map AV.i))
  refine ⟨.sl (σ++[AObj.cells [.i r]]).length 0 (zs.length+1) 1,(σ++[AObj.cells [.i r]]).set z .dead++[.cells ((zs++[r]).map AV.i)],_,?_,hB2,.inr ⟨(σ++[AObj.cells [.i r]]).length,by simp,by simp⟩⟩
  simp only[ZX,hz',hsrc,lenF,Option.bind_some]
  rw[if_pos ⟨trivial,by simp,rfl,by omega,by omega,rfl⟩,W3,Q5 (by simp)]
  simp
set_option maxRecDepth 4000 in
theorem bk41 (x:Sch) (tc:CV) (hchk:PC Tryz.prog 44 [schT x tc] (.tup [.i 0,.i 0,.i 0])) (c1:1≤x.cs.length) (c5:x.cs.length≤5) (w8:x.ws.length≤8) (es:List E11) (hne:es.length≤60) (rs:List Int) (hrs:rs.length=es.length)
  (sts:Nat→BS₀) (h0:sts 0=st0 x) (hst:∀ i,i<es.length→StepAt x tc i es[i]! (sts i) (sts (i+1)) rs[i]!) (σ:List AObj) (O0₀:List (Nat × AObj)) (hO0:∀ o∈O0₀,σ[o.1]? = some o.2) (hnd:(O0₀.map (·.1)).Nodup) :
  AC Tryz.prog 41 [schT x tc,evL es] σ fun r τ=>∃ a k s c w lv pv ev O,r=.tup [.ptr a 0,ev,.i 0]∧BkAt τ a (bk0 x tc k s c w) (sts es.length) lv pv O∧ErAt O0₀ ev O rs:=by
 refine ZF (fok41 true) (QC rfl) ?_
 simp only[ic41,WI,cellsOf,QW,QM,WW,X9,VW,EZ,Qau,CH,get_nz,get_ns,evA,simprocAttr]
 refine (bk68 x tc hchk c1 c5 w8 hne _ O0₀ (fun o ho=>by have:=hO0 o ho;rw[QE (QH.1 this).1];exact this) hnd).mono ?_
 rintro r τ ⟨a,k,s,c,w,rfl,hB⟩
 rw[← h0] at hB
 simp only[QW,QM,WW,X9,VW,EZ,Qau,CH,get_nz,get_ns,evA,simprocAttr]
 refine ZW es.length (fun i s'=>∃ τ lv pv ev O v6 v7 v12,BkAt τ a (bk0 x tc k s c w) (sts i) lv pv O∧ErAt O0₀ ev O (rs.take i)∧s'=⟨[schT x tc,evL es,.ptr σ.length 0,.ptr a 0,ev,.i 0,v6,v7,.b false,evL es,.i es.length,.i i,v12],τ⟩) ?_ 0 (QF _) ⟨τ,_,_,_,O0₀,_,_,_,hB,.inl ⟨rfl,rfl,rfl⟩,rfl⟩
 rintro i s' hi ⟨τ,lv,pv,ev,O,v6,v7,v12,hB,hE,rfl⟩
 by_cases h:i<es.length
 rotate_left
 ·have hie:i=es.length:=by omega
  subst hie
  rw[← hrs,X7] at hE
  simp only[ic41l0,QJ,h,QW,QM,WW,X9,VW,EZ,Qau,CH,get_nz,get_ns,evA,simprocAttr]
  exact ⟨a,k,s,c,w,lv,pv,ev,O,rfl,hB,hE⟩
 have hws:IntKind.i64.wrap ((i:Int)+1)=((i+1:Nat):Int):=Q6 (by omega)
 have hu:ev.isUndef=false∧ev.isSc=true:=by rcases hE with ⟨rfl,_⟩ | ⟨z,rfl,_⟩ <;> exact ⟨rfl,rfl⟩
 have ht1:rs.take (i+1)=rs.take i++[rs[i]!]:=by rw[JC,QI (by omega),getElem!_pos rs i (by omega)];rfl
 have hdo:=hst i h _ a k s c w lv pv O (hB.push [.cells [.i (es[i]!).kd,.i (es[i]!).at_,.i (es[i]!).l,.i (es[i]!).c,.i (es[i]!).bk,.i (es[i]!).s,.i (es[i]!).h,.i (es[i]!).d,.i (es[i]!).w,.i (es[i]!).km,.i (es[i]!).ce]])
 simp only[ic41l0,QJ,h,XP h,ev_ld h,QW,QM,WW,X9,VW,EZ,Qau,CH,get_nz,get_ns,evA,simprocAttr]
 refine hdo.mono ?_
 rintro r τ2 ⟨rfl,lv2,pv2,hB2⟩
 obtain ⟨ev',τ3,O',hap,hB3,hE3⟩:=er_app hB2 hE rs[i]! (by simp;omega)
 rw[← ht1] at hE3
 have hu':ev'.isUndef=false∧ev'.isSc=true:=by rcases hE3 with ⟨rfl,_⟩ | ⟨z,rfl,_⟩ <;> exact ⟨rfl,rfl⟩
 simp only[V4,hap,hu.1,hu.2,hu'.1,hu'.2,hws,QW,QM,WW,X9,VW,EZ,Qau,CH,get_nz,get_ns,evA,simprocAttr]
 exact ZL (by first | trivial | omega) ⟨τ3,lv2,pv2,ev',O',_,_,_,hB3,hE3,rfl⟩
abbrev lesL (ls:List Le):AV:=.cv (.rsl (ls.flatMap leC) ls.length)
abbrev posL (ps:List Po):AV:=.cv (.rsl (ps.flatMap poC) ps.length)
theorem BkAt.free {σ:List AObj} {a l:Nat} {o:AObj} {b:BK₀} {st:BS₀} {lv pv:AV} {O:List (Nat × AObj)} (h:BkAt σ a b st lv pv O) (ho:(l,o)∈O):l≠a∧l≠b.k∧l≠b.s∧l≠b.c∧l∉slOf lv∧l∉slOf pv:=by
 have nd:=h.nd
 have hm:l∈O.map (·.1):=ZP.2 ⟨_,ho,rfl⟩
 simp only[WQ,ZD,YV,not_or,List.nodup_append] at nd
 obtain ⟨⟨n1,n2,n3,n4,n5,n6,n7⟩,⟨n8,n9,n10,n11,n12,n13⟩,⟨n14,n15,n16,n17,n18⟩,⟨n19,n20,n21,n22⟩,⟨n23,n24,n25⟩,n26,⟨n27,n28,n29⟩,n30⟩:=nd
 exact ⟨fun e=>n7 (e ▸ hm),fun e=>n13 (e ▸ hm),fun e=>n18 (e ▸ hm),fun e=>n22 (e ▸ hm),fun e=>n30 l e l (.inr hm) rfl,fun e=>n29 l e l hm rfl⟩
theorem sclI (cs:List CV) (h:∀ c∈cs,∃ z,c=.int .i64 z):∀ c∈cs,scl c:=fun c hc=>by obtain ⟨z,rfl⟩:=h c hc;trivial
theorem leC_int (ls:List Le):∀ c∈ls.flatMap leC,∃ z,c=.int .i64 z:=fun c hc=>by
 obtain ⟨x,_,hx⟩:=YM.1 hc
 simp only[leC,ZD,WK,or_false] at hx
 rcases hx with rfl | rfl | rfl | rfl | rfl <;> exact ⟨_,rfl⟩
theorem poC_int (ls:List Po):∀ c∈ls.flatMap poC,∃ z,c=.int .i64 z:=fun c hc=>by
 obtain ⟨x,_,hx⟩:=YM.1 hc
 simp only[poC,ZD,WK,or_false] at hx
 rcases hx with rfl | rfl | rfl | rfl <;> exact ⟨_,rfl⟩
structure StLen (x:Sch) (st:BS₀):Prop where
 k:st.km.length=x.cs.length
 s:st.sn.length=x.cs.length
 a:st.ac.length=x.ws.length+4
set_option maxRecDepth 4000 in
theorem bk10 (x:Sch) (tc:CV) (hchk:PC Tryz.prog 44 [schT x tc] (.tup [.i 0,.i 0,.i 0])) (c1:1≤x.cs.length) (c5:x.cs.length≤5) (w8:x.ws.length≤8) (es:List E11) (hne:es.length≤60) (rs:List Int) (hrs:rs.length=es.length)
  (sts:Nat→BS₀) (h0:sts 0=st0 x) (hst:∀ i,i<es.length→StepAt x tc i es[i]! (sts i) (sts (i+1)) rs[i]!) (hL:StLen x (sts es.length)) :
  PC Tryz.prog 10 [schT x tc,evL es] (.tup [ints rs,.agg [lesL (sts es.length).ls,ints (sts es.length).km,ints (sts es.length).sn,ints (sts es.length).ac],.i 0]):=by
 refine ⟨ZF (fok10 true) (QC rfl) ?_,rfl⟩
 simp only[ic10,WI,cellsOf,QW,QM,WW,X9,VW,EZ,Qau,CH,get_nz,get_ns,evA,simprocAttr]
 refine (bk41 x tc hchk c1 c5 w8 es hne rs hrs sts h0 hst _ [(1,.cells [.cv .nils,.cv .nils,.cv .nils,.cv .nils])] (fun o ho=>by simp only[WZ] at ho;subst ho;rfl) (by simp)).mono ?_
 rintro r τ ⟨a,k,s,c,w,lv,pv,ev,O,rfl,hB,hE⟩
 generalize sts es.length=st at *
 have hin:(1,AObj.cells [.cv .nils,.cv .nils,.cv .nils,.cv .nils])∈O:=by rcases hE with ⟨_,_,rfl⟩ | ⟨z,_,rfl⟩ <;> simp
 have h1:=hB.box hin
 obtain ⟨e1,e2,e3,e4,e5,e6⟩:=hB.free hin
 have hX:=hB.hX
 have u1:ev.isUndef=false∧ev.isSc=true:=by rcases hE with ⟨rfl,_⟩ | ⟨z,rfl,_⟩ <;> exact ⟨rfl,rfl⟩
 have u2:lv.isUndef=false∧lv.isSc=true∧cellsOf lv=[lv]:=by rcases hB.hl with ⟨rfl,_⟩ | ⟨z,rfl,_⟩ <;> exact ⟨rfl,rfl,rfl⟩
 simp only[u1.1,u1.2,QW,QM,WW,X9,VW,EZ,Qau,CH,get_nz,get_ns,evA,simprocAttr]
 refine DW_s [] [] hmix (by kernel_rfl) rfl ?_
 simp only[hX,h1,u1.1,u1.2,u2.1,u2.2.1,u2.2.2,QW,QM,WW,X9,VW,EZ,Qau,CH,get_nz,get_ns,evA,simprocAttr]
 have hR:∀ {l:Nat} {cs Y:List AV},rowOf τ l=some cs→1≠l→rowOf (τ.set 1 (.cells Y)) l=some cs:=fun h hn=>by rw[QX hn];exact h
 have h1s:∀ Y,rowOf (τ.set 1 (.cells Y)) 1=some Y:=fun Y=>W0 h1
 simp only[h1s,QW,QM,WW,X9,VW,EZ,Qau,CH,get_nz,get_ns,evA,simprocAttr]
 refine .tup (.cons ?_ (.cons (.agg (.cons ?_ (.cons ?_ (.cons ?_ (.cons ?_ .nil))))) (.cons (.c (.c _ trivial)) .nil)))
 ·rcases hE with ⟨rfl,rfl,_⟩ | ⟨z,rfl,rfl⟩
  ·exact RY
  ·have hz:1≠z:=by
    have nd:=hB.nd
    simp only[ZS,Q0,WS,WQ,List.nodup_append] at nd
    intro e;subst e
    simp at nd
   exact TN (fun _=>trivial) (hR (hB.box (by simp)) hz)
 ·rcases hB.hl with ⟨rfl,h⟩ | ⟨p,rfl,hp⟩
  ·rw[h];exact .c .nl
  ·exact sl_frz (rest:=[]) (by rw[ZU];exact hR hp (fun e=>e5 (by simp[slOf,e]))) (UG leC_len5 _) (sclI _ (leC_int _))
 ·exact U4 (fun _=>trivial) hL.k.symm (hR hB.hk e2)
 ·exact U4 (fun _=>trivial) hL.s.symm (hR hB.hs e3)
 ·exact U4 (fun _=>trivial) hL.a.symm (hR hB.hc e4)
theorem bk18 (x:Sch) (tc:CV) (hchk:PC Tryz.prog 44 [schT x tc] (.tup [.i 0,.i 0,.i 0])) (c1:1≤x.cs.length) (c5:x.cs.length≤5) (w8:x.ws.length≤8) (es:List E11) (hne:es.length≤60) (rs:List Int) (hrs:rs.length=es.length)
  (sts:Nat→BS₀) (h0:sts 0=st0 x) (hst:∀ i,i<es.length→StepAt x tc i es[i]! (sts i) (sts (i+1)) rs[i]!) :
  PC Tryz.prog 18 [schT x tc,evL es] (.tup [posL (sts es.length).ps,.i 0]):=by
 refine ⟨ZF (fok18 true) (QC rfl) ?_,rfl⟩
 simp only[ic18,WI,cellsOf,QW,QM,WW,X9,VW,EZ,Qau,CH,get_nz,get_ns,evA,simprocAttr]
 refine (bk41 x tc hchk c1 c5 w8 es hne rs hrs sts h0 hst _ [] (fun o ho=>by simp at ho) (by simp)).mono ?_
 rintro r τ ⟨a,k,s,c,w,lv,pv,ev,O,rfl,hB,hE⟩
 generalize sts es.length=st at *
 have hX:=hB.hX
 have u2:pv.isUndef=false∧pv.isSc=true:=by rcases hB.hp with ⟨rfl,_⟩ | ⟨z,rfl,_⟩ <;> exact ⟨rfl,rfl⟩
 simp only[hX,u2.1,u2.2,QW,QM,WW,X9,VW,EZ,Qau,CH,get_nz,get_ns,evA,simprocAttr]
 refine .tup (.cons ?_ (.cons (.c (.c _ trivial)) .nil))
 rcases hB.hp with ⟨rfl,h⟩ | ⟨p,rfl,hp⟩
 ·rw[h];exact .c .nl
 ·exact sl_frz (rest:=[]) (by rw[ZU];exact hp) (UG poC_len _) (sclI _ (poC_int _))
theorem bk15 (x:Sch) {tc:CV} {ts:List (Int × Int)} (hchk:PC Tryz.prog 44 [schT x tc] (.tup [.i 0,.i 0,.i 0])) (htc:TcOf tc ts) (htn:ts.length<2 ^ 60) (h bf:Int) (hh:1≤h∧h≤4) (hb:0≤bf∧bf≤4800) (hpr:0≤x.pr∧x.pr≤10000) (hpt:0≤partT ts bf∧partT ts bf≤1000) :
  PC Tryz.prog 15 [schT x tc,.i h,.i bf] (.tup [.i (feeT ts h x.pr bf),.i 0]):=by
 refine ⟨ZF (fok15 true) (QC rfl) ?_,rfl⟩
 simp only[ic15,WI,V4,cellsOf,QW,QM,WW,X9,VW,EZ,Qau,CH,get_nz,get_ns,evA,simprocAttr]
 refine hchk.call frz ?_
 simp only[V4,QW,QM,WW,X9,VW,EZ,Qau,CH,get_nz,get_ns,evA,simprocAttr]
 refine out_at 1 4 h hh rfl ?_
 simp only[V4,QW,QM,WW,X9,VW,EZ,Qau,CH,get_nz,get_ns,evA,simprocAttr]
 refine out_at 0 4800 bf hb rfl ?_
 simp only[V4,QW,QM,WW,X9,VW,EZ,Qau,CH,get_nz,get_ns,evA,simprocAttr]
 refine (bk46 htc htn (.rsl (x.ws.map CV.str) x.ws.length) (.rsl (x.cs.flatMap carC) x.cs.length) x.pr x.ex x.lo x.hi h bf hpr ⟨by omega,hh.2⟩ hpt).call frz ?_
 simp only[QW,QM,WW,X9,VW,EZ,Qau,CH,get_nz,get_ns,evA,simprocAttr]
 exact frz
theorem bk11 (zs:List Int) (hn:zs.length≤100) (hb:∀ i,-1000000000000≤gI zs i∧gI zs i≤1000000000000):PC Tryz.prog 11 [ints zs] (.i zs.sum):=by
 refine ⟨ZF (fok11 true) (QC rfl) ?_,rfl⟩
 simp only[ic11,evA,simprocAttr]
 refine ZW zs.length (fun i s=>∃ v4,(-(1000000000000*(i:Int))≤(zs.take i).sum∧(zs.take i).sum≤1000000000000*(i:Int))∧s=⟨[ints zs,.i 0,.i (zs.take i).sum,.i i,v4],[]⟩) ?_ 0 (QF _) ⟨_,by simp,rfl⟩
 rintro i s hi ⟨v4,hs,rfl⟩
 by_cases h:i<zs.length
 ·have hws:IntKind.i64.wrap ((i:Int)+1)=((i+1:Nat):Int):=Q6 (by omega)
  have hg:=hb i
  have ht:(zs.take (i+1)).sum=(zs.take i).sum+gI zs i:=by
   have e:zs.take (i+1)=zs.take i++[zs[i]]:=by rw[JC,QI h];rfl
   rw[e,List.sum_append]
   simp[gI,h]
  have hw2:IntKind.i64.wrap ((zs.take i).sum+gI zs i)=(zs.take (i+1)).sum:=by rw[ht];exact ZC (by omega)
  have hia:∀ σ,VP 1 [ints zs,.cv (.int .i64 i)] σ=some (.cv (.rp (zs.map (.int .i64)) i),σ):=fun σ=>by rw[XP h,W3]
  have hld:(zs.map (CV.int .i64))[i]? = some (.int .i64 (gI zs i)):=by simp[gI,h]
  have hld2:zs[i]?.getD 0=gI zs i:=rfl
  simp only[ic11l0,QJ,h,hia,hld,hld2,hw2,hws,evA,simprocAttr]
  refine ZL (by first | trivial | omega) ⟨_,?_,rfl⟩
  rw[ht];omega
 ·have hie:i=zs.length:=by omega
  subst hie
  simp only[ic11l0,QJ,h,X7,evA,simprocAttr]
  exact frz
end Go.Proofs.YtfnhbbohjnjfnaaGreat.AM

/- Parts of the proof, joined: LeK2 to LeO1. -/
import Derived.Test.YtgkidpolomhghaaGreatDoorZ21
set_option linter.unusedVariables false
set_option linter.unusedSimpArgs false
set_option linter.unusedSectionVars false
namespace Go.Proofs.YtgkidpolomhghaaGreatDoor.AM
variable [Dr]
open Go Pl
structure LkOk (p:Pln):Prop where
 sys:(sysE p.sys).2.2=0
 day:DyOk p.day
 dy0:(dyE p.day).2.2=0
 le:p.le.length≤8
 te:p.te.length≤8
 ca:p.ca.length≤8
 cls:∀ z∈p.le,0≤z∧z≤(p.sys.cl.length:Int)-1
 tch:∀ i,i<p.te.length→tchE p.sys p.te[i]! = 0
 car:∀ i,i<p.ca.length→carE p.sys p.ca[i]! = 0
 who:∀ i,i<p.day.ls.length→(p.day.ls[i]!).le<p.le.length∧(p.day.ls[i]!).te<p.te.length∧(p.day.ls[i]!).ca<p.ca.length
theorem Qdc {p:Pln} (h:plnE p=0):LkOk p:=by
 unfold plnE at h
 split at h
 ·rename_i h1;exact absurd h h1
 rename_i h1
 split at h
 ·rename_i h2;exact absurd h h2
 rename_i h2
 split at h
 ·exact absurd h (by decide)
 rename_i h3
 split at h
 ·exact absurd h (by decide)
 rename_i h4
 split at h
 ·rename_i h5;exact absurd h h5
 rename_i h5
 split at h
 ·rename_i h6;exact absurd h h6
 rename_i h6
 split at h
 ·exact absurd h (by decide)
 rename_i h7
 have h3:(decide ((p.le.length:Int)>8)||decide ((p.te.length:Int)>8)||decide ((p.ca.length:Int)>8))=false:=by simpa using h3
 simp only[X8,decide_eq_false_iff_not] at h3
 have h7:p.day.ls.any (whoB p)=false:=by cases hh:p.day.ls.any (whoB p) with | false=>rfl | true=>exact absurd hh h7
 rw[W6] at h7
 refine ⟨JE.1 h1,LO (JE.1 h2),JE.1 h2,by omega,by omega,by omega,VL.1 (by cases hh:outF 0 ((p.sys.cl.length:Int)-1) p.le with | false=>rfl | true=>exact absurd hh h4),fun i hi=>LJ _ 0 (JE.1 h5) i (QF _) (by omega),fun i hi=>LJ _ 0 (JE.1 h6) i (QF _) (by omega),fun i hi=>?_⟩
 have:=h7 p.day.ls[i]! (by rw[getElem!_pos p.day.ls i hi];exact Q2 _)
 unfold whoB at this
 simp only[WR,decide_eq_true_eq,not_or] at this
 omega
def hrF (f:Les→Int) (n:Nat) (ls:List Les):Nat→List Int
 | 0=>List.replicate n 0
 | k+1=>(hrF f n ls k).set (f ls[k]!).toNat (gI (hrF f n ls k) (f ls[k]!).toNat+((ls[k]!).e-(ls[k]!).b))
theorem DC (f:Les→Int) (n:Nat) (ls:List Les):∀ k,(hrF f n ls k).length=n
 | 0=>by simp[hrF]
 | k+1=>by simp[hrF,DC f n ls k]
theorem Qar {f:Les→Int} {n:Nat} {ls:List Les} (h:∀ i,i<ls.length→0≤(ls[i]!).e-(ls[i]!).b∧(ls[i]!).e-(ls[i]!).b≤1440):∀ k,k≤ls.length→∀ j,0≤gI (hrF f n ls k) j∧gI (hrF f n ls k) j≤1440*k
 | 0,_,j=>by
  unfold hrF gI
  rw[YN]
  split <;> simp
 | k+1,hk,j=>by
  have ih:=Qar (f:=f) (n:=n) h k (by omega)
  have h1:=h k (by omega)
  have ij:=ih j
  have ik:=ih (f ls[k]!).toNat
  unfold hrF
  by_cases hl:(f ls[k]!).toNat<(hrF f n ls k).length
  ·rw[JO hl]
   split <;> omega
  ·rw[KE (by omega)]
   omega
abbrev hrsV (p:Pln):AV :=
 .agg [ints (hrF (·.le) p.le.length p.day.ls p.day.ls.length),ints (hrF (·.te) p.te.length p.day.ls p.day.ls.length),ints (hrF (·.ca) p.ca.length p.day.ls p.day.ls.length)]
def hrsA (p:Pln):AV:=if plnE p≠0 then .tup [.agg [ints [],ints [],ints []],.i (plnE p)] else .tup [hrsV p,.i 0]
theorem Qbf (k:Nat) (zs:List Int):Z3 k (.cells (zs.map AV.i))=true:=by
 simp only[Z3]
 rw[Z8]
 intro v hv
 obtain ⟨z,_,rfl⟩:=ZP.1 hv
 rfl
theorem le37 (p:Pln) (hp:PSz p):PC Tryz.prog 37 [plnV p] (hrsA p):=by
 refine ⟨ZF (fok37 true) (QC rfl) ?_,by unfold hrsA;split <;> rfl⟩
 simp only[ic37,WI,cellsOf,evA,simprocAttr]
 refine (le93 p hp).call ?_
 unfold hrsA
 by_cases he:plnE p=0
 rotate_left
 ·have hb:(plnE p != 0)=true:=by simpa using he
  have hl2:lkP p=plV9 p∨lkP p=.agg (List.replicate 9 (.cv .nils)):=by
   unfold lkP;split
   ·exact .inr rfl
   ·exact .inl rfl
  rw[if_pos he]
  rcases hl2 with h | h <;> rw[h]
  ·simp only[hb,evA,simprocAttr]
   exact .tup (.cons (.agg (.cons (.c .nl) (.cons (.c .nl) (.cons (.c .nl) .nil)))) (.cons (.c (.c _ trivial)) .nil))
  ·simp only[hb,List.replicate,evA,simprocAttr]
   exact .tup (.cons (.agg (.cons (.c .nl) (.cons (.c .nl) (.cons (.c .nl) .nil)))) (.cons (.c (.c _ trivial)) .nil))
 have hok:=Qdc he
 have hlk:lkP p=plV9 p:=by unfold lkP;rw[if_neg (fun h=>h.elim (fun h=>h hok.sys) (fun h=>h hok.dy0))]
 have hb:(plnE p != 0)=false:=by simpa using he
 rw[if_neg (fun h=>h he),hlk]
 simp only[hb,he,evA,simprocAttr]
 have m1:=fun σ=>MP (n:=p.le.length) (WJ hok.le (by decide)) σ
 have m2:=fun σ=>MP (n:=p.te.length) (WJ hok.te (by decide)) σ
 have m3:=fun σ=>MP (n:=p.ca.length) (WJ hok.ca (by decide)) σ
 refine DW_s [] [(2,9),(2,14),(4,9),(4,14),(7,4),(7,14),(9,4),(9,14),(12,4),(12,9),(14,4),(14,9)] hmix (by kernel_rfl) rfl ?_
 simp only[m1,m2,m3,evA,simprocAttr]
 have h12:=hok.day.l12
 have hob:∀ a b c:List Int,∀ o∈[AObj.cells (plnC p),.cells [.sl 3 0 p.le.length 1,.sl 4 0 p.te.length 1,.sl 5 0 p.ca.length 1],.cells (plC9 p),.cells (a.map AV.i),.cells (b.map AV.i),.cells (c.map AV.i)],Z3 6 o=true:=by
  intro a b c o ho
  simp only[ZD,WK,or_false] at ho
  rcases ho with rfl | rfl | rfl | rfl | rfl | rfl
  ·rfl
  ·rfl
  ·rfl
  ·exact Qbf _ _
  ·exact Qbf _ _
  ·exact Qbf _ _
 have hdur:∀ i,i<p.day.ls.length→0≤(p.day.ls[i]!).e-(p.day.ls[i]!).b∧(p.day.ls[i]!).e-(p.day.ls[i]!).b≤1440:=fun i hi=>by
  have hl:=hok.day.les i hi
  have:=hl.b0
  have:=hl.be
  have:=hl.e1
  omega
 refine ZW p.day.ls.length (fun k s=>∃ v5 v6 v11,s=⟨[plnV p,.ptr 0 0,.ptr 1 0,.i 0,.ptr 2 0,v5,v6,.b false,.cv (lesR p.day.ls),.i p.day.ls.length,.i k,v11],[.cells (plnC p),.cells [.sl 3 0 p.le.length 1,.sl 4 0 p.te.length 1,.sl 5 0 p.ca.length 1],.cells (plC9 p),.cells ((hrF (·.le) p.le.length p.day.ls k).map AV.i),.cells ((hrF (·.te) p.te.length p.day.ls k).map AV.i),.cells ((hrF (·.ca) p.ca.length p.day.ls k).map AV.i)]⟩) ?_ 0 (QF _) ⟨_,_,_,rfl⟩
 rintro k s hk ⟨v5,v6,v11,rfl⟩
 by_cases h:k<p.day.ls.length
 ·have hld:=MQ h
  have hd:=hdur k h
  have hles:=hok.day.les k h
  have hwho:=hok.who k h
  have b1:=Qar (f:=(·.le)) (n:=p.le.length) hdur k hk
  have b2:=Qar (f:=(·.te)) (n:=p.te.length) hdur k hk
  have b3:=Qar (f:=(·.ca)) (n:=p.ca.length) hdur k hk
  have n1:=DC (·.le) p.le.length p.day.ls k
  have n2:=DC (·.te) p.te.length p.day.ls k
  have n3:=DC (·.ca) p.ca.length p.day.ls k
  have s1:hrF (·.le) p.le.length p.day.ls (k+1)=(hrF (·.le) p.le.length p.day.ls k).set (p.day.ls[k]!).le.toNat (gI (hrF (·.le) p.le.length p.day.ls k) (p.day.ls[k]!).le.toNat+((p.day.ls[k]!).e-(p.day.ls[k]!).b)):=rfl
  have s2:hrF (·.te) p.te.length p.day.ls (k+1)=(hrF (·.te) p.te.length p.day.ls k).set (p.day.ls[k]!).te.toNat (gI (hrF (·.te) p.te.length p.day.ls k) (p.day.ls[k]!).te.toNat+((p.day.ls[k]!).e-(p.day.ls[k]!).b)):=rfl
  have s3:hrF (·.ca) p.ca.length p.day.ls (k+1)=(hrF (·.ca) p.ca.length p.day.ls k).set (p.day.ls[k]!).ca.toNat (gI (hrF (·.ca) p.ca.length p.day.ls k) (p.day.ls[k]!).ca.toNat+((p.day.ls[k]!).e-(p.day.ls[k]!).b)):=rfl
  rw[s1,s2,s3]
  generalize hrF (·.le) p.le.length p.day.ls k=A at *
  generalize hrF (·.te) p.te.length p.day.ls k=B at *
  generalize hrF (·.ca) p.ca.length p.day.ls k=C at *
  have hles1:=hles.le
  have hles2:=hles.te
  have hles3:=hles.ca
  clear s1 s2 s3 hles
  generalize p.day.ls[k]! = l at *
  obtain ⟨l1,l2,l3,l4,l5,l6,l7⟩:=l
  simp only at hles1 hles2 hles3 hwho hd hld ⊢
  obtain ⟨x,rfl⟩:∃ x:Nat,l1=(x:Int):=⟨l1.toNat,by omega⟩
  obtain ⟨y,rfl⟩:∃ y:Nat,l2=(y:Int):=⟨l2.toNat,by omega⟩
  obtain ⟨z,rfl⟩:∃ z:Nat,l3=(z:Int):=⟨l3.toNat,by omega⟩
  have hx2:x<p.le.length:=by omega
  have hy2:y<p.te.length:=by omega
  have hz2:z<p.ca.length:=by omega
  simp only[Int.toNat_natCast]
  have hwn:IntKind.i64.wrap (l5-l4)=l5-l4:=ZC (by omega)
  have lA:=V1 (zs:=A) (k:=x) (by omega)
  have lB:=V1 (zs:=B) (k:=y) (by omega)
  have lC:=V1 (zs:=C) (k:=z) (by omega)
  have wA:IntKind.i64.wrap (A[x]?.getD 0+(l5-l4))=gI A x+(l5-l4):=ZC (by have:=b1 x;unfold gI at this;omega)
  have wB:IntKind.i64.wrap (B[y]?.getD 0+(l5-l4))=gI B y+(l5-l4):=ZC (by have:=b2 y;unfold gI at this;omega)
  have wC:IntKind.i64.wrap (C[z]?.getD 0+(l5-l4))=gI C z+(l5-l4):=ZC (by have:=b3 z;unfold gI at this;omega)
  have eA:x+1≤A.length:=by omega
  have eB:y+1≤B.length:=by omega
  have eC:z+1≤C.length:=by omega
  simp only[ic37l0,QJ,h,F5 h,hld,hwn,W9 hx2,W9 hy2,W9 hz2,lA,lB,lC,wA,wB,wC,ZK,eA,eB,eC,GC,ZV,Q6 (show k+1<2 ^ 63 by omega),evA,simprocAttr]
  exact W1 [.cells (plnC p),.cells [.sl 3 0 p.le.length 1,.sl 4 0 p.te.length 1,.sl 5 0 p.ca.length 1],.cells (plC9 p),.cells ((A.set x (gI A x+(l5-l4))).map AV.i),.cells ((B.set y (gI B y+(l5-l4))).map AV.i),.cells ((C.set z (gI C z+(l5-l4))).map AV.i)] _ rfl (by first | trivial | omega) (QF _) (hob _ _ _) ⟨_,_,_,rfl⟩
 ·have hke:k=p.day.ls.length:=by omega
  subst hke
  simp only[ic37l0,QJ,h,evA,simprocAttr]
  exact .tup (.cons (.agg (.cons (U4 (fun _=>trivial) (DC _ _ _ _).symm rfl) (.cons (U4 (fun _=>trivial) (DC _ _ _ _).symm rfl) (.cons (U4 (fun _=>trivial) (DC _ _ _ _).symm rfl) .nil)))) (.cons (.c (.c _ trivial)) .nil))
end Go.Proofs.YtgkidpolomhghaaGreatDoor.AM
namespace Go.Proofs.YtgkidpolomhghaaGreatDoor.Pl
abbrev Mem:=List (List Int × Int × Int)
def fndM:Mem→List Int→Nat→Option (Nat × Int × Int)
 | [],_,_=>none
 | (k',v)::M,key,i=>if key=k' then some (i,v) else fndM M key (i+1)
def putM (M:Mem) (key:List Int) (v:Int × Int):Mem:=match fndM M key 0 with
 | some (i,_)=>M.set i (key,v)
 | none=>M++[(key,v)]
def c2:Cost→Int × Int
 | none=>(1073741824,0)
 | some c=>c
def TF (a b:Int × Int):Bool:=decide (a.1>b.1)||(a.1 == b.1&&decide (a.2>b.2))
def lstX (m:Int) (a b:Int × Int):Int × Int:=if TF a (b.1+1,b.2+m)=true then (b.1+1,b.2+m) else a
section
variable (ps:List Pat)
def lstF:Nat→Nat→List Int→Mem→(Int × Int) × Mem
 | 0,_,_,M=>((0,0),M)
 | f + 1,k,l,M =>
  if J9 l=true then ((0,0),M)
  else if ps.length≤k then ((1073741824,0),M)
  else match fndM M ((k:Int)::l) 0 with
   | some (_,v)=>(v,M)
   | none =>
    if afL (ps[k]!).1 l=l then ((lstF f (k+1) l M).1,putM (lstF f (k+1) l M).2 ((k:Int)::l) (lstF f (k+1) l M).1)
    else (lstX (ps[k]!).2 (lstF f (k+1) l M).1 (lstF f k (afL (ps[k]!).1 l) (lstF f (k+1) l M).2).1,
     putM (lstF f k (afL (ps[k]!).1 l) (lstF f (k+1) l M).2).2 ((k:Int)::l) (lstX (ps[k]!).2 (lstF f (k+1) l M).1 (lstF f k (afL (ps[k]!).1 l) (lstF f (k+1) l M).2).1))
variable {ps}
theorem Qbs:∀ {M:Mem} {key:List Int} {i j:Nat} {v:Int × Int},fndM M key i=some (j,v)→(key,v)∈M
 | [],_,_,_,_,h=>by cases h
 | (k',w)::M,key,i,j,v,h=>by
  unfold fndM at h
  split at h
  ·rename_i he
   cases h
   rw[he]
   exact List.mem_cons_self ..
  ·exact WU _ (Qbs h)
def N3 (l:List Int):Prop:=∀ i,i<l.length→0≤gI l i∧gI l i≤3
theorem N3.nn {l:List Int} (h:N3 l):NN l:=fun i hi=>(h i hi).1
theorem N3.af {l:List Int} (h:N3 l) (s:Int):N3 (afL s l):=fun i hi=>by
 rw[JQ] at hi
 rw[G8 hi]
 have:=h i hi
 split <;> omega
def KeyW (key:List Int):Prop:=key.length=7∧∀ i,i<7→0≤gI key i∧gI key i≤100
theorem I8 {k:Nat} {l:List Int} (hk:k≤12) (h6:l.length=6) (h:N3 l):KeyW ((k:Int)::l):=by
 refine ⟨by simp[h6],fun i hi=>?_⟩
 cases i with
 | zero=>simp[gI];omega
 | succ i =>
  have:=h i (by omega)
  simp only[gI,List.getElem?_cons_succ] at this ⊢
  omega
def QaP (ps:List Pat) (M:Mem):Prop:=∀ e∈M,KeyW e.1∧e.2=c2 (fewV ps (gI e.1 0).toNat e.1.tail)
theorem AE {M:Mem} {key:List Int} {v:Int × Int} (h:QaP ps M) (hl:KeyW key) (hv:v=c2 (fewV ps (gI key 0).toNat key.tail)):QaP ps (putM M key v):=by
 unfold putM
 split
 ·intro e he
  rcases List.mem_or_eq_of_mem_set he with h2 | h2
  ·exact h e h2
  ·rw[h2];exact ⟨hl,hv⟩
 ·intro e he
  rcases YV.1 he with h2 | h2
  ·exact h e h2
  ·rw[WZ.1 h2];exact ⟨hl,hv⟩
def MtOk (ps:List Pat):Prop:=∀ k,k<ps.length→0≤(ps[k]!).2∧(ps[k]!).2≤100000
theorem DI (hm:MtOk ps):∀ (f k:Nat) (l:List Int) (a b:Int),NN l→fewO ps f k l=some (a,b)→0≤a∧a≤sumN l∧0≤b∧b≤100000*a
 | 0,_,_,_,_,_,h=>by cases h
 | f+1,k,l,a,b,hn,h=>by
  unfold fewO at h
  split at h
  ·cases h;exact ⟨by omega,by omega,by omega,by omega⟩
  split at h
  ·cases h
  rename_i hk
  split at h
  ·exact DI hm f _ _ _ _ hn h
  rename_i ha
  rcases C0 (fewO ps f (k+1) l) (ps[k]!).2 (fewO ps f k (afL (ps[k]!).1 l)) with h2 | ⟨x,hx,h2⟩
  ·rw[h2] at h;exact DI hm f _ _ _ _ hn h
  ·rw[h2] at h
   obtain ⟨c,d⟩:=x
   cases h
   have h3:=DI hm f _ _ _ _ (hn.af _) hx
   have h4:=R3 hn ha
   have h5:=hm k (by omega)
   simp only
   omega
theorem c2_best {A B:Cost} {m:Int} (hA:∀ a b,A=some (a,b)→a<1073741823) (hB:∀ a b,B=some (a,b)→a<1073741823):c2 (TZ A m B)=lstX m (c2 A) (c2 B):=by
 unfold lstX
 cases B with
 | none =>
  simp only[TZ]
  cases A with
  | none=>rw[if_neg (by simp[TF,c2])]
  | some a =>
   obtain ⟨a1,a2⟩:=a
   have:=hA a1 a2 rfl
   rw[if_neg]
   simp only[TF,c2,WR,QD,beq_iff_eq]
   rintro (h | ⟨h,_⟩)
   ·have:=of_decide_eq_true h
    omega
   ·omega
 | some b =>
  obtain ⟨b1,b2⟩:=b
  have hb:=hB b1 b2 rfl
  cases A with
  | none =>
   rw[if_pos]
   ·rfl
   ·simp only[TF,c2,WR]
    exact .inl (decide_eq_true (by omega))
  | some a =>
   simp only[TZ]
   show c2 (if TF a (b1+1,b2+m)=true then _ else _)=_
   by_cases h:TF a (b1+1,b2+m)=true
   ·rw[if_pos h]
    show _=if TF a (b1+1,b2+m)=true then _ else _
    rw[if_pos h];rfl
   ·rw[if_neg h]
    show _=if TF a (b1+1,b2+m)=true then _ else _
    rw[if_neg h]
theorem O6 (hm:MtOk ps) (h12:ps.length≤12):∀ (f k:Nat) (l:List Int) (M:Mem),N3 l→l.length=6→sumN l<1000→ps.length-k+sumN l<f→QaP ps M→(lstF ps f k l M).1=c2 (fewV ps k l)∧QaP ps (lstF ps f k l M).2
 | 0,_,_,_,_,_,_,h,_=>absurd h (W5 _)
 | f + 1,k,l,M,hn3,h6,hs,hf,hM=>by
  have hn:=hn3.nn
  unfold lstF
  cases hz:J9 l with
  | true=>rw[if_pos rfl,LK hn hz];exact ⟨rfl,hM⟩
  | false =>
   rw[if_neg (by decide)]
   by_cases hk:ps.length≤k
   ·rw[if_pos hk,CL hn hz hk];exact ⟨rfl,hM⟩
   rw[if_neg hk]
   cases hfd:fndM M ((k:Int)::l) 0 with
   | some p =>
    obtain ⟨i,v⟩:=p
    have:=(hM _ (Qbs hfd)).2
    refine ⟨?_,hM⟩
    simpa[gI] using this
   | none =>
    have hk2:k<ps.length:=by omega
    obtain ⟨h1,h2⟩:=O6 hm h12 f (k+1) l M hn3 h6 hs (by omega) hM
    simp only
    by_cases ha:afL (ps[k]!).1 l=l
    ·rw[if_pos ha,FB hn hz hk2 ha]
     exact ⟨h1,AE h2 (I8 (by omega) h6 hn3) (by rw[h1,← FB hn hz hk2 ha];simp[gI])⟩
    ·have hlt:=R3 hn ha
     obtain ⟨g1,g2⟩:=O6 hm h12 f k (afL (ps[k]!).1 l) (lstF ps f (k+1) l M).2 (hn3.af _) (by rw[JQ,h6]) (by omega) (by omega) h2
     rw[if_neg ha,FC hn hz hk2 ha]
     have e:=c2_best (A:=fewV ps (k+1) l) (B:=fewV ps k (afL (ps[k]!).1 l)) (m:=(ps[k]!).2) (fun a b h=>by have:=DI hm _ _ _ _ _ hn h;omega) (fun a b h=>by have:=DI hm _ _ _ _ _ (hn.af _) h;omega)
     rw[e,← h1,← g1]
     refine ⟨rfl,AE g2 (I8 (by omega) h6 hn3) ?_⟩
     rw[h1,g1,← e,← FC hn hz hk2 ha]
     simp[gI]
end
section
variable {ps:List Pat} (m:Nat)
theorem Qaw {l:List Int} {i:Nat} (h:i<l.length):gI (l++List.replicate m 0) i=gI l i:=by
 unfold gI;rw[QE h]
theorem MX {l:List Int} {i:Nat} (h:l.length≤i):gI (l++List.replicate m 0) i=0:=by
 unfold gI;rw[QS h,YN];split <;> rfl
theorem BA (s:Int) (l:List Int):afL s (l++List.replicate m 0)=afL s l++List.replicate m 0:=by
 refine B9 (by simp[JQ]) fun i hi=>?_
 rw[JQ] at hi
 rw[G8 hi]
 by_cases h:i<l.length
 ·rw[Qaw m h,Qaw m (by rw[JQ];exact h),G8 h]
 ·rw[MX m (by omega),MX m (by rw[JQ];omega)]
  split <;> rfl
theorem SR (l:List Int):J9 (l++List.replicate m 0)=J9 l:=by
 unfold J9
 rw[List.all_append]
 have:(List.replicate m (0:Int)).all (· == 0)=true:=by rw[Q1];intro x hx;rw[List.eq_of_mem_replicate hx];rfl
 rw[this,WH]
theorem QbW (l:List Int):sumN (l++List.replicate m 0)=sumN l:=by
 unfold sumN
 rw[ZS,List.sum_append,List.map_replicate]
 simp
theorem C4 {s:Int} {l:List Int}:afL s (l++List.replicate m 0)=l++List.replicate m 0↔afL s l=l:=by
 rw[BA]
 exact ⟨fun h=>List.append_cancel_right h,fun h=>by rw[h]⟩
theorem CM:∀ (f k:Nat) (l:List Int),fewO ps f k (l++List.replicate m 0)=fewO ps f k l
 | 0,_,_=>rfl
 | f+1,k,l=>by
  simp only[fewO,SR,C4]
  rw[BA,CM f (k+1) l,CM f k _]
theorem OD (k:Nat) (l:List Int):fewV ps k (l++List.replicate m 0)=fewV ps k l:=by
 unfold fewV
 rw[QbW,CM]
theorem QeX (k:Nat) (l:List Int):EC ps k (l++List.replicate m 0)=EC ps k l:=by
 unfold EC
 simp only[C4]
 rw[BA,OD,OD]
theorem Qas:∀ (f k:Nat) (l:List Int),grL ps f k (l++List.replicate m 0)=grL ps f k l
 | 0,_,_=>rfl
 | f+1,k,l=>by
  simp only[grL,SR,QeX]
  rw[BA,Qas f k _,Qas f (k+1) l]
end
section
variable {ps:List Pat}
theorem few_zero (hm:MtOk ps) {k:Nat} {l:List Int} {b:Int} (hn:NN l) (h:fewV ps k l=some (0,b)):J9 l=true:=by
 obtain ⟨h1,_,h3,_⟩:=EM (fun k hk=>(hm k hk).1) (ps.length-k+sumN l+1) k l 0 b hn (by omega) h
 have hnil:grL ps (ps.length-k+sumN l+1) k l=[]:=ZT (by omega)
 rw[hnil] at h3
 refine OW.2 fun i hi=>?_
 have:=h3 i hi
 have:=hn i hi
 simp[YJ] at *
 omega
theorem few_lt {k:Nat} {l:List Int} {c:Int × Int} (hn:NN l) (hz:J9 l=false) (h:fewV ps k l=some c):k<ps.length:=by
 apply Classical.byContradiction
 intro hk
 rw[CL hn hz (by omega)] at h
 cases h
theorem few_skip {k:Nat} {l:List Int} {c:Int × Int} (hn:NN l) (hz:J9 l=false) (h:fewV ps k l=some c) (ht:EC ps k l=false):fewV ps (k+1) l=some c:=by
 have hk:=few_lt hn hz h
 by_cases ha:afL (ps[k]!).1 l=l
 ·rw[← FB hn hz hk ha];exact h
 ·have e:=FC hn hz hk ha
  rcases C0 (fewV ps (k+1) l) (ps[k]!).2 (fewV ps k (afL (ps[k]!).1 l)) with h2 | ⟨x,hx,h2⟩
  ·rw[← h2,← e];exact h
  ·rw[h2] at e
   unfold EC at ht
   rw[hx,e,decide_eq_false ha] at ht
   simp at ht
theorem QeY (hm:MtOk ps) {k:Nat} {l:List Int} {c:Int × Int} (hn:NN l) (hs:sumN l<1000) (h:fewV ps k l=some c):EC ps k l=(!decide (afL (ps[k]!).1 l=l)&&(c == ((c2 (fewV ps k (afL (ps[k]!).1 l))).1+1,(c2 (fewV ps k (afL (ps[k]!).1 l))).2+(ps[k]!).2))):=by
 unfold EC
 congr 1
 rw[h]
 cases hx:fewV ps k (afL (ps[k]!).1 l) with
 | none =>
  have hb:=DI hm _ _ _ _ _ hn (show fewO ps _ k l=some (c.1,c.2) from h)
  symm
  rw[beq_eq_false_iff_ne]
  intro e
  have:=congrArg Prod.fst e
  simp only[c2] at this
  omega
 | some x =>
  simp only[c2]
  rw[Q8]
  simp
end
end Go.Proofs.YtgkidpolomhghaaGreatDoor.Pl
namespace Go.Proofs.YtgkidpolomhghaaGreatDoor.AM
variable [Dr]
open Go Pl
def afK (s:Int) (l:List Int):Nat→List Int
 | 0=>l
 | k+1=>if bit s k then (afK s l k).set k (max 0 (gI l k-1)) else afK s l k
theorem OR (s:Int) (l:List Int):∀ k,(afK s l k).length=l.length
 | 0=>rfl
 | k+1=>by unfold afK;split <;> simp[OR s l k]
theorem QbJ (s:Int) (l:List Int):∀ (k:Nat),k≤l.length→∀ j,gI (afK s l k) j=if j<k∧bit s j=true then max 0 (gI l j-1) else gI l j
 | 0,_,j=>by rw[if_neg (by omega)];rfl
 | k + 1,hk,j=>by
  have ih:=QbJ s l k (by omega) j
  unfold afK
  by_cases hb:bit s k=true
  ·rw[if_pos hb,JO (by rw[OR];omega)]
   by_cases e:j=k
   ·rw[if_pos e,if_pos ⟨by omega,by rw[e];exact hb⟩,e]
   ·rw[if_neg e,ih]
    by_cases h2:j<k∧bit s j=true
    ·rw[if_pos h2,if_pos ⟨by omega,h2.2⟩]
    ·rw[if_neg h2,if_neg (fun h=>h2 ⟨by omega,h.2⟩)]
  ·rw[if_neg hb,ih]
   by_cases h2:j<k∧bit s j=true
   ·rw[if_pos h2,if_pos ⟨by omega,h2.2⟩]
   ·rw[if_neg h2,if_neg (fun h=>h2 ⟨by
     have:j≠k:=fun e=>hb (by rw[← e];exact h.2)
     omega,h.2⟩)]
theorem afK_end (s:Int) (l:List Int):afK s l l.length=afL s l:=by
 refine B9 (by rw[OR,JQ]) fun i hi=>?_
 rw[OR] at hi
 rw[QbJ s l _ (QG _),G8 hi]
 by_cases hb:bit s i=true
 ·rw[if_pos ⟨hi,hb⟩,if_pos hb]
 ·rw[if_neg (fun h=>hb h.2),if_neg hb]
theorem ia_arr {n l off k:Nat} (h:k<n) (σ:List AObj):PD n 1 [.ptr l off,.cv (.int .i64 k)] σ=some (.ptr l (off+k),σ):=by
 simp[PD,h]
theorem D8:∀ {l:List Int},l.length=6→∃ a b c d e f,l=[a,b,c,d,e,f]
 | [a,b,c,d,e,f],_=>⟨a,b,c,d,e,f,rfl⟩
theorem le58 (l:List Int) (h6:l.length=6) (hb:∀ i,i<6→0≤gI l i∧gI l i≤3) (s m:Int) (hs:0≤s∧s<64):PC Tryz.prog 58 [.agg (l.map AV.i),.agg [.i s,.i m]] (.agg ((afL s l).map AV.i)):=by
 refine ⟨ZF (fok58 true) (QC rfl) ?_,Qbf 0 _⟩
 obtain ⟨a,ha⟩:∃ a:Nat,s=(a:Int):=⟨s.toNat,by omega⟩
 simp only[ic58,WI,cellsOf,evA,simprocAttr]
 refine ZW 6 (fun k st=>∃ v5 v7 v8,st=⟨[.agg (l.map AV.i),.agg [.i s,.i m],.ptr 0 0,.ptr 1 0,.ptr 2 0,v5,.i k,v7,v8],[.cells ((afK s l k).map AV.i),.cells [.i s,.i m],.cells [.i 0,.i 0,.i 0,.i 0,.i 0,.i 0]]⟩) ?_ 0 (QF _) ⟨_,_,_,rfl⟩
 rintro k st hk ⟨v5,v7,v8,rfl⟩
 have hl:=OR s l k
 by_cases h:k<6
 ·have hd:decide ((k:Int)<6)=true:=decide_eq_true (by omega)
  have hsh:=ishr a k (by omega)
  have hsmall:a >>> k<2 ^ 62:=WJ (by rw[JR];exact Nat.div_le_self _ _) (Nat.lt_trans (show a<64 by omega) (by decide))
  have hand:=iand1 hsmall
  have hbm:=QbC (i:=k) ha
  have hg:gI (afK s l k) k=gI l k:=by rw[QbJ s l k (by omega),if_neg (by omega)]
  have hstep:afK s l (k+1)=if bit s k then (afK s l k).set k (max 0 (gI l k-1)) else afK s l k:=rfl
  generalize afK s l k=W at *
  rw[hstep]
  have la:=V1 (zs:=W) (k:=k) (by omega)
  rw[show W[k]?.getD 0=gI l k from hg] at la
  have hlt:k+1≤W.length:=by omega
  have hbk:=hb k h
  have hw:IntKind.i64.wrap (gI l k-1)=gI l k-1:=ZC (by omega)
  rw[ha]
  cases hbt:bit s k with
  | true =>
   rw[hbt,if_pos rfl] at hbm
   rw[← ha,hbt,if_pos rfl]
   have hmx:(if gI l k-1>0 then gI l k-1 else 0)=max 0 (gI l k-1):=by
    by_cases e:gI l k-1>0
    ·rw[if_pos e];omega
    ·rw[if_neg e];omega
   rw[ha]
   simp only[ic58l0,hd,hsh,hand,hbm,ia_arr h,ZV,la,hw,hmx,ZK,hlt,GC,evA,simprocAttr]
   exact ZL (by first | trivial | omega) ⟨_,_,_,by rw[ZC (by omega)];rfl⟩
  | false =>
   rw[hbt,if_neg (by decide)] at hbm
   rw[← ha,hbt,if_neg (by decide),ha]
   simp only[ic58l0,hd,hsh,hand,hbm,evA,simprocAttr]
   exact ZL (by first | trivial | omega) ⟨_,_,_,by rw[ZC (by omega)];rfl⟩
 ·have hke:k=6:=by omega
  have he:afK s l k=afL s l:=by rw[hke,← h6];exact afK_end s l
  subst hke
  have hl2:(afL s l).length=6:=by rw[JQ,h6]
  rw[he]
  obtain ⟨x0,x1,x2,x3,x4,x5,hx⟩:=D8 hl2
  rw[hx]
  simp only[ic58l0,Q0,WS,evA,simprocAttr]
  exact frz
theorem le59 (a b:Int × Int):PC Tryz.prog 59 [.agg [.i a.1,.i a.2],.agg [.i b.1,.i b.2]] (.b (TF a b)):=by
 obtain ⟨a1,a2⟩:=a
 obtain ⟨b1,b2⟩:=b
 refine ⟨ZF (fok59 true) (QC rfl) ?_,rfl⟩
 simp only[ic59,WI,cellsOf,TF,evA,simprocAttr]
 cases h1:decide (a1>b1) with
 | true =>
  simp only[h1,US,evA,simprocAttr]
  exact frz
 | false =>
  cases h2:(a1 == b1) with
  | true =>
   simp only[h1,h2,Y3,XI,evA,simprocAttr]
   exact frz
  | false =>
   simp only[h1,h2,Y3,Bool.false_and,evA,simprocAttr]
   exact frz
end Go.Proofs.YtgkidpolomhghaaGreatDoor.AM

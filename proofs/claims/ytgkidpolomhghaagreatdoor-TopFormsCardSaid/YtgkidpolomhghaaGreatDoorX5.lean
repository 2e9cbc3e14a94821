/- Parts of the proof, joined: PlCh to LeG1. -/
import Derived.Test.YtgkidpolomhghaaGreatDoorX4
set_option linter.unusedVariables false
set_option linter.unusedSimpArgs false
set_option linter.unusedSectionVars false
namespace Go.Proofs.YtgkidpolomhghaaGreatDoor.Pl
section
variable (can:Nat→Nat→Bool) (n:Nat)
def J2 (m i:Nat) (B:Nat→Bool) (k:Nat):Bool:=can i k && !B k&&decide (1+prF can n m (i+1) (fun j=>B j||j == k)=prF can n (m+1) i B)
def XQ (p:Nat→Bool):Nat→Nat→Int
 | 0,_=>-1
 | m+1,k=>if p k=true then k else XQ p m (k+1)
def addB (B:Nat→Bool) (c:Int):Nat→Bool:=fun j=>B j||decide ((j:Int)=c)
def nxL:Nat→Nat→(Nat→Bool)→List Int
 | 0,_,_=>[]
 | m+1,i,B=>XQ (J2 can n m i B) n 0::nxL m (i+1) (addB B (XQ (J2 can n m i B) n 0))
theorem Qbu {p:Nat→Bool}:∀ (m k:Nat),(∀ j,k≤j→j<k+m→p j=false)→XQ p m k = -1
 | 0,_,_=>rfl
 | m+1,k,h=>by rw[XQ,if_neg (by rw[h k (QG _) (by omega)];decide)];exact Qbu m (k+1) fun j h1 h2=>h j (by omega) (by omega)
theorem Qbt {p:Nat→Bool}:∀ (m k x:Nat),k≤x→x<k+m→(∀ j,k≤j→j<x→p j=false)→p x=true→XQ p m k=x
 | 0,k,x,h1,h2,_,_=>by omega
 | m+1,k,x,h1,h2,h3,h4=>by
  by_cases e:k=x
  ·subst e;rw[XQ,if_pos h4]
  ·rw[XQ,if_neg (by rw[h3 k (QG _) (by omega)];decide)];exact Qbt m (k+1) x (by omega) (by omega) (fun j a b=>h3 j (by omega) b) h4
theorem NE {p:Nat→Bool}:∀ (m k:Nat),(XQ p m k = -1∧∀ j,k≤j→j<k+m→p j=false)∨∃ x,k≤x∧x<k+m∧p x=true∧XQ p m k=x∧∀ j,k≤j→j<x→p j=false
 | 0,k=>.inl ⟨rfl,fun j _ _=>by omega⟩
 | m + 1,k=>by
  rw[XQ];by_cases h:p k=true
  ·rw[if_pos h];exact .inr ⟨k,QG _,by omega,h,rfl,fun j _ _=>by omega⟩
  ·rw[if_neg h];have h':p k=false:=by simpa using h
   rcases NE (p:=p) m (k+1) with ⟨h1,h2⟩ | ⟨x,h1,h2,h3,h4,h5⟩
   ·exact .inl ⟨h1,fun j a b=>by
     by_cases e:j=k
     ·subst e;exact h'
     ·exact h2 j (by omega) (by omega)⟩
   ·exact .inr ⟨x,by omega,by omega,h3,h4,fun j a b=>by
     by_cases e:j=k
     ·subst e;exact h'
     ·exact h5 j (by omega) b⟩
variable {can n}
theorem nx_len:∀ (m i:Nat) (B:Nat→Bool),(nxL can n m i B).length=m
 | 0,_,_=>rfl
 | m+1,i,B=>by simp[nxL,nx_len m]
theorem V6:∀ (m i:Nat) (B B':Nat→Bool),(∀ k,k<n→B k=B' k)→prF can n m i B=prF can n m i B'
 | 0,_,_,_,_=>rfl
 | m+1,i,B,B',h=>by
  have key:∀ t,t≤n→HV t (fun k=>if can i k && !B k then 1+prF can n m (i+1) (fun j=>B j||j == k) else 0) (prF can n m (i+1) B)=HV t (fun k=>if can i k && !B' k then 1+prF can n m (i+1) (fun j=>B' j||j == k) else 0) (prF can n m (i+1) B'):=by
   intro t
   induction t with
   | zero=>intro _;simp only[HV];exact V6 m (i+1) B B' h
   | succ t ih =>
    intro ht;simp only[HV];rw[ih (by omega),h t (by omega),V6 m (i+1) (fun j=>B j||j == t) (fun j=>B' j||j == t) fun k hk=>by rw[h k hk]]
  simp only[prF];exact key n (QG _)
structure NxOk (can:Nat→Nat→Bool) (n i:Nat) (B:Nat→Bool) (l:List Int) (p:Nat):Prop where
 ok:∀ j,j<l.length→gI l j = -1∨∃ k:Nat,gI l j=(k:Int)∧k<n∧can (i+j) k=true∧B k=false
 inj:∀ j j',j<l.length→j'<l.length→gI l j=gI l j'→0≤gI l j→j=j'
 num:cnt l.length (fun j=>decide (0≤gI l j))=p
theorem QcD {x:Int} {l:List Int}:cnt (x::l).length (fun j=>decide (0≤gI (x::l) j))=cnt l.length (fun j=>decide (0≤gI l j))+if 0≤x then 1 else 0:=by
 have key:∀ m,cnt (m+1) (fun j=>decide (0≤gI (x::l) j))=cnt m (fun j=>decide (0≤gI l j))+if 0≤x then 1 else 0:=by
  intro m
  induction m with
  | zero=>simp[cnt,gI]
  | succ m ih =>
   rw[cnt,ih];simp only[cnt];have:gI (x::l) (m+1)=gI l m:=by simp[gI]
   rw[this];omega
 exact key l.length
theorem nx_ok:∀ (m i:Nat) (B:Nat→Bool),i+m=n→NxOk can n i B (nxL can n m i B) (prF can n m i B)
 | 0,i,B,_=>⟨fun j h=>by simp[nxL] at h,fun j _ h=>by simp[nxL] at h,by simp[nxL,prF,cnt]⟩
 | m + 1,i,B,hm=>by
  have ih:=fun B'=>nx_ok m (i+1) B' (by omega)
  have sh:∀ (x:Int) (l:List Int) j,gI (x::l) (j+1)=gI l j:=fun x l j=>by simp[gI]
  have s0:∀ (x:Int) (l:List Int),gI (x::l) 0=x:=fun x l=>by simp[gI]
  simp only[nxL];rcases NE (p:=J2 can n m i B) n 0 with ⟨h1,h2⟩ | ⟨x,h1,h2,h3,h4,_⟩
  ·rw [h1];have hB:∀ k,k<n→addB B (-1) k=B k:=fun k _=>by
    have:decide ((k:Int) = -1)=false:=decide_eq_false (by omega);simp only[addB,this,Bool.or_false]
   have e1:prF can n (m+1) i B=prF can n m (i+1) B:=by
    simp only[prF];rcases I1 (n:=n) (f:=fun k=>if can i k && !B k then 1+prF can n m (i+1) (fun j=>B j||j == k) else 0) (b:=prF can n m (i+1) B) with h | ⟨k,hk,h⟩
    ·exact h
    ·have h5:=h2 k (QF _) (by omega);simp only[J2,prF,h] at h5;by_cases hc:(can i k && !B k)=true
     ·rw[if_pos hc] at h5;simp[hc] at h5
     ·rw[if_neg hc] at h;have:prF can n m (i+1) B≤0:=by rw[← h];exact TL
      omega
   have ih:=ih (addB B (-1));rw[V6 m (i+1) _ _ hB,← e1] at ih;refine ⟨fun j hj=>?_,fun j j' hj hj' e h0=>?_,?_⟩
   ·cases j with
    | zero=>exact .inl (s0 _ _)
    | succ j =>
     rw[sh];rcases ih.ok j (by simpa using hj) with h | ⟨k,a,b,c,d⟩
     ·exact .inl h
     ·exact .inr ⟨k,a,b,by rw[show i+(j+1)=i+1+j by omega];exact c,by rw[← hB k b];exact d⟩
   ·cases j with
    | zero=>rw[s0] at h0;omega
    | succ j =>
     cases j' with
     | zero=>rw[s0] at e;rw[e] at h0;omega
     | succ j' =>
      rw[sh] at e h0;rw[sh] at e;have:=ih.inj j j' (by simpa using hj) (by simpa using hj') e h0;omega
   ·rw[QcD,ih.num];simp
  ·rw [h4];simp only[J2,QD,Z0,decide_eq_true_eq] at h3;obtain ⟨⟨c1,c2⟩,c3⟩:=h3;have ih:=ih (addB B x);have hB:∀ k,k<n→addB B (x:Int) k=(B k||k == x):=fun k _=>by
    have:decide ((k:Int)=(x:Int))=(k == x):=by rw[Q8];simp;omega
    simp only[addB,this]
   rw[V6 m (i+1) _ _ hB] at ih;have hno:∀ j,j<(nxL can n m (i+1) (addB B x)).length→gI (nxL can n m (i+1) (addB B x)) j≠x:=fun j hj e=>by
    rcases ih.ok j hj with h | ⟨k,a,b,c,d⟩
    ·omega
    ·have:k=x:=by omega
     subst this;rw[hB k b] at d;simp at d
   refine ⟨fun j hj=>?_,fun j j' hj hj' e h0=>?_,?_⟩
   ·cases j with
    | zero=>exact .inr ⟨x,s0 _ _,by omega,c1,c2⟩
    | succ j =>
     rw[sh];rcases ih.ok j (by simpa using hj) with h | ⟨k,a,b,c,d⟩
     ·exact .inl h
     ·refine .inr ⟨k,a,b,by rw[show i+(j+1)=i+1+j by omega];exact c,?_⟩;rw[hB k b] at d;simp only[X8] at d;exact d.1
   ·cases j with
    | zero =>
     cases j' with
     | zero=>rfl
     | succ j'=>rw[s0,sh] at e;exact absurd e.symm (hno j' (by simpa using hj'))
    | succ j =>
     cases j' with
     | zero=>rw[s0,sh] at e;exact absurd e (hno j (by simpa using hj))
     | succ j' =>
      rw[sh] at e h0;rw[sh] at e;have:=ih.inj j j' (by simpa using hj) (by simpa using hj') e h0;omega
   ·rw[QcD,ih.num,← c3,if_pos (VV x)];omega
end
section
variable (nx:List Int)
def chF:Nat→Nat→List Nat
 | 0,_=>[]
 | f+1,k=>k::if gI nx k<0 then [] else chF f (gI nx k).toNat
def V3 (i:Nat):Bool:=!nx.contains (i:Int)
def DD (n:Nat):List Nat:=(List.range n).filter (V3 nx)
def LQ (n:Nat):List (List Nat):=(DD nx n).map (chF nx (n+1))
structure NxW (can:Nat→Nat→Bool) (rk:Nat→Int) (n:Nat) (nx:List Int):Prop where
 len:nx.length=n
 ok:∀ j,j<n→gI nx j = -1∨∃ k:Nat,gI nx j=(k:Int)∧k<n∧can j k=true
 inj:∀ j j',j<n→j'<n→gI nx j=gI nx j'→0≤gI nx j→j=j'
 up:∀ i k,i<n→k<n→can i k=true→rk i<rk k
variable {nx} {can:Nat→Nat→Bool} {rk:Nat→Int} {n:Nat}
def muK (rk:Nat→Int) (n k:Nat):Nat:=cnt n fun j=>decide (rk k<rk j)
theorem Qd6 {i k:Nat} (hk:k<n) (h:rk i<rk k):muK rk n k<muK rk n i:=by
 have:=cnt_lt (n:=n) (P:=fun j=>decide (rk k<rk j)) (Q:=fun j=>decide (rk i<rk j)) (fun j _ hj=>by simp only[decide_eq_true_eq] at hj ⊢;omega) hk (by simp) (by simpa using h);unfold muK;omega
theorem mu_le {k:Nat}:muK rk n k≤n:=P7
end
section
variable (can:Nat→Nat→Bool) (n:Nat)
structure QeK (can:Nat→Nat→Bool) (n:Nat) (done last:List Nat) (g:Nat→Option Nat):Prop where
 mat:∀ l k,g l=some k→l∈done∧k∈done∧can l k=true
 inj:∀ l l' k,g l=some k→g l'=some k→l=l'
 nd:last.Nodup
 sub:∀ x∈last,x∈done∧g x=none
 num:cnt n (fun l=>(g l).isSome)+last.length=done.length
variable {can n}
end
section
variable (can:Nat→Nat→Bool) (n:Nat)
def L0 (S:Int) (k:Nat):Bool:=(List.range n).any fun i=>can i k && !bit S i
def cvrN (S:Int):Nat:=cnt n (bit S)+cnt n (L0 can n S)
def YS (p:Nat→Bool):List Int:=((List.range n).filter p).map fun (k:Nat)=>(k:Int)
def bstS (c:Nat→Nat):Nat→Nat
 | 0=>0
 | s+1=>if c (s+1)<c (bstS c s) then s+1 else bstS c s
def setW (C:Nat→Bool):Nat→Nat
 | 0=>0
 | k+1=>setW C k+if C k then 2 ^ k else 0
variable {can n}
theorem O5 {S:Int} {k:Nat}:L0 can n S k=true↔∃ i,i<n∧can i k=true∧bit S i=false:=by
 simp[L0,ZZ]
theorem QcG (p:Nat→Bool):(YS n p).length=cnt n p:=by
 unfold YS;rw[ZK]
 induction n with
 | zero=>rfl
 | succ m ih =>
  rw[WM,List.filter_append,QM,ih,cnt];by_cases hm:p m=true
  ·simp[hm]
  ·simp[hm]
theorem ET (p:Nat→Bool) (m:Nat):YS (m+1) p=YS m p++if p m=true then [(m:Int)] else []:=by
 unfold YS;rw[WM,List.filter_append,ZS];by_cases hm:p m=true
 ·simp[hm]
 ·simp[hm]
theorem bits_mem {p:Nat→Bool} {z:Int}:z∈YS n p↔∃ k:Nat,z=(k:Int)∧k<n∧p k=true:=by
 unfold YS;simp only[ZP,YB,ZI];constructor
 ·rintro ⟨k,⟨a,b⟩,rfl⟩;exact ⟨k,rfl,a,b⟩
 ·rintro ⟨k,rfl,a,b⟩;exact ⟨k,⟨a,b⟩,rfl⟩
theorem QdE {p q:Nat→Bool} (h:∀ k,k<n→p k=q k):YS n p=YS n q:=by
 unfold YS;congr 1;exact JD fun k hk=>h k (ZI.1 hk)
theorem Qa1 {C:Nat→Bool}:∀ m,setW C m<2 ^ m
 | 0=>by simp[setW]
 | m+1=>by have:=Qa1 (C:=C) m;rw[setW,Nat.pow_succ];split <;> omega
theorem Qb2 {C:Nat→Bool} {k:Nat}:∀ m,k<m→(setW C m).testBit k=C k
 | 0,h=>by omega
 | m+1,h=>by
  rw[setW];by_cases e:k=m
  ·subst e;have:=Qa1 (C:=C) k;by_cases hc:C k=true
   ·rw[if_pos hc,hc,Nat.add_comm,Nat.testBit_two_pow_add_eq,UQ this];rfl
   ·rw[if_neg hc,Nat.add_zero,UQ this];simpa using hc
  ·have ih:=Qb2 (C:=C) (k:=k) m (by omega);by_cases hc:C m=true
   ·rw[if_pos hc,Nat.add_comm,Nat.testBit_two_pow_add_gt (by omega)];exact ih
   ·rw[if_neg hc,Nat.add_zero];exact ih
theorem cov_ge (S:Int):prF can n n 0 (fun _=>false)≤cvrN can n S:=by
 obtain ⟨g,hg,hs⟩:=TE (can:=can) (n:=n) n 0 (fun _=>false) (by omega);rw[← hs];exact AF hg fun l k _ hl hk hc _=>by
  cases hb:bit S l with
  | true=>exact .inl rfl
  | false=>exact .inr (O5.2 ⟨l,hl,hc,hb⟩)
theorem ku_nil:C9 can (List.replicate n (-1)) n 0 0 0 (List.replicate n (-1),0):=by
 have hg:∀ k,gI (List.replicate n (-1)) k=if k<n then -1 else 0:=fun k=>by unfold gI;rw[YN];split <;> rfl
 refine ⟨by simp,fun k hk _=>.inl (by rw[hg,if_pos hk];decide),fun l _=>?_,?_,fun _=>false,fun _=>false,fun l k h=>(by cases h),fun k _ h=>(by cases h),fun l _ h=>absurd h (W5 _)⟩
 ·rw[KN fun k hk=>by
   have:(gI (List.replicate n (-1)) k == (l:Int))=false:=by rw[hg,if_pos hk];exact beq_eq_false_iff_ne.2 (by omega)
   rw[this,UA]]
  exact QF _
 ·rw[KN fun k hk=>by
   have:decide (0≤gI (List.replicate n (-1)) k)=false:=by rw[hg,if_pos hk];decide
   rw[this,UA]]
theorem cov_ex:∃ S:Nat,S<2 ^ n∧cvrN can n (S:Int)=prF can n n 0 (fun _=>false):=by
 have hg:∀ k,k<n→gI (List.replicate n (-1)) k<0:=fun k hk=>by unfold gI;rw[YN,if_pos hk];decide
 have h:=O8 (can:=can) n 0 _ (QG _) (ku_nil (can:=can) (n:=n));rw[ZV] at h;obtain ⟨_,C,D,h1,h2⟩:=Qde (QF _) h;rw[Nat.sub_zero,V6 n 0 _ (fun _=>false) fun k hk=>by rw[decide_eq_true (hg k hk)];rfl] at h2;refine ⟨setW C n,Qa1 n,Nat.le_antisymm ?_ (cov_ge _)⟩;rw[← h2];have hb:∀ i,i<n→bit (setW C n:Nat) i=C i:=fun i hi=>by unfold bit;rw[Int.toNat_natCast];exact Qb2 n hi
 refine Nat.add_le_add (Nat.le_of_eq (K1 hb)) (cnt_mono fun k hk hn=>?_);obtain ⟨i,hi,hc,hbi⟩:=O5.1 hn;rcases h1 i k (QF _) hi hk hc (hg k hk) with h3 | h3
 ·rw[hb i hi,h3] at hbi;cases hbi
 ·exact h3
end
theorem QaI {c:Nat→Nat}:∀ s,bstS c s≤s∧(∀ j,j<bstS c s→c (bstS c s)<c j)∧∀ j,j≤s→c (bstS c s)≤c j
 | 0=>⟨QG _,fun j h=>absurd h (W5 _),fun j h=>by
  have:j=0:=by omega
  subst this;exact QG _⟩
 | s+1=>by
  obtain ⟨h1,h2,h3⟩:=QaI (c:=c) s;rw[bstS];split
  ·rename_i h;refine ⟨QG _,fun j hj=>?_,fun j hj=>?_⟩
   ·have:=h3 j (by omega);omega
   ·by_cases e:j=s+1
    ·subst e;exact QG _
    ·have:=h3 j (by omega);omega
  ·rename_i h;refine ⟨by omega,h2,fun j hj=>?_⟩;by_cases e:j=s+1
   ·subst e;omega
   ·exact h3 j (by omega)
def G7 (can:Nat→Nat→Bool) (n:Nat):Nat:=bstS (fun s=>cvrN can n (s:Nat)) (2 ^ n-1)
theorem QbG {can:Nat→Nat→Bool} {n:Nat}:G7 can n<2 ^ n∧cvrN can n (G7 can n:Nat)=prF can n n 0 (fun _=>false)∧∀ j,j<G7 can n→cvrN can n (j:Nat)≠prF can n n 0 (fun _=>false):=by
 obtain ⟨h1,h2,h3⟩:=QaI (c:=fun s=>cvrN can n (s:Nat)) (2 ^ n-1);have hp:0<2 ^ n:=Nat.two_pow_pos n;obtain ⟨S,hS,he⟩:=cov_ex (can:=can) (n:=n);have h4:=h3 S (by omega);have h5:=cov_ge (can:=can) (n:=n) (G7 can n:Nat);have e:cvrN can n (G7 can n:Nat)=prF can n n 0 (fun _=>false):=by refine Nat.le_antisymm ?_ h5;rw[← he];exact h4
 refine ⟨?_,e,fun j hj=>?_⟩
 ·have:G7 can n≤2 ^ n-1:=h1;omega
 ·have:=h2 j hj;have h6:cvrN can n (G7 can n:Nat)<cvrN can n (j:Nat):=this;omega
end Go.Proofs.YtgkidpolomhghaaGreatDoor.Pl
namespace Go.Proofs.YtgkidpolomhghaaGreatDoor.AM
variable [Dr]
open Go Pl
structure Les where
 le:Int
 te:Int
 ca:Int
 b:Int
 e:Int
 f:Int
 o:Int
deriving Inhabited
abbrev lesC (l:Les):List CV:=[.int .i64 l.le,.int .i64 l.te,.int .i64 l.ca,.int .i64 l.b,.int .i64 l.e,.int .i64 l.f,.int .i64 l.o]
abbrev lesA (l:Les):AV:=.agg [.i l.le,.i l.te,.i l.ca,.i l.b,.i l.e,.i l.f,.i l.o]
structure Dy where
 mi:List (List Int)
 ls:List Les
deriving Inhabited
abbrev rowC (zs:List Int):CV:=.rsl (zs.map (.int .i64)) zs.length
abbrev minR (m:List (List Int)):CV:=.rsl (m.map rowC) m.length
def F0 (l:List Les):List CV:=l.flatMap lesC
abbrev lesR (l:List Les):CV:=.rsl (F0 l) l.length
abbrev dyV (d:Dy):AV:=.agg [.cv (minR d.mi),.cv (lesR d.ls)]
theorem HJ (l:Les):(lesC l).length=7:=rfl
theorem Qel (l:List Les):(F0 l).length=l.length*7:=UG HJ l
section
variable {l:List Les} {k:Nat}
theorem les_3 (h:k<l.length):(F0 l)[k*7+3]? = some (.int .i64 (l[k]!).b):=flat_get HJ h (j:=3) (by omega)
theorem Qcl (h:k<l.length) (σ:List AObj):YF 7 [.cv (.rp (F0 l) (k*7))] σ=some (lesA l[k]!,σ):=by
 have h1:k*7+7≤(F0 l).length:=by rw[Qel];omega
 have h2:=G3 HJ h;simp only[YF,h1,if_true];unfold F0;rw[h2];rfl
theorem F5 (h:k<l.length) (σ:List AObj):VP 7 [.cv (lesR l),.cv (.int .i64 k)] σ=some (.cv (.rp (F0 l) (k*7)),σ):=XP h σ
end
theorem B7 {m:List (List Int)} {k:Nat} (h:k<m.length):(m.map rowC)[k]? = some (rowC m[k]!):=by simp[h]
def fndE (g:Nat→Int):Nat→Nat→Int × Int
 | _,0=>(0,0)
 | i,k+1=>if g i=0 then fndE g (i+1) k else (i,g i)
theorem J7 {g:Nat→Int}:∀ (k i:Nat),(∀ j,i≤j→j<i+k→g j=0)→fndE g i k=(0,0)
 | 0,_,_=>rfl
 | k+1,i,h=>by rw[fndE,if_pos (h i (QG _) (by omega))];exact J7 k (i+1) fun j h1 h2=>h j (by omega) (by omega)
theorem VO {g:Nat→Int}:∀ (k i m:Nat),i≤m→m<i+k→(∀ j,i≤j→j<m→g j=0)→g m≠0→fndE g i k=((m:Int),g m)
 | 0,i,m,h1,h2,_,_=>by omega
 | k+1,i,m,h1,h2,h3,h4=>by
  rcases ZB i m with h | h
  ·rw[fndE,if_pos (h3 i (QG _) h)];exact VO k (i+1) m h (by omega) (fun j a b=>h3 j (by omega) b) h4
  ·have:i=m:=by omega
   subst this;rw[fndE,if_neg h4]
theorem LJ {g:Nat→Int}:∀ (k i:Nat),(fndE g i k).2=0→∀ j,i≤j→j<i+k→g j=0
 | 0,_,_,j,h1,h2=>by omega
 | k+1,i,h,j,h1,h2=>by
  rw[fndE] at h;by_cases h0:g i=0
  ·rw[if_pos h0] at h;rcases Nat.eq_or_lt_of_le h1 with rfl | h3
   ·exact h0
   ·exact LJ k (i+1) h j h3 (by omega)
  ·rw[if_neg h0] at h;exact absurd h h0
def rowE (d:Dy) (i:Nat):Int :=
 if (d.mi[i]!).length≠d.mi.length then 3 else if outF 0 120 d.mi[i]! = true then 7 else if gI d.mi[i]! i≠0 then 2 else 0
def lesE (d:Dy) (l:Les):Int :=
 if (outF 0 1440 [l.b,l.e]||outF 0 7 [l.le,l.te,l.ca])=true then 7 else if l.b≥l.e then 2 else if outF 0 ((d.mi.length:Int)-1) [l.f,l.o]=true then 4 else 0
def dyE (d:Dy):Int × Int × Int :=
 if (outF 1 16 [(d.mi.length:Int)]||decide ((d.ls.length:Int)>12))=true then (1,0,3)
 else if (fndE (rowE d) 0 d.mi.length).2≠0 then (2,fndE (rowE d) 0 d.mi.length)
 else if (fndE (fun i=>lesE d d.ls[i]!) 0 d.ls.length).2≠0 then (3,fndE (fun i=>lesE d d.ls[i]!) 0 d.ls.length)
 else (0,0,0)
structure LesOk (n:Nat) (l:Les):Prop where
 b0:0≤l.b
 be:l.b<l.e
 e1:l.e≤1440
 le:0≤l.le∧l.le≤7
 te:0≤l.te∧l.te≤7
 ca:0≤l.ca∧l.ca≤7
 f:0≤l.f∧l.f<n
 o:0≤l.o∧l.o<n
structure DyOk (d:Dy):Prop where
 n1:1≤d.mi.length
 n2:d.mi.length≤16
 l12:d.ls.length≤12
 row:∀ i,i<d.mi.length→(d.mi[i]!).length=d.mi.length
 rng:∀ i k,i<d.mi.length→k<d.mi.length→0≤gI d.mi[i]! k∧gI d.mi[i]! k≤120
 diag:∀ i,i<d.mi.length→gI d.mi[i]! i=0
 les:∀ i,i<d.ls.length→LesOk d.mi.length d.ls[i]!
theorem VL {lo hi:Int} {zs:List Int}:outF lo hi zs=false↔∀ z∈zs,lo≤z∧z≤hi:=by
 unfold outF;rw[W6];constructor
 ·intro h z hz;have:=h z hz;simp at this;omega
 ·intro h z hz;have:=h z hz;simp;omega
theorem LO {d:Dy} (h:(dyE d).2.2=0):DyOk d:=by
 unfold dyE at h;split at h
 ·exact absurd h (by decide)
 rename_i h1;split at h
 ·rename_i h2;exact absurd h h2
 rename_i h2;split at h
 ·rename_i h3;exact absurd h h3
 rename_i h3;have h1:outF 1 16 [(d.mi.length:Int)]=false∧decide ((d.ls.length:Int)>12)=false:=by simpa using h1
 have hn:=VL.1 h1.1 d.mi.length (by simp);have hl:=of_decide_eq_false h1.2;have hr:=LJ d.mi.length 0 (JE.1 h2);have hs:=LJ d.ls.length 0 (JE.1 h3);have hrow:∀ i,i<d.mi.length→(d.mi[i]!).length=d.mi.length∧outF 0 120 d.mi[i]! = false∧gI d.mi[i]! i=0:=fun i hi=>by
  have:=hr i (QF _) (by omega);unfold rowE at this;split at this
  ·exact absurd this (by decide)
  rename_i a1;split at this
  ·exact absurd this (by decide)
  rename_i a2;split at this
  ·exact absurd this (by decide)
  rename_i a3;exact ⟨by simpa using a1,by simpa using a2,by simpa using a3⟩
 refine ⟨by omega,by omega,by omega,fun i hi=>(hrow i hi).1,fun i k hi hk=>?_,fun i hi=>(hrow i hi).2.2,fun i hi=>?_⟩
 ·obtain ⟨r1,r2,_⟩:=hrow i hi;have hk':k<(d.mi[i]!).length:=by omega
  refine VL.1 r2 _ ?_;unfold gI;rw[QI hk'];exact Q2 hk'
 ·have this:lesE d d.ls[i]! = 0:=hs i (QF _) (by omega);revert this;generalize d.ls[i]! = l;intro this;unfold lesE at this;split at this
  ·exact absurd this (by decide)
  rename_i a1;split at this
  ·exact absurd this (by decide)
  rename_i a2;split at this
  ·exact absurd this (by decide)
  rename_i a3;have a1:outF 0 1440 [l.b,l.e]=false∧outF 0 7 [l.le,l.te,l.ca]=false:=by simpa using a1
  have b1:=VL.1 a1.1;have b2:=VL.1 a1.2;have b3:=VL.1 (show outF 0 ((d.mi.length:Int)-1) [l.f,l.o]=false by simpa using a3);have c1:=b1 l.b (by simp);have c2:=b1 l.e (by simp);have c3:=b2 l.le (by simp);have c4:=b2 l.te (by simp);have c5:=b2 l.ca (by simp);have c6:=b3 l.f (by simp);have c7:=b3 l.o (by simp);exact ⟨by omega,by omega,by omega,by omega,by omega,by omega,by omega,by omega⟩
def canB (d:Dy) (i k:Nat):Bool:=decide ((d.ls[i]!).e+gI d.mi[(d.ls[i]!).o.toNat]! (d.ls[k]!).f.toNat≤(d.ls[k]!).b)
def behL (d:Dy) (i:Nat):List Int:=YS d.ls.length (canB d i)
theorem canB_lt {d:Dy} (h:DyOk d) {i k:Nat} (hi:i<d.ls.length) (hk:k<d.ls.length) (hc:canB d i k=true):(d.ls[i]!).b<(d.ls[k]!).b:=by
 have h1:=h.les i hi;have h2:=h.les k hk;have h3:=of_decide_eq_true hc;have:=(h.rng (d.ls[i]!).o.toNat (d.ls[k]!).f.toNat (by have:=h1.o;omega) (by have:=h2.f;omega)).1;have:=h1.be;omega
structure DSz (d:Dy):Prop where
 mi:d.mi.length<2 ^ 63
 ls:d.ls.length<2 ^ 63
 row:∀ i,i<d.mi.length→(d.mi[i]!).length<2 ^ 63
end Go.Proofs.YtgkidpolomhghaaGreatDoor.AM
namespace Go.Proofs.YtgkidpolomhghaaGreatDoor.Pl
abbrev Pat:=Int × Int
def afL (s:Int) (l:List Int):List Int:=(List.range l.length).map fun i=>if bit s i then max 0 (gI l i-1) else gI l i
def sumN (l:List Int):Nat:=(l.map Int.toNat).sum
def J9 (l:List Int):Bool:=l.all (· == 0)
theorem JQ (s:Int) (l:List Int):(afL s l).length=l.length:=by simp[afL]
theorem G8 {s:Int} {l:List Int} {i:Nat} (h:i<l.length):gI (afL s l) i=if bit s i then max 0 (gI l i-1) else gI l i:=by simp[afL,gI,h]
theorem B9 {a b:List Int} (hl:a.length=b.length) (h:∀ i,i<a.length→gI a i=gI b i):a=b:=by
 apply Y1 hl;intro i h1 h2;have:=h i h1;simpa[gI,h1,h2] using this
theorem OW {l:List Int}:J9 l=true↔∀ i,i<l.length→gI l i=0:=by
 unfold J9;rw[Q1];constructor
 ·intro h i hi;have:=h l[i] (Q2 hi);simpa[gI,hi] using this
 ·intro h x hx;obtain ⟨i,hi,rfl⟩:=List.getElem_of_mem hx;have:=h i hi;simpa[gI,hi] using this
theorem QdR:∀ {a b:List Int},a.length=b.length→(∀ i,i<a.length→gI a i≤gI b i)→sumN a≤sumN b∧((∃ i,i<a.length∧(gI a i).toNat<(gI b i).toNat)→sumN a<sumN b)
 | [],[],_,_=>⟨QG _,fun ⟨i,h,_⟩=>by simp at h⟩
 | x::a,y::b,hl,h=>by
  have ih:=QdR (a:=a) (b:=b) (by simpa using hl) fun i hi=>by simpa[gI] using h (i+1) (by simpa using hi)
  have h0:x≤y:=by simpa[gI] using h 0 (by simp)
  have e1:sumN (x::a)=x.toNat+sumN a:=by simp[sumN]
  have e2:sumN (y::b)=y.toNat+sumN b:=by simp[sumN]
  have h0':x.toNat≤y.toNat:=by omega
  rw[e1,e2];refine ⟨by omega,fun ⟨i,hi,hlt⟩=>?_⟩;cases i with
  | zero=>simp[gI] at hlt;omega
  | succ i =>
   have:=ih.2 ⟨i,by simpa using hi,by simpa[gI] using hlt⟩;omega
 | [],_::_,hl,_=>by simp at hl
 | _::_,[],hl,_=>by simp at hl
theorem CC:∀ {l:List Nat} {x:Nat},x∈l→x≤l.sum
 | a::l,x,h=>by
  rw[List.sum_cons];rcases ZD.1 h with rfl | h
  ·omega
  ·have:=CC h;omega
def NN (l:List Int):Prop:=∀ i,i<l.length→0≤gI l i
theorem NN.af {l:List Int} (h:NN l) (s:Int):NN (afL s l):=fun i hi=>by
 rw[JQ] at hi;rw[G8 hi];have:=h i hi;split <;> omega
theorem R3 {s:Int} {l:List Int} (h:NN l) (hne:afL s l≠l):sumN (afL s l)<sumN l:=by
 have hle:∀ i,i<(afL s l).length→gI (afL s l) i≤gI l i:=fun i hi=>by rw[JQ] at hi;rw[G8 hi];have:=h i hi;split <;> omega
 refine (QdR (JQ s l) hle).2 ?_;apply Classical.byContradiction;intro hno;apply hne;refine B9 (JQ s l) fun i hi=>?_
 have h1:=hle i hi;rw[JQ] at hi;have h2:=h i hi;have h3:=(h.af s) i (by rw[JQ];exact hi);have:¬ (gI (afL s l) i).toNat<(gI l i).toNat:=fun hlt=>hno ⟨i,by rw[JQ];exact hi,hlt⟩
 omega
abbrev Cost:=Option (Int × Int)
def Qbe:Cost→Int × Int→Bool
 | none,_=>true
 | some a,b=>decide (a.1>b.1)||(a.1 == b.1&&decide (a.2>b.2))
def TZ (a:Cost) (m:Int):Cost→Cost
 | none=>a
 | some c=>if Qbe a (c.1+1,c.2+m)=true then some (c.1+1,c.2+m) else a
section
variable (ps:List Pat)
def fewO:Nat→Nat→List Int→Cost
 | 0,_,_=>none
 | f+1,k,l =>
  if J9 l=true then some (0,0)
  else if ps.length≤k then none
  else if afL (ps[k]!).1 l=l then fewO f (k+1) l
  else TZ (fewO f (k+1) l) (ps[k]!).2 (fewO f k (afL (ps[k]!).1 l))
def fewV (k:Nat) (l:List Int):Cost:=fewO ps (ps.length-k+sumN l+1) k l
variable {ps}
theorem LL:∀ (f f' k:Nat) (l:List Int),NN l→ps.length-k+sumN l<f→ps.length-k+sumN l<f'→fewO ps f k l=fewO ps f' k l
 | 0,_,_,_,_,h,_=>by omega
 | _+1,0,_,_,_,_,h=>by omega
 | f+1,f'+1,k,l,hn,h1,h2=>by
  simp only[fewO];by_cases hz:J9 l=true
  ·rw[if_pos hz,if_pos hz]
  rw[if_neg hz,if_neg hz];by_cases hk:ps.length≤k
  ·rw[if_pos hk,if_pos hk]
  rw[if_neg hk,if_neg hk,LL f f' (k+1) l hn (by omega) (by omega)];by_cases ha:afL (ps[k]!).1 l=l
  ·rw[if_pos ha,if_pos ha]
  ·have:=R3 hn ha;rw[if_neg ha,if_neg ha,LL f f' k _ (hn.af _) (by omega) (by omega)]
theorem MZ {k:Nat} {l:List Int} (hn:NN l):fewV ps k l=if J9 l=true then some (0,0) else if ps.length≤k then none else if afL (ps[k]!).1 l=l then fewV ps (k+1) l else TZ (fewV ps (k+1) l) (ps[k]!).2 (fewV ps k (afL (ps[k]!).1 l)):=by
 rw[fewV,fewO];by_cases hz:J9 l=true
 ·rw[if_pos hz,if_pos hz]
 rw[if_neg hz,if_neg hz];by_cases hk:ps.length≤k
 ·rw[if_pos hk,if_pos hk]
 rw[if_neg hk,if_neg hk];rw[show fewO ps (ps.length-k+sumN l) (k+1) l=fewV ps (k+1) l from LL _ _ _ _ hn (by omega) (by omega)];by_cases ha:afL (ps[k]!).1 l=l
 ·rw[if_pos ha,if_pos ha]
 ·have:=R3 hn ha;rw[if_neg ha,if_neg ha,show fewO ps (ps.length-k+sumN l) k (afL (ps[k]!).1 l)=fewV ps k (afL (ps[k]!).1 l) from LL _ _ _ _ (hn.af _) (by omega) (by omega)]
theorem LK {k:Nat} {l:List Int} (hn:NN l) (h:J9 l=true):fewV ps k l=some (0,0):=by rw[MZ hn,if_pos h]
theorem CL {k:Nat} {l:List Int} (hn:NN l) (h:J9 l=false) (hk:ps.length≤k):fewV ps k l=none:=by rw[MZ hn,if_neg (by rw[h];decide),if_pos hk]
theorem FB {k:Nat} {l:List Int} (hn:NN l) (h:J9 l=false) (hk:k<ps.length) (ha:afL (ps[k]!).1 l=l):fewV ps k l=fewV ps (k+1) l:=by
 rw[MZ hn,if_neg (by rw[h];decide),if_neg (by omega),if_pos ha]
theorem FC {k:Nat} {l:List Int} (hn:NN l) (h:J9 l=false) (hk:k<ps.length) (ha:afL (ps[k]!).1 l≠l):fewV ps k l=TZ (fewV ps (k+1) l) (ps[k]!).2 (fewV ps k (afL (ps[k]!).1 l)):=by
 rw[MZ hn,if_neg (by rw[h];decide),if_neg (by omega),if_neg ha]
def EC (ps:List Pat) (k:Nat) (l:List Int):Bool :=
 !decide (afL (ps[k]!).1 l=l)&&match fewV ps k (afL (ps[k]!).1 l) with
  | none=>false
  | some c=>decide (fewV ps k l=some (c.1+1,c.2+(ps[k]!).2))
def grL (ps:List Pat):Nat→Nat→List Int→List Nat
 | 0,_,_=>[]
 | f+1,k,l=>if J9 l=true then [] else if EC ps k l=true then k::grL ps f k (afL (ps[k]!).1 l) else grL ps f (k+1) l
def YJ (ps:List Pat) (cs:List Nat) (i:Nat):Nat:=cs.countP fun k=>bit (ps[k]!).1 i
def XX (ps:List Pat) (cs:List Nat):Int:=(cs.map fun k=>(ps[k]!).2).sum
def OS (ps:List Pat) (l:List Int) (cs:List Nat):Prop:=∀ i,i<l.length→gI l i≤YJ ps cs i
theorem C0 (a:Cost) (m:Int) (c:Cost):TZ a m c=a∨∃ x,c=some x∧TZ a m c=some (x.1+1,x.2+m):=by
 cases c with
 | none=>exact .inl rfl
 | some x =>
  simp only[TZ];split
  ·exact .inr ⟨x,rfl,rfl⟩
  ·exact .inl rfl
theorem EM (hm:∀ k,k<ps.length→0≤(ps[k]!).2):∀ (f k:Nat) (l:List Int) (a b:Int),NN l→ps.length-k+sumN l<f→fewV ps k l=some (a,b) →
  ((grL ps f k l).length:Int)=a∧XX ps (grL ps f k l)=b∧OS ps l (grL ps f k l)∧(grL ps f k l).Pairwise (·≤·)∧∀ x∈grL ps f k l,k≤x∧x<ps.length
 | 0,_,_,_,_,_,h,_=>by omega
 | f + 1,k,l,a,b,hn,hf,h=>by
  simp only[grL];by_cases hz:J9 l=true
  ·rw[LK hn hz] at h;cases h;rw[if_pos hz];exact ⟨rfl,rfl,fun i hi=>by rw[OW.1 hz i hi];exact VV _,.nil,fun x hx=>(by cases hx)⟩
  ·have hz':J9 l=false:=by simpa using hz
   rw[if_neg hz];have hk:k<ps.length:=by
    rcases ZB k ps.length with hk | hk
    ·exact hk
    ·rw[CL hn hz' hk] at h;cases h
   by_cases ht:EC ps k l=true
   ·rw[if_pos ht];simp only[EC,QD,Z0,decide_eq_false_iff_not] at ht;obtain ⟨ha,ht⟩:=ht;have hs:=R3 hn ha;split at ht
    ·cases ht
    ·rename_i c hc;have ht:=of_decide_eq_true ht;rw[h] at ht;cases ht;obtain ⟨g1,g2,g3,g4,g5⟩:=EM hm f k _ c.1 c.2 (hn.af _) (by omega) hc;refine ⟨by simp only[List.length_cons];push_cast;omega,?_,fun i hi=>?_,?_,fun x hx=>?_⟩
     ·simp only[XX,Q0,List.sum_cons] at g2 ⊢;omega
     ·have:=g3 i (by rw[JQ];exact hi);rw[G8 hi] at this;simp only[YJ,K9] at this ⊢;by_cases hb:bit (ps[k]!).1 i=true
      ·rw[if_pos hb] at this ⊢;push_cast;omega
      ·rw[if_neg hb] at this ⊢;push_cast;omega
     ·exact List.pairwise_cons.2 ⟨fun x hx=>(g5 x hx).1,g4⟩
     ·rcases ZD.1 hx with rfl | hx
      ·exact ⟨QG _,hk⟩
      ·exact g5 x hx
   ·rw [if_neg ht];have hnext:fewV ps (k+1) l=some (a,b):=by
     by_cases ha:afL (ps[k]!).1 l=l
     ·rw[← FB hn hz' hk ha];exact h
     ·have h2:=FC hn hz' hk ha;rcases C0 (fewV ps (k+1) l) (ps[k]!).2 (fewV ps k (afL (ps[k]!).1 l)) with h3 | ⟨x,hx,h3⟩
      ·rw[h3] at h2;rw[← h2];exact h
      ·exfalso;apply ht;simp only[EC,hx,QD,Z0,decide_eq_false_iff_not,decide_eq_true_eq];exact ⟨ha,by rw[h2,h3]⟩
    obtain ⟨g1,g2,g3,g4,g5⟩:=EM hm f (k+1) l a b hn (by omega) hnext;exact ⟨g1,g2,g3,g4,fun x hx=>⟨by have:=(g5 x hx).1;omega,(g5 x hx).2⟩⟩
def QdM (c:Cost) (n:Nat) (m:Int):Prop:=∃ a b,c=some (a,b)∧(a<n∨a=n∧b≤m)
theorem N0 {a:Cost} {m:Int} {c:Cost} {n:Nat} {y:Int} (h:QdM a n y∨∃ x,c=some x∧(x.1+1<n∨x.1+1=n∧x.2+m≤y)):QdM (TZ a m c) n y:=by
 cases c with
 | none =>
  rcases h with h | ⟨x,hx,_⟩
  ·exact h
  ·cases hx
 | some x =>
  simp only[TZ];cases a with
  | none =>
   rw[if_pos (show Qbe none (x.1+1,x.2+m)=true from rfl)];rcases h with ⟨_,_,h,_⟩ | ⟨x',hx,h⟩
   ·cases h
   ·cases hx;exact ⟨_,_,rfl,h⟩
  | some a =>
   by_cases ho:Qbe (some a) (x.1+1,x.2+m)=true
   ·rw[if_pos ho];refine ⟨_,_,rfl,?_⟩;simp only[Qbe,WR,QD,decide_eq_true_eq,beq_iff_eq] at ho;rcases h with ⟨p,q,h1,h2⟩ | ⟨x',hx,h⟩
    ·cases h1;omega
    ·cases hx;exact h
   ·rw[if_neg ho];refine ⟨a.1,a.2,rfl,?_⟩;simp only[Qbe,WR,QD,decide_eq_true_eq,beq_iff_eq,not_or,not_and] at ho;rcases h with ⟨p,q,h1,h2⟩ | ⟨x',hx,h⟩
    ·cases h1;exact h2
    ·cases hx;obtain ⟨h1,h2⟩:=ho;by_cases e:a.1=x.1+1
     ·have:=h2 e;omega
     ·omega
theorem I0 (k:Nat):∀ cs:List Nat,k∈cs→XX ps (cs.erase k)+(ps[k]!).2=XX ps cs
 | c::cs,h=>by
  by_cases e:c=k
  ·subst e;simp only[List.erase_cons_head,XX,Q0,List.sum_cons];omega
  ·have hk:k∈cs:=by
    rcases ZD.1 h with h | h
    ·exact absurd h.symm e
    ·exact h
   have ih:=I0 k cs hk;rw[List.erase_cons_tail (by simpa using e)];simp only[XX,Q0,List.sum_cons] at ih ⊢;omega
theorem NS (k i:Nat):∀ cs:List Nat,k∈cs→YJ ps (cs.erase k) i+(if bit (ps[k]!).1 i=true then 1 else 0)=YJ ps cs i
 | c::cs,h=>by
  by_cases e:c=k
  ·subst e;simp only[List.erase_cons_head,YJ,K9]
  ·have hk:k∈cs:=by
    rcases ZD.1 h with h | h
    ·exact absurd h.symm e
    ·exact h
   have ih:=NS k i cs hk;rw[List.erase_cons_tail (by simpa using e)];simp only[YJ,K9] at ih ⊢;omega
theorem IJ {k i:Nat} (hb:bit (ps[k]!).1 i=false):∀ cs:List Nat,YJ ps (cs.filter (· != k)) i=YJ ps cs i
 | []=>rfl
 | c::cs=>by
  have ih:=IJ hb cs;simp only[XK];by_cases e:c=k
  ·subst e;simp only[bne_self_eq_false,QT,if_false,YJ,K9,hb] at ih ⊢;exact ih
  ·have:(c != k)=true:=by simpa using e
   simp only[this,if_true,YJ,K9] at ih ⊢;omega
theorem EP (hm:∀ k,k<ps.length→0≤(ps[k]!).2):∀ (f k:Nat) (l:List Int) (cs:List Nat),NN l→ps.length-k+sumN l<f→(∀ x∈cs,k≤x∧x<ps.length)→OS ps l cs→QdM (fewV ps k l) cs.length (XX ps cs)
 | 0,_,_,_,_,h,_,_=>by omega
 | f + 1,k,l,cs,hn,hf,hx,he=>by
  by_cases hz:J9 l=true
  ·rw[LK hn hz];refine ⟨0,0,rfl,?_⟩;cases cs with
   | nil=>exact .inr ⟨rfl,Int.le_refl _⟩
   | cons c cs=>left;simp only[List.length_cons];omega
  have hz':J9 l=false:=by simpa using hz
  have hk:k<ps.length:=by
   rcases ZB k ps.length with hk | hk
   ·exact hk
   ·exfalso;apply hz;rw[OW];intro i hi;have:cs=[]:=by
     cases cs with
     | nil=>rfl
     | cons c cs=>have:=hx c (List.mem_cons_self ..);omega
    subst this;have h1:=he i hi;have h2:=hn i hi;simp[YJ] at h1;omega
  by_cases hin:k∈cs
  ·by_cases ha:afL (ps[k]!).1 l=l
   ·rw[FB hn hz' hk ha];have ih:=EP hm f (k+1) l (cs.filter (· != k)) hn (by omega) (fun x h=>by
     have h1:=YB.1 h;have h2:=hx x h1.1;have h3:x≠k:=by simpa using h1.2
     omega) (fun i hi=>by
     by_cases hb:bit (ps[k]!).1 i=true
     ·have h1:=G8 (s:=(ps[k]!).1) hi;rw[ha,if_pos hb] at h1;have h2:=hn i hi;have:gI l i=0:=by omega
      rw[this];exact VV _
     ·rw[IJ (by simpa using hb)];exact he i hi)
    obtain ⟨a,b,h1,h2⟩:=ih;refine ⟨a,b,h1,.inl ?_⟩;have h3:(cs.filter (· != k)).length<cs.length:=List.length_filter_lt_length_iff_exists.2 ⟨k,hin,by simp⟩;omega
   ·rw[FC hn hz' hk ha];have hs:=R3 hn ha;have ih:=EP hm f k (afL (ps[k]!).1 l) (cs.erase k) (hn.af _) (by omega) (fun x h=>hx x (List.mem_of_mem_erase h)) (fun i hi=>by
     rw[JQ] at hi;have h1:=he i hi;have h2:=NS (ps:=ps) k i cs hin;rw[G8 hi];by_cases hb:bit (ps[k]!).1 i=true
     ·rw[if_pos hb] at h2 ⊢;omega
     ·rw[if_neg hb] at h2 ⊢;omega)
    obtain ⟨a,b,h1,h2⟩:=ih;refine N0 (.inr ⟨(a,b),h1,?_⟩);have h3:=I0 (ps:=ps) k cs hin;have h4:=List.length_erase_of_mem hin;have h5:=List.length_pos_of_mem hin
    dsimp only
    omega
  ·have ih:=EP hm f (k+1) l cs hn (by omega) (fun x h=>by
    have h1:=hx x h;have:x≠k:=fun e=>hin (e ▸ h)
    omega) he
   by_cases ha:afL (ps[k]!).1 l=l
   ·rw[FB hn hz' hk ha];exact ih
   ·rw[FC hn hz' hk ha];exact N0 (.inl ih)
def NY (ps:List Pat) (l:List Int):Bool:=(List.range l.length).any fun i=>decide (gI l i>0) && !((List.range ps.length).any fun k=>bit (ps[k]!).1 i)
theorem few_some (hm:∀ k,k<ps.length→0≤(ps[k]!).2) {l:List Int} (hn:NN l) (h:NY ps l=false):∃ a b,fewV ps 0 l=some (a,b):=by
 have hw:∀ t:Nat,∀ i,YJ ps (List.flatten (List.replicate t (List.range ps.length))) i=t*YJ ps (List.range ps.length) i:=fun t i=>by
  induction t with
  | zero=>simp[YJ]
  | succ t ih =>
   simp only[YJ] at ih ⊢;rw[List.replicate_succ,List.flatten_cons,List.countP_append,ih,XJ,Nat.add_comm]
 obtain ⟨a,b,h1,_⟩:=EP hm (ps.length-0+sumN l+1) 0 l (List.flatten (List.replicate (sumN l) (List.range ps.length))) hn (by omega) (fun x hx=>by
  rw[List.mem_flatten] at hx;obtain ⟨y,hy,hxy⟩:=hx;rw[List.mem_replicate] at hy;rw[hy.2,ZI] at hxy;omega) (fun i hi=>by
   rw[hw];by_cases h0:gI l i>0
   ·have h2:0<YJ ps (List.range ps.length) i:=by
     unfold NY at h;rw[W6] at h;have:=h i (ZI.2 hi);simp only[h0,decide_true,XI,Z0,Bool.not_eq_false',Bool.not_eq_true,Bool.not_eq_false,ZZ,ZI] at this;obtain ⟨k,hk,hb⟩:=this;exact List.countP_pos_iff.2 ⟨k,ZI.2 hk,hb⟩
    have h3:(gI l i).toNat≤sumN l:=by
     unfold sumN;have:gI l i=l[i]:=by simp[gI,hi]
     rw[this];exact CC (ZP.2 ⟨l[i],Q2 hi,rfl⟩)
    have h4:sumN l*1≤sumN l*YJ ps (List.range ps.length) i:=Nat.mul_le_mul_left _ h2;omega
   ·have:=hn i hi;have:gI l i=0:=by omega
    rw[this];exact VV _)
 exact ⟨a,b,h1⟩
end
def UJ (ps:List Pat) (l:List Int):List Nat:=grL ps (ps.length+sumN l+1) 0 l
section
variable {ps:List Pat}
theorem OP (hm:∀ k,k<ps.length→0≤(ps[k]!).2) {l:List Int} {a b:Int} (hn:NN l) (h:fewV ps 0 l=some (a,b)) :
  ((UJ ps l).length:Int)=a∧XX ps (UJ ps l)=b∧OS ps l (UJ ps l)∧(UJ ps l).Pairwise (·≤·)∧∀ x∈UJ ps l,x<ps.length:=by
 obtain ⟨h1,h2,h3,h4,h5⟩:=EM hm (ps.length+sumN l+1) 0 l a b hn (by omega) h;exact ⟨h1,h2,h3,h4,fun x hx=>(h5 x hx).2⟩
end
def sumI:Nat→(Nat→Int)→Int
 | 0,_=>0
 | n+1,f=>sumI n f+f n
def RO (s:Int) (pr:List Int):Int:=sumI pr.length fun i=>if bit s i then gI pr i else 0
def dotL (pr l:List Int):Int:=sumI pr.length fun i=>gI pr i*gI l i
def OE (ps:List Pat) (pr:List Int):Bool:=(List.range ps.length).all fun k=>decide (RO (ps[k]!).1 pr≤1000)
end Go.Proofs.YtgkidpolomhghaaGreatDoor.Pl
namespace Go.Proofs.YtgkidpolomhghaaGreatDoor.AM
variable [Dr]
open Go Pl
abbrev patC (p:Pat):List CV:=[.int .i64 p.1,.int .i64 p.2]
abbrev patA (p:Pat):AV:=.agg [.i p.1,.i p.2]
def NU (l:List Pat):List CV:=l.flatMap patC
abbrev patR (l:List Pat):CV:=.rsl (NU l) l.length
theorem IY (p:Pat):(patC p).length=2:=rfl
theorem Qef (l:List Pat):(NU l).length=l.length*2:=UG IY l
section
variable {l:List Pat} {k:Nat}
theorem B4 (h:k<l.length) (σ:List AObj):YF 2 [.cv (.rp (NU l) (k*2))] σ=some (patA l[k]!,σ):=by
 have h1:k*2+2≤(NU l).length:=by rw[Qef];omega
 have h2:=G3 IY h;simp only[YF,h1,if_true];unfold NU;rw[h2];rfl
theorem O9 (h:k<l.length) (σ:List AObj):VP 2 [.cv (patR l),.cv (.int .i64 k)] σ=some (.cv (.rp (NU l) (k*2)),σ):=XP h σ
end
def patE (m:Nat) (p:Pat):Int:=if (outF 0 (2 ^ m-1) [p.1]||outF 0 100000 [p.2])=true then 7 else 0
def chkE (ps:List Pat) (l:List Int):Int :=
 if (outF 1 12 [(ps.length:Int)]||outF 1 6 [(l.length:Int)])=true then 3 else if outF 0 3 l=true then 7 else (fndE (fun i=>patE l.length ps[i]!) 0 ps.length).2
structure PsOk (ps:List Pat) (l:List Int):Prop where
 p1:1≤ps.length
 p12:ps.length≤12
 l1:1≤l.length
 l6:l.length≤6
 need:∀ i,i<l.length→0≤gI l i∧gI l i≤3
 pat:∀ k,k<ps.length→(0≤(ps[k]!).1∧(ps[k]!).1<2 ^ l.length)∧0≤(ps[k]!).2∧(ps[k]!).2≤100000
theorem Qcs {l:List Int} {i:Nat} (h:i<l.length):gI l i∈l:=by unfold gI;rw[QI h];exact Q2 h
theorem Qd3 {ps:List Pat} {l:List Int} (h:chkE ps l=0):PsOk ps l:=by
 unfold chkE at h;split at h
 ·exact absurd h (by decide)
 rename_i h1;split at h
 ·exact absurd h (by decide)
 rename_i h2;have h1:outF 1 12 [(ps.length:Int)]=false∧outF 1 6 [(l.length:Int)]=false:=by simpa using h1
 have a1:=VL.1 h1.1 ps.length (by simp);have a2:=VL.1 h1.2 l.length (by simp);have a3:=VL.1 (show outF 0 3 l=false by simpa using h2);refine ⟨by omega,by omega,by omega,by omega,fun i hi=>a3 _ (Qcs hi),fun k hk=>?_⟩;have h3:patE l.length ps[k]! = 0:=LJ ps.length 0 h k (QF _) (by omega);unfold patE at h3;split at h3
 ·exact absurd h3 (by decide)
 rename_i h4;revert h4;generalize ps[k]! = p;intro h4;have h4:outF 0 (2 ^ l.length-1) [p.1]=false∧outF 0 100000 [p.2]=false:=by simpa using h4
 have b1:=VL.1 h4.1 p.1 (by simp);have b2:=VL.1 h4.2 p.2 (by simp);exact ⟨by omega,by omega⟩
abbrev chV (l:List Int) (m:Int):AV:=.agg [ints l,.i m]
def HG (l:List Nat):List Int:=l.map fun (k:Nat)=>(k:Int)
def fewL (ps:List Pat) (l:List Int):List Int × Int × Int :=
 if chkE ps l≠0 then ([],0,chkE ps l) else if NY ps l=true then ([],0,9) else (HG (UJ ps l),XX ps (UJ ps l),0)
abbrev fewA (ps:List Pat) (l:List Int):AV:=.tup [chV (fewL ps l).1 (fewL ps l).2.1,.i (fewL ps l).2.2]
def floL (ps:List Pat) (l pr:List Int):Int × Int :=
 if chkE ps l≠0 then (0,chkE ps l) else if pr.length≠l.length then (0,3) else if outF 0 1000 pr=true then (0,7) else if OE ps pr=false then (0,2) else ((dotL pr l+999) / 1000,0)
abbrev floA (ps:List Pat) (l pr:List Int):AV:=.tup [.i (floL ps l pr).1,.i (floL ps l pr).2]
def folL (d:Dy):List (List Int):=(List.range d.ls.length).map (behL d)
abbrev folA (d:Dy):AV:=.tup [.cv (minR (if (dyE d).2.2≠0 then [] else folL d)),.i (dyE d).2.2]
def nxtL (d:Dy):List Int:=nxL (canB d) d.ls.length d.ls.length 0 (fun _=>false)
def chaL (d:Dy):List (List Int):=(LQ (nxtL d) d.ls.length).map HG
abbrev chaA (d:Dy):AV:=.tup [.cv (minR (if (dyE d).2.2≠0 then [] else chaL d)),.i (dyE d).2.2]
def TH (d:Dy):Nat:=prF (canB d) d.ls.length d.ls.length 0 (fun _=>false)
def covS (d:Dy):Nat:=G7 (canB d) d.ls.length
def cvBef (d:Dy):List Int:=if (dyE d).2.2≠0 then [] else YS d.ls.length (bit (covS d:Nat))
def cvBeh (d:Dy):List Int:=if (dyE d).2.2≠0 then [] else YS d.ls.length (L0 (canB d) d.ls.length (covS d:Nat))
abbrev cvA (d:Dy):AV:=.tup [ints (cvBef d),ints (cvBeh d),.i (dyE d).2.2]
def HT (l:List Int):Bool:=(List.range (l.length-1)).all fun i=>decide (gI l i<gI l (i+1))
def openB (d:Dy) (p q:List Int):Bool:=(List.range d.ls.length).any fun i=>(List.range d.ls.length).any fun k=>canB d i k && !p.contains (i:Int) && !q.contains (k:Int)
def proL (d:Dy) (p q:List Int):Int × Int :=
 if (dyE d).2.2≠0 then (0,(dyE d).2.2)
 else if (outF 0 ((d.ls.length:Int)-1) p||outF 0 ((d.ls.length:Int)-1) q)=true then (0,4)
 else if (HT p&&HT q)=false then (0,5)
 else if openB d p q=true then (0,2)
 else (max 0 ((d.ls.length:Int)-p.length-q.length),0)
abbrev proA (d:Dy) (p q:List Int):AV:=.tup [.i (proL d p q).1,.i (proL d p q).2]
structure Tch where
 rg:List Rt
 b:Int
 e:Int
deriving Inhabited
structure Car where
 cl:Int
 ft:Int
deriving Inhabited
structure Pln where
 sys:Sys
 le:List Int
 te:List Tch
 ca:List Car
 day:Dy
abbrev rgR (l:List Rt):CV:=.rsl (l.flatMap rgC) l.length
abbrev tchC (t:Tch):List CV:=[rgR t.rg,.int .i64 t.b,.int .i64 t.e]
abbrev tchA (t:Tch):AV:=.agg [.cv (rgR t.rg),.i t.b,.i t.e]
def SV (l:List Tch):List CV:=l.flatMap tchC
abbrev tchR (l:List Tch):CV:=.rsl (SV l) l.length
abbrev carC (c:Car):List CV:=[.int .i64 c.cl,.int .i64 c.ft]
abbrev carA (c:Car):AV:=.agg [.i c.cl,.i c.ft]
def QaH (l:List Car):List CV:=l.flatMap carC
abbrev carR (l:List Car):CV:=.rsl (QaH l) l.length
theorem BI (t:Tch):(tchC t).length=3:=rfl
theorem CX (c:Car):(carC c).length=2:=rfl
theorem QeW (l:List Tch):(SV l).length=l.length*3:=UG BI l
theorem Qey (l:List Car):(QaH l).length=l.length*2:=UG CX l
theorem tch_ld {l:List Tch} {k:Nat} (h:k<l.length) (σ:List AObj):YF 3 [.cv (.rp (SV l) (k*3))] σ=some (tchA l[k]!,σ):=by
 have h1:k*3+3≤(SV l).length:=by rw[QeW];omega
 have h2:=G3 BI h;simp only[YF,h1,if_true];unfold SV;rw[h2];rfl
theorem car_ld {l:List Car} {k:Nat} (h:k<l.length) (σ:List AObj):YF 2 [.cv (.rp (QaH l) (k*2))] σ=some (carA l[k]!,σ):=by
 have h1:k*2+2≤(QaH l).length:=by rw[Qey];omega
 have h2:=G3 CX h;simp only[YF,h1,if_true];unfold QaH;rw[h2];rfl
abbrev plnC (p:Pln):List AV:=[.cv (clsR p.sys.cl),.cv (strR p.sys.co),ints p.le,.cv (tchR p.te),.cv (carR p.ca),.cv (minR p.day.mi),.cv (lesR p.day.ls)]
abbrev plnV (p:Pln):AV:=.agg (plnC p)
abbrev plC9 (p:Pln):List AV:=[.cv (clsR p.sys.cl),.cv (strR p.sys.co),ints p.le,.cv (tchR p.te),.cv (carR p.ca),.cv (minR p.day.mi),.cv (lesR p.day.ls),.cv (minR p.day.mi),.cv (lesR p.day.ls)]
abbrev plV9 (p:Pln):AV:=.agg (plC9 p)
def lstE (s:Sys) (l:List Rt):Int:=rdE s (sysE s).2.2 [l]
theorem lst_e (s:Sys) (l:List Rt):∃ L,lstV s l=.tup [rgL L,.i (lstE s l)]:=by
 unfold lstV lstE;by_cases h:rdE s (sysE s).2.2 [l]=0
 ·rw[if_neg (fun g=>g h),h];exact ⟨_,rfl⟩
 ·rw[if_pos h];exact ⟨_,rfl⟩
def mayE (s:Sys) (l:List Rt) (c f:Int):Int :=
 if lstE s l≠0 then lstE s l else if inB c 0 ((s.cl.length:Int)-1)=false then 4 else if inB f 0 (setN s-1)=false then 7 else 0
theorem may_e (s:Sys) (l:List Rt) (c f:Int):mayV s l c f=.tup [.b (decide (mayE s l c f=0)&&alwB s l c f),.i (mayE s l c f)]:=by
 unfold mayV mayE lstE;split
 ·rename_i h;rw[decide_eq_false h];rfl
 ·split
  ·rfl
  ·split
   ·rfl
   ·rfl
def tchE (s:Sys) (t:Tch):Int :=
 if lstE s t.rg≠0 then lstE s t.rg else if outF 0 1440 [t.b,t.e]=true then 7 else if t.b>t.e then 2 else 0
def carE (s:Sys) (c:Car):Int:=mayE s [] c.cl c.ft
def whoB (p:Pln) (l:Les):Bool:=decide (l.le≥p.le.length)||decide (l.te≥p.te.length)||decide (l.ca≥p.ca.length)
def plnE (p:Pln):Int :=
 if (sysE p.sys).2.2≠0 then (sysE p.sys).2.2
 else if (dyE p.day).2.2≠0 then (dyE p.day).2.2
 else if (decide ((p.le.length:Int)>8)||decide ((p.te.length:Int)>8)||decide ((p.ca.length:Int)>8))=true then 3
 else if outF 0 ((p.sys.cl.length:Int)-1) p.le=true then 4
 else if (fndE (fun i=>tchE p.sys p.te[i]!) 0 p.te.length).2≠0 then (fndE (fun i=>tchE p.sys p.te[i]!) 0 p.te.length).2
 else if (fndE (fun i=>carE p.sys p.ca[i]!) 0 p.ca.length).2≠0 then (fndE (fun i=>carE p.sys p.ca[i]!) 0 p.ca.length).2
 else if (p.day.ls.any (whoB p))=true then 4 else 0
structure PSz (p:Pln):Prop where
 sys:SSz p.sys
 le:p.le.length<2 ^ 63
 te:p.te.length<2 ^ 63
 ca:p.ca.length<2 ^ 63
 rg:∀ i,i<p.te.length→(p.te[i]!).rg.length<2 ^ 63
 day:DSz p.day
theorem le27 (a b:List (List Int)) (ha:a.length<2 ^ 62) (hb:b.length<2 ^ 63) (hA:∀ i,i<a.length→(a[i]!).length<2 ^ 63) (hB:∀ i,i<b.length→(b[i]!).length<2 ^ 63):PC Tryz.prog 27 [.cv (minR a),.cv (minR b)] (.b (decide (a=b))):=by
 refine ⟨ZF (fok27 true) (QC rfl) ?_,rfl⟩;by_cases hlen:a.length=b.length
 rotate_left
 ·have hd:decide (a=b)=false:=decide_eq_false fun h=>hlen (by rw[h])
  have hb1:((a.length:Int) != (b.length:Int))=true:=by simp;omega
  rw[hd];simp only[ic27,hb1,evA,simprocAttr];exact frz
 have hb1:((a.length:Int) != (b.length:Int))=false:=by simp;omega
 simp only[ic27,hb1,evA,simprocAttr];refine ZW a.length (fun i s'=>(∀ j,j<i→a[j]! = b[j]!)∧∃ v5 v6,s'=⟨[.cv (minR a),.cv (minR b),.b false,.i i,.b false,v5,v6],[]⟩) ?_ 0 (QF _) ⟨by omega,_,_,rfl⟩;rintro i s' hi ⟨hall,v5,v6,rfl⟩;by_cases h:i<a.length
 ·have h':i<b.length:=by omega
  have la:=B7 h;have lb:=B7 h';have c32:=c45 a[i]! b[i]! (hA i h) (hB i h');simp only[ic27l0,QJ,h,evA,simprocAttr];refine DW_s [8] [] hmix (by kernel_rfl) rfl ?_;simp only[h,h',XP h,XP h',W3,la,lb,evA,simprocAttr];refine YE (c32.call frz ⟨rfl,rfl⟩) rfl ?_;cases he:decide (a[i]! = b[i]!) with
  | false =>
   have hd:decide (a=b)=false:=decide_eq_false fun hh=>by rw[hh] at he;exact absurd rfl (of_decide_eq_false he)
   rw[hd];simp only[he,evA,simprocAttr];exact frz
  | true =>
   simp only[he,Q6 (show i+1<2 ^ 63 by omega),evA,simprocAttr];refine ZL (by first | trivial | omega) ⟨fun j hj=>?_,_,_,rfl⟩;rcases QQ.1 hj with hj | rfl
   ·exact hall j hj
   ·exact of_decide_eq_true he
 ·have hd:decide (a=b)=true:=decide_eq_true (by
   apply Y1 hlen;intro j h1 h2;have:=hall j (by omega)
   rwa [getElem!_pos a j h1,getElem!_pos b j h2] at this)
  rw[hd];simp only[ic27l0,QJ,h,evA,simprocAttr];exact frz
theorem le41 (m:Int) (v:AV) (hv:v.isUndef=false∧v.isSc=true∧cellsOf v=[v]) (σ:List AObj) (hl:QR σ.length v=true):AC Tryz.prog 41 [.i m,v] σ fun r τ=>r=.agg [v,.i m]∧τ=σ:=by
 refine AC.cut0 ?_ (by simp[QR,QO,hl]);refine ZF (fok41 true) (QC rfl) ?_;simp only[ic41,hv,WW,VW,evA,simprocAttr];exact ⟨_,rfl⟩
theorem le19 (a b:List Int) (x y:Int) (ha:a.length<2 ^ 63) (hb:b.length<2 ^ 63):PC Tryz.prog 19 [chV a x,chV b y] (.b (decide (a=b)&&x == y)):=by
 refine ⟨ZF (fok19 true) (QC rfl) ?_,rfl⟩;simp only[ic19,WI,cellsOf,evA,simprocAttr];refine (c45 a b ha hb).call frz ?_;cases he:decide (a=b) with
 | false =>
  simp only[he,Bool.false_and,evA,simprocAttr];exact frz
 | true =>
  simp only[he,XI,evA,simprocAttr];exact frz
def exP:List Pat:=[(3,500),(4,200),(6,400),(1,100)]
def exD:Dy:=⟨[[0,10],[10,0]],[⟨0,0,0,60,120,0,0⟩,⟨1,0,1,120,180,0,1⟩,⟨2,0,2,125,170,1,1⟩,⟨3,0,3,190,250,0,0⟩]⟩
def exL:Pln:=⟨exS,[1,1,1,1],[⟨[(1,0)],0,1440⟩],[⟨1,0⟩,⟨1,0⟩,⟨1,0⟩,⟨1,0⟩],exD⟩
theorem le39:PC Tryz.prog 39 [] (.cv (patR exP)):=by
 refine ⟨ZF (fok39 true) (QC rfl) ?_,rfl⟩;simp only[ic39,evA,simprocAttr]
 (repeat' (first | exact HL.nil | exact KS.nil | exact FrzC.nl | exact FrzC.c _ trivial | apply HL.cons | apply KS.cons | apply FrzV.agg | apply FrzV.tup | apply FrzV.c | refine FrzC.sl _ _ _ _ _ _ rfl (QC rfl) ?_))
theorem le40:PC Tryz.prog 40 [] (dyV exD):=by
 refine ⟨ZF (fok40 true) (QC rfl) ?_,rfl⟩;simp only[ic40,evA,simprocAttr]
 (repeat' (first | exact HL.nil | exact KS.nil | exact FrzC.nl | exact FrzC.c _ trivial | apply HL.cons | apply KS.cons | apply FrzV.agg | apply FrzV.tup | apply FrzV.c | refine FrzC.sl _ _ _ _ _ _ rfl (QC rfl) ?_))
theorem le65:PA Tryz.prog 65 [] (plnV exL):=by
 refine ⟨ZF (fok65 true) (QC rfl) ?_,rfl,rfl⟩;simp only[ic65,evA,simprocAttr];refine c43.call frz ?_;simp only[evA,simprocAttr];refine le40.call frz ?_;simp only[evA,simprocAttr]
 (repeat' (first | exact HL.nil | exact KS.nil | exact FrzC.nl | exact FrzC.c _ trivial | apply HL.cons | apply KS.cons | apply FrzV.agg | apply FrzV.tup | apply FrzV.c | refine FrzC.sl _ _ _ _ _ _ rfl (QC rfl) ?_))
theorem EY {α:Type} {l:List α} (h:l.length≤9):l.length<2 ^ 63:=WJ h (by decide)
theorem le118 (z lo hi:Int) (σ:List AObj):AC Tryz.prog 118 [.i z,.cv (.rp [.int .i64 lo] 0),.cv (.rp [.int .i64 hi] 0)] σ fun r τ=>r=.b (decide (z<lo)||decide (z>hi))∧τ=σ:=by
 refine ZF (fok118 true) (QC rfl) ?_;by_cases h:z<lo <;> simp only[ic118,h,evA,simprocAttr]
theorem le63 (lo hi:Int) (zs:List Int) (hz:zs.length<2 ^ 63):PC Tryz.prog 63 [.i lo,.i hi,ints zs] (.b (outF lo hi zs)):=by
 refine ⟨ZF (fok63 true) (QC rfl) ?_,rfl⟩;simp only[ic63,evA,simprocAttr];refine (c87 zs (.fn (.func 118) [.cv (.rp [.int .i64 lo] 0),.cv (.rp [.int .i64 hi] 0)]) (fun z=>decide (z<lo)||decide (z>hi)) hz (fun z σ=>le118 z lo hi σ)).call frz ?_;exact frz
theorem le66 (m:List (List Int)) (fv:AV) (f:FuncId) (x:AV) (g:Nat→Int) (hm:m.length<2 ^ 63) (hx:QR 0 x=true) (hf:∀ i,i<m.length→∀ σ,AC Tryz.prog f [x,.i i,ints m[i]!] σ fun r τ=>r=.i (g i)∧τ=σ) :
  PC Tryz.prog 66 [.cv (minR m),.bm f [x]] (.tup [.i (fndE g 0 m.length).1,.i (fndE g 0 m.length).2]):=by
 refine ⟨ZF (fok66 true) (QC rfl) ?_,rfl⟩;simp only[ic66,evA,simprocAttr];refine ZW m.length (fun i s=>(∀ j,j<i→g j=0)∧∃ v2 v3 v4 v5 v9 v10,s=⟨[.cv (minR m),.bm f [x],v2,v3,v4,v5,.cv (minR m),.i m.length,.i i,v9,v10],[]⟩) ?_ 0 (QF _) ⟨by omega,_,_,_,_,_,_,rfl⟩;rintro i s hi ⟨hall,v2,v3,v4,v5,v9,v10,rfl⟩;by_cases h:i<m.length
 ·simp only[ic66l0,QJ,h,XP h,W3,B7 h,evA,simprocAttr];refine (hf i h _).run ?_;by_cases hg:g i=0
  ·have hb:(g i != 0)=false:=by simpa using hg
   simp only[hb,Q6 (show i+1<2 ^ 63 by omega),evA,simprocAttr];refine ZL (by first | trivial | omega) ⟨fun j hj=>?_,_,_,_,_,_,_,rfl⟩;rcases QQ.1 hj with hj | rfl
   ·exact hall j hj
   ·exact hg
  ·have hb:(g i != 0)=true:=by simpa using hg
   rw[VO m.length 0 i (QF _) (by omega) (fun j _ hj=>hall j hj) hg];simp only[hb,evA,simprocAttr];exact frz
 ·have:i=m.length:=by omega
  subst this;rw[J7 m.length 0 fun j _ hj=>hall j (by omega)];simp only[ic66l0,QJ,h,evA,simprocAttr];exact frz
theorem le68 (m:List Les) (f:FuncId) (x:AV) (g:Nat→Int) (hm:m.length<2 ^ 63) (hx:QR 0 x=true) (hf:∀ i,i<m.length→∀ σ,AC Tryz.prog f [x,.i i,lesA m[i]!] σ fun r τ=>r=.i (g i)∧τ=σ) :
  PC Tryz.prog 68 [.cv (lesR m),.bm f [x]] (.tup [.i (fndE g 0 m.length).1,.i (fndE g 0 m.length).2]):=by
 refine ⟨ZF (fok68 true) (QC rfl) ?_,rfl⟩;simp only[ic68,evA,simprocAttr];refine ZW m.length (fun i s=>(∀ j,j<i→g j=0)∧∃ v2 v3 v4 v5 v9 v10,s=⟨[.cv (lesR m),.bm f [x],v2,v3,v4,v5,.cv (lesR m),.i m.length,.i i,v9,v10],[]⟩) ?_ 0 (QF _) ⟨by omega,_,_,_,_,_,_,rfl⟩;rintro i s hi ⟨hall,v2,v3,v4,v5,v9,v10,rfl⟩;by_cases h:i<m.length
 ·simp only[ic68l0,QJ,h,F5 h,Qcl h,evA,simprocAttr];refine (hf i h _).run ?_;by_cases hg:g i=0
  ·have hb:(g i != 0)=false:=by simpa using hg
   simp only[hb,Q6 (show i+1<2 ^ 63 by omega),evA,simprocAttr];refine W1 [] _ rfl (by first | trivial | omega) (QF _) (by simp) ?_;have hx2:∀ k,QR k (.bm f [x])=true:=fun k=>by simp only[QR,QO,Y8 (QF k) x hx,WH]
   simp only[clip,hx2,if_true];refine ⟨fun j hj=>?_,_,_,_,_,_,_,rfl⟩;rcases QQ.1 hj with hj | rfl
   ·exact hall j hj
   ·exact hg
  ·have hb:(g i != 0)=true:=by simpa using hg
   rw[VO m.length 0 i (QF _) (by omega) (fun j _ hj=>hall j hj) hg];simp only[hb,evA,simprocAttr];exact frz
 ·have:i=m.length:=by omega
  subst this;rw[J7 m.length 0 fun j _ hj=>hall j (by omega)];simp only[ic68l0,QJ,h,evA,simprocAttr];exact frz
theorem le67 (d:Dy) (hd:DSz d) (i:Nat) (hi:i<d.mi.length):PC Tryz.prog 67 [dyV d,.i i,ints d.mi[i]!] (.i (rowE d i)):=by
 refine ⟨ZF (fok67 true) (QC rfl) ?_,rfl⟩;have hrow:=hd.row i hi;unfold rowE;generalize d.mi[i]! = l at *;simp only[ic67,WI,cellsOf,evA,simprocAttr];by_cases h1:l.length=d.mi.length
 ·have hb:((l.length:Int) != d.mi.length)=false:=by rw[h1];simp
  rw[if_neg (fun h=>h h1)];simp only[hb,evA,simprocAttr];refine (le63 0 120 l hrow).call frz ?_;cases ho:outF 0 120 l with
  | true =>
   simp only[evA,simprocAttr];exact frz
  | false =>
   have hil:i<l.length:=by omega
   simp only[J5 hil,J4 hil,evA,simprocAttr];by_cases h2:gI l i=0
   ·have hb2:(l[i]?.getD 0 != 0)=false:=by simpa using h2
    simp only[hb2,h2,ne_eq,not_true,evA,simprocAttr];exact frz
   ·have hb2:(l[i]?.getD 0 != 0)=true:=by simpa using h2
    simp only[hb2,h2,ne_eq,not_false_eq_true,evA,simprocAttr];exact frz
 ·have hb:((l.length:Int) != d.mi.length)=true:=by simp;omega
  rw[if_pos h1];simp only[hb,evA,simprocAttr];exact frz
theorem le69 (d:Dy) (hd:DSz d) (i:Int) (l:Les):PC Tryz.prog 69 [dyV d,.i i,lesA l] (.i (lesE d l)):=by
 refine ⟨ZF (fok69 true) (QC rfl) ?_,rfl⟩;have h63:=hd.mi;unfold lesE;have hw:IntKind.i64.wrap ((d.mi.length:Int)-1)=(d.mi.length:Int)-1:=ZC (by omega);simp only[ic69,WI,cellsOf,evA,simprocAttr];refine (le63 0 1440 [l.b,l.e] (EY (by simp))).call frz ?_;cases h1:outF 0 1440 [l.b,l.e] with
 | true =>
  simp only[US,evA,simprocAttr];exact frz
 | false =>
  simp only[Y3,evA,simprocAttr];refine (le63 0 7 [l.le,l.te,l.ca] (EY (by simp))).call frz ?_;cases h2:outF 0 7 [l.le,l.te,l.ca] with
  | true =>
   simp only[evA,simprocAttr];exact frz
  | false =>
   by_cases h3:l.b≥l.e
   ·simp only[h3,evA,simprocAttr];exact frz
   ·simp only[h3,hw,evA,simprocAttr];refine (le63 0 ((d.mi.length:Int)-1) [l.f,l.o] (EY (by simp))).call frz ?_;cases h4:outF 0 ((d.mi.length:Int)-1) [l.f,l.o] with
    | true =>
     simp only[evA,simprocAttr];exact frz
    | false =>
     simp only[evA,simprocAttr];exact frz
abbrev chkA (d:Dy):AV:=.tup [.i (dyE d).1,.i (dyE d).2.1,.i (dyE d).2.2]
theorem le23 (d:Dy) (hd:DSz d):PC Tryz.prog 23 [dyV d] (chkA d):=by
 refine ⟨ZF (fok23 true) (QC rfl) ?_,rfl⟩;have hc66:=le66 d.mi (.bm 67 [dyV d]) 67 (dyV d) (rowE d) hd.mi rfl (fun i hi σ=>(le67 d hd i hi).call frz ⟨rfl,rfl⟩);have hc68:=le68 d.ls 69 (dyV d) (fun i=>lesE d d.ls[i]!) hd.ls rfl (fun i hi σ=>(le69 d hd i d.ls[i]!).call frz ⟨rfl,rfl⟩);simp only[ic23,WI,cellsOf,evA,simprocAttr];refine (le63 1 16 [(d.mi.length:Int)] (EY (by simp))).call frz ?_;unfold chkA dyE;cases h1:outF 1 16 [(d.mi.length:Int)] with
 | true =>
  simp only[US,evA,simprocAttr];exact frz
 | false =>
 cases h2:decide ((d.ls.length:Int)>12) with
 | true =>
  simp only[Y3,h2,evA,simprocAttr];exact frz
 | false =>
  simp only[Y3,h2,evA,simprocAttr];refine hc66.call frz ?_;generalize fndE (rowE d) 0 d.mi.length=e1;obtain ⟨a1,b1⟩:=e1;by_cases h3:b1=0
  ·have hb:(b1 != 0)=false:=by simpa using h3
   simp only[hb,h3,ne_eq,not_true,evA,simprocAttr];refine hc68.call frz ?_;generalize fndE (fun i=>lesE d d.ls[i]!) 0 d.ls.length=e2;obtain ⟨a2,b2⟩:=e2;by_cases h4:b2=0
   ·have hb:(b2 != 0)=false:=by simpa using h4
    simp only[hb,h4,ne_eq,not_true,evA,simprocAttr];exact frz
   ·have hb:(b2 != 0)=true:=by simpa using h4
    simp only[hb,h4,ne_eq,not_false_eq_true,evA,simprocAttr];exact frz
  ·have hb:(b1 != 0)=true:=by simpa using h3
   simp only[hb,h3,ne_eq,not_false_eq_true,evA,simprocAttr];exact frz
theorem le72 (d:Dy) (hd:DSz d):PA Tryz.prog 72 [dyV d] (.tup [dyV d,.i (dyE d).2.2]):=by
 refine ⟨ZF (fok72 true) (QC rfl) ?_,rfl,rfl⟩;have h:=le23 d hd;unfold chkA at h;generalize dyE d=e at *;obtain ⟨e1,e2,e3⟩:=e;simp only[ic72,WI,cellsOf,evA,simprocAttr];refine h.call frz ?_;simp only[evA,simprocAttr];exact frz
theorem ishr (a k:Nat) (hk:k≤64):VK .shr .i64 (a:Int) (k:Int)=some (.cv (.int .i64 ((a >>> k:Nat):Int))):=by
 have h0:¬ ((k:Int)<0):=by omega
 have h1:min (k:Int).toNat IntKind.i64.bits=k:=by rw[Int.toNat_natCast];exact VD hk
 simp only[VK];rw[if_neg h0,h1];have:(a:Int).fdiv (2 ^ k)=((a >>> k:Nat):Int):=by
  rw[Int.fdiv_eq_ediv_of_nonneg _ (Int.pow_nonneg (by decide)),JR]
  push_cast
  rfl
 rw[this]
theorem iand1 {a:Nat} (ha:a<2 ^ 62):IntKind.i64.wrap ((BitVec.ofInt IntKind.i64.bits (a:Int) &&& BitVec.ofInt IntKind.i64.bits 1).toNat:Int)=((a % 2:Nat):Int):=by
 show IntKind.i64.wrap (((BitVec.ofInt 64 (a:Int) &&& BitVec.ofInt 64 1).toNat:Nat):Int)=_;have h2:BitVec.ofInt 64 1=BitVec.ofNat 64 1:=by decide
 have hp:(2:Nat) ^ 62=4611686018427387904:=by decide
 rw[h2,BitVec.ofInt_natCast,BitVec.toNat_and,BitVec.toNat_ofNat,BitVec.toNat_ofNat,show 1 % 2 ^ 64=1 from rfl,Nat.and_one_is_mod,Nat.mod_eq_of_lt (show a<2 ^ 64 by omega)];exact ZC (by omega)
theorem QbC {s:Int} {a i:Nat} (hs:s=(a:Int)):(a >>> i) % 2=if bit s i=true then 1 else 0:=by
 have h1:bit s i=a.testBit i:=by rw[hs];rfl
 rw[h1];have:a.testBit i=((a >>> i) &&& 1 != 0):=by rw[Nat.testBit,Nat.and_comm]
 rw[this,Nat.and_one_is_mod];rcases Nat.mod_two_eq_zero_or_one (a >>> i) with h | h <;> rw[h] <;> rfl
theorem ishl1 {k:Nat} (hk:k≤6):VK .shl .i64 1 (k:Int)=some (.cv (.int .i64 (2 ^ k))):=by
 match k,hk with
 | 0,_=>rfl
 | 1,_=>rfl
 | 2,_=>rfl
 | 3,_=>rfl
 | 4,_=>rfl
 | 5,_=>rfl
 | 6,_=>rfl
theorem Qa6 {k:Nat} (hk:k≤6):(1:Int)≤2 ^ k∧(2:Int) ^ k≤64:=by
 match k,hk with
 | 0,_=>decide
 | 1,_=>decide
 | 2,_=>decide
 | 3,_=>decide
 | 4,_=>decide
 | 5,_=>decide
 | 6,_=>decide
theorem le115 (l:List Int) (hl:l.length≤6) (i:Int) (p:Pat):PC Tryz.prog 115 [.i i,patA p,.cv (.rp [.rsl (l.map (.int .i64)) l.length] 0)] (.i (patE l.length p)):=by
 refine ⟨ZF (fok115 true) (QC rfl) ?_,rfl⟩;have hpw:=Qa6 hl;have hw:IntKind.i64.wrap ((2:Int) ^ l.length-1)=2 ^ l.length-1:=ZC (by omega);unfold patE;simp only[ic115,WI,cellsOf,evA,simprocAttr];refine DW_s [7,12] [(0,6)] hmix (by kernel_rfl) rfl ?_;simp only[ishl1 hl,hw,evA,simprocAttr];refine YE ((le63 0 (2 ^ l.length-1) [p.1] (EY (by simp))).call frz ⟨rfl,rfl⟩) rfl ?_;cases h1:outF 0 (2 ^ l.length-1) [p.1] with
 | true =>
  simp only[US,evA,simprocAttr];exact frz
 | false =>
  simp only[Y3,evA,simprocAttr];refine YE ((le63 0 100000 [p.2] (EY (by simp))).call frz ⟨rfl,rfl⟩) rfl ?_;cases h2:outF 0 100000 [p.2] with
  | true =>
   simp only[evA,simprocAttr];exact frz
  | false =>
   simp only[evA,simprocAttr];exact frz
theorem le114 (m:List Pat) (fv:AV) (g:Nat→Int) (hm:m.length<2 ^ 63) (hx:QR 0 fv=true) (hf:∀ i,i<m.length→∀ σ,X0 Tryz.prog fv [.i i,patA m[i]!] σ fun r τ=>r=.i (g i)∧τ=σ) :
  PC Tryz.prog 114 [.cv (patR m),fv] (.tup [.i (fndE g 0 m.length).1,.i (fndE g 0 m.length).2]):=by
 refine ⟨ZF (fok114 true) (QC rfl) ?_,rfl⟩;simp only[ic114,evA,simprocAttr];refine ZW m.length (fun i s=>(∀ j,j<i→g j=0)∧∃ v2 v3 v4 v5 v9 v10,s=⟨[.cv (patR m),fv,v2,v3,v4,v5,.cv (patR m),.i m.length,.i i,v9,v10],[]⟩) ?_ 0 (QF _) ⟨by omega,_,_,_,_,_,_,rfl⟩;rintro i s hi ⟨hall,v2,v3,v4,v5,v9,v10,rfl⟩;by_cases h:i<m.length
 ·simp only[ic114l0,QJ,h,O9 h,B4 h,evA,simprocAttr];refine (hf i h _).run ?_;by_cases hg:g i=0
  ·have hb:(g i != 0)=false:=by simpa using hg
   simp only[hb,Q6 (show i+1<2 ^ 63 by omega),evA,simprocAttr];refine W1 [] _ rfl (by first | trivial | omega) (QF _) (by simp) ?_;have hx2:∀ k,QR k fv=true:=fun k=>Y8 (QF k) fv hx
   simp only[clip,hx2,if_true];refine ⟨fun j hj=>?_,_,_,_,_,_,_,rfl⟩;rcases QQ.1 hj with hj | rfl
   ·exact hall j hj
   ·exact hg
  ·have hb:(g i != 0)=true:=by simpa using hg
   rw[VO m.length 0 i (QF _) (by omega) (fun j _ hj=>hall j hj) hg];simp only[hb,evA,simprocAttr];exact frz
 ·have:i=m.length:=by omega
  subst this;rw[J7 m.length 0 fun j _ hj=>hall j (by omega)];simp only[ic114l0,QJ,h,evA,simprocAttr];exact frz
theorem le56 (ps:List Pat) (l:List Int) (hp:ps.length<2 ^ 63) (hl:l.length<2 ^ 63):PC Tryz.prog 56 [.cv (patR ps),ints l] (.i (chkE ps l)):=by
 refine ⟨ZF (fok56 true) (QC rfl) ?_,rfl⟩;unfold chkE;simp only[ic56,WI,cellsOf,evA,simprocAttr];refine (le63 1 12 [(ps.length:Int)] (EY (by simp))).call frz ?_;cases h1:outF 1 12 [(ps.length:Int)] with
 | true =>
  simp only[US,evA,simprocAttr];exact frz
 | false =>
 simp only[Y3,evA,simprocAttr];refine (le63 1 6 [(l.length:Int)] (EY (by simp))).call frz ?_;cases h2:outF 1 6 [(l.length:Int)] with
 | true =>
  simp only[evA,simprocAttr];exact frz
 | false =>
 simp only[evA,simprocAttr];refine (le63 0 3 l hl).call frz ?_;cases h3:outF 0 3 l with
 | true =>
  simp only[evA,simprocAttr];exact frz
 | false =>
 have hl6:l.length≤6:=by have:=VL.1 h2 l.length (by simp);omega
 simp only[evA,simprocAttr];have h114:=le114 ps (.fn (.func 115) [.cv (.rp [.rsl (l.map (.int .i64)) l.length] 0)]) (fun i=>patE l.length ps[i]!) hp rfl (fun i hi σ=>(le115 l hl6 i ps[i]!).call frz ⟨rfl,rfl⟩);refine h114.call (.cons (.c (.c _ trivial)) (.cons (.fn (.cons (.c (.ptr 0 0 _ _ rfl (.cons (.c _ trivial) .nil))) .nil)) .nil)) ?_;generalize fndE (fun i=>patE l.length ps[i]!) 0 ps.length=e;obtain ⟨e1,e2⟩:=e;simp only[evA,simprocAttr];exact frz
theorem le133 (p:Pln) (hp:PSz p) (i:Int) (t:Tch) (ht:t.rg.length<2 ^ 63):PC Tryz.prog 133 [plV9 p,.i i,tchA t] (.i (tchE p.sys t)):=by
 refine ⟨ZF (fok133 true) (QC rfl) ?_,rfl⟩;have h31:=p31 p.sys hp.sys t.rg ht;obtain ⟨L,hL⟩:=lst_e p.sys t.rg;rw[hL] at h31;unfold tchE;simp only[ic133,WI,cellsOf,evA,simprocAttr];refine h31.call frz ?_;by_cases he:lstE p.sys t.rg=0
 ·have hb:(lstE p.sys t.rg != 0)=false:=by simpa using he
  rw[if_neg (fun h=>h he)];simp only[hb,evA,simprocAttr];refine (le63 0 1440 [t.b,t.e] (EY (by simp))).call frz ?_;cases h1:outF 0 1440 [t.b,t.e] with
  | true =>
   simp only[evA,simprocAttr];exact frz
  | false =>
   by_cases h2:t.b>t.e
   ·simp only[h2,evA,simprocAttr];exact frz
   ·simp only[h2,evA,simprocAttr];exact frz
 ·have hb:(lstE p.sys t.rg != 0)=true:=by simpa using he
  rw[if_pos he];simp only[hb,evA,simprocAttr];exact frz
theorem le135 (p:Pln) (hp:PSz p) (i:Int) (c:Car):PC Tryz.prog 135 [plV9 p,.i i,carA c] (.i (carE p.sys c)):=by
 refine ⟨ZF (fok135 true) (QC rfl) ?_,rfl⟩;have h29:=c29 p.sys hp.sys [] (by decide) c.cl c.ft;rw[may_e] at h29;unfold carE;simp only[ic135,WI,cellsOf,evA,simprocAttr];refine h29.call (.cons (GE (k:=0) _ rfl) (.cons (.c .nl) (.cons (.c (.c _ trivial)) (.cons (.c (.c _ trivial)) .nil)))) ?_;simp only[evA,simprocAttr];exact frz
theorem le132 (m:List Tch) (f:FuncId) (x:AV) (g:Nat→Int) (hm:m.length<2 ^ 63) (hx:QR 0 x=true) (hf:∀ i,i<m.length→∀ σ,AC Tryz.prog f [x,.i i,tchA m[i]!] σ fun r τ=>r=.i (g i)∧τ=σ) :
  PC Tryz.prog 132 [.cv (tchR m),.bm f [x]] (.tup [.i (fndE g 0 m.length).1,.i (fndE g 0 m.length).2]):=by
 refine ⟨ZF (fok132 true) (QC rfl) ?_,rfl⟩;simp only[ic132,evA,simprocAttr];refine ZW m.length (fun i s=>(∀ j,j<i→g j=0)∧∃ v2 v3 v4 v5 v9 v10,s=⟨[.cv (tchR m),.bm f [x],v2,v3,v4,v5,.cv (tchR m),.i m.length,.i i,v9,v10],[]⟩) ?_ 0 (QF _) ⟨by omega,_,_,_,_,_,_,rfl⟩;rintro i s hi ⟨hall,v2,v3,v4,v5,v9,v10,rfl⟩;by_cases h:i<m.length
 ·simp only[ic132l0,QJ,h,XP h,tch_ld h,evA,simprocAttr];refine (hf i h _).run ?_;by_cases hg:g i=0
  ·have hb:(g i != 0)=false:=by simpa using hg
   simp only[hb,Q6 (show i+1<2 ^ 63 by omega),evA,simprocAttr];refine W1 [] _ rfl (by first | trivial | omega) (QF _) (by simp) ?_;have hx2:∀ k,QR k (.bm f [x])=true:=fun k=>by simp only[QR,QO,Y8 (QF k) x hx,WH]
   simp only[clip,hx2,if_true];refine ⟨fun j hj=>?_,_,_,_,_,_,_,rfl⟩;rcases QQ.1 hj with hj | rfl
   ·exact hall j hj
   ·exact hg
  ·have hb:(g i != 0)=true:=by simpa using hg
   rw[VO m.length 0 i (QF _) (by omega) (fun j _ hj=>hall j hj) hg];simp only[hb,evA,simprocAttr];exact frz
 ·have:i=m.length:=by omega
  subst this;rw[J7 m.length 0 fun j _ hj=>hall j (by omega)];simp only[ic132l0,QJ,h,evA,simprocAttr];exact frz
theorem le134 (m:List Car) (f:FuncId) (x:AV) (g:Nat→Int) (hm:m.length<2 ^ 63) (hx:QR 0 x=true) (hf:∀ i,i<m.length→∀ σ,AC Tryz.prog f [x,.i i,carA m[i]!] σ fun r τ=>r=.i (g i)∧τ=σ) :
  PC Tryz.prog 134 [.cv (carR m),.bm f [x]] (.tup [.i (fndE g 0 m.length).1,.i (fndE g 0 m.length).2]):=by
 refine ⟨ZF (fok134 true) (QC rfl) ?_,rfl⟩;simp only[ic134,evA,simprocAttr];refine ZW m.length (fun i s=>(∀ j,j<i→g j=0)∧∃ v2 v3 v4 v5 v9 v10,s=⟨[.cv (carR m),.bm f [x],v2,v3,v4,v5,.cv (carR m),.i m.length,.i i,v9,v10],[]⟩) ?_ 0 (QF _) ⟨by omega,_,_,_,_,_,_,rfl⟩;rintro i s hi ⟨hall,v2,v3,v4,v5,v9,v10,rfl⟩;by_cases h:i<m.length
 ·simp only[ic134l0,QJ,h,XP h,car_ld h,evA,simprocAttr];refine (hf i h _).run ?_;by_cases hg:g i=0
  ·have hb:(g i != 0)=false:=by simpa using hg
   simp only[hb,Q6 (show i+1<2 ^ 63 by omega),evA,simprocAttr];refine W1 [] _ rfl (by first | trivial | omega) (QF _) (by simp) ?_;have hx2:∀ k,QR k (.bm f [x])=true:=fun k=>by simp only[QR,QO,Y8 (QF k) x hx,WH]
   simp only[clip,hx2,if_true];refine ⟨fun j hj=>?_,_,_,_,_,_,_,rfl⟩;rcases QQ.1 hj with hj | rfl
   ·exact hall j hj
   ·exact hg
  ·have hb:(g i != 0)=true:=by simpa using hg
   rw[VO m.length 0 i (QF _) (by omega) (fun j _ hj=>hall j hj) hg];simp only[hb,evA,simprocAttr];exact frz
 ·have:i=m.length:=by omega
  subst this;rw[J7 m.length 0 fun j _ hj=>hall j (by omega)];simp only[ic134l0,QJ,h,evA,simprocAttr];exact frz
theorem max3_gt (a b c:Int):decide ((if c>(if b>a then b else a) then c else if b>a then b else a)>8)=(decide (a>8)||decide (b>8)||decide (c>8)):=by
 rw[Q8];simp only[decide_eq_true_eq,WR];split <;> split <;> omega
theorem MQ {l:List Les} {k:Nat} (h:k<l.length) (σ:List AObj):YF 7 [.cv (.rp (F0 l) (k*7))] σ=some (.agg [.i (l[k]!).le,.i (l[k]!).te,.i (l[k]!).ca,.i (l[k]!).b,.i (l[k]!).e,.i (l[k]!).f,.i (l[k]!).o],σ):=Qcl h σ
def lkP (p:Pln):AV:=if (sysE p.sys).2.2≠0∨(dyE p.day).2.2≠0 then .agg (List.replicate 9 (.cv .nils)) else plV9 p
theorem le93 (p:Pln) (hp:PSz p):PA Tryz.prog 93 [plnV p] (.tup [lkP p,.i (plnE p)]):=by
 refine ⟨ZF (fok93 true) (QC rfl) ?_,by unfold lkP;split <;> rfl,rfl⟩;have h53:=c53 p.sys hp.sys;unfold chkV at h53;simp only[ic93,WI,cellsOf,evA,simprocAttr];refine h53.call frz ?_;have hlk0:(sysE p.sys).2.2≠0∨(dyE p.day).2.2≠0→lkP p=.agg (List.replicate 9 (.cv .nils)):=fun h=>by unfold lkP;rw[if_pos h]
 have hlk1:¬ ((sysE p.sys).2.2≠0∨(dyE p.day).2.2≠0)→lkP p=plV9 p:=fun h=>by unfold lkP;rw[if_neg h]
 unfold plnE;by_cases e1:(sysE p.sys).2.2=0
 rotate_left
 ·have hb:((sysE p.sys).2.2 != 0)=true:=by simpa using e1
  rw[if_pos e1,hlk0 (.inl e1)];simp only[hb,evA,simprocAttr];exact .tup (.cons (.agg (.cons (.c (.c _ trivial)) (.cons (.c (.c _ trivial)) (.cons (.c (.c _ trivial)) (.cons (.c (.c _ trivial)) (.cons (.c (.c _ trivial)) (.cons (.c (.c _ trivial)) (.cons (.c (.c _ trivial)) (.cons (.c (.c _ trivial)) (.cons (.c (.c _ trivial)) .nil)))))))))) (.cons (.c (.c _ trivial)) .nil))
 have hb1:((sysE p.sys).2.2 != 0)=false:=by simpa using e1
 rw[if_neg (fun h=>h e1)];simp only[hb1,evA,simprocAttr];refine (le72 p.day hp.day).call ?_;by_cases e2:(dyE p.day).2.2=0
 rotate_left
 ·have hb:((dyE p.day).2.2 != 0)=true:=by simpa using e2
  rw[if_pos e2,hlk0 (.inr e2)];simp only[hb,evA,simprocAttr];exact .tup (.cons (.agg (.cons (.c (.c _ trivial)) (.cons (.c (.c _ trivial)) (.cons (.c (.c _ trivial)) (.cons (.c (.c _ trivial)) (.cons (.c (.c _ trivial)) (.cons (.c (.c _ trivial)) (.cons (.c (.c _ trivial)) (.cons (.c (.c _ trivial)) (.cons (.c (.c _ trivial)) .nil)))))))))) (.cons (.c (.c _ trivial)) .nil))
 have hb2:((dyE p.day).2.2 != 0)=false:=by simpa using e2
 rw[if_neg (fun h=>h e2),hlk1 (fun h=>h.elim (fun h=>h e1) (fun h=>h e2))];have hok:=LO e2;have fin:∀ {σ:List AObj} {z:Int},FrzV anyC σ (.tup [plV9 p,.i z]) (.tup [plV9 p,.i z]):=fun {σ z}=>GE (k:=0) _ rfl
 simp only[hb2,evA,simprocAttr];rw[max3_gt];cases h3:(decide ((p.le.length:Int)>8)||decide ((p.te.length:Int)>8)||decide ((p.ca.length:Int)>8)) with
 | true =>
  rw[if_pos rfl];simp only[evA,simprocAttr];exact fin
 | false =>
 rw[if_neg (by decide)];have hlens:p.le.length≤8∧p.te.length≤8∧p.ca.length≤8:=by simp only[X8,decide_eq_false_iff_not] at h3;omega
 have hcl:=hp.sys.cl;have hw:IntKind.i64.wrap ((p.sys.cl.length:Int)-1)=(p.sys.cl.length:Int)-1:=ZC (by omega);simp only[hw,evA,simprocAttr];refine (le63 0 ((p.sys.cl.length:Int)-1) p.le hp.le).call frz ?_;cases h4:outF 0 ((p.sys.cl.length:Int)-1) p.le with
 | true =>
  rw[if_pos rfl];simp only[evA,simprocAttr];exact fin
 | false =>
 rw[if_neg (by decide)];simp only[evA,simprocAttr];refine (le132 p.te 133 (plV9 p) (fun i=>tchE p.sys p.te[i]!) hp.te rfl (fun i hi σ=>(le133 p hp i p.te[i]! (hp.rg i hi)).call (KW (k:=0) _ rfl) ⟨rfl,rfl⟩)).call (KW (k:=0) _ rfl) ?_;generalize fndE (fun i=>tchE p.sys p.te[i]!) 0 p.te.length=f1;obtain ⟨f1a,f1b⟩:=f1;simp only;by_cases h5:f1b=0
 rotate_left
 ·have hb:(f1b != 0)=true:=by simpa using h5
  rw[if_pos h5];simp only[hb,evA,simprocAttr];exact fin
 have hb5:(f1b != 0)=false:=by simpa using h5
 rw[if_neg (fun h=>h h5)];simp only[hb5,evA,simprocAttr];refine (le134 p.ca 135 (plV9 p) (fun i=>carE p.sys p.ca[i]!) hp.ca rfl (fun i hi σ=>(le135 p hp i p.ca[i]!).call (KW (k:=0) _ rfl) ⟨rfl,rfl⟩)).call (KW (k:=0) _ rfl) ?_;generalize fndE (fun i=>carE p.sys p.ca[i]!) 0 p.ca.length=f2;obtain ⟨f2a,f2b⟩:=f2;simp only;by_cases h6:f2b=0
 rotate_left
 ·have hb:(f2b != 0)=true:=by simpa using h6
  rw[if_pos h6];simp only[hb,evA,simprocAttr];exact fin
 have hb6:(f2b != 0)=false:=by simpa using h6
 rw[if_neg (fun h=>h h6)];simp only[hb6,evA,simprocAttr];have h12:=hok.l12;have hob:∀ o∈[AObj.cells (plnC p),.cells (plC9 p),.cells [.cv (minR p.day.mi),.cv (lesR p.day.ls)]],Z3 3 o=true:=by intro o ho;simp only[ZD,WK,or_false] at ho;rcases ho with rfl | rfl | rfl <;> rfl
 subst h6;refine ZW p.day.ls.length (fun i s=>(∀ j,j<i→whoB p p.day.ls[j]! = false)∧∃ v5 v15 v16,s=⟨[plnV p,.ptr 0 0,.ptr 1 0,.i 0,.ptr 2 0,v5,.b false,.b false,.b false,.b false,.b false,.b false,.cv (lesR p.day.ls),.i p.day.ls.length,.i i,v15,v16],[.cells (plnC p),.cells (plC9 p),.cells [.cv (minR p.day.mi),.cv (lesR p.day.ls)]]⟩) ?_ 0 (QF _) ⟨by omega,_,_,_,rfl⟩;rintro i s hi ⟨hall,v5,v15,v16,rfl⟩;by_cases h:i<p.day.ls.length
 ·have hld:=MQ h;have hany:whoB p p.day.ls[i]! = true→(p.day.ls.any (whoB p))=true:=fun hw=>ZZ.2 ⟨p.day.ls[i]!,by rw[getElem!_pos p.day.ls i h];exact Q2 _,hw⟩
  have hwho:whoB p p.day.ls[i]! = (decide ((p.day.ls[i]!).le≥p.le.length)||decide ((p.day.ls[i]!).te≥p.te.length)||decide ((p.day.ls[i]!).ca≥p.ca.length)):=rfl;generalize hll:p.day.ls[i]! = l at *;obtain ⟨l1,l2,l3,l4,l5,l6,l7⟩:=l;simp only at hwho hld;simp only[ic93l0,QJ,h,F5 h,hld,evA,simprocAttr];have yes:whoB p ⟨l1,l2,l3,l4,l5,l6,l7⟩=true→(p.day.ls.any (whoB p))=true:=hany;cases w1:decide (l1≥(p.le.length:Int)) with
  | true =>
   rw[w1] at hwho;rw[yes (by rw[hwho];rfl),if_pos rfl];simp only[evA,simprocAttr];exact fin
  | false =>
  cases w2:decide (l2≥(p.te.length:Int)) with
  | true =>
   rw[w1,w2] at hwho;rw[yes (by rw[hwho];rfl),if_pos rfl];simp only[w2,evA,simprocAttr];exact fin
  | false =>
  cases w3:decide (l3≥(p.ca.length:Int)) with
  | true =>
   rw[w1,w2,w3] at hwho;rw[yes (by rw[hwho];rfl),if_pos rfl];simp only[w2,w3,evA,simprocAttr];exact fin
  | false =>
   rw[w1,w2,w3] at hwho;simp only[w2,w3,Q6 (show i+1<2 ^ 63 by omega),evA,simprocAttr];refine W1 [.cells (plnC p),.cells (plC9 p),.cells [.cv (minR p.day.mi),.cv (lesR p.day.ls)]] _ rfl (by first | trivial | omega) (QF _) hob ⟨fun j hj=>?_,_,_,_,rfl⟩;rcases QQ.1 hj with hj | rfl
   ·exact hall j hj
   ·rw[hll];exact hwho
 ·have hie:i=p.day.ls.length:=by omega
  have hno:(p.day.ls.any (whoB p))=false:=by rw[W6];intro x hx;obtain ⟨j,hj,rfl⟩:=WN.1 hx;have:=hall j (by omega);rw[getElem!_pos p.day.ls j hj] at this;rw[this];decide
  rw[hno,if_neg (by decide)];simp only[ic93l0,QJ,h,evA,simprocAttr];exact fin
structure LkOk (p:Pln):Prop where
 sys:(sysE p.sys).2.2=0
 day:DyOk p.day
 dy0:(dyE p.day).2.2=0
 le:p.le.length≤8
 te:p.te.length≤8
 ca:p.ca.length≤8
 cls:∀ z∈p.le,0≤z∧z≤(p.sys.cl.length:Int)-1
 tch:∀ i,i<p.te.length→tchE p.sys p.te[i]! = 0
 car:∀ i,i<p.ca.length→carE p.sys p.ca[i]! = 0
 who:∀ i,i<p.day.ls.length→(p.day.ls[i]!).le<p.le.length∧(p.day.ls[i]!).te<p.te.length∧(p.day.ls[i]!).ca<p.ca.length
theorem Qdc {p:Pln} (h:plnE p=0):LkOk p:=by
 unfold plnE at h;split at h
 ·rename_i h1;exact absurd h h1
 rename_i h1;split at h
 ·rename_i h2;exact absurd h h2
 rename_i h2;split at h
 ·exact absurd h (by decide)
 rename_i h3;split at h
 ·exact absurd h (by decide)
 rename_i h4;split at h
 ·rename_i h5;exact absurd h h5
 rename_i h5;split at h
 ·rename_i h6;exact absurd h h6
 rename_i h6;split at h
 ·exact absurd h (by decide)
 rename_i h7;have h3:(decide ((p.le.length:Int)>8)||decide ((p.te.length:Int)>8)||decide ((p.ca.length:Int)>8))=false:=by simpa using h3
 simp only[X8,decide_eq_false_iff_not] at h3;have h7:p.day.ls.any (whoB p)=false:=by cases hh:p.day.ls.any (whoB p) with | false=>rfl | true=>exact absurd hh h7
 rw[W6] at h7;refine ⟨JE.1 h1,LO (JE.1 h2),JE.1 h2,by omega,by omega,by omega,VL.1 (by cases hh:outF 0 ((p.sys.cl.length:Int)-1) p.le with | false=>rfl | true=>exact absurd hh h4),fun i hi=>LJ _ 0 (JE.1 h5) i (QF _) (by omega),fun i hi=>LJ _ 0 (JE.1 h6) i (QF _) (by omega),fun i hi=>?_⟩;have:=h7 p.day.ls[i]! (by rw[getElem!_pos p.day.ls i hi];exact Q2 _);unfold whoB at this;simp only[WR,decide_eq_true_eq,not_or] at this;omega
def hrF (f:Les→Int) (n:Nat) (ls:List Les):Nat→List Int
 | 0=>List.replicate n 0
 | k+1=>(hrF f n ls k).set (f ls[k]!).toNat (gI (hrF f n ls k) (f ls[k]!).toNat+((ls[k]!).e-(ls[k]!).b))
theorem DC (f:Les→Int) (n:Nat) (ls:List Les):∀ k,(hrF f n ls k).length=n
 | 0=>by simp[hrF]
 | k+1=>by simp[hrF,DC f n ls k]
theorem Qar {f:Les→Int} {n:Nat} {ls:List Les} (h:∀ i,i<ls.length→0≤(ls[i]!).e-(ls[i]!).b∧(ls[i]!).e-(ls[i]!).b≤1440):∀ k,k≤ls.length→∀ j,0≤gI (hrF f n ls k) j∧gI (hrF f n ls k) j≤1440*k
 | 0,_,j=>by unfold hrF gI;rw[YN];split <;> simp
 | k+1,hk,j=>by
  have ih:=Qar (f:=f) (n:=n) h k (by omega);have h1:=h k (by omega);have ij:=ih j;have ik:=ih (f ls[k]!).toNat;unfold hrF;by_cases hl:(f ls[k]!).toNat<(hrF f n ls k).length
  ·rw[JO hl];split <;> omega
  ·rw[KE (by omega)];omega
abbrev hrsV (p:Pln):AV :=
 .agg [ints (hrF (·.le) p.le.length p.day.ls p.day.ls.length),ints (hrF (·.te) p.te.length p.day.ls p.day.ls.length),ints (hrF (·.ca) p.ca.length p.day.ls p.day.ls.length)]
def hrsA (p:Pln):AV:=if plnE p≠0 then .tup [.agg [ints [],ints [],ints []],.i (plnE p)] else .tup [hrsV p,.i 0]
theorem Qbf (k:Nat) (zs:List Int):Z3 k (.cells (zs.map AV.i))=true:=by
 simp only[Z3];rw[Z8];intro v hv;obtain ⟨z,_,rfl⟩:=ZP.1 hv;rfl
theorem le37 (p:Pln) (hp:PSz p):PC Tryz.prog 37 [plnV p] (hrsA p):=by
 refine ⟨ZF (fok37 true) (QC rfl) ?_,by unfold hrsA;split <;> rfl⟩;simp only[ic37,WI,cellsOf,evA,simprocAttr];refine (le93 p hp).call ?_;unfold hrsA;by_cases he:plnE p=0
 rotate_left
 ·have hb:(plnE p != 0)=true:=by simpa using he
  have hl2:lkP p=plV9 p∨lkP p=.agg (List.replicate 9 (.cv .nils)):=by
   unfold lkP;split
   ·exact .inr rfl
   ·exact .inl rfl
  rw[if_pos he];rcases hl2 with h | h <;> rw[h]
  ·simp only[hb,evA,simprocAttr];exact .tup (.cons (.agg (.cons (.c .nl) (.cons (.c .nl) (.cons (.c .nl) .nil)))) (.cons (.c (.c _ trivial)) .nil))
  ·simp only[hb,List.replicate,evA,simprocAttr];exact .tup (.cons (.agg (.cons (.c .nl) (.cons (.c .nl) (.cons (.c .nl) .nil)))) (.cons (.c (.c _ trivial)) .nil))
 have hok:=Qdc he;have hlk:lkP p=plV9 p:=by unfold lkP;rw[if_neg (fun h=>h.elim (fun h=>h hok.sys) (fun h=>h hok.dy0))]
 have hb:(plnE p != 0)=false:=by simpa using he
 rw[if_neg (fun h=>h he),hlk];simp only[hb,he,evA,simprocAttr];have m1:=fun σ=>MP (n:=p.le.length) (WJ hok.le (by decide)) σ
 have m2:=fun σ=>MP (n:=p.te.length) (WJ hok.te (by decide)) σ
 have m3:=fun σ=>MP (n:=p.ca.length) (WJ hok.ca (by decide)) σ
 refine DW_s [] [(2,9),(2,14),(4,9),(4,14),(7,4),(7,14),(9,4),(9,14),(12,4),(12,9),(14,4),(14,9)] hmix (by kernel_rfl) rfl ?_;simp only[m1,m2,m3,evA,simprocAttr];have h12:=hok.day.l12;have hob:∀ a b c:List Int,∀ o∈[AObj.cells (plnC p),.cells [.sl 3 0 p.le.length 1,.sl 4 0 p.te.length 1,.sl 5 0 p.ca.length 1],.cells (plC9 p),.cells (a.map AV.i),.cells (b.map AV.i),.cells (c.map AV.i)],Z3 6 o=true:=by
  intro a b c o ho;simp only[ZD,WK,or_false] at ho;rcases ho with rfl | rfl | rfl | rfl | rfl | rfl
  ·rfl
  ·rfl
  ·rfl
  ·exact Qbf _ _
  ·exact Qbf _ _
  ·exact Qbf _ _
 have hdur:∀ i,i<p.day.ls.length→0≤(p.day.ls[i]!).e-(p.day.ls[i]!).b∧(p.day.ls[i]!).e-(p.day.ls[i]!).b≤1440:=fun i hi=>by have hl:=hok.day.les i hi;have:=hl.b0;have:=hl.be;have:=hl.e1;omega
 refine ZW p.day.ls.length (fun k s=>∃ v5 v6 v11,s=⟨[plnV p,.ptr 0 0,.ptr 1 0,.i 0,.ptr 2 0,v5,v6,.b false,.cv (lesR p.day.ls),.i p.day.ls.length,.i k,v11],[.cells (plnC p),.cells [.sl 3 0 p.le.length 1,.sl 4 0 p.te.length 1,.sl 5 0 p.ca.length 1],.cells (plC9 p),.cells ((hrF (·.le) p.le.length p.day.ls k).map AV.i),.cells ((hrF (·.te) p.te.length p.day.ls k).map AV.i),.cells ((hrF (·.ca) p.ca.length p.day.ls k).map AV.i)]⟩) ?_ 0 (QF _) ⟨_,_,_,rfl⟩;rintro k s hk ⟨v5,v6,v11,rfl⟩;by_cases h:k<p.day.ls.length
 ·have hld:=MQ h;have hd:=hdur k h;have hles:=hok.day.les k h;have hwho:=hok.who k h;have b1:=Qar (f:=(·.le)) (n:=p.le.length) hdur k hk;have b2:=Qar (f:=(·.te)) (n:=p.te.length) hdur k hk;have b3:=Qar (f:=(·.ca)) (n:=p.ca.length) hdur k hk;have n1:=DC (·.le) p.le.length p.day.ls k;have n2:=DC (·.te) p.te.length p.day.ls k;have n3:=DC (·.ca) p.ca.length p.day.ls k;have s1:hrF (·.le) p.le.length p.day.ls (k+1)=(hrF (·.le) p.le.length p.day.ls k).set (p.day.ls[k]!).le.toNat (gI (hrF (·.le) p.le.length p.day.ls k) (p.day.ls[k]!).le.toNat+((p.day.ls[k]!).e-(p.day.ls[k]!).b)):=rfl;have s2:hrF (·.te) p.te.length p.day.ls (k+1)=(hrF (·.te) p.te.length p.day.ls k).set (p.day.ls[k]!).te.toNat (gI (hrF (·.te) p.te.length p.day.ls k) (p.day.ls[k]!).te.toNat+((p.day.ls[k]!).e-(p.day.ls[k]!).b)):=rfl;have s3:hrF (·.ca) p.ca.length p.day.ls (k+1)=(hrF (·.ca) p.ca.length p.day.ls k).set (p.day.ls[k]!).ca.toNat (gI (hrF (·.ca) p.ca.length p.day.ls k) (p.day.ls[k]!).ca.toNat+((p.day.ls[k]!).e-(p.day.ls[k]!).b)):=rfl
  rw[s1,s2,s3];generalize hrF (·.le) p.le.length p.day.ls k=A at *;generalize hrF (·.te) p.te.length p.day.ls k=B at *;generalize hrF (·.ca) p.ca.length p.day.ls k=C at *;have hles1:=hles.le;have hles2:=hles.te;have hles3:=hles.ca;clear s1 s2 s3 hles;generalize p.day.ls[k]! = l at *;obtain ⟨l1,l2,l3,l4,l5,l6,l7⟩:=l;simp only at hles1 hles2 hles3 hwho hd hld ⊢;obtain ⟨x,rfl⟩:∃ x:Nat,l1=(x:Int):=⟨l1.toNat,by omega⟩;obtain ⟨y,rfl⟩:∃ y:Nat,l2=(y:Int):=⟨l2.toNat,by omega⟩;obtain ⟨z,rfl⟩:∃ z:Nat,l3=(z:Int):=⟨l3.toNat,by omega⟩;have hx2:x<p.le.length:=by omega
  have hy2:y<p.te.length:=by omega
  have hz2:z<p.ca.length:=by omega
  simp only[Int.toNat_natCast];have hwn:IntKind.i64.wrap (l5-l4)=l5-l4:=ZC (by omega);have lA:=V1 (zs:=A) (k:=x) (by omega);have lB:=V1 (zs:=B) (k:=y) (by omega);have lC:=V1 (zs:=C) (k:=z) (by omega);have wA:IntKind.i64.wrap (A[x]?.getD 0+(l5-l4))=gI A x+(l5-l4):=ZC (by have:=b1 x;unfold gI at this;omega);have wB:IntKind.i64.wrap (B[y]?.getD 0+(l5-l4))=gI B y+(l5-l4):=ZC (by have:=b2 y;unfold gI at this;omega);have wC:IntKind.i64.wrap (C[z]?.getD 0+(l5-l4))=gI C z+(l5-l4):=ZC (by have:=b3 z;unfold gI at this;omega);have eA:x+1≤A.length:=by omega
  have eB:y+1≤B.length:=by omega
  have eC:z+1≤C.length:=by omega
  simp only[ic37l0,QJ,h,F5 h,hld,hwn,W9 hx2,W9 hy2,W9 hz2,lA,lB,lC,wA,wB,wC,ZK,eA,eB,eC,GC,ZV,Q6 (show k+1<2 ^ 63 by omega),evA,simprocAttr];exact W1 [.cells (plnC p),.cells [.sl 3 0 p.le.length 1,.sl 4 0 p.te.length 1,.sl 5 0 p.ca.length 1],.cells (plC9 p),.cells ((A.set x (gI A x+(l5-l4))).map AV.i),.cells ((B.set y (gI B y+(l5-l4))).map AV.i),.cells ((C.set z (gI C z+(l5-l4))).map AV.i)] _ rfl (by first | trivial | omega) (QF _) (hob _ _ _) ⟨_,_,_,rfl⟩
 ·have hke:k=p.day.ls.length:=by omega
  subst hke;simp only[ic37l0,QJ,h,evA,simprocAttr];exact .tup (.cons (.agg (.cons (U4 (fun _=>trivial) (DC _ _ _ _).symm rfl) (.cons (U4 (fun _=>trivial) (DC _ _ _ _).symm rfl) (.cons (U4 (fun _=>trivial) (DC _ _ _ _).symm rfl) .nil)))) (.cons (.c (.c _ trivial)) .nil))
end Go.Proofs.YtgkidpolomhghaaGreatDoor.AM
namespace Go.Proofs.YtgkidpolomhghaaGreatDoor.Pl
abbrev Mem:=List (List Int × Int × Int)
def fndM:Mem→List Int→Nat→Option (Nat × Int × Int)
 | [],_,_=>none
 | (k',v)::M,key,i=>if key=k' then some (i,v) else fndM M key (i+1)
def putM (M:Mem) (key:List Int) (v:Int × Int):Mem:=match fndM M key 0 with
 | some (i,_)=>M.set i (key,v)
 | none=>M++[(key,v)]
def c2:Cost→Int × Int
 | none=>(1073741824,0)
 | some c=>c
def TF (a b:Int × Int):Bool:=decide (a.1>b.1)||(a.1 == b.1&&decide (a.2>b.2))
def lstX (m:Int) (a b:Int × Int):Int × Int:=if TF a (b.1+1,b.2+m)=true then (b.1+1,b.2+m) else a
section
variable (ps:List Pat)
def lstF:Nat→Nat→List Int→Mem→(Int × Int) × Mem
 | 0,_,_,M=>((0,0),M)
 | f + 1,k,l,M =>
  if J9 l=true then ((0,0),M)
  else if ps.length≤k then ((1073741824,0),M)
  else match fndM M ((k:Int)::l) 0 with
   | some (_,v)=>(v,M)
   | none =>
    if afL (ps[k]!).1 l=l then ((lstF f (k+1) l M).1,putM (lstF f (k+1) l M).2 ((k:Int)::l) (lstF f (k+1) l M).1)
    else (lstX (ps[k]!).2 (lstF f (k+1) l M).1 (lstF f k (afL (ps[k]!).1 l) (lstF f (k+1) l M).2).1,
     putM (lstF f k (afL (ps[k]!).1 l) (lstF f (k+1) l M).2).2 ((k:Int)::l) (lstX (ps[k]!).2 (lstF f (k+1) l M).1 (lstF f k (afL (ps[k]!).1 l) (lstF f (k+1) l M).2).1))
variable {ps}
theorem Qbs:∀ {M:Mem} {key:List Int} {i j:Nat} {v:Int × Int},fndM M key i=some (j,v)→(key,v)∈M
 | [],_,_,_,_,h=>by cases h
 | (k',w)::M,key,i,j,v,h=>by
  unfold fndM at h;split at h
  ·rename_i he;cases h;rw[he];exact List.mem_cons_self ..
  ·exact WU _ (Qbs h)
def N3 (l:List Int):Prop:=∀ i,i<l.length→0≤gI l i∧gI l i≤3
theorem N3.nn {l:List Int} (h:N3 l):NN l:=fun i hi=>(h i hi).1
theorem N3.af {l:List Int} (h:N3 l) (s:Int):N3 (afL s l):=fun i hi=>by
 rw[JQ] at hi;rw[G8 hi];have:=h i hi;split <;> omega
def KeyW (key:List Int):Prop:=key.length=7∧∀ i,i<7→0≤gI key i∧gI key i≤100
theorem I8 {k:Nat} {l:List Int} (hk:k≤12) (h6:l.length=6) (h:N3 l):KeyW ((k:Int)::l):=by
 refine ⟨by simp[h6],fun i hi=>?_⟩;cases i with
 | zero=>simp[gI];omega
 | succ i =>
  have:=h i (by omega);simp only[gI,List.getElem?_cons_succ] at this ⊢;omega
def QaP (ps:List Pat) (M:Mem):Prop:=∀ e∈M,KeyW e.1∧e.2=c2 (fewV ps (gI e.1 0).toNat e.1.tail)
theorem AE {M:Mem} {key:List Int} {v:Int × Int} (h:QaP ps M) (hl:KeyW key) (hv:v=c2 (fewV ps (gI key 0).toNat key.tail)):QaP ps (putM M key v):=by
 unfold putM;split
 ·intro e he;rcases List.mem_or_eq_of_mem_set he with h2 | h2
  ·exact h e h2
  ·rw[h2];exact ⟨hl,hv⟩
 ·intro e he;rcases YV.1 he with h2 | h2
  ·exact h e h2
  ·rw[WZ.1 h2];exact ⟨hl,hv⟩
def MtOk (ps:List Pat):Prop:=∀ k,k<ps.length→0≤(ps[k]!).2∧(ps[k]!).2≤100000
theorem DI (hm:MtOk ps):∀ (f k:Nat) (l:List Int) (a b:Int),NN l→fewO ps f k l=some (a,b)→0≤a∧a≤sumN l∧0≤b∧b≤100000*a
 | 0,_,_,_,_,_,h=>by cases h
 | f+1,k,l,a,b,hn,h=>by
  unfold fewO at h;split at h
  ·cases h;exact ⟨by omega,by omega,by omega,by omega⟩
  split at h
  ·cases h
  rename_i hk;split at h
  ·exact DI hm f _ _ _ _ hn h
  rename_i ha;rcases C0 (fewO ps f (k+1) l) (ps[k]!).2 (fewO ps f k (afL (ps[k]!).1 l)) with h2 | ⟨x,hx,h2⟩
  ·rw[h2] at h;exact DI hm f _ _ _ _ hn h
  ·rw[h2] at h;obtain ⟨c,d⟩:=x;cases h;have h3:=DI hm f _ _ _ _ (hn.af _) hx;have h4:=R3 hn ha;have h5:=hm k (by omega);simp only;omega
theorem c2_best {A B:Cost} {m:Int} (hA:∀ a b,A=some (a,b)→a<1073741823) (hB:∀ a b,B=some (a,b)→a<1073741823):c2 (TZ A m B)=lstX m (c2 A) (c2 B):=by
 unfold lstX;cases B with
 | none =>
  simp only[TZ];cases A with
  | none=>rw[if_neg (by simp[TF,c2])]
  | some a =>
   obtain ⟨a1,a2⟩:=a;have:=hA a1 a2 rfl;rw[if_neg];simp only[TF,c2,WR,QD,beq_iff_eq];rintro (h | ⟨h,_⟩)
   ·have:=of_decide_eq_true h;omega
   ·omega
 | some b =>
  obtain ⟨b1,b2⟩:=b;have hb:=hB b1 b2 rfl;cases A with
  | none =>
   rw[if_pos]
   ·rfl
   ·simp only[TF,c2,WR];exact .inl (decide_eq_true (by omega))
  | some a =>
   simp only[TZ];show c2 (if TF a (b1+1,b2+m)=true then _ else _)=_;by_cases h:TF a (b1+1,b2+m)=true
   ·rw[if_pos h];show _=if TF a (b1+1,b2+m)=true then _ else _
    rw[if_pos h];rfl
   ·rw[if_neg h];show _=if TF a (b1+1,b2+m)=true then _ else _
    rw[if_neg h]
theorem O6 (hm:MtOk ps) (h12:ps.length≤12):∀ (f k:Nat) (l:List Int) (M:Mem),N3 l→l.length=6→sumN l<1000→ps.length-k+sumN l<f→QaP ps M→(lstF ps f k l M).1=c2 (fewV ps k l)∧QaP ps (lstF ps f k l M).2
 | 0,_,_,_,_,_,_,h,_=>absurd h (W5 _)
 | f + 1,k,l,M,hn3,h6,hs,hf,hM=>by
  have hn:=hn3.nn;unfold lstF;cases hz:J9 l with
  | true=>rw[if_pos rfl,LK hn hz];exact ⟨rfl,hM⟩
  | false =>
   rw[if_neg (by decide)];by_cases hk:ps.length≤k
   ·rw[if_pos hk,CL hn hz hk];exact ⟨rfl,hM⟩
   rw[if_neg hk];cases hfd:fndM M ((k:Int)::l) 0 with
   | some p =>
    obtain ⟨i,v⟩:=p;have:=(hM _ (Qbs hfd)).2;refine ⟨?_,hM⟩;simpa[gI] using this
   | none =>
    have hk2:k<ps.length:=by omega
    obtain ⟨h1,h2⟩:=O6 hm h12 f (k+1) l M hn3 h6 hs (by omega) hM;simp only;by_cases ha:afL (ps[k]!).1 l=l
    ·rw[if_pos ha,FB hn hz hk2 ha];exact ⟨h1,AE h2 (I8 (by omega) h6 hn3) (by rw[h1,← FB hn hz hk2 ha];simp[gI])⟩
    ·have hlt:=R3 hn ha;obtain ⟨g1,g2⟩:=O6 hm h12 f k (afL (ps[k]!).1 l) (lstF ps f (k+1) l M).2 (hn3.af _) (by rw[JQ,h6]) (by omega) (by omega) h2;rw[if_neg ha,FC hn hz hk2 ha];have e:=c2_best (A:=fewV ps (k+1) l) (B:=fewV ps k (afL (ps[k]!).1 l)) (m:=(ps[k]!).2) (fun a b h=>by have:=DI hm _ _ _ _ _ hn h;omega) (fun a b h=>by have:=DI hm _ _ _ _ _ (hn.af _) h;omega);rw[e,← h1,← g1];refine ⟨rfl,AE g2 (I8 (by omega) h6 hn3) ?_⟩;rw[h1,g1,← e,← FC hn hz hk2 ha];simp[gI]
end
section
variable {ps:List Pat} (m:Nat)
theorem Qaw {l:List Int} {i:Nat} (h:i<l.length):gI (l++List.replicate m 0) i=gI l i:=by
 unfold gI;rw[QE h]
theorem MX {l:List Int} {i:Nat} (h:l.length≤i):gI (l++List.replicate m 0) i=0:=by
 unfold gI;rw[QS h,YN];split <;> rfl
theorem BA (s:Int) (l:List Int):afL s (l++List.replicate m 0)=afL s l++List.replicate m 0:=by
 refine B9 (by simp[JQ]) fun i hi=>?_
 rw[JQ] at hi;rw[G8 hi];by_cases h:i<l.length
 ·rw[Qaw m h,Qaw m (by rw[JQ];exact h),G8 h]
 ·rw[MX m (by omega),MX m (by rw[JQ];omega)];split <;> rfl
theorem SR (l:List Int):J9 (l++List.replicate m 0)=J9 l:=by
 unfold J9;rw[List.all_append];have:(List.replicate m (0:Int)).all (· == 0)=true:=by rw[Q1];intro x hx;rw[List.eq_of_mem_replicate hx];rfl
 rw[this,WH]
theorem QbW (l:List Int):sumN (l++List.replicate m 0)=sumN l:=by
 unfold sumN;rw[ZS,List.sum_append,List.map_replicate];simp
theorem C4 {s:Int} {l:List Int}:afL s (l++List.replicate m 0)=l++List.replicate m 0↔afL s l=l:=by
 rw[BA];exact ⟨fun h=>List.append_cancel_right h,fun h=>by rw[h]⟩
theorem CM:∀ (f k:Nat) (l:List Int),fewO ps f k (l++List.replicate m 0)=fewO ps f k l
 | 0,_,_=>rfl
 | f+1,k,l=>by simp only[fewO,SR,C4];rw[BA,CM f (k+1) l,CM f k _]
theorem OD (k:Nat) (l:List Int):fewV ps k (l++List.replicate m 0)=fewV ps k l:=by
 unfold fewV;rw[QbW,CM]
theorem QeX (k:Nat) (l:List Int):EC ps k (l++List.replicate m 0)=EC ps k l:=by
 unfold EC;simp only[C4];rw[BA,OD,OD]
theorem Qas:∀ (f k:Nat) (l:List Int),grL ps f k (l++List.replicate m 0)=grL ps f k l
 | 0,_,_=>rfl
 | f+1,k,l=>by simp only[grL,SR,QeX];rw[BA,Qas f k _,Qas f (k+1) l]
end
section
variable {ps:List Pat}
theorem few_zero (hm:MtOk ps) {k:Nat} {l:List Int} {b:Int} (hn:NN l) (h:fewV ps k l=some (0,b)):J9 l=true:=by
 obtain ⟨h1,_,h3,_⟩:=EM (fun k hk=>(hm k hk).1) (ps.length-k+sumN l+1) k l 0 b hn (by omega) h;have hnil:grL ps (ps.length-k+sumN l+1) k l=[]:=ZT (by omega);rw[hnil] at h3;refine OW.2 fun i hi=>?_
 have:=h3 i hi;have:=hn i hi;simp[YJ] at *;omega
theorem few_lt {k:Nat} {l:List Int} {c:Int × Int} (hn:NN l) (hz:J9 l=false) (h:fewV ps k l=some c):k<ps.length:=by
 apply Classical.byContradiction;intro hk;rw[CL hn hz (by omega)] at h;cases h
theorem few_skip {k:Nat} {l:List Int} {c:Int × Int} (hn:NN l) (hz:J9 l=false) (h:fewV ps k l=some c) (ht:EC ps k l=false):fewV ps (k+1) l=some c:=by
 have hk:=few_lt hn hz h;by_cases ha:afL (ps[k]!).1 l=l
 ·rw[← FB hn hz hk ha];exact h
 ·have e:=FC hn hz hk ha;rcases C0 (fewV ps (k+1) l) (ps[k]!).2 (fewV ps k (afL (ps[k]!).1 l)) with h2 | ⟨x,hx,h2⟩
  ·rw[← h2,← e];exact h
  ·rw[h2] at e;unfold EC at ht;rw[hx,e,decide_eq_false ha] at ht;simp at ht
theorem QeY (hm:MtOk ps) {k:Nat} {l:List Int} {c:Int × Int} (hn:NN l) (hs:sumN l<1000) (h:fewV ps k l=some c):EC ps k l=(!decide (afL (ps[k]!).1 l=l)&&(c == ((c2 (fewV ps k (afL (ps[k]!).1 l))).1+1,(c2 (fewV ps k (afL (ps[k]!).1 l))).2+(ps[k]!).2))):=by
 unfold EC;congr 1;rw[h];cases hx:fewV ps k (afL (ps[k]!).1 l) with
 | none =>
  have hb:=DI hm _ _ _ _ _ hn (show fewO ps _ k l=some (c.1,c.2) from h);symm;rw[beq_eq_false_iff_ne];intro e;have:=congrArg Prod.fst e;simp only[c2] at this;omega
 | some x =>
  simp only[c2];rw[Q8];simp
end
end Go.Proofs.YtgkidpolomhghaaGreatDoor.Pl
namespace Go.Proofs.YtgkidpolomhghaaGreatDoor.AM
variable [Dr]
open Go Pl
def afK (s:Int) (l:List Int):Nat→List Int
 | 0=>l
 | k+1=>if bit s k then (afK s l k).set k (max 0 (gI l k-1)) else afK s l k
theorem OR (s:Int) (l:List Int):∀ k,(afK s l k).length=l.length
 | 0=>rfl
 | k+1=>by unfold afK;split <;> simp[OR s l k]
theorem QbJ (s:Int) (l:List Int):∀ (k:Nat),k≤l.length→∀ j,gI (afK s l k) j=if j<k∧bit s j=true then max 0 (gI l j-1) else gI l j
 | 0,_,j=>by rw[if_neg (by omega)];rfl
 | k + 1,hk,j=>by
  have ih:=QbJ s l k (by omega) j;unfold afK;by_cases hb:bit s k=true
  ·rw[if_pos hb,JO (by rw[OR];omega)];by_cases e:j=k
   ·rw[if_pos e,if_pos ⟨by omega,by rw[e];exact hb⟩,e]
   ·rw[if_neg e,ih];by_cases h2:j<k∧bit s j=true
    ·rw[if_pos h2,if_pos ⟨by omega,h2.2⟩]
    ·rw[if_neg h2,if_neg (fun h=>h2 ⟨by omega,h.2⟩)]
  ·rw[if_neg hb,ih];by_cases h2:j<k∧bit s j=true
   ·rw[if_pos h2,if_pos ⟨by omega,h2.2⟩]
   ·rw[if_neg h2,if_neg (fun h=>h2 ⟨by
     have:j≠k:=fun e=>hb (by rw[← e];exact h.2)
     omega,h.2⟩)]
theorem afK_end (s:Int) (l:List Int):afK s l l.length=afL s l:=by
 refine B9 (by rw[OR,JQ]) fun i hi=>?_
 rw[OR] at hi;rw[QbJ s l _ (QG _),G8 hi];by_cases hb:bit s i=true
 ·rw[if_pos ⟨hi,hb⟩,if_pos hb]
 ·rw[if_neg (fun h=>hb h.2),if_neg hb]
theorem ia_arr {n l off k:Nat} (h:k<n) (σ:List AObj):PD n 1 [.ptr l off,.cv (.int .i64 k)] σ=some (.ptr l (off+k),σ):=by
 simp[PD,h]
theorem D8:∀ {l:List Int},l.length=6→∃ a b c d e f,l=[a,b,c,d,e,f]
 | [a,b,c,d,e,f],_=>⟨a,b,c,d,e,f,rfl⟩
theorem le58 (l:List Int) (h6:l.length=6) (hb:∀ i,i<6→0≤gI l i∧gI l i≤3) (s m:Int) (hs:0≤s∧s<64):PC Tryz.prog 58 [.agg (l.map AV.i),.agg [.i s,.i m]] (.agg ((afL s l).map AV.i)):=by
 refine ⟨ZF (fok58 true) (QC rfl) ?_,Qbf 0 _⟩;obtain ⟨a,ha⟩:∃ a:Nat,s=(a:Int):=⟨s.toNat,by omega⟩;simp only[ic58,WI,cellsOf,evA,simprocAttr];refine ZW 6 (fun k st=>∃ v5 v7 v8,st=⟨[.agg (l.map AV.i),.agg [.i s,.i m],.ptr 0 0,.ptr 1 0,.ptr 2 0,v5,.i k,v7,v8],[.cells ((afK s l k).map AV.i),.cells [.i s,.i m],.cells [.i 0,.i 0,.i 0,.i 0,.i 0,.i 0]]⟩) ?_ 0 (QF _) ⟨_,_,_,rfl⟩;rintro k st hk ⟨v5,v7,v8,rfl⟩;have hl:=OR s l k;by_cases h:k<6
 ·have hd:decide ((k:Int)<6)=true:=decide_eq_true (by omega);have hsh:=ishr a k (by omega);have hsmall:a >>> k<2 ^ 62:=WJ (by rw[JR];exact Nat.div_le_self _ _) (Nat.lt_trans (show a<64 by omega) (by decide));have hand:=iand1 hsmall;have hbm:=QbC (i:=k) ha;have hg:gI (afK s l k) k=gI l k:=by rw[QbJ s l k (by omega),if_neg (by omega)]
  have hstep:afK s l (k+1)=if bit s k then (afK s l k).set k (max 0 (gI l k-1)) else afK s l k:=rfl
  generalize afK s l k=W at *;rw[hstep];have la:=V1 (zs:=W) (k:=k) (by omega);rw[show W[k]?.getD 0=gI l k from hg] at la;have hlt:k+1≤W.length:=by omega
  have hbk:=hb k h;have hw:IntKind.i64.wrap (gI l k-1)=gI l k-1:=ZC (by omega);rw[ha];cases hbt:bit s k with
  | true =>
   rw[hbt,if_pos rfl] at hbm;rw[← ha,hbt,if_pos rfl];have hmx:(if gI l k-1>0 then gI l k-1 else 0)=max 0 (gI l k-1):=by
    by_cases e:gI l k-1>0
    ·rw[if_pos e];omega
    ·rw[if_neg e];omega
   rw[ha];simp only[ic58l0,hd,hsh,hand,hbm,ia_arr h,ZV,la,hw,hmx,ZK,hlt,GC,evA,simprocAttr];exact ZL (by first | trivial | omega) ⟨_,_,_,by rw[ZC (by omega)];rfl⟩
  | false =>
   rw[hbt,if_neg (by decide)] at hbm;rw[← ha,hbt,if_neg (by decide),ha];simp only[ic58l0,hd,hsh,hand,hbm,evA,simprocAttr];exact ZL (by first | trivial | omega) ⟨_,_,_,by rw[ZC (by omega)];rfl⟩
 ·have hke:k=6:=by omega
  have he:afK s l k=afL s l:=by rw[hke,← h6];exact afK_end s l
  subst hke;have hl2:(afL s l).length=6:=by rw[JQ,h6]
  rw[he];obtain ⟨x0,x1,x2,x3,x4,x5,hx⟩:=D8 hl2;rw[hx];simp only[ic58l0,Q0,WS,evA,simprocAttr];exact frz
theorem le59 (a b:Int × Int):PC Tryz.prog 59 [.agg [.i a.1,.i a.2],.agg [.i b.1,.i b.2]] (.b (TF a b)):=by
 obtain ⟨a1,a2⟩:=a;obtain ⟨b1,b2⟩:=b;refine ⟨ZF (fok59 true) (QC rfl) ?_,rfl⟩;simp only[ic59,WI,cellsOf,TF,evA,simprocAttr];cases h1:decide (a1>b1) with
 | true =>
  simp only[h1,US,evA,simprocAttr];exact frz
 | false =>
  cases h2:(a1 == b1) with
  | true =>
   simp only[h1,h2,Y3,XI,evA,simprocAttr];exact frz
  | false =>
   simp only[h1,h2,Y3,Bool.false_and,evA,simprocAttr];exact frz
end Go.Proofs.YtgkidpolomhghaaGreatDoor.AM
namespace Go.Proofs.YtgkidpolomhghaaGreatDoor.AM
variable [Dr]
open Go
structure IA (P:Program) (vs:List Nat) (N:Nat) (ps:List Nat) (vals:List AV) (ia ib:IC) (R:XC):Prop where
 vars:R.vars=vs
 ntmps:R.ntmps=N
 params:R.params=ps
 vals:R.vals=vals
 st:R.state=.ready
 pd:R.pending=none
 ca:QL P vs N R.assign=some ia
 cb:QL P vs N R.body=some ib
def KB (R:XC):XC:={ R with state:=.busy,pending:=none }
def Qby (R:XC):XC:={ R with state:=.exhausted,pending:=none }
section
variable {P:Program} {vs:List Nat} {N:Nat} {ps:List Nat} {vals:List AV} {ia ib:IC} {R:XC}
theorem IA.back (h:IA P vs N ps vals ia ib R):({ KB R with state:=.ready,pending:=none }:XC)=R:=by
 have h1:=h.st;have h2:=h.pd;unfold KB;cases R;simp_all
theorem RW_g {fx:Fx} {s:St} {Q:Exit→St→Prop} {g:Opd} {ps:Array Nat} {assign body:Code} {gf:FuncId} {cap:List AV} (ia ib:IC) (hg:WY s.vals [] g=.fn (.func gf) cap) (hvl:s.vals.length≤fx.vars.length) (hr0:∀ l0,fx.r=some l0→∃ r0,s.heap[l0]? = some (.loop r0))
  (hca:QL P fx.vars fx.N assign=some ia) (hcb:QL P fx.vars fx.N body=some ib)
  (h:∀ R,IA P fx.vars fx.N ps.toList s.vals ia ib R→AC P gf (.yld s.heap.length::cap) (s.heap++[.loop R]) fun _ σ'=>U9 P fx s.vals s.heap.length Q σ'):RW P fx g ps assign body s Q :=
 RW_s hg hvl hr0 (h _ ⟨rfl,rfl,rfl,rfl,rfl,rfl,hca,hcb⟩)
theorem YC_g {l:Nat} {σ:List AObj} {args:List AV} {Q:AV→List AObj→Prop} (hR:IA P vs N ps vals ia ib R) (hl:σ[l]? = some (.loop R)) (hargs:args.length=ps.length)
  (hvp:(decide vs.Nodup&&ps.all fun t=>vs.contains t&&decide (t<N))=true)
  (h:IS P ⟨vs,N,some l,σ.length⟩ ia ⟨JM vs ps args vals,σ⟩ (kAsg P ⟨vs,N,some l,σ.length⟩ l ib Q) .mk .mk):YC P l args σ Q:=by
 obtain ⟨e1,e2,e3,e4,e5,e6,e7,e8⟩:=hR;refine QeH (r:=R) ia ib hl e5 (by rw[e3];exact hargs) (by rw[e1,e2,e3];exact hvp) (by rw[e1,e2];exact e7) (by rw[e1,e2];exact e8) ?_;rw[e1,e2,e3,e4];exact h
theorem Qan {fx:Fx} {l:Nat} {Q:AV→List AObj→Prop} {s:St} (hR:IA P vs N ps vals ia ib R) (hl:s.heap[l]? = some (.loop R)) (h:IS P fx ib ⟨s.vals,s.heap.set l (.loop (KB R))⟩ (kRnd l Q) .mk .mk):kAsg P fx l ib Q .normal s:=by
 rw[Qam];refine ⟨R,hl,hR.st,?_⟩;rw[hR.pd];exact h
theorem RU {l:Nat} {Q:AV→List AObj→Prop} {s:St} (hR:IA P vs N ps vals ia ib R) (hl:s.heap[l]? = some (.loop (KB R))) (h:Q (.b true) (s.heap.set l (.loop R))):kRnd l Q .normal s:=by
 rw[P0];refine ⟨_,hl,?_⟩;unfold setLoop;rw[hR.back];exact h
theorem M9 {fx:Fx} {l:Nat} {Q:Exit→St→Prop} {σ':List AObj} {vals2:List AV} (hR:IA P vs N ps vals ia ib R) (hl:σ'[l]? = some (.loop R)) (h:Q .normal ⟨vals2,σ'.set l (.loop (Qby R))⟩):U9 P fx vals2 l Q σ':=by
 refine ⟨R,hl,(by rw[hR.st];intro h;cases h),?_⟩;rw[hR.pd];exact h
def retL (R:XC):XC:={ R with state:=.done,pending:=some .ret }
theorem Qdh {l:Nat} {Q:AV→List AObj→Prop} {s:St} (hl:s.heap[l]? = some (.loop (KB R))) (h:Q (.b false) (s.heap.set l (.loop (retL R)))):kRnd l Q .ret s:=by
 rw[kRnd_r];exact ⟨_,hl,h⟩
theorem after_r {fx:Fx} {l:Nat} {Q:Exit→St→Prop} {σ':List AObj} {vals2:List AV} (hl:σ'[l]? = some (.loop (retL R))) (h:W P fx .ret ⟨vals2,σ'.set l (.loop { retL R with state:=.exhausted,pending:=some .ret })⟩ Q):U9 P fx vals2 l Q σ':=by
 refine ⟨_,hl,(by intro h;cases h),?_⟩;exact h
def A8 (R:XC) (i:Nat):XC:={ R with state:=.done,pending:=some (.exit i) }
theorem Qdg {l i:Nat} {Q:AV→List AObj→Prop} {s:St} (hl:s.heap[l]? = some (.loop (KB R))) (h:Q (.b false) (s.heap.set l (.loop (A8 R i)))):kRnd l Q (.exit i) s:=by
 rw[kRnd_x];exact ⟨_,hl,h⟩
theorem after_x {fx:Fx} {l i:Nat} {Q:Exit→St→Prop} {σ':List AObj} {vals2:List AV} (hl:σ'[l]? = some (.loop (A8 R i))) (h:W P fx (.exit i) ⟨vals2,σ'.set l (.loop { A8 R i with state:=.exhausted,pending:=some (.exit i) })⟩ Q):U9 P fx vals2 l Q σ':=by
 refine ⟨_,hl,(by intro h;cases h),?_⟩;exact h
end
end Go.Proofs.YtgkidpolomhghaaGreatDoor.AM
namespace Go.Proofs.YtgkidpolomhghaaGreatDoor.AM
variable [Dr]
open Go Pl
theorem can_ar {d:Dy} (h:DyOk d) {i k:Nat} (hi:i<d.ls.length) (hk:k<d.ls.length) :
  ∃ o f:Nat,(d.ls[i]!).o=(o:Int)∧(d.ls[k]!).f=(f:Int)∧o<d.mi.length∧f<(d.mi[o]!).length∧IntKind.i64.wrap ((d.ls[i]!).e+gI d.mi[o]! f)=(d.ls[i]!).e+gI d.mi[o]! f∧canB d i k=decide ((d.ls[i]!).e+gI d.mi[o]! f≤(d.ls[k]!).b):=by
 have h1:=h.les i hi;have h2:=h.les k hk;obtain ⟨o,ho⟩:∃ o:Nat,(d.ls[i]!).o=(o:Int):=⟨(d.ls[i]!).o.toNat,by have:=h1.o;omega⟩;obtain ⟨f,hf⟩:∃ f:Nat,(d.ls[k]!).f=(f:Int):=⟨(d.ls[k]!).f.toNat,by have:=h2.f;omega⟩;have ho2:o<d.mi.length:=by have:=h1.o;omega
 have hf2:f<d.mi.length:=by have:=h2.f;omega
 have hr:=h.rng o f ho2 hf2;have:=h1.be;have:=h1.b0;have:=h1.e1;refine ⟨o,f,ho,hf,ho2,by rw[h.row o ho2];exact hf2,ZC (by omega),?_⟩;unfold canB;rw[ho,hf,Int.toNat_natCast,Int.toNat_natCast]
theorem MR {l:List Les} {k:Nat} (h:k<l.length) (σ:List AObj):YF 7 [.cv (.rp (F0 l) (k*7))] σ=some (.agg [.i (l[k]!).le,.i (l[k]!).te,.i (l[k]!).ca,.i (l[k]!).b,.i (l[k]!).e,.i (l[k]!).f,.i (l[k]!).o],σ):=Qcl h σ
theorem le104 (d:Dy) (hd:DyOk d) {i k:Nat} (hi:i<d.ls.length) (hk:k<d.ls.length):PC Tryz.prog 104 [dyV d,.i i,.i k] (.b (canB d i k)):=by
 obtain ⟨o,f,ho,hf,ho2,hf2,hw,hc⟩:=can_ar hd hi hk;refine ⟨ZF (fok104 true) (QC rfl) ?_,rfl⟩;rw[hc];have hl:=MR hi;have hl2:=MR hk;have ia:=F5 hi;have ia2:=F5 hk;generalize d.ls[i]! = a at *;generalize d.ls[k]! = b at *;obtain ⟨a1,a2,a3,a4,a5,a6,a7⟩:=a;obtain ⟨b1,b2,b3,b4,b5,b6,b7⟩:=b;simp only at ho hf hw hl hl2;subst ho hf;simp only[ic104,WI,cellsOf,evA,simprocAttr];refine DW_s [] [(2,12),(2,13),(5,12),(5,13),(8,12),(8,13),(8,14),(11,12),(11,13),(11,14),(12,13),(13,12)] hmix (by kernel_rfl) rfl ?_;simp only[ia,ia2,hl,hl2,evA,simprocAttr];refine DW_s [] [] hmix (by kernel_rfl) rfl ?_;simp only[XP ho2,W3,B7 ho2,J5 hf2,J4 hf2,WA,hw,evA,simprocAttr];exact frz
abbrev behV (d:Dy) (i:Nat):AV:=.fn (.func 121) [.cv (.rp [minR d.mi,lesR d.ls] 0),.cv (.rp [.int .i64 i] 0)]
theorem le74 (d:Dy) (i:Nat):PA Tryz.prog 74 [dyV d,.i i] (behV d i):=by
 refine ⟨ZF (fok74 true) (QC rfl) ?_,rfl,rfl⟩;simp only[ic74,WI,cellsOf,evA,simprocAttr];exact frz
theorem Qdd (d:Dy) (hd:DyOk d) {i:Nat} (hi:i<d.ls.length) (L:Nat) (S:Nat→List AObj→Prop) (T:List AObj→Prop) (σ0:List AObj) (hL:L<σ0.length) (h0:S 0 σ0)
  (hs:∀ k τ,k<d.ls.length→canB d i k=false→S k τ→S (k+1) τ)
  (h:∀ k τ,k<d.ls.length→canB d i k=true→S k τ→σ0.length≤τ.length→YC Tryz.prog L [.i k] τ fun r τ'=>(r=.b true∧∃ τ2 J,τ'=τ2++J∧σ0.length≤τ2.length∧(J=[]∨∀ o∈τ2,Z3 τ2.length o=true)∧S (k+1) τ2)∨(r=.b false∧T τ')) :
  AC Tryz.prog 121 [.yld L,.cv (.rp [minR d.mi,lesR d.ls] 0),.cv (.rp [.int .i64 i] 0)] σ0 fun r τ=>r=.tup []∧(S d.ls.length τ∨T τ):=by
 refine ZF (fok121 true) (QC rfl) ?_;have h12:=hd.l12;have hp:(2:Nat) ^ 63=9223372036854775808:=by decide
 simp only[ic121,evA,simprocAttr];refine ZW d.ls.length (fun k s=>∃ v3 v6 v7 τ,S k τ∧σ0.length≤τ.length∧s=⟨[.yld L,.cv (.rp [minR d.mi,lesR d.ls] 0),.cv (.rp [.int .i64 i] 0),v3,.i d.ls.length,.i k,v6,v7],τ⟩) ?_ 0 (QF _) ⟨_,_,_,_,h0,QG _,rfl⟩;rintro k s hk ⟨v3,v6,v7,τ,hS,hτ,rfl⟩;by_cases hin:k<d.ls.length
 ·simp only[ic121l0,QJ,hin,evA,simprocAttr];refine (le104 d hd hi hin).call frz ?_;cases hc:canB d i k with
  | false =>
   simp only[Q6 (show k+1<2 ^ 63 by omega),evA,simprocAttr];exact ZL (by first | trivial | omega) ⟨_,_,_,_,hs k τ hin hc hS,hτ,rfl⟩
  | true =>
   simp only[evA,simprocAttr];refine (h k τ hin hc hS hτ).mono ?_;rintro r τ' (⟨rfl,τ2,J,rfl,hlen,hJ,hS2⟩ | ⟨rfl,hT⟩)
   ·simp only[Q6 (show k+1<2 ^ 63 by omega),evA,simprocAttr];rcases hJ with rfl | hJ
    ·rw[ZU];exact ZL (by first | trivial | omega) ⟨_,_,_,_,hS2,hlen,rfl⟩
    ·refine W1 τ2 J rfl (by first | trivial | omega) hlen hJ ?_;have hy:QR τ2.length (.yld L)=true:=by simp[QR];omega
     exact ⟨_,_,_,_,hS2,hlen,by simp only[clip,hy,if_true];rfl⟩
   ·simp only[evA,simprocAttr];exact .inr hT
 ·have hin':k=d.ls.length:=by omega
  subst hin';simp only[ic121l0,QJ,hin,evA,simprocAttr];exact .inl hS
def ia120:IC:=.region [jw 4 .mv [.v 6]]
def ib120:IC:=(.block 1 (.region [jL 2,jv 4,jq (.bslice 1 1 [(.cv (.int .i64 0))] [(0,1)]) [.t 1],jq (.append 1 8) [.t 0,.t 2],jq (.store 1) [.v 2,.t 3]]))
theorem ca120:QL Tryz.prog vs120 13 (nav [1,0,1,0,2] (Tryz.f120.body.getD .skip))=some ia120:=by kernel_rfl
theorem cb120:QL Tryz.prog vs120 13 (nav [1,0,1,0,3] (Tryz.f120.body.getD .skip))=some ib120:=by kernel_rfl
theorem M7 {m:Nat} {p:Nat→Bool}:(YS m p).length≤m:=by rw[QcG];exact P7
theorem ac120 (d:Dy) (hd:DyOk d) {i:Nat} (hi:i<d.ls.length):AC Tryz.prog 120 [.cv .nils,behV d i] [] fun r τ=>AccS 1 τ r (behL d i).length ((behL d i).map (.int .i64)):=by
 have h12:=hd.l12;have hp3:(2:Nat) ^ 44=17592186044416:=by decide
 refine ZF (fok120 true) (QC rfl) ?_;simp only[ic120,WI,cellsOf,evA,simprocAttr];refine RW_g ia120 ib120 (gf:=121) (cap:=[.cv (.rp [minR d.mi,lesR d.ls] 0),.cv (.rp [.int .i64 i] 0)]) rfl (QC rfl) (fun l h=>by cases h) ca120 cb120 ?_;intro R hR;simp only[evA,simprocAttr] at hR ⊢;refine (Qdd d hd hi 1 (fun k τ=>∃ acc τ',τ=.cells [acc] :: .loop R::τ'∧VH 2 1 τ acc (YS k (canB d i)).length ((YS k (canB d i)).map (.int .i64))) (fun _=>False) _ (by simp) ⟨.cv .nils,[],rfl,.inl ⟨rfl,rfl,rfl⟩⟩ ?_ ?_).mono ?_
 ·rintro k τ hk hc ⟨acc,τ',rfl,hA⟩;refine ⟨acc,τ',rfl,?_⟩;rw[ET,hc];simpa using hA
 ·rintro k τ hk hc ⟨acc,τ',rfl,hA⟩ _;have hnu:=hA.nu;have hbl:(YS k (canB d i)).length≤k:=M7;have hst:YS (k+1) (canB d i)=YS k (canB d i)++[(k:Int)]:=by rw[ET,hc];rfl
  refine YC_g hR rfl rfl (by decide) ?_;have x7:vs120.idxOf? 7=some 6:=by decide
  simp only[ia120,JM,x7,QW,QM,WW,X9,VW,EZ,Qau,CH,get_nz,get_ns,evA,simprocAttr];refine Qan hR rfl ?_;have hA1:VH 2 1 (.cells [acc] :: .loop (KB R)::τ') acc (YS k (canB d i)).length ((YS k (canB d i)).map (.int .i64)):=by
   rcases hA with h | ⟨l,h1,h2,h3,h4⟩
   ·exact .inl h
   ·refine .inr ⟨l,h1,h2,h3,?_⟩;obtain ⟨m,rfl⟩:∃ m,l=m+2:=⟨l-2,by omega⟩;exact h4
  obtain ⟨v',σ',happ,hA',hfr,hln⟩:=K3 (by_:=8) (x:=[.int .i64 k]) (by simp) hA1 rfl (by omega) (by omega);rw[hst];have f0:=hfr 0 (by omega);have f1:=hfr 1 (by omega)
  match σ',hln with
  | x0::x1::σ2,_ =>
  have g0:x0=.cells [acc]:=by simpa using f0
  have g1:x1=.loop (KB R):=by simpa using f1
  subst g0 g1;have hnu':=hA'.nu;simp only[QW,QM,WW,X9,VW,EZ,Qau,CH,get_nz,get_ns,List.cons_append,List.nil_append,List.length_cons,List.length_nil,ZV,Q0,WS] at happ;simp only[ib120,QW,QM,WW,X9,VW,EZ,Qau,CH,get_nz,get_ns,HE,MK,happ,hnu,hnu',evA,simprocAttr];refine RU hR rfl ?_;refine .inl ⟨rfl,.cells [v'] :: .loop R::σ2,[],(ZU _).symm,QC rfl,.inl rfl,v',σ2,rfl,?_⟩;rw[ZS];rcases hA' with h | ⟨l,h1,h2,h3,h4⟩
  ·exact .inl h
  ·refine .inr ⟨l,h1,h2,h3,?_⟩;obtain ⟨m,rfl⟩:∃ m,l=m+2:=⟨l-2,by omega⟩;exact h4
 ·rintro r τ ⟨rfl,h | h⟩
  ·obtain ⟨acc,τ',rfl,hA⟩:=h;have hnu:=hA.nu;refine M9 hR rfl ?_;simp only[hnu,evA,simprocAttr];rcases hA with h | ⟨l,h1,h2,h3,h4⟩
   ·exact .inl h
   ·refine .inr ⟨l,h2,h3,?_⟩;obtain ⟨m,rfl⟩:∃ m,l=m+2:=⟨l-2,by omega⟩;exact h4
  ·exact h.elim
theorem sclI (zs:List Int):∀ c∈zs.map (CV.int .i64),scl c:=by
 intro c hc;obtain ⟨z,_,rfl⟩:=ZP.1 hc;trivial
theorem le120 (d:Dy) (hd:DyOk d) {i:Nat} (hi:i<d.ls.length):PC Tryz.prog 120 [.cv .nils,behV d i] (ints (behL d i)):=⟨(ac120 d hd hi).mono fun r τ h=>GI h (sclI _),rfl⟩
theorem le73 (d:Dy) (hd:DyOk d) {i:Nat} (hi:i<d.ls.length):PA Tryz.prog 73 [behV d i] (ints (behL d i)):=by
 refine ⟨ZF (fok73 true) (QC rfl) ?_,rfl,rfl⟩;simp only[ic73,evA,simprocAttr];refine (le120 d hd hi).call frz ?_;simp only[evA,simprocAttr];exact .c (.c _ trivial)
def R4 (n:Nat) (b:List Int):Prop:=∀ k,k<n→gI b k<(n:Int)
section
variable {can:Nat→Nat→Bool} {told:List Int} {n:Nat}
theorem EU {b:List Int} {k i:Nat} (hk:k<b.length) (hi:i<n) (h:R4 n b):R4 n (b.set k i):=fun j hj=>by
 rw[JO hk];by_cases e:j=k
 ·rw[if_pos e];omega
 ·rw[if_neg e];exact h j hj
structure KuOk (n:Nat) (s:Ku) (r:Bool × Ku):Prop where
 ls:r.2.seen.length=s.seen.length
 lb:r.2.bef.length=s.bef.length
 ok:R4 n s.bef→R4 n r.2.bef
 mono:∀ k,gB s.seen k=true→gB r.2.seen k=true
theorem LD:∀ (f i:Nat) (s:Ku),i<n→s.seen.length=n→s.bef.length=n→R4 n s.bef→KuOk n s (VE can told n f i s)
 | 0,_,s,_,_,_,_=>⟨rfl,rfl,fun h=>h,fun _ h=>h⟩
 | f + 1,i,s,hi,h1,h2,hb=>by
  have key:∀ (m k:Nat) (s:Ku),k+m≤n→s.seen.length=n→s.bef.length=n→R4 n s.bef→KuOk n s (UC can told (VE can told n f) i m k s):=by
   intro m
   induction m with
   | zero=>intro k s _ _ _ _;exact ⟨rfl,rfl,fun h=>h,fun _ h=>h⟩
   | succ m ihm =>
    intro k s hm h1 h2 hb;have hks:k<s.seen.length:=by omega
    have hkb:k<s.bef.length:=by omega
    have hst:∀ j,gB s.seen j=true→gB (s.seen.set k true) j=true:=fun j h=>by rw[DF hks];split <;> first | rfl | exact h
    unfold UC;split
    ·split
     ·exact ⟨by simp,by simp,fun h=>EU hkb hi h,hst⟩
     ·rename_i hneg;have hlt:(gI s.bef k).toNat<n:=by have:=hb k (by omega);omega
      have hmv:=LD f (gI s.bef k).toNat ⟨s.seen.set k true,s.bef⟩ hlt (by simp;omega) h2 hb;generalize VE can told n f (gI s.bef k).toNat ⟨s.seen.set k true,s.bef⟩=r at hmv ⊢;have hls:r.2.seen.length=s.seen.length:=by rw[hmv.ls];simp
      have hlb:r.2.bef.length=s.bef.length:=hmv.lb;split
      ·exact ⟨hls,by simp[hlb],fun h=>EU (by omega) hi (hmv.ok h),fun j h=>hmv.mono j (hst j h)⟩
      ·have hr:=ihm (k+1) r.2 (by omega) (by omega) (by omega) (hmv.ok hb);exact ⟨hr.ls.trans hls,hr.lb.trans hlb,fun h=>hr.ok (hmv.ok h),fun j h=>hr.mono j (hmv.mono j (hst j h))⟩
    ·exact ihm (k+1) s (by omega) h1 h2 hb
  exact key n 0 s (by omega) h1 h2 hb
theorem QbU {a b:List Bool} (h:∀ k,gB a k=true→gB b k=true):cnt n (fun k=>!gB b k)≤cnt n (fun k=>!gB a k):=cnt_mono fun k _ hk=>by
 cases ha:gB a k with
 | false=>rfl
 | true=>rw[h k ha] at hk;cases hk
end
def stH (SS BB:Nat) (σ:List AObj) (se:List Bool) (be:List Int):List AObj:=(σ.set SS (.cells (XT se))).set BB (.cells (be.map AV.i))
structure MvH (d:Dy) (told:List Int) (σ:List AObj) (D SE TO BE MV SS BB TT:Nat):Prop where
 dd:rowOf σ D=some [.cv (minR d.mi),.cv (lesR d.ls)]
 se:rowOf σ SE=some [.sl SS 0 d.ls.length 1]
 to:rowOf σ TO=some [.sl TT 0 told.length 1]
 be:rowOf σ BE=some [.sl BB 0 d.ls.length 1]
 mv:rowOf σ MV=some [.fn (.func 125) [.ptr D 0,.ptr SE 0,.ptr TO 0,.ptr BE 0,.ptr MV 0]]
 tt:rowOf σ TT=some (told.map AV.i)
 n1:∀ x∈[D,SE,TO,BE,MV,TT],x≠SS∧x≠BB
 n2:SS≠BB
 ls:SS<σ.length
 lb:BB<σ.length
 hi:∀ x∈[D,SE,TO,BE,MV],x<σ.length
section
variable {SS BB:Nat} {σ:List AObj}
theorem V8 (se:List Bool) (be:List Int):(stH SS BB σ se be).length=σ.length:=by simp[stH]
theorem MG (hs:SS<σ.length) (hb:BB<σ.length) (J:List AObj) (se:List Bool) (be:List Int):stH SS BB σ se be++J=stH SS BB (σ++J) se be:=by
 unfold stH;rw[YG _ _ hs,YG _ _ (by simpa using hb)]
theorem T9 (hs:SS<σ.length) (hb:BB<σ.length) {X:Nat} {cs:List AV} (h:rowOf σ X=some cs) (h1:X≠SS) (h2:X≠BB) (se:List Bool) (be:List Int) (J:List AObj):rowOf (stH SS BB σ se be++J) X=some cs:=by
 refine ZH ?_ J;unfold stH;rw[QX (Ne.symm h2),QX (Ne.symm h1)];exact h
theorem stH_seen (hs:SS<σ.length) (hb:BB<σ.length) (hn:SS≠BB) (se:List Bool) (be:List Int) (J:List AObj):rowOf (stH SS BB σ se be++J) SS=some (XT se):=by
 refine ZH ?_ J;unfold stH;rw[QX (Ne.symm hn)];simp[rowOf,hs]
theorem stH_bef (hs:SS<σ.length) (hb:BB<σ.length) (se:List Bool) (be:List Int) (J:List AObj):rowOf (stH SS BB σ se be++J) BB=some (be.map AV.i):=by
 refine ZH ?_ J;unfold stH;simp[rowOf,hb]
theorem stH_setS (hs:SS<σ.length) (hn:SS≠BB) (se o:List Bool) (be:List Int) (J:List AObj):(stH SS BB σ se be++J).set SS (.cells (XT o))=stH SS BB σ o be++J:=by
 rw[YG _ _ (by rw[V8];exact hs)];unfold stH;rw[List.set_comm _ _ (Ne.symm hn),List.set_set]
theorem stH_setB (hb:BB<σ.length) (se:List Bool) (be o:List Int) (J:List AObj):(stH SS BB σ se be++J).set BB (.cells (o.map AV.i))=stH SS BB σ se o++J:=by
 rw[YG _ _ (by rw[V8];exact hb)];unfold stH;rw[List.set_set]
theorem stH_z (se:List Bool) (be:List Int) (J:List AObj):rowOf (stH SS BB σ se be++J) σ.length=rowOf J 0:=by
 have:=WW (stH SS BB σ se be) J
 rwa [V8] at this
theorem stH_s (se:List Bool) (be:List Int) (J:List AObj) (k:Nat):rowOf (stH SS BB σ se be++J) (σ.length+k)=rowOf J k:=by
 have:=X9 (stH SS BB σ se be) J k
 rwa [V8] at this
theorem stH_gs (se:List Bool) (be:List Int) (J:List AObj) (k:Nat):(stH SS BB σ se be++J)[σ.length+k]? = J[k]? := by
 have:=CH (stH SS BB σ se be) J k
 rwa [V8] at this
theorem stH_zs (se:List Bool) (be:List Int) (J:List AObj) (v:AObj) (k:Nat):(stH SS BB σ se be++J).set (σ.length+k) v=stH SS BB σ se be++J.set k v:=by
 have:=EZ (stH SS BB σ se be) J k v
 rwa [V8] at this
theorem QdT (se se':List Bool) (be be':List Int) {m l:Nat} {o:AObj} (h:(stH SS BB σ se' be')[l]? = some o):(stH SS BB σ se be)[l]? = some o∨Z3 m o=true:=by
 unfold stH at h ⊢;by_cases hb:BB=l
 ·subst hb;rw[ZO] at h;simp only[if_true] at h;split at h
  ·cases h;refine .inr ?_;simp only[Z3];rw[Z8];intro v hv;obtain ⟨z,_,rfl⟩:=ZP.1 hv;rfl
  ·cases h
 ·rw[QU hb] at h ⊢;by_cases hs:SS=l
  ·subst hs;rw[ZO] at h;simp only[if_true] at h;split at h
   ·cases h;refine .inr ?_;simp only[Z3];rw[Z8];intro v hv;obtain ⟨z,_,rfl⟩:=ZP.1 hv;rfl
   ·cases h
  ·rw[QU hs] at h ⊢;exact .inl h
theorem stH_ok (v:AV) (hv:QR 0 v=true) (se se':List Bool) (be be':List Int) (J:List AObj) (hs:SS<σ.length) (hb:BB<σ.length):HM (stH SS BB σ se be++J) v (stH SS BB σ se' be'++J):=by
 rw[MG hs hb,MG hs hb];refine GH (by rw[V8,V8]) (Y8 (QF _) v hv) fun l o h1 h2=>?_
 rcases QdT (SS:=SS) (BB:=BB) (σ:=σ++J) se se' be be' (m:=(stH SS BB (σ++J) se' be').length) h1 with h | h
 ·exact absurd h h2
 ·exact h
end
theorem MvH.app {d:Dy} {told:List Int} {σ:List AObj} {D SE TO BE MV SS BB TT:Nat} (h:MvH d told σ D SE TO BE MV SS BB TT) (J:List AObj):MvH d told (σ++J) D SE TO BE MV SS BB TT :=
 ⟨ZH h.dd J,ZH h.se J,ZH h.to J,ZH h.be J,ZH h.mv J,ZH h.tt J,h.n1,h.n2,by have:=h.ls;simp;omega,by have:=h.lb;simp;omega,fun x hx=>by have:=h.hi x hx;simp;omega⟩
abbrev K7:Bool × List KK:=(true,[.int .i64,.int .i64,.int .i64,.int .i64,.int .i64,.int .i64,.int .i64])
abbrev K6:Bool × List KK:=(true,[.int .i64,.int .i64,.int .i64,.int .i64,.int .i64,.int .i64])
abbrev K2:Bool × List KK:=(true,[.int .i64,.int .i64])
abbrev keyV (k:List Int):AV:=.agg (k.map AV.i)
abbrev c2V (c:Int × Int):AV:=.agg [.i c.1,.i c.2]
def memE (M:Mem):List (AV × AV):=M.map fun e=>(keyV e.1,c2V e.2)
theorem LF:∀ {n:Nat} {xs:List Int},xs.length=n→(∀ i,i<n→-9223372036854775808≤gI xs i∧gI xs i≤9223372036854775807)→Y4 (List.replicate n (.int .i64)) (xs.map AV.i)=true
 | 0,[],_,_=>rfl
 | n+1,x::xs,hl,h=>by have h0:=h 0 (by omega);have hx:gI (x::xs) 0=x:=rfl;rw[hx] at h0;show (kkOk (.int .i64) (.i x)&&Y4 (List.replicate n (.int .i64)) (xs.map AV.i))=true;rw[LF (n:=n) (xs:=xs) (by simpa using hl) fun i hi=>by have:=h (i+1) (by omega);simpa[gI] using this];simp[kkOk,PR h0]
theorem DT:∀ (xs ys:List Int),VZ (xs.map AV.i) (ys.map AV.i)=decide (xs=ys)
 | [],[]=>rfl
 | [],_::_=>rfl
 | _::_,[]=>rfl
 | x::xs,y::ys=>by show (decide (x=y)&&VZ (xs.map AV.i) (ys.map AV.i))=_;rw[DT xs ys,Q8];simp
theorem Qai {k:List Int} (h:KeyW k):Y4 K7.2 (k.map AV.i)=true:=LF (n:=7) h.1 fun i hi=>by have:=h.2 i hi;omega
theorem Qco {k:List Int} (h:KeyW k):F4 K7 (keyV k)=true:=Qai h
theorem key_eq {a b:List Int} (ha:KeyW a) (hb:KeyW b):JW K7 (keyV a) (keyV b)=some (decide (a=b)):=by
 simp only[JW,JK];rw[Qai ha,Qai hb,DT];rfl
theorem eqk_n {n:Nat} {a b:List Int} (ha:a.length=n) (hb:b.length=n) (wa:∀ i,i<n→-9223372036854775808≤gI a i∧gI a i≤9223372036854775807) (wb:∀ i,i<n→-9223372036854775808≤gI b i∧gI b i≤9223372036854775807) :
  JW (true,List.replicate n (.int .i64)) (.agg (a.map AV.i)) (.agg (b.map AV.i))=some (decide (a=b)):=by
 simp only[JW,JK];rw[LF ha wa,LF hb wb,DT];rfl
theorem OC {k:List Int} (hk:KeyW k):∀ (M:Mem) (i:Nat),(∀ e∈M,KeyW e.1)→findKey K7 (keyV k) (memE M) i=some ((fndM M k i).map fun r=>(r.1,c2V r.2))
 | [],_,_=>rfl
 | e::M,i,h=>by
  have hq:=key_eq hk (h e (by simp));obtain ⟨e1,e2⟩:=e;simp only[memE,Q0,findKey,fndM];simp only at hq;rw[hq];by_cases he:k=e1
  ·rw[decide_eq_true he,if_pos he];rfl
  ·rw[decide_eq_false he,if_neg he];exact OC hk M (i+1) fun t ht=>h t (by simp[ht])
theorem mem_get {k:List Int} (hk:KeyW k) {M:Mem} (h:∀ e∈M,KeyW e.1) {σ:List AObj} {l j:Nat} {v:Int × Int} (hm:mapOf σ l=some (memE M)) (hf:fndM M k 0=some (j,v)) :
  KL K7 (.agg [.i 0,.i 0]) true [.map l,keyV k] σ=some (.tup [c2V v,.b true],σ):=by
 simp only[KL,hm,Option.bind_some,Qco hk,OC hk M 0 h,hf];rfl
theorem mem_get0 {k:List Int} (hk:KeyW k) {M:Mem} (h:∀ e∈M,KeyW e.1) {σ:List AObj} {l:Nat} (hm:mapOf σ l=some (memE M)) (hf:fndM M k 0=none) :
  KL K7 (.agg [.i 0,.i 0]) true [.map l,keyV k] σ=some (.tup [.agg [.i 0,.i 0],.b false],σ):=by
 simp only[KL,hm,Option.bind_some,Qco hk,OC hk M 0 h,hf];rfl
theorem Qac {k:List Int} (hk:KeyW k) {M:Mem} (h:∀ e∈M,KeyW e.1) (v:Int × Int) {σ:List AObj} {l:Nat} (hm:mapOf σ l=some (memE M)) :
  JZ K7 [.map l,keyV k,c2V v] σ=some (.undef,σ.set l (.map (memE (putM M k v)))):=by
 simp only[JZ,hm,Option.bind_some,Qco hk,OC hk M 0 h,putM];cases fndM M k 0 with
 | none=>simp[XU,memE]
 | some r=>simp[XU,memE,List.map_set]
def mpH (D:Nat) (σ:List AObj) (M:Mem):List AObj:=σ.set D (.map (memE M))
structure FwH (ps:List Pat) (σ:List AObj) (A B C D E:Nat):Prop where
 a:rowOf σ A=some [.cv (patR ps)]
 b:rowOf σ B=some [.i 1073741824,.i 0]
 c:rowOf σ C=some [.map D]
 e:rowOf σ E=some [.fn (.func 57) [.ptr A 0,.ptr B 0,.ptr C 0,.ptr E 0]]
 d:D<σ.length
 nA:A≠D
 nB:B≠D
 nC:C≠D
 nE:E≠D
theorem FwH.app {ps:List Pat} {σ:List AObj} {A B C D E:Nat} (h:FwH ps σ A B C D E) (J:List AObj):FwH ps (σ++J) A B C D E :=
 ⟨ZH h.a J,ZH h.b J,ZH h.c J,ZH h.e J,by simp;have:=h.d;omega,h.nA,h.nB,h.nC,h.nE⟩
section
variable {D:Nat} {σ:List AObj}
theorem HH (M:Mem):(mpH D σ M).length=σ.length:=by simp[mpH]
theorem E4 (hd:D<σ.length) (J:List AObj) (M:Mem):mpH D σ M++J=mpH D (σ++J) M:=by
 unfold mpH;rw[YG _ _ hd]
theorem MO (hd:D<σ.length) {X:Nat} {cs:List AV} (h:rowOf σ X=some cs) (h1:X≠D) (M:Mem) (J:List AObj):rowOf (mpH D σ M++J) X=some cs:=by
 rw[E4 hd];unfold mpH;rw[QX (Ne.symm h1)];exact ZH h J
theorem mpH_map (hd:D<σ.length) (M:Mem) (J:List AObj):mapOf (mpH D σ M++J) D=some (memE M):=by
 rw[E4 hd];unfold mpH mapOf;rw[Z2 (by simp;omega)]
theorem mpH_set (hd:D<σ.length) (M M':Mem) (J:List AObj):(mpH D σ M++J).set D (.map (memE M'))=mpH D σ M'++J:=by
 rw[YG _ _ (by rw[HH];exact hd)];unfold mpH;rw[List.set_set]
theorem mpH_z (M:Mem) (J:List AObj):rowOf (mpH D σ M++J) σ.length=rowOf J 0:=by
 have:=WW (mpH D σ M) J
 rwa [HH] at this
theorem mpH_s (M:Mem) (J:List AObj) (k:Nat):rowOf (mpH D σ M++J) (σ.length+k)=rowOf J k:=by
 have:=X9 (mpH D σ M) J k
 rwa [HH] at this
theorem mpH_sz (M:Mem) (J:List AObj) (v:AObj):(mpH D σ M++J).set σ.length v=mpH D σ M++J.set 0 v:=by
 have:=VW (mpH D σ M) J v
 rwa [HH] at this
theorem mpH_zs (M:Mem) (J:List AObj) (v:AObj) (k:Nat):(mpH D σ M++J).set (σ.length+k) v=mpH D σ M++J.set k v:=by
 have:=EZ (mpH D σ M) J k v
 rwa [HH] at this
theorem memE_in (n:Nat) (M:Mem):Z3 n (.map (memE M))=true:=by
 simp only[Z3];rw[Q1];intro e he;obtain ⟨x,_,rfl⟩:=ZP.1 he;have h1:QR n (keyV x.1)=true:=Qbf n x.1;rw[h1];rfl
theorem Qd7 (M M':Mem) {m l:Nat} {o:AObj} (h:(mpH D σ M')[l]? = some o):(mpH D σ M)[l]? = some o∨Z3 m o=true:=by
 unfold mpH at h ⊢;rw[ZO] at h ⊢;split at h
 ·rename_i e;split at h
  ·cases h;exact .inr (memE_in _ _)
  ·cases h
 ·rename_i e;rw[if_neg e];exact .inl h
end
theorem eq6 {a b:List Int} (ha:a.length=6) (hb:b.length=6) (na:N3 a) (nb:N3 b):JW K6 (.agg (a.map AV.i)) (.agg (b.map AV.i))=some (decide (a=b)) :=
 eqk_n (n:=6) ha hb (fun i hi=>by have:=na i (by omega);omega) (fun i hi=>by have:=nb i (by omega);omega)
theorem n3_z:N3 [0,0,0,0,0,0]:=fun i hi=>by
 match i,hi with
 | 0,_=>decide
 | 1,_=>decide
 | 2,_=>decide
 | 3,_=>decide
 | 4,_=>decide
 | 5,_=>decide
theorem QeP {l:List Int} (h6:l.length=6):decide (l=[0,0,0,0,0,0])=J9 l:=by
 obtain ⟨a,b,c,d,e,f,rfl⟩:=D8 h6;rw[Q8];simp[J9]
theorem le57 (ps:List Pat) (hm:MtOk ps) (h12:ps.length≤12) (hsh:∀ k,k<ps.length→0≤(ps[k]!).1∧(ps[k]!).1<64) {A B C D E:Nat}:∀ (f k:Nat) (l:List Int) (M:Mem) (σ:List AObj),FwH ps σ A B C D E→k≤ps.length→l.length=6→N3 l→sumN l<1000→ps.length-k+sumN l<f→QaP ps M →
  AC Tryz.prog 57 [.agg (.i k::l.map AV.i),.ptr A 0,.ptr B 0,.ptr C 0,.ptr E 0] (mpH D σ M) fun r τ=>r=c2V (lstF ps f k l M).1∧τ=mpH D σ (lstF ps f k l M).2
 | 0,_,_,_,_,_,_,_,_,_,h,_=>absurd h (W5 _)
 | f + 1,k,l,M,σ,hH,hk,h6,hn3,hs,hf,hM=>by
  have hd:=hH.d;have rA:=fun M J=>MO hd hH.a hH.nA M J
  have rB:=fun M J=>MO hd hH.b hH.nB M J
  have rC:=fun M J=>MO hd hH.c hH.nC M J
  have rE:=fun M J=>MO hd hH.e hH.nE M J
  have mD:=fun M J=>mpH_map hd M J
  have sD:=fun M M' J=>mpH_set hd M M' J
  have hz:=fun M J=>mpH_z (D:=D) (σ:=σ) M J
  have hs':=fun M J k=>mpH_s (D:=D) (σ:=σ) M J k
  have hsz:=fun M J v=>mpH_sz (D:=D) (σ:=σ) M J v
  have hzs:=fun M J v k=>mpH_zs (D:=D) (σ:=σ) M J v k
  have hlen:=fun M=>HH (D:=D) (σ:=σ) M
  have hkey:=I8 (k:=k) (by omega) h6 hn3;have hz6:=QeP h6;have hzero:=eq6 (b:=[0,0,0,0,0,0]) h6 rfl hn3 n3_z;rw[hz6] at hzero;refine AC.cut (σ2:=mpH D σ _) ?_ (by rw[HH,HH]) rfl fun l o h=>Qd7 _ _ h
  unfold lstF;obtain ⟨x0,x1,x2,x3,x4,x5,hx⟩:=D8 h6;have hlE:l.map AV.i=[.i x0,.i x1,.i x2,.i x3,.i x4,.i x5]:=by rw[hx];rfl
  have hkV:keyV ((k:Int)::l)=.agg [.i k,.i x0,.i x1,.i x2,.i x3,.i x4,.i x5]:=by rw[keyV,Q0,hlE]
  have hkw:=fun e he=>(hM e he).1
  rw[hlE] at hzero ⊢;simp only[Q0,WS] at hzero;refine ZF (fok57 true) (QC rfl) ?_;simp only[ic57,WI,cellsOf,hlen,hzero,QW,QM,List.cons_append,List.nil_append,hz,hs',Q0,WS,evA,simprocAttr];cases hzl:J9 l with
  | true =>
   rw[if_pos rfl];simp only[hzl,hlen,QW,QM,List.cons_append,List.nil_append,hz,hs',hzs,hsz,evA,simprocAttr];exact ⟨_,rfl⟩
  | false =>
  rw[if_neg (by decide)];simp only[hzl,hlen,QW,QM,List.cons_append,List.nil_append,hz,hs',hzs,hsz,rA,evA,simprocAttr];by_cases hkn:k=ps.length
  ·have hbe:((k:Int) == ps.length)=true:=by rw[hkn];exact beq_self_eq_true _
   rw[if_pos (by omega)];simp only[hbe,rB,hlen,QW,QM,List.cons_append,List.nil_append,hz,hs',hzs,hsz,evA,simprocAttr];exact ⟨_,rfl⟩
  have hbe:((k:Int) == ps.length)=false:=by rw[beq_eq_false_iff_ne];omega
  have hk2:k<ps.length:=by omega
  rw[if_neg (by omega)];cases hfd:fndM M ((k:Int)::l) 0 with
  | some r =>
   obtain ⟨j,v⟩:=r;have hget:=fun J=>mem_get hkey hkw (mD M J) hfd
   rw[hkV] at hget;simp only[hbe,rC,hget,hlen,QW,QM,List.cons_append,List.nil_append,hz,hs',hzs,hsz,evA,simprocAttr];exact ⟨_,rfl⟩
  | none =>
   have hget:=fun J=>mem_get0 hkey hkw (mD M J) hfd
   rw[hkV] at hget;have ih1:=fun J=>le57 ps hm h12 hsh f (k+1) l M (σ++J) (hH.app J) (by omega) h6 hn3 hs (by omega) hM
   obtain ⟨g1,g2⟩:=O6 hm h12 f (k+1) l M hn3 h6 hs (by omega) hM;generalize lstF ps f (k+1) l M=r1 at *;obtain ⟨⟨a1,b1⟩,M1⟩:=r1;simp only[hlE,← E4 hd] at ih1;simp only at g1 g2;have hpt:=hsh k hk2;have hmt:=hm k hk2;have hld:=B4 hk2;generalize ps[k]! = p at *;obtain ⟨s,m⟩:=p;simp only at hpt hmt hld;have h58:=le58 l h6 (fun i hi=>hn3 i (by omega)) s m hpt;have hy6:(afL s l).length=6:=by rw[JQ,h6]
   obtain ⟨y0,y1,y2,y3,y4,y5,hy⟩:=D8 hy6;have hyE:(afL s l).map AV.i=[.i y0,.i y1,.i y2,.i y3,.i y4,.i y5]:=by rw[hy];rfl
   have heq:=eq6 hy6 h6 (hn3.af s) hn3;rw[hlE,hyE] at h58 heq;simp only[hbe,rC,hget,hlen,QW,QM,List.cons_append,List.nil_append,hz,hs',hzs,hsz,rE,Q6 (show k+1<2 ^ 63 by omega),evA,simprocAttr];refine (ih1 _).run ?_;simp only[hlen,QW,QM,List.cons_append,List.nil_append,hz,hs',hzs,hsz,rA,O9 hk2,hld,evA,simprocAttr];refine h58.call frz ?_;by_cases ha:afL s l=l
   ·rw[decide_eq_true ha] at heq;rw[if_pos ha];have hput:=fun J=>Qac hkey (fun e he=>(g2 e he).1) (a1,b1) (mD M1 J)
    rw[hkV] at hput;simp only[heq,rC,hput,sD,hlen,QW,QM,List.cons_append,List.nil_append,hz,hs',hzs,hsz,evA,simprocAttr];exact ⟨_,rfl⟩
   ·rw[decide_eq_false ha] at heq;rw[if_neg ha];have hlt:=R3 hn3.nn ha;have ih2:=fun J=>le57 ps hm h12 hsh f k (afL s l) M1 (σ++J) (hH.app J) hk hy6 (hn3.af s) (by omega) (by omega) g2
    obtain ⟨g3,g4⟩:=O6 hm h12 f k (afL s l) M1 (hn3.af s) hy6 (by omega) (by omega) g2
    dsimp only
    generalize lstF ps f k (afL s l) M1=r2 at *;obtain ⟨⟨a2,b2⟩,M2⟩:=r2;simp only[hyE,← E4 hd] at ih2;simp only at g3 g4;have hbd:0≤a2∧a2≤1073741824∧0≤b2∧b2≤100000000:=by
     cases hc:fewV ps k (afL s l) with
     | none=>rw[hc] at g3;cases g3;decide
     | some c =>
      obtain ⟨c1,c2'⟩:=c;rw[hc] at g3;cases g3;have:=DI hm _ _ _ _ _ (hn3.af s).nn hc;omega
    have hw1:IntKind.i64.wrap (a2+1)=a2+1:=ZC (by omega);have hw2:IntKind.i64.wrap (b2+m)=b2+m:=ZC (by omega);simp only[heq,rE,hlen,QW,QM,List.cons_append,List.nil_append,hz,hs',hzs,hsz,evA,simprocAttr];refine (ih2 _).run ?_;simp only[hw1,hw2,hlen,QW,QM,List.cons_append,List.nil_append,hz,hs',hzs,hsz,evA,simprocAttr];refine (le59 (a1,b1) (a2+1,b2+m)).call frz ?_;cases hov:TF (a1,b1) (a2+1,b2+m) with
    | true =>
     have hput:=fun J=>Qac hkey (fun e he=>(g4 e he).1) (a2+1,b2+m) (mD M2 J)
     rw[hkV] at hput;simp only[lstX,hov,rC,hput,sD,hlen,QW,QM,List.cons_append,List.nil_append,hz,hs',hzs,hsz,evA,simprocAttr];exact ⟨_,rfl⟩
    | false =>
     have hput:=fun J=>Qac hkey (fun e he=>(g4 e he).1) (a1,b1) (mD M2 J)
     rw[hkV] at hput;simp only[lstX,hov,rC,hput,sD,hlen,QW,QM,List.cons_append,List.nil_append,hz,hs',hzs,hsz,evA,simprocAttr];exact ⟨_,rfl⟩
def kindB (p:Pln) (l:Les):Bool:=(p.ca[l.ca.toNat]!).cl == gI p.le l.le.toNat
def Qca (p:Pln) (l:Les):Bool:=decide (mayE p.sys (p.te[l.te.toNat]!).rg (p.ca[l.ca.toNat]!).cl (p.ca[l.ca.toNat]!).ft=0)&&alwB p.sys (p.te[l.te.toNat]!).rg (p.ca[l.ca.toNat]!).cl (p.ca[l.ca.toNat]!).ft
def Qcr (p:Pln) (l:Les):Bool:=decide (l.b≥(p.te[l.te.toNat]!).b)&&decide (l.e≤(p.te[l.te.toNat]!).e)
structure LiOk (p:Pln) (l:Les):Prop where
 le:0≤l.le∧l.le<p.le.length
 te:0≤l.te∧l.te<p.te.length
 ca:0≤l.ca∧l.ca<p.ca.length
theorem LkOk.li {p:Pln} (h:LkOk p) {i:Nat} (hi:i<p.day.ls.length):LiOk p p.day.ls[i]! := by
 have h1:=h.day.les i hi;have h2:=h.who i hi;exact ⟨⟨h1.le.1,h2.1⟩,⟨h1.te.1,h2.2.1⟩,⟨h1.ca.1,h2.2.2⟩⟩
theorem car_0 {l:List Car} {k:Nat} (h:k<l.length):(QaH l)[k*2]? = some (.int .i64 (l[k]!).cl):=flat_get CX h (j:=0) (by omega)
theorem tch_0 {l:List Tch} {k:Nat} (h:k<l.length):(SV l)[k*3]? = some (rgR (l[k]!).rg):=flat_get BI h (j:=0) (by omega)
theorem le94 (p:Pln) (l:Les) (hl:LiOk p l):PC Tryz.prog 94 [plV9 p,lesA l] (.b (kindB p l)):=by
 refine ⟨ZF (fok94 true) (QC rfl) ?_,rfl⟩;obtain ⟨l1,l2,l3,l4,l5,l6,l7⟩:=l;obtain ⟨h1,h2,h3⟩:=hl;simp only at h1 h2 h3;obtain ⟨x,rfl⟩:∃ x:Nat,l1=(x:Int):=⟨l1.toNat,by omega⟩;obtain ⟨z,rfl⟩:∃ z:Nat,l3=(z:Int):=⟨l3.toNat,by omega⟩;have hx:x<p.le.length:=by omega
 have hz:z<p.ca.length:=by omega
 unfold kindB;simp only[ic94,WI,cellsOf,Int.toNat_natCast,evA,simprocAttr];refine DW_s [] [] hmix (by kernel_rfl) rfl ?_;simp only[XP hz,car_0 hz,J5 hx,J4 hx,WA,evA,simprocAttr];exact frz
theorem le96 (p:Pln) (l:Les) (hl:LiOk p l):PC Tryz.prog 96 [plV9 p,lesA l] (.b (Qcr p l)):=by
 obtain ⟨l1,l2,l3,l4,l5,l6,l7⟩:=l;obtain ⟨h1,h2,h3⟩:=hl;simp only at h1 h2 h3;obtain ⟨y,rfl⟩:∃ y:Nat,l2=(y:Int):=⟨l2.toNat,by omega⟩;have hy:y<p.te.length:=by omega
 have hld:=tch_ld hy;rw[show Qcr p ⟨l1,(y:Int),l3,l4,l5,l6,l7⟩=(decide (l4≥(p.te[y]!).b)&&decide (l5≤(p.te[y]!).e)) from rfl];generalize p.te[y]! = t at *;obtain ⟨t1,t2,t3⟩:=t;simp only at hld ⊢;refine ⟨ZF (fok96 true) (QC rfl) ?_,rfl⟩;simp only[ic96,WI,cellsOf,XP hy,hld,evA,simprocAttr];cases hb:decide (l4≥t2) with
 | true =>
  simp only[hb,XI,evA,simprocAttr];exact frz
 | false =>
  simp only[Bool.false_and,evA,simprocAttr];exact frz
theorem le95 (p:Pln) (hp:PSz p) (l:Les) (hl:LiOk p l):PC Tryz.prog 95 [plV9 p,lesA l] (.b (Qca p l)):=by
 obtain ⟨l1,l2,l3,l4,l5,l6,l7⟩:=l;obtain ⟨h1,h2,h3⟩:=hl;simp only at h1 h2 h3;obtain ⟨y,rfl⟩:∃ y:Nat,l2=(y:Int):=⟨l2.toNat,by omega⟩;obtain ⟨z,rfl⟩:∃ z:Nat,l3=(z:Int):=⟨l3.toNat,by omega⟩;have hy:y<p.te.length:=by omega
 have hz:z<p.ca.length:=by omega
 have hld:=car_ld hz;have ht0:=tch_0 hy;have hrg:=hp.rg y hy;rw[show Qca p ⟨l1,(y:Int),(z:Int),l4,l5,l6,l7⟩=(decide (mayE p.sys (p.te[y]!).rg (p.ca[z]!).cl (p.ca[z]!).ft=0)&&alwB p.sys (p.te[y]!).rg (p.ca[z]!).cl (p.ca[z]!).ft) from rfl];have h29:=c29 p.sys hp.sys (p.te[y]!).rg hrg (p.ca[z]!).cl (p.ca[z]!).ft;rw[may_e] at h29;generalize p.te[y]! = t at *;generalize p.ca[z]! = c at *;obtain ⟨c1,c2⟩:=c;simp only at hld h29 ⊢;refine ⟨ZF (fok95 true) (QC rfl) ?_,rfl⟩;simp only[ic95,WI,cellsOf,XP hz,hld,evA,simprocAttr];refine DW_s [15] [] hmix (by kernel_rfl) rfl ?_;simp only[XP hy,ht0,evA,simprocAttr];refine YE (h29.call frz ⟨rfl,rfl⟩) rfl ?_;simp only[evA,simprocAttr];exact frz
theorem le97 (l:Les):PC Tryz.prog 97 [lesA l] (.i l.le):=by
 refine ⟨ZF (fok97 true) (QC rfl) ?_,rfl⟩;simp only[ic97,WI,cellsOf,evA,simprocAttr];exact frz
theorem le98 (l:Les):PC Tryz.prog 98 [lesA l] (.i l.te):=by
 refine ⟨ZF (fok98 true) (QC rfl) ?_,rfl⟩;simp only[ic98,WI,cellsOf,evA,simprocAttr];exact frz
theorem le99 (l:Les):PC Tryz.prog 99 [lesA l] (.i l.ca):=by
 refine ⟨ZF (fok99 true) (QC rfl) ?_,rfl⟩;simp only[ic99,WI,cellsOf,evA,simprocAttr];exact frz
def pkL (f:Les→Int) (ls:List Les) (z:Int) (k:Nat):List Int:=YS k fun i=>f ls[i]! == z
theorem le100 (ls:List Les) (hls:ls.length≤12) (fn:FuncId) (f:Les→Int) (hf:∀ l:Les,PC Tryz.prog fn [lesA l] (.i (f l))) (z:Int) (σ:List AObj) :
  AC Tryz.prog 100 [.cv (lesR ls),.fn (.func fn) [],.i z] σ fun r τ=>VH σ.length 1 τ r (pkL f ls z ls.length).length ((pkL f ls z ls.length).map (.int .i64))∧σ.length≤τ.length∧∀ l,l<σ.length→τ[l]? = σ[l]? := by
 have h44:(2:Nat) ^ 44=17592186044416:=by decide
 refine ZF (fok100 true) (QC rfl) ?_;simp only[ic100,evA,simprocAttr];refine ZW ls.length (fun k s=>∃ v3 v4 v5 v9 v10 H,VH σ.length 1 H v3 (pkL f ls z k).length ((pkL f ls z k).map (.int .i64))∧σ.length≤H.length∧(∀ l,l<σ.length→H[l]? = σ[l]?)∧s=⟨[.cv (lesR ls),.fn (.func fn) [],.i z,v3,v4,v5,.cv (lesR ls),.i ls.length,.i k,v9,v10],H⟩) ?_ 0 (QF _) ⟨_,_,_,_,_,_,.inl ⟨rfl,rfl,rfl⟩,QG _,fun _ _=>rfl,rfl⟩;rintro k s hk ⟨v3,v4,v5,v9,v10,H,hA,hH,hs,rfl⟩;by_cases h:k<ls.length
 ·have hld:=MQ h;have hlen:(pkL f ls z k).length≤k:=M7;have hst:pkL f ls z (k+1)=pkL f ls z k++if (f ls[k]! == z)=true then [(k:Int)] else []:=ET _ _
  have hfk:=hf ls[k]!;generalize ls[k]! = l at *;obtain ⟨l1,l2,l3,l4,l5,l6,l7⟩:=l;simp only at hld;have hset:∀ x:AObj,(H++[x]).length=H.length+1:=fun x=>by simp
  simp only[ic100l0,QJ,h,F5 h,hld,WW,VW,evA,simprocAttr];refine hfk.call frz ?_;have hA1:∀ o:AObj,VH σ.length 1 (H++[o]) v3 (pkL f ls z k).length ((pkL f ls z k).map (.int .i64)):=fun o=>hA.imp id fun ⟨l,h1,h2,h3,h4⟩=>⟨l,h1,h2,h3,ZH h4 _⟩
  cases hb:(f ⟨l1,l2,l3,l4,l5,l6,l7⟩ == z) with
  | false =>
   rw[hb,if_neg (by decide),ZU] at hst;simp only[hb,Q6 (show k+1<2 ^ 63 by omega),evA,simprocAttr];exact ZL (by first | trivial | omega) ⟨_,_,_,_,_,_,by rw[hst];exact hA1 _,by simp;omega,fun l hl=>by rw[QE (by omega)];exact hs l hl,rfl⟩
  | true =>
   rw[hb,if_pos rfl] at hst;obtain ⟨v',σ',p1,p2,p3,p4⟩:=K3 (by_:=8) (x:=[.int .i64 k]) (show σ.length≤(H++[AObj.cells [.i l1,.i l2,.i l3,.i l4,.i l5,.i l6,.i l7]]).length by simp;omega) (hA1 _) rfl (by omega) (by omega);have pn:=p2.nu;simp only[QM,List.length_cons,List.length_nil,QW,List.cons_append,List.nil_append,Q0,WS,ZV] at p1 p4;simp only[hb,p1,pn,Q6 (show k+1<2 ^ 63 by omega),QW,QM,evA,simprocAttr];exact ZL (by first | trivial | omega) ⟨_,_,_,_,_,_,by rw[hst,QM,ZS];exact p2,by omega,fun l hl=>by rw[p3 l hl,QE (by omega)];exact hs l hl,rfl⟩
 ·have hke:k=ls.length:=by omega
  subst hke;have hnu:=hA.nu;simp only[ic100l0,QJ,h,evA,simprocAttr];exact ⟨hA,hH,hs⟩
def shB (ps:List Pat) (i n:Nat):Bool:=(List.range n).any fun k=>bit (ps[k]!).1 i
theorem shB_succ (ps:List Pat) (i n:Nat):shB ps i (n+1)=(shB ps i n||bit (ps[n]!).1 i):=by
 unfold shB;rw[WM,List.any_append];simp
def GW (ps:List Pat) (l:List Int):Nat→Int
 | 0=>0
 | i+1=>GW ps l i+if shB ps i ps.length=true then 0 else gI l i
theorem I7 {ps:List Pat} {l:List Int} (h:N3 l):∀ i,i≤l.length→0≤GW ps l i∧GW ps l i≤3*i
 | 0,_=>by simp[GW]
 | i+1,hi=>by have ih:=I7 (ps:=ps) h i (by omega);have:=h i (by omega);unfold GW;split <;> omega
theorem AL {ps:List Pat} {l:List Int} (h:N3 l):∀ i,i≤l.length→(0<GW ps l i↔∃ j,j<i∧0<gI l j∧shB ps j ps.length=false)
 | 0,_=>by simp[GW]
 | i + 1,hi=>by
  have ih:=AL (ps:=ps) h i (by omega);have hb:=I7 (ps:=ps) h i (by omega);have hi2:=h i (by omega);unfold GW;constructor
  ·intro hp;by_cases h1:0<GW ps l i
   ·obtain ⟨j,hj,h2⟩:=ih.1 h1;exact ⟨j,by omega,h2⟩
   ·cases hs:shB ps i ps.length with
    | true=>rw[hs,if_pos rfl] at hp;omega
    | false =>
     rw[hs,if_neg (by decide)] at hp;exact ⟨i,by omega,by omega,hs⟩
  ·rintro ⟨j,hj,h1,h2⟩;by_cases hji:j=i
   ·subst hji;rw[h2,if_neg (by decide)];omega
   ·have:=ih.2 ⟨j,by omega,h1,h2⟩;split <;> omega
theorem Qep {ps:List Pat} {l:List Int} (h:N3 l):NY ps l=decide (0<GW ps l l.length):=by
 rw[Q8,decide_eq_true_eq,AL h _ (QG _)];unfold NY;rw[ZZ];constructor
 ·rintro ⟨j,hj,h1⟩;rw[QD,decide_eq_true_eq] at h1;exact ⟨j,by simpa using hj,h1.1,by simpa[shB] using h1.2⟩
 ·rintro ⟨j,hj,h1,h2⟩;refine ⟨j,by simpa using hj,?_⟩;rw[QD,decide_eq_true_eq];exact ⟨h1,by simpa[shB] using h2⟩
def pad6 (l:List Int):List Int:=l++List.replicate (6-l.length) 0
theorem pad6_len {l:List Int} (h:l.length≤6):(pad6 l).length=6:=by simp[pad6];omega
theorem pad6_n3 {l:List Int} (h:N3 l):N3 (pad6 l):=fun i hi=>by
 unfold pad6 at hi ⊢;by_cases h2:i<l.length
 ·rw[Qaw _ h2];exact h i h2
 ·rw[MX _ (by omega)];omega
theorem setR_pad {l:List Int} (h:l.length≤6):setRange [.i 0,.i 0,.i 0,.i 0,.i 0,.i 0,.i 0] 1 (l.map AV.i)=.i 0::(pad6 l).map AV.i:=by
 match l,h with
 | [],_=>rfl
 | [a],_=>rfl
 | [a,b],_=>rfl
 | [a,b,c],_=>rfl
 | [a,b,c,d],_=>rfl
 | [a,b,c,d,e],_=>rfl
 | [a,b,c,d,e,f],_=>rfl
theorem copy_pad {l:List Int} (h:l.length≤6) {σ:List AObj} {L:Nat} (hr:rowOf σ L=some [.i 0,.i 0,.i 0,.i 0,.i 0,.i 0,.i 0]) :
  UE 1 [.sl L 1 6 1,ints l] σ=some (.i l.length,σ.set L (.cells (.i 0::(pad6 l).map AV.i))):=by
 have hsrc:Z9 σ 1 (ints l)=some (l.map AV.i):=by simp[Z9]
 have hmin:Nat.min l.length 6=l.length:=VD h;have hsc:(l.map AV.i).all AV.isSc=true:=by rw[Q1];intro v hv;obtain ⟨z,_,rfl⟩:=ZP.1 hv;rfl
 have h1:True∧1+6*1≤([.i 0,.i 0,.i 0,.i 0,.i 0,.i 0,.i 0]:List AV).length∧l.length*1=(l.map AV.i).length∧(l.map AV.i).all AV.isSc=true:=⟨trivial,by decide,by simp,hsc⟩;simp only[UE,hr,hsrc,lenF,Option.bind_some];rw[if_pos h1,hmin,W3,Q5 (by simp),setR_pad h]
theorem SO {b e by_ n:Nat} {σ K:List AObj} {v:AV} {cs x:List CV} (hb0:b≤σ.length) (h:VH b e σ v n cs) (hx:x.length=e) (hb:(n+1)*by_≤2 ^ 44) (hn:n+1≤2 ^ 44) :
  ∃ (v':AV) (σ2 K2:List AObj),ZX e by_ [v,.sl (σ++K).length 0 1 e] ((σ++K)++[AObj.cells (x.map .cv)])=some (v',(σ2++K)++K2)∧VH b e ((σ2++K)++K2) v' (n+1) (cs++x)∧σ2.length=σ.length∧∀ i,i<b→σ2[i]? = σ[i]? := by
 have hsrc:Z9 ((σ++K)++[AObj.cells (x.map .cv)]) e (.sl (σ++K).length 0 1 e)=some (x.map .cv):=by
  have h1:0+1*e≤(x.map AV.cv).length:=by simp[hx]
  simp only[Z9,if_true,XH,Option.bind_some];rw[if_pos h1,YO,Q5 (by simp[hx])]
 rcases h with ⟨rfl,rfl,rfl⟩ | ⟨l,hbl,rfl,hl,hr⟩
 ·refine ⟨.sl ((σ++K)++[AObj.cells (x.map .cv)]).length 0 1 e,σ,[AObj.cells (x.map .cv)]++[AObj.cells (x.map .cv)],?_,.inr ⟨_,by simp;omega,rfl,by simp[hx],by rw[← QW,XH];simp⟩,rfl,fun i hi=>rfl⟩;have h1:1*e=(x.map AV.cv).length∧1*by_≤2 ^ 44∧1≤2 ^ 44∧(x.map AV.cv).all AV.isSc=true:=⟨by simp[hx],by omega,by omega,S2 x⟩;simp only[ZX,hsrc,lenF,Option.bind_some];rw[if_neg (by omega),if_pos h1];simp only[QW]
 ·have hlt:=(QH.1 (WO hr)).1;have hr':=ZH hr (K++[AObj.cells (x.map .cv)]);rw[← QW] at hr';have hset:((σ++K)++[AObj.cells (x.map .cv)]).set l AObj.dead=(σ.set l AObj.dead++K)++[AObj.cells (x.map .cv)]:=by
   rw[QW,YG _ _ hlt,← QW]
  refine ⟨.sl ((σ++K)++[AObj.cells (x.map .cv)]).length 0 (n+1) e,σ.set l .dead,[AObj.cells (x.map .cv)]++[AObj.cells (cs.map .cv++x.map .cv)],?_,.inr ⟨_,by simp;omega,rfl,by rw[QM,hl,hx,XJ],?_⟩,by simp,fun i hi=>by rw[QU (by omega)]⟩
  ·have h1:True∧n*e≤(cs.map AV.cv).length∧1*e=(x.map AV.cv).length∧(n+1)*by_≤2 ^ 44∧n+1≤2 ^ 44∧(x.map AV.cv).all AV.isSc=true:=⟨trivial,by simp[hl],by simp[hx],hb,hn,S2 x⟩;simp only[ZX,hr',hsrc,lenF,Option.bind_some];rw[if_pos h1,Q5 (by simp[hl]),hset];simp only[QW]
  ·rw[← QW];have:((σ++K)++[AObj.cells (x.map .cv)]).length=((σ.set l AObj.dead++K)++[AObj.cells (x.map .cv)]).length:=by simp
   rw[this,XH,ZS]
theorem frz_accS {p:CV→Prop} (hp:∀ z,p (.int .i64 z)) {b:Nat} {σ:List AObj} {v:AV} {C:List Int} (h:VH b 1 σ v C.length (C.map (.int .i64))):FrzV p σ v (ints C):=by
 rcases h with ⟨rfl,h0,_⟩ | ⟨l,_,rfl,_,hr⟩
 ·have:C=[]:=ZT h0;subst this;exact RY
 ·rw[XW] at hr;exact U4 hp rfl hr
theorem n3_sum {l:List Int} (h6:l.length=6) (h:N3 l):sumN l<100:=by
 have h0:=h 0 (by omega);have h1:=h 1 (by omega);have h2:=h 2 (by omega);have h3:=h 3 (by omega);have h4:=h 4 (by omega);have h5:=h 5 (by omega);obtain ⟨a,b,c,d,e,f,rfl⟩:=D8 h6;simp only[gI,List.getElem?_cons_zero,List.getElem?_cons_succ,Option.getD_some] at h0 h1 h2 h3 h4 h5;simp only[sumN,Q0,WS,List.sum_cons,List.sum_nil];omega
theorem n2_ok {a b:Int} (h:(-9223372036854775808≤a∧a≤9223372036854775807)∧-9223372036854775808≤b∧b≤9223372036854775807):∀ i,i<2→-9223372036854775808≤gI [a,b] i∧gI [a,b] i≤9223372036854775807
 | 0,_=>h.1
 | 1,_=>h.2
 | i+2,hi=>absurd hi (by omega)
theorem eq2 {a b c d:Int} (h:(-9223372036854775808≤a∧a≤9223372036854775807)∧-9223372036854775808≤b∧b≤9223372036854775807) (h2:(-9223372036854775808≤c∧c≤9223372036854775807)∧-9223372036854775808≤d∧d≤9223372036854775807) :
  JW K2 (.agg [.i a,.i b]) (.agg [.i c,.i d])=some (decide ([a,b]=[c,d])):=eqk_n (n:=2) (a:=[a,b]) (b:=[c,d]) rfl rfl (n2_ok h) (n2_ok h2)
theorem eq7 {a b:List Int} (ha:KeyW a) (hb:KeyW b):JW K7 (keyV a) (keyV b)=some (decide (a=b)):=key_eq ha hb
structure FwL (ps:List Pat) (H:List AObj) (M:Mem) (v:AV) (C:List Int) (mt:Int) (k:Nat) (L:List Int) (c:Int × Int):Prop where
 r0:rowOf H 0=some [.cv (patR ps)]
 r1:rowOf H 1=some [v,.i mt]
 m2:H[2]? = some (.map (memE M))
 r3:rowOf H 3=some [.map 2]
 r4:rowOf H 4=some [.i 1073741824,.i 0]
 r5:rowOf H 5=some [.fn (.func 57) [.ptr 0 0,.ptr 4 0,.ptr 3 0,.ptr 5 0]]
 r6:rowOf H 6=some (.i k::L.map AV.i)
 r7:rowOf H 7=some [.i c.1,.i c.2]
 acc:VH 8 1 H v C.length (C.map (.int .i64))
 len:8≤H.length
section
variable {ps:List Pat} {H:List AObj} {M:Mem} {v:AV} {C:List Int} {mt:Int} {k:Nat} {L:List Int} {c:Int × Int}
theorem QfE {b e n:Nat} {cs:List CV} (h:VH b e H v n cs) (J:List AObj):VH b e (H++J) v n cs:=h.imp id fun ⟨l,h1,h2,h3,h4⟩=>⟨l,h1,h2,h3,ZH h4 J⟩
theorem FF {b e n:Nat} {cs:List CV} (h:VH b e H v n cs) {X:Nat} (hx:X<b) (x:AObj):VH b e (H.set X x) v n cs:=h.imp id fun ⟨l,h1,h2,h3,h4⟩=>⟨l,h1,h2,h3,by rw[QX (by omega)];exact h4⟩
theorem FwL.app (h:FwL ps H M v C mt k L c) (J:List AObj):FwL ps (H++J) M v C mt k L c :=
 ⟨ZH h.r0 J,ZH h.r1 J,by rw[QE (by have:=h.len;omega)];exact h.m2,ZH h.r3 J,ZH h.r4 J,ZH h.r5 J,ZH h.r6 J,ZH h.r7 J,QfE h.acc J,by have:=h.len;simp;omega⟩
theorem FwL.mp (h:FwL ps H M v C mt k L c) (M':Mem):FwL ps (mpH 2 H M') M' v C mt k L c:=by
 unfold mpH;have hl:=h.len;exact ⟨by rw[QX (by decide)];exact h.r0,by rw[QX (by decide)];exact h.r1,by rw[Z2 (by omega)],by rw[QX (by decide)];exact h.r3,by rw[QX (by decide)];exact h.r4,by rw[QX (by decide)];exact h.r5,by rw[QX (by decide)];exact h.r6,by rw[QX (by decide)];exact h.r7,FF h.acc (by decide) _,by simp;omega⟩
theorem FwL.set6 (h:FwL ps H M v C mt k L c) (k':Nat) (L':List Int):FwL ps (H.set 6 (.cells (.i k'::L'.map AV.i))) M v C mt k' L' c:=by
 have hl:=h.len;exact ⟨by rw[QX (by decide)];exact h.r0,by rw[QX (by decide)];exact h.r1,by rw[QU (by decide)];exact h.m2,by rw[QX (by decide)];exact h.r3,by rw[QX (by decide)];exact h.r4,by rw[QX (by decide)];exact h.r5,W0 h.r6,by rw[QX (by decide)];exact h.r7,FF h.acc (by decide) _,by simp;omega⟩
theorem FwL.set7 (h:FwL ps H M v C mt k L c) (c':Int × Int):FwL ps (H.set 7 (.cells [.i c'.1,.i c'.2])) M v C mt k L c':=by
 have hl:=h.len;exact ⟨by rw[QX (by decide)];exact h.r0,by rw[QX (by decide)];exact h.r1,by rw[QU (by decide)];exact h.m2,by rw[QX (by decide)];exact h.r3,by rw[QX (by decide)];exact h.r4,by rw[QX (by decide)];exact h.r5,by rw[QX (by decide)];exact h.r6,W0 h.r7,FF h.acc (by decide) _,by simp;omega⟩
theorem FwL.low (h:FwL ps H M v C mt k L c) {W:List AObj} (hl:8≤W.length) (hi:∀ i,i<8→W[i]? = H[i]?) {v':AV} {C':List Int} (ha:VH 8 1 W v' C'.length (C'.map (.int .i64))) (mt':Int):FwL ps (W.set 1 (.cells [v',.i mt'])) M v' C' mt' k L c:=by
 have hr:∀ i,i<8→rowOf W i=rowOf H i:=fun i h=>by unfold rowOf;rw[hi i h]
 exact ⟨by rw[QX (by decide),hr 0 (by decide)];exact h.r0,W0 (by rw[hr 1 (by decide)];exact h.r1),by rw[QU (by decide),hi 2 (by decide)];exact h.m2,by rw[QX (by decide),hr 3 (by decide)];exact h.r3,by rw[QX (by decide),hr 4 (by decide)];exact h.r4,by rw[QX (by decide),hr 5 (by decide)];exact h.r5,by rw[QX (by decide),hr 6 (by decide)];exact h.r6,by rw[QX (by decide),hr 7 (by decide)];exact h.r7,FF ha (by decide) _,by simp;omega⟩
theorem FwL.fw (h:FwL ps H M v C mt k L c):FwH ps H 0 4 3 2 5:=⟨h.r0,h.r4,h.r3,h.r5,by have:=h.len;omega,by decide,by decide,by decide,by decide⟩
theorem FwL.self (h:FwL ps H M v C mt k L c):mpH 2 H M=H:=by
 unfold mpH;apply Z1;intro j;rw[ZO];by_cases hj:2=j
 ·subst hj;rw[if_pos rfl,if_pos (by have:=h.len;omega)];exact h.m2.symm
 ·rw[if_neg hj]
end
theorem le17 (ps:List Pat) (l:List Int) (hp:ps.length<2 ^ 63) (hl:l.length<2 ^ 63):PC Tryz.prog 17 [.cv (patR ps),ints l] (fewA ps l):=by
 refine ⟨ZF (fok17 true) (QC rfl) ?_,rfl⟩;unfold fewA fewL;simp only[ic17,WI,cellsOf,evA,simprocAttr];refine (le56 ps l hp hl).call frz ?_;by_cases he:chkE ps l=0
 rotate_left
 ·have hb:(chkE ps l != 0)=true:=by simpa using he
  rw[if_pos he];simp only[hb,evA,simprocAttr];exact .tup (.cons (.agg (.cons (.c .nl) (.cons (.c (.c _ trivial)) .nil))) (.cons (.c (.c _ trivial)) .nil))
 have hb:(chkE ps l != 0)=false:=by simpa using he
 have hok:=Qd3 he;have hn3:N3 l:=hok.need;rw[if_neg (fun h=>h he)];have h12:=hok.p12;have h6:=hok.l6;simp only[hb,he,evA,simprocAttr];refine ZW l.length (fun i st=>∃ v6 v7 v8 v21 v22 v23 v24 v25 v26,st=⟨[.cv (patR ps),ints l,.ptr 0 0,.ptr 1 0,.i 0,.i (GW ps l i),v6,v7,v8,.undef,.undef,.undef,.undef,.undef,.undef,.undef,.undef,.b false,ints l,.i l.length,.i i,v21,v22,v23,v24,v25,v26,.undef,.undef,.undef],[.cells [.cv (patR ps)],.cells [.cv .nils,.i 0]]⟩) ?_ 0 (QF _) ⟨_,_,_,_,_,_,_,_,_,rfl⟩;rintro i st hi ⟨v6,v7,v8,v21,v22,v23,v24,v25,v26,rfl⟩;have hlb:=I7 (ps:=ps) hn3 i hi;by_cases hil:i<l.length
 ·have hg:=hn3 i hil;have hlb2:=I7 (ps:=ps) hn3 (i+1) hil;have hls:GW ps l (i+1)=GW ps l i+if shB ps i ps.length=true then 0 else gI l i:=rfl
  obtain ⟨x,hx⟩:∃ x,x=gI l i:=⟨_,rfl⟩;have hgI:l[i]?.getD 0=x:=hx.symm;rw[← hx] at hls hg;clear hx;generalize GW ps l i=tot at *;generalize GW ps l (i+1)=tot2 at *;simp only[ic17l2,QJ,hil,J5 hil,J4 hil,WA,hgI,evA,simprocAttr];refine ZW ps.length (fun j st=>∃ v8 v25 v26,st=⟨[.cv (patR ps),ints l,.ptr 0 0,.ptr 1 0,.i 0,.i tot,.i i,.i (if shB ps i j=true then 0 else x),v8,.undef,.undef,.undef,.undef,.undef,.undef,.undef,.undef,.b false,ints l,.i l.length,.i i,.b true,.cv (patR ps),.i ps.length,.i j,v25,v26,.undef,.undef,.undef],[.cells [.cv (patR ps)],.cells [.cv .nils,.i 0]]⟩) ?_ 0 (QF _) ⟨_,_,_,rfl⟩;clear v6 v7 v8 v21 v22 v23 v24 v25 v26;rintro j st hj ⟨v8,v25,v26,rfl⟩;by_cases hjl:j<ps.length
  ·have hpat:=hok.pat j hjl;have hld:=B4 hjl;have hss:=shB_succ ps i j;have hpw:=(Qa6 h6).2;obtain ⟨⟨hs0,hs1⟩,_⟩:=hpat;obtain ⟨a,ha⟩:∃ a:Nat,(ps[j]!).1=(a:Int):=⟨(ps[j]!).1.toNat,by omega⟩;have ha64:a<64:=by omega
   have hsh:=ishr a i (by omega);have hsmall:a >>> i<2 ^ 62:=WJ (by rw[JR];exact Nat.div_le_self _ _) (Z6 ha64 (by decide));have hand:=iand1 hsmall;have hbm:=QbC (i:=i) ha;rw[hss];generalize ps[j]! = p at *;obtain ⟨s,m⟩:=p;simp only at ha hld hbm hss ⊢;have hob:∀ o∈[AObj.cells [.cv (patR ps)],.cells [.cv .nils,.i 0]],Z3 2 o=true:=by intro o ho;simp only[ZD,WK,or_false] at ho;rcases ho with rfl | rfl <;> rfl
   cases hbt:bit s i with
   | true =>
    rw[hbt,if_pos rfl] at hbm;rw[ha] at hld;simp only[ic17l1,QJ,hjl,O9 hjl,hld,hsh,hand,hbm,evA,simprocAttr];exact W1 [.cells [.cv (patR ps)],.cells [.cv .nils,.i 0]] _ rfl (by first | trivial | omega) (QF _) hob ⟨_,_,_,by rw[ZC (by omega)];rfl⟩
   | false =>
    rw[hbt,if_neg (by decide)] at hbm;rw[ha] at hld;simp only[ic17l1,QJ,hjl,O9 hjl,hld,hsh,hand,hbm,evA,simprocAttr];exact W1 [.cells [.cv (patR ps)],.cells [.cv .nils,.i 0]] _ rfl (by first | trivial | omega) (QF _) hob ⟨_,_,_,by rw[ZC (by omega)];rfl⟩
  ·have hje:j=ps.length:=by omega
   subst hje;have hw:IntKind.i64.wrap (tot+if shB ps i ps.length=true then 0 else x)=tot2:=by rw[← hls];exact ZC (by omega)
   simp only[ic17l1,QJ,hjl,hw,Q6 (show i+1<2 ^ 63 by omega),evA,simprocAttr];exact ZL (by first | trivial | omega) ⟨_,_,_,_,_,_,_,_,_,rfl⟩
 have hie:i=l.length:=by omega
 subst hie;have hlk0:=Qep (ps:=ps) hn3;rw[hlk0];generalize GW ps l l.length=tot at *;cases hlk:decide (0<tot) with
 | true =>
  have hgt:decide (tot>0)=true:=hlk;rw[if_pos rfl];simp only[ic17l2,QJ,hil,hgt,evA,simprocAttr];exact .tup (.cons (.agg (.cons (.c .nl) (.cons (.c (.c _ trivial)) .nil))) (.cons (.c (.c _ trivial)) .nil))
 | false =>
 have hgt:decide (tot>0)=false:=hlk;have hlack:NY ps l=false:=by rw[hlk0];exact hlk
 rw[if_neg (by decide)];have hmt:MtOk ps:=fun k hk=>(hok.pat k hk).2
 have hsh:∀ k,k<ps.length→0≤(ps[k]!).1∧(ps[k]!).1<64:=fun k hk=>by have:=(hok.pat k hk).1;have:=(Qa6 h6).2;omega
 have hp6:=pad6_len h6;have hpn:=pad6_n3 hn3;obtain ⟨c0,hc0⟩:∃ c,fewV ps 0 (pad6 l)=some c:=by obtain ⟨a,b,h⟩:=few_some (fun k hk=>(hmt k hk).1) hn3.nn hlack;exact ⟨(a,b),by unfold pad6;rw[OD];exact h⟩
 obtain ⟨F,hF⟩:∃ F,F=ps.length+sumN (pad6 l)+1:=⟨_,rfl⟩;have hsum:sumN (pad6 l)<100:=n3_sum hp6 hpn;have hbest:HG (UJ ps l)=HG (grL ps F 0 (pad6 l)):=by rw[hF];unfold pad6 UJ;rw[QbW,Qas]
 have hmet:XX ps (UJ ps l)=c0.2:=(OP (fun k hk=>(hmt k hk).1) hn3.nn (a:=c0.1) (b:=c0.2) (by rw[← hc0];unfold pad6;rw[OD])).2.1;rw[hbest,hmet];have hcp:=fun σ hr=>copy_pad h6 (σ:=σ) (L:=6) hr
 have hsl:∀ σ:List AObj,rowOf σ 6=some [.i 0,.i 0,.i 0,.i 0,.i 0,.i 0,.i 0]→OG 6 1 false false [.ptr 6 1] σ=some (.sl 6 1 6 1,σ):=fun σ hr=>by simp[OG,hr,bnds,bnd]
 obtain ⟨g1,g2⟩:=O6 hmt h12 F 0 (pad6 l) [] hpn hp6 (by omega) (by omega) (fun e he=>absurd he (by simp));have hcall:=le57 ps hmt h12 hsh (A:=0) (B:=4) (C:=3) (D:=2) (E:=5) F 0 (pad6 l) [] [.cells [.cv (patR ps)],.cells [.cv .nils,.i 0],.map [],.cells [.map 2],.cells [.i 1073741824,.i 0],.cells [.fn (.func 57) [.ptr 0 0,.ptr 4 0,.ptr 3 0,.ptr 5 0]],.cells (.i 0::(pad6 l).map AV.i)] ⟨rfl,rfl,rfl,rfl,by simp,by decide,by decide,by decide,by decide⟩ (QF _) hp6 hpn (by omega) (by omega) (fun e he=>absurd he (by simp));obtain ⟨z0,z1,z2,z3,z4,z5,hz⟩:=D8 hp6;have hzE:(pad6 l).map AV.i=[.i z0,.i z1,.i z2,.i z3,.i z4,.i z5]:=by rw[hz];rfl
 generalize lstF ps F 0 (pad6 l) []=r0 at *;obtain ⟨x0,M0⟩:=r0;simp only at g1 g2;rw[hc0] at g1;cases g1;rw[hzE] at hcp;simp only[hzE,mpH,List.set_cons_succ,List.set_cons_zero,memE,WS] at hcall;simp only[ic17l2,QJ,hil,hgt,KY,hsl,hcp,evA,simprocAttr];refine hcall.run ?_;obtain ⟨a0,b0⟩:=c0;simp only[c2,evA,simprocAttr];refine ZW F (fun t st=>∃ (k:Nat) (L:List Int) (M:Mem) (v:AV) (C:List Int) (c:Int × Int) (H:List AObj) (v14 v15 v16 v28 v29:AV),FwL ps H M v C b0 k L c∧L.length=6∧N3 L∧sumN L<100∧QaP ps M∧fewV ps k L=some c∧k≤ps.length∧ps.length-k+sumN L+t<F∧HG (grL ps F 0 (pad6 l))=C++HG (grL ps (F-t) k L)∧C.length≤t ∧
  st=⟨[.cv (patR ps),ints l,.ptr 0 0,.ptr 1 0,.i 0,.i tot,v6,v7,v8,.ptr 3 0,.ptr 4 0,.ptr 5 0,.ptr 6 0,.ptr 7 0,v14,v15,v16,.b false,ints l,.i l.length,.i l.length,.b false,v22,v23,v24,v25,v26,.b false,v28,v29],H⟩) ?_ 0 (QF _) ⟨0,pad6 l,M0,.cv .nils,[],(a0,b0),_,_,_,_,_,_,⟨rfl,rfl,rfl,rfl,rfl,rfl,by rw[hzE];rfl,rfl,.inl ⟨rfl,rfl,rfl⟩,by simp⟩,hp6,hpn,hsum,g2,hc0,QF _,by omega,rfl,QG _,rfl⟩
 clear hcall hcp;rintro t st ht ⟨k,L,M,v,C,c,H,v14,v15,v16,v28,v29,hH,hL6,hLn,hLs,hM,hfv,hkp,hmeas,hgr,hCt,rfl⟩;obtain ⟨c1,c2'⟩:=c;have hcb:=DI hmt _ _ _ _ _ hLn.nn hfv;have hz2:=eq2 (a:=c1) (b:=c2') (c:=0) (d:=0) ⟨by omega,by omega⟩ (by decide);by_cases hc00:[c1,c2']=[0,0]
 ·rw[decide_eq_true hc00] at hz2;cases hc00;have hzl:=few_zero hmt hLn.nn hfv;obtain ⟨f,hf⟩:∃ f,F-t=f+1:=⟨F-t-1,by omega⟩;have hnil:grL ps (F-t) k L=[]:=by rw[hf];unfold grL;rw[if_pos hzl]
  rw[hnil] at hgr;have hCe:HG (grL ps F 0 (pad6 l))=C:=by rw[hgr];simp[HG]
  rw[hCe];have hacc:=hH.acc;have hnu:=hacc.nu;have rs1:rowOf (H.set 1 (.cells [v,.i b0])) 1=some [v,.i b0]:=W0 hH.r1;simp only[ic17l0,hH.r7,hH.r1,hz2,hnu,rs1,evA,simprocAttr];exact .tup (.cons (.agg (.cons (frz_accS (fun _=>trivial) (FF hacc (by decide) _)) (.cons (.c (.c _ trivial)) .nil))) (.cons (.c (.c _ trivial)) .nil))
 ·rw [decide_eq_false hc00] at hz2;have hzl:J9 L=false:=by
   cases hzz:J9 L with
   | false=>rfl
   | true=>rw[LK hLn.nn hzz] at hfv;cases hfv;exact absurd rfl hc00
  have hk2:=few_lt hLn.nn hzl hfv;have hskip:=few_skip hLn.nn hzl hfv;have htk:=QeY hmt hLn.nn (by omega) hfv;obtain ⟨f,hf⟩:∃ f,F-t=f+1:=⟨F-t-1,by omega⟩;have hf1:F-(t+1)=f:=by omega
  have hgs:grL ps (F-t) k L=if EC ps k L=true then k::grL ps f k (afL (ps[k]!).1 L) else grL ps f (k+1) L:=by rw[hf];show (if J9 L=true then _ else _)=_;rw[if_neg (by rw[hzl];decide)]
  have hpt:=hsh k hk2;have hmk:=hmt k hk2;have hld:=B4 hk2;have hpe:ps[k]! = ((ps[k]!).1,(ps[k]!).2):=rfl;generalize hs0:(ps[k]!).1=s at *;generalize hm0:(ps[k]!).2=m at *;rw[hpe] at hld;have h58:=le58 L hL6 (fun i hi=>hLn i (by omega)) s m hpt;have hy6:(afL s L).length=6:=by rw[JQ,hL6]
  have hyn:=hLn.af s;have hys:=n3_sum hy6 hyn;have hkey:=I8 (k:=k) (by omega) hL6 hLn;have hkey2:=I8 (k:=k) (by omega) hy6 hyn;have heq7:=eq7 hkey2 hkey;have hle57:=fun J=>le57 ps hmt h12 hsh (ps.length-k+sumN (afL s L)+1) k (afL s L) M (H++J) (hH.fw.app J) hkp hy6 hyn (by omega) (by omega) hM
  obtain ⟨g3,g4⟩:=O6 hmt h12 (ps.length-k+sumN (afL s L)+1) k (afL s L) M hyn hy6 (by omega) (by omega) hM;generalize lstF ps (ps.length-k+sumN (afL s L)+1) k (afL s L) M=r1 at *;obtain ⟨⟨a2,b2⟩,M2⟩:=r1;simp only at g3 g4;have hd2:2<H.length:=by have:=hH.len;omega
  simp only[← E4 hd2,hH.self] at hle57;rw[← g3] at htk;simp only at htk;have hbd:0≤a2∧a2≤1073741824∧0≤b2∧b2≤100000000:=by
   cases hc:fewV ps k (afL s L) with
   | none=>rw[hc] at g3;cases g3;decide
   | some c =>
    obtain ⟨c3,c4⟩:=c;rw[hc] at g3;cases g3;have:=DI hmt _ _ _ _ _ hyn.nn hc;omega
  have hw1:IntKind.i64.wrap (a2+1)=a2+1:=ZC (by omega);have hw2:IntKind.i64.wrap (b2+m)=b2+m:=ZC (by omega);have heq2:=eq2 (a:=c1) (b:=c2') (c:=a2+1) (d:=b2+m) ⟨by omega,by omega⟩ ⟨by omega,by omega⟩;have hH2:=hH.mp M2;obtain ⟨x0,x1,x2,x3,x4,x5,hx⟩:=D8 hL6;have hxE:L.map AV.i=[.i x0,.i x1,.i x2,.i x3,.i x4,.i x5]:=by rw[hx];rfl
  obtain ⟨y0,y1,y2,y3,y4,y5,hy⟩:=D8 hy6;have hyE:(afL s L).map AV.i=[.i y0,.i y1,.i y2,.i y3,.i y4,.i y5]:=by rw[hy];rfl
  simp only[keyV,Q0,hxE,hyE] at heq7 h58 hle57;have r0:=fun J=>ZH hH.r0 J
  have r1:=fun J=>ZH hH.r1 J
  have r5:=fun J=>ZH hH.r5 J
  have r6:=fun J=>ZH hH.r6 J
  have r7:=fun J=>ZH hH.r7 J
  rw[hxE] at r6;have r6':=hH.r6;rw[hxE] at r6';have s1:=fun J=>ZH hH2.r1 J
  have s6:=fun J=>ZH hH2.r6 J
  have s7:=fun J=>ZH hH2.r7 J
  rw[hxE] at s6;have hlen:(mpH 2 H M2).length=H.length:=HH M2;have hH8:=hH.len;have e6:∀ J:List AObj,(H++J)[6]? = H[6]? := fun J=>QE (by omega)
  have q0:=fun J=>mpH_z (D:=2) (σ:=H) M2 J
  have qs:=fun J i=>mpH_s (D:=2) (σ:=H) M2 J i
  have qsz:=fun J v=>mpH_sz (D:=2) (σ:=H) M2 J v
  have qzs:=fun J v i=>mpH_zs (D:=2) (σ:=H) M2 J v i
  simp only[ic17l0,r6',hH.r7,hz2,hH.r0,O9 hk2,hld,QW,QM,List.cons_append,List.nil_append,WW,X9,VW,EZ,evA,simprocAttr];refine DW_s [5] [(1,7),(3,7),(4,7),(5,7)] hmix (by kernel_rfl) rfl ?_;simp only[r6,e6,QW,QM,List.cons_append,List.nil_append,WW,X9,VW,EZ,Qau,CH,evA,simprocAttr];refine YE (h58.call frz ⟨rfl,rfl⟩) rfl ?_;simp only[r5,e6,QW,QM,List.cons_append,List.nil_append,WW,X9,VW,EZ,Qau,CH,evA,simprocAttr];refine (hle57 _).run ?_;have hd1:decide ((k:Int)::afL s L=(k:Int)::L)=decide (afL s L=L):=by rw[Q8];simp
  have hd2':decide ([c1,c2']=[a2+1,b2+m])=((c1,c2') == (a2+1,b2+m)):=by rw[Q8];simp
  rw[hd1] at heq7;rw[hd2'] at heq2;have hset6:∀ J,FwL ps ((mpH 2 H M2++J).set 6 (.cells [.i (k+1:Nat),.i x0,.i x1,.i x2,.i x3,.i x4,.i x5])) M2 v C b0 (k+1) L (c1,c2'):=fun J=>by have:=(hH2.app J).set6 (k+1) L;rw[hxE] at this;exact this
  have hwk:IntKind.i64.wrap ((k:Int)+1)=((k+1:Nat):Int):=Q6 (by omega);have hno:EC ps k L=false→HG (grL ps F 0 (pad6 l))=C++HG (grL ps (F-(t+1)) (k+1) L):=fun h=>by rw[hgr,hgs,h,if_neg (by decide),hf1]
  cases hsame:decide (afL s L=L) with
  | true =>
   rw[hsame] at heq7 htk;rw[Y2,Bool.false_and] at htk;simp only[heq7,s6,hlen,q0,qs,qsz,qzs,hwk,QW,QM,List.cons_append,List.nil_append,evA,simprocAttr];exact ZL (by omega) ⟨k+1,L,M2,v,C,(c1,c2'),_,_,_,_,_,_,hset6 _,hL6,hLn,hLs,g4,hskip htk,by omega,by omega,hno htk,by omega,rfl⟩
  | false =>
  rw[hsame] at heq7 htk;rw[ZY,XI] at htk;cases hsm:(c1,c2') == (a2+1,b2+m) with
  | false =>
   rw[hsm] at heq2 htk;simp only[heq7,heq2,s6,s7,hw1,hw2,hlen,q0,qs,qsz,qzs,hwk,QW,QM,List.cons_append,List.nil_append,evA,simprocAttr];exact ZL (by omega) ⟨k+1,L,M2,v,C,(c1,c2'),_,_,_,_,_,_,hset6 _,hL6,hLn,hLs,g4,hskip htk,by omega,by omega,hno htk,by omega,rfl⟩
  | true =>
   rw[hsm] at heq2 htk;simp only[heq7,heq2,s6,s7,hw1,hw2,hlen,q0,qs,qsz,qzs,hwk,QW,QM,List.cons_append,List.nil_append,evA,simprocAttr];have hc:(c1,c2')=(a2+1,b2+m):=eq_of_beq hsm;have hfv2:fewV ps k (afL s L)=some (a2,b2):=by
    cases hq:fewV ps k (afL s L) with
    | none =>
     rw[hq] at g3;cases g3;cases hc;omega
    | some c =>
     rw[hq] at g3;exact congrArg some g3.symm
   have hne:afL s L≠L:=of_decide_eq_false hsame;have hlt:=R3 hLn.nn hne;have hyes:HG (grL ps F 0 (pad6 l))=(C++[(k:Int)])++HG (grL ps (F-(t+1)) k (afL s L)):=by rw[hgr,hgs,htk,if_pos rfl,hf1,QW];rfl
   have hCl:(C++[(k:Int)]).length=C.length+1:=by simp
   clear hle57 hH hH8 e6 q0 qs qsz qzs r0 r1 r5 r6 r7 r6' s1 s6 s7 hset6 hd2;rw[← hlen];generalize mpH 2 H M2=G at *;have hG8:=hH2.len;obtain ⟨v',σ2,K2,p1,p2,p3,p4⟩:=SO (by_:=8) (x:=[.int .i64 k]) (K:=[AObj.cells [.i s,.i m],AObj.cells [.i k,.i y0,.i y1,.i y2,.i y3,.i y4,.i y5],AObj.cells [.i a2,.i b2]]) hH2.len hH2.acc rfl (by omega) (by omega);have pn:=p2.nu;simp only[QM,List.length_cons,List.length_nil,ZV,QW,List.cons_append,List.nil_append,Q0,WS,Nat.reduceAdd] at p1;have s1:=fun J=>ZH hH2.r1 J
   have s6:=fun J=>ZH hH2.r6 J
   rw[hxE] at s6;have e1:∀ J:List AObj,(G++J)[1]? = G[1]? := fun J=>QE (by omega)
   have gL:∀ (τ:List AObj),τ.length=G.length→∀ J i,(τ++J)[G.length+i]? = J[i]? := fun τ h J i=>by rw[← h];exact CH τ J i
   have rL:∀ (τ:List AObj),τ.length=G.length→∀ J i,rowOf (τ++J) (G.length+i)=rowOf J i:=fun τ h J i=>by rw[← h];exact X9 τ J i
   have hrl:∀ i,i<8→rowOf σ2 i=rowOf G i:=fun i h=>by unfold rowOf;rw[p4 i h]
   have u1:rowOf σ2 1=some [v,.i b0]:=by rw[hrl 1 (by decide)];exact hH2.r1
   have u6:rowOf σ2 6=some [.i k,.i x0,.i x1,.i x2,.i x3,.i x4,.i x5]:=by rw[hrl 6 (by decide),hH2.r6,hxE]
   have u7:rowOf σ2 7=some [.i c1,.i c2']:=by rw[hrl 7 (by decide)];exact hH2.r7
   have w1:∀ (τ:List AObj),τ.length=G.length→∀ J,rowOf (τ++J) 1=rowOf τ 1:=fun τ h J=>by unfold rowOf;rw[QE (by omega)]
   have w6:∀ (τ:List AObj),τ.length=G.length→∀ J,rowOf (τ++J) 6=rowOf τ 6:=fun τ h J=>by unfold rowOf;rw[QE (by omega)]
   have w7:∀ (τ:List AObj),τ.length=G.length→∀ J,rowOf (τ++J) 7=rowOf τ 7:=fun τ h J=>by unfold rowOf;rw[QE (by omega)]
   have z1:∀ (τ:List AObj),τ.length=G.length→∀ J x,(τ++J).set 1 x=τ.set 1 x++J:=fun τ h J x=>YG _ _ (by omega)
   have z6:∀ (τ:List AObj),τ.length=G.length→∀ J x,(τ++J).set 6 x=τ.set 6 x++J:=fun τ h J x=>YG _ _ (by omega)
   have z7:∀ (τ:List AObj),τ.length=G.length→∀ J x,(τ++J).set 7 x=τ.set 7 x++J:=fun τ h J x=>YG _ _ (by omega)
   have n16:(1:Nat)≠6:=by decide
   have n17:(1:Nat)≠7:=by decide
   have n67:(6:Nat)≠7:=by decide
   have f6:=fun X=>QX (σ:=σ2) (l:=1) (l':=6) n16 X
   have f7:=fun X Y=>(QX (σ:=σ2.set 1 X) (l:=6) (l':=7) n67 Y).trans (QX (σ:=σ2) n17 X)
   refine DW_s [] [(1,4),(6,4),(6,5),(6,9),(7,4),(7,5),(7,9),(7,10)] hmix (by kernel_rfl) rfl ?_;simp only[s1,s6,e1,gL,rL,p1,p3,pn,u1,u6,u7,w1,w6,w7,z1,z6,z7,f6,f7,WE,QW,QM,List.cons_append,List.nil_append,WW,X9,VW,EZ,Qau,CH,evA,simprocAttr];have hfin:=((hH2.low (W:=(σ2++[AObj.cells [.i s,.i m],AObj.cells [.i k,.i y0,.i y1,.i y2,.i y3,.i y4,.i y5],AObj.cells [.i a2,.i b2]])++K2) (C':=C++[(k:Int)]) (by simp;omega) (fun i hi=>by rw[QW,QE (by omega)];exact p4 i hi) (by rw[hCl,ZS];exact p2) b0).set6 k (afL s L)).set7 (a2,b2);rw[hyE,QW,z1 _ p3,z6 _ (by rw[WE];exact p3),z7 _ (by rw[WE,WE];exact p3)] at hfin;exact ZL (by omega) ⟨k,afL s L,M2,v',C++[(k:Int)],(a2,b2),_,_,_,_,_,_,hfin,hy6,hyn,hys,g4,hfv2,hkp,by omega,hyes,by omega,rfl⟩
theorem QaX {B:Int} (hB:0≤B) {f:Nat→Int}:∀ {n:Nat},(∀ i,i<n→0≤f i∧f i≤B)→0≤sumI n f∧sumI n f≤B*n
 | 0,_=>by simp[sumI]
 | n+1,h=>by
  have ih:=QaX hB (n:=n) fun i hi=>h i (by omega)
  have:=h n (by omega);simp only[sumI]
  push_cast
  rw[Int.mul_add,Int.mul_one];omega
theorem Qbw {ps:List Pat} {pr:List Int}:OE ps pr=true↔∀ k,k<ps.length→RO (ps[k]!).1 pr≤1000:=by
 unfold OE;rw[Q1];constructor
 ·intro h k hk;exact of_decide_eq_true (h k (by simpa using hk))
 ·intro h k hk;exact decide_eq_true (h k (by simpa using hk))
theorem le20 (ps:List Pat) (l pr:List Int) (hp:ps.length<2 ^ 63) (hl:l.length<2 ^ 63) (hr:pr.length<2 ^ 63):PC Tryz.prog 20 [.cv (patR ps),ints l,ints pr] (floA ps l pr):=by
 refine ⟨ZF (fok20 true) (QC rfl) ?_,rfl⟩;unfold floA floL;simp only[ic20,evA,simprocAttr];refine (le56 ps l hp hl).call frz ?_;by_cases he:chkE ps l=0
 ·have hb:(chkE ps l != 0)=false:=by simpa using he
  have hok:=Qd3 he;rw[if_neg (fun h=>h he)];have h1:=hok.p12;have h6:=hok.l6;simp only[hb,he,evA,simprocAttr];by_cases hlen:pr.length=l.length
  ·have hb2:((pr.length:Int) != l.length)=false:=by rw[hlen];simp
   rw[if_neg (fun h=>h hlen)];simp only[hb2,evA,simprocAttr];refine (le63 0 1000 pr hr).call frz ?_;cases ho:outF 0 1000 pr with
   | true =>
    simp only[evA,simprocAttr];exact frz
   | false =>
    have hpr:∀ i,i<pr.length→0≤gI pr i∧gI pr i≤1000:=fun i hi=>VL.1 ho _ (Qcs hi)
    simp only[evA,simprocAttr];refine ZW ps.length (fun i s=>(∀ k,k<i→RO (ps[k]!).1 pr≤1000)∧∃ v6 v7 v8 v9 v10 v11 v12 v19 v20 v21 v22 v23 v24 v25 v26 v27 v28,s=⟨[.cv (patR ps),ints l,ints pr,.i 0,.i 0,.i 0,v6,v7,v8,v9,v10,v11,v12,.b false,.b false,.b false,.cv (patR ps),.i ps.length,.i i,v19,v20,v21,v22,v23,v24,v25,v26,v27,v28],[]⟩) ?_ 0 (QF _) ⟨by omega,_,_,_,_,_,_,_,_,_,_,_,_,_,_,_,_,_,rfl⟩;rintro i s hi ⟨hall,v6,v7,v8,v9,v10,v11,v12,v19,v20,v21,v22,v23,v24,v25,v26,v27,v28,rfl⟩;by_cases hin:i<ps.length
    ·have hpat:=hok.pat i hin;simp only[ic20l2,QJ,hin,O9 hin,B4 hin,evA,simprocAttr];obtain ⟨⟨hs0,hs1⟩,_⟩:=hpat;have hpw:=(Qa6 h6).2;obtain ⟨a,ha⟩:∃ a:Nat,(ps[i]!).1=(a:Int):=⟨(ps[i]!).1.toNat,by omega⟩;have ha64:a<64:=by omega
     have hprice:RO (ps[i]!).1 pr=sumI pr.length (fun j=>if bit (ps[i]!).1 j then gI pr j else 0):=rfl;generalize hpe:ps[i]! = p at *;obtain ⟨s,m⟩:=p;simp only at ha hprice ⊢;have hf:∀ j,j<pr.length→0≤(if bit s j then gI pr j else 0)∧(if bit s j then gI pr j else 0)≤1000:=fun j hj=>by have:=hpr j hj;split <;> omega
     obtain ⟨f,hff⟩:∃ f:Nat→Int,f=fun j=>if bit s j then gI pr j else 0:=⟨_,rfl⟩
     have hfj:∀ j,f j=if bit s j then gI pr j else 0:=fun j=>by rw[hff]
     rw[← hff] at hprice;have hbd:∀ j,j≤pr.length→0≤sumI j f∧sumI j f≤1000*j:=fun j hj=>QaX (by decide) fun k hk=>by rw[hfj];exact hf k (by omega)
     refine ZW pr.length (fun j s'=>∃ v8 v9 v23,s'=⟨[.cv (patR ps),ints l,ints pr,.i 0,.i 0,.i 0,.ptr 0 0,.i (1000-sumI j f),v8,v9,v10,v11,v12,.b false,.b false,.b false,.cv (patR ps),.i ps.length,.i i,.b true,ints pr,.i pr.length,.i j,v23,v24,v25,v26,v27,v28],[.cells [.i s,.i m]]⟩) ?_ 0 (QF _) ⟨_,_,_,rfl⟩;rintro j s' hj ⟨v8,v9,v23,rfl⟩;by_cases hjl:j<pr.length
     ·have hsh:=ishr a j (by omega);have hsmall:a >>> j<2 ^ 62:=WJ (by rw[JR];exact Nat.div_le_self _ _) (Z6 ha64 (by decide));have hand:=iand1 hsmall;have hbm:=QbC (i:=j) ha;have hn:=hpr j hjl;have hb1:=hbd j hj;have hb2:=hbd (j+1) hjl;have hmul:IntKind.i64.wrap (pr[j]?.getD 0*((a >>> j % 2:Nat):Int))=f j:=by
       rw[hbm,hfj];show IntKind.i64.wrap (gI pr j*_)=_;split
       ·rw[Int.ofNat_one,Int.mul_one];exact ZC (by omega)
       ·rw[Int.ofNat_zero,Int.mul_zero];rfl
      have hsub:IntKind.i64.wrap (1000-sumI j f-f j)=1000-sumI (j+1) f:=by
       simp only[sumI] at hb2 ⊢
       push_cast at hb2
       rw[ZC (by omega)];omega
      rw[ha];simp only[ic20l1,QJ,hjl,hsh,hand,hmul,hsub,evA,simprocAttr];exact ZL (by first | trivial | omega) ⟨_,_,_,by rw[ZC (by omega)];rfl⟩
     ·have hje:j=pr.length:=by omega
      subst hje;have hbn:=hbd pr.length (QG _);rw[← hprice] at hbn ⊢;by_cases hle:RO s pr≤1000
      ·have hb:decide (1000-RO s pr<0)=false:=decide_eq_false (by omega);simp only[ic20l1,QJ,hjl,hb,Q6 (show i+1<2 ^ 63 by omega),evA,simprocAttr];refine W1 [] _ rfl (by first | trivial | omega) (QF _) (by simp) ⟨fun k hk=>?_,_,_,_,_,_,_,_,_,_,_,_,_,_,_,_,_,_,rfl⟩;rcases QQ.1 hk with hk | rfl
       ·exact hall k hk
       ·rw[hpe];exact hle
      ·have hb:decide (1000-RO s pr<0)=true:=decide_eq_true (by omega);have hfair:OE ps pr=false:=by
        cases hfb:OE ps pr with
        | false=>rfl
        | true=>exact absurd (by have:=Qbw.1 hfb i hin;rw[hpe] at this;exact this) hle
       rw[hfair,if_pos rfl];simp only[ic20l1,QJ,hjl,hb,evA,simprocAttr];exact frz
    ·have hie:i=ps.length:=by omega
     have hfair:OE ps pr=true:=Qbw.2 fun k hk=>hall k (by omega)
     rw[hfair,if_neg (by decide)];subst hie;simp only[ic20l2,QJ,hin,evA,simprocAttr];have hbd:∀ j,j≤pr.length→0≤sumI j (fun i=>gI pr i*gI l i)∧sumI j (fun i=>gI pr i*gI l i)≤3000*j:=fun j hj=>QaX (by decide) fun k hk=>by have h1:=hpr k (by omega);have h2:=hok.need k (by omega);exact ⟨Int.mul_nonneg h1.1 h2.1,Int.le_trans (Int.mul_le_mul h1.2 h2.2 h2.1 (by decide)) (by decide)⟩
     refine ZW pr.length (fun j s'=>∃ v11 v12 v28,s'=⟨[.cv (patR ps),ints l,ints pr,.i 0,.i 0,.i 0,v6,v7,v8,v9,.i (sumI j (fun i=>gI pr i*gI l i)),v11,v12,.b false,.b false,.b false,.cv (patR ps),.i ps.length,.i ps.length,.b false,v20,v21,v22,v23,v24,ints pr,.i pr.length,.i j,v28],[]⟩) ?_ 0 (QF _) ⟨_,_,_,rfl⟩;rintro j s' hj ⟨v11,v12,v28,rfl⟩;by_cases hjl:j<pr.length
     ·have hjl2:j<l.length:=by omega
      have h1:=hpr j hjl;have h2:=hok.need j hjl2;have hb1:=hbd j hj;have hb2:=hbd (j+1) hjl;have hpos:=Int.mul_nonneg h1.1 h2.1;have hle:=Int.mul_le_mul h1.2 h2.2 h2.1 (by decide);have hmul0:IntKind.i64.wrap (gI pr j*gI l j)=gI pr j*gI l j:=ZC (by omega);have hmul:IntKind.i64.wrap (pr[j]?.getD 0*l[j]?.getD 0)=gI pr j*gI l j:=hmul0;have hadd:IntKind.i64.wrap (sumI j (fun i=>gI pr i*gI l i)+gI pr j*gI l j)=sumI (j+1) (fun i=>gI pr i*gI l i):=by
       simp only[sumI] at hb2 ⊢
       push_cast at hb2
       exact ZC (by omega)
      simp only[ic20l0,QJ,hjl,J5 hjl2,J4 hjl2,WA,hmul,hadd,evA,simprocAttr];exact ZL (by first | trivial | omega) ⟨_,_,_,by rw[ZC (by omega)];rfl⟩
     ·have hje:j=pr.length:=by omega
      have hbn:=hbd pr.length (QG _);have hdot:sumI pr.length (fun i=>gI pr i*gI l i)=dotL pr l:=rfl;subst hje;rw[hdot] at hbn ⊢;have hw1:IntKind.i64.wrap (dotL pr l+1000)=dotL pr l+1000:=ZC (by omega);have hw2:IntKind.i64.wrap (dotL pr l+1000-1)=dotL pr l+999:=by rw[ZC (by omega)];omega
      have hw3:IntKind.i64.wrap ((dotL pr l+999).tdiv 1000)=(dotL pr l+999) / 1000:=by rw[Int.tdiv_eq_ediv_of_nonneg (by omega)];exact ZC (by omega)
      simp only[ic20l0,QJ,hjl,hw1,hw2,hw3,evA,simprocAttr];exact frz
  ·have hb2:((pr.length:Int) != l.length)=true:=by simp;omega
   rw[if_pos hlen];simp only[hb2,evA,simprocAttr];exact frz
 ·have hb:(chkE ps l != 0)=true:=by simpa using he
  rw[if_pos he];simp only[hb,evA,simprocAttr];exact frz
def ltG (g:Int→Int) (l:List Int) (j:Nat):Bool:=decide (g (gI l j)<g (gI l (j-1)))
def swpL (l:List Int) (j:Nat):List Int:=(l.set j (gI l (j-1))).set (j-1) (gI l j)
def insJ (g:Int→Int):Nat→List Int→List Int
 | 0,l=>l
 | j+1,l=>if ltG g l (j+1)=true then insJ g j (swpL l (j+1)) else l
def isrt (g:Int→Int) (l:List Int):Nat→List Int
 | 0=>l
 | i+1=>insJ g i (isrt g l i)
theorem Qbp (g:Int→Int):∀ (j:Nat) (l:List Int),(insJ g j l).length=l.length
 | 0,_=>rfl
 | j+1,l=>by
  unfold insJ;split
  ·rw[Qbp g j];simp[swpL]
  ·rfl
theorem I9 (g:Int→Int) (l:List Int):∀ i,(isrt g l i).length=l.length
 | 0=>rfl
 | i+1=>by unfold isrt;rw[Qbp,I9 g l i]
theorem swp_ok {Q:Int→Prop} {l:List Int} (h:∀ i,i<l.length→Q (gI l i)) {j:Nat} (hj:j+1<l.length):∀ i,i<(swpL l (j+1)).length→Q (gI (swpL l (j+1)) i):=fun i hi=>by
 have hl:(swpL l (j+1)).length=l.length:=by simp[swpL]
 unfold swpL;rw[JO (by simp;omega)];split
 ·exact h _ hj
 ·rw[JO hj];split
  ·exact h _ (by omega)
  ·exact h i (by omega)
theorem Qdj {Q:Int→Prop} (g:Int→Int):∀ (j:Nat) (l:List Int),j<l.length∨j=0→(∀ i,i<l.length→Q (gI l i))→∀ i,i<(insJ g j l).length→Q (gI (insJ g j l) i)
 | 0,_,_,h=>h
 | j+1,l,hj,h=>by
  have hj:j+1<l.length:=by omega
  unfold insJ;split
  ·exact Qdj g j _ (by simp[swpL];omega) (swp_ok h hj)
  ·exact h
theorem Qao {Q:Int→Prop} (g:Int→Int) {l:List Int} (h:∀ i,i<l.length→Q (gI l i)):∀ i,i≤l.length→∀ k,k<(isrt g l i).length→Q (gI (isrt g l i) k)
 | 0,_=>h
 | i+1,hi=>by unfold isrt;exact Qdj g i _ (by rw[I9];omega) (Qao g h i (by omega))
theorem QcF (x y:Int):decide (cmpN x y<0)=decide (x<y):=by
 unfold cmpN;by_cases h:x<y
 ·simp[h]
 ·rw[if_neg h];split <;> simp[h]
theorem le159 {g:Int→Int} {Q:Int→Prop} {P:Nat} {fv:AV} {σ:List AObj} {l:List Int} (hl:l.length≤12) (hr:rowOf σ P=some (l.map AV.i)) (hQ:∀ i,i<l.length→Q (gI l i))
  (hf:∀ (a b:Int) (m:List Int),Q a→Q b→X0 Tryz.prog fv [.i a,.i b] (σ.set P (.cells (m.map AV.i))) fun r τ=>r=.i (cmpN (g a) (g b))∧τ=σ.set P (.cells (m.map AV.i))) :
  AC Tryz.prog 159 [.sl P 0 l.length 1,.i 0,.i l.length,fv] σ fun r τ=>r=.tup []∧τ=σ.set P (.cells ((isrt g l l.length).map AV.i)):=by
 have hPl:=(QH.1 (WO hr)).1;have hset0:σ=σ.set P (.cells (l.map AV.i)):=by
  apply Z1;intro j;rw[ZO];by_cases hj:P=j
  ·subst hj;rw[if_pos rfl,if_pos hPl];exact WO hr
  ·rw[if_neg hj]
 refine ZF (fok159 true) (QC rfl) ?_;simp only[ic159,evA,simprocAttr];have e1:isrt g l 1=l:=rfl;refine ZW (l.length-1) (fun t s=>∃ v5 v6 v7,s=⟨[.sl P 0 l.length 1,.i 0,.i l.length,fv,.i (t+1:Nat),v5,v6,v7],σ.set P (.cells ((isrt g l (t+1)).map AV.i))⟩) ?_ 0 (QF _) ⟨_,_,_,by rw[ZV,e1,← hset0];rfl⟩;rintro t s ht ⟨v5,v6,v7,rfl⟩;have hiff:(((t+1:Nat):Int)<l.length)↔t+1<l.length:=QJ;by_cases h:t+1<l.length
 ·have hd:decide (((t+1:Nat):Int)<l.length)=true:=decide_eq_true (hiff.2 h);have hok:=Qao (Q:=Q) g hQ (t+1) (by omega);have hln:=I9 g l (t+1);have hst:isrt g l (t+1+1)=insJ g (t+1) (isrt g l (t+1)):=rfl;rw[hst];generalize isrt g l (t+1)=W at *;simp only[ic159l1,hd,evA,simprocAttr];refine ZW (t+1) (fun m s=>∃ (U:List Int) (v6 v7:AV),m≤t+1∧U.length=l.length∧(∀ i,i<U.length→Q (gI U i))∧insJ g (t+1-m) U=insJ g (t+1) W∧s=⟨[.sl P 0 l.length 1,.i 0,.i l.length,fv,.i (t+1:Nat),.i (t+1-m:Nat),v6,v7],σ.set P (.cells (U.map AV.i))⟩) ?_ 0 (QF _) ⟨W,_,_,QF _,hln,hok,rfl,rfl⟩;rintro m s hm ⟨U,v6,v7,hm2,hU,hUQ,hins,rfl⟩;have hrU:rowOf (σ.set P (.cells (U.map AV.i))) P=some (U.map AV.i):=W0 hr;obtain ⟨j,hj⟩:∃ j,j=t+1-m:=⟨_,rfl⟩;rw[← hj] at hins ⊢;refine (?_:IS _ _ _ _ _ _ _);simp only[ic159l0];by_cases hj0:j=0
  ·have hgt:decide ((j:Int)>0)=false:=decide_eq_false (by omega);have hw3:IntKind.i64.wrap (((t+1:Nat):Int)+1)=((t+1+1:Nat):Int):=by rw[ZC (by omega)];omega
   simp only[evA,simprocAttr];refine DW_s [14] [] hmix (by kernel_rfl) rfl ?_;simp only[hgt,hw3,evA,simprocAttr];rw[hj0] at hins;have hUe:U=insJ g (t+1) W:=hins;exact ZL (by omega) ⟨_,_,_,by rw[← hUe]⟩
  ·obtain ⟨k,hk⟩:∃ k,j=k+1:=⟨j-1,by omega⟩;have hgt:decide ((j:Int)>0)=true:=decide_eq_true (by omega);have hjl:j<l.length:=by omega
   have hkl:k<l.length:=by omega
   have hw1:IntKind.i64.wrap ((j:Int)-1)=(k:Int):=by rw[ZC (by omega)];omega
   have la:=V1 (zs:=U) (k:=j) (by omega);have lb:=V1 (zs:=U) (k:=k) (by omega);simp only[evA,simprocAttr];refine DW_s [14] [] hmix (by kernel_rfl) rfl ?_;simp only[hgt,hw1,W9 hjl,W9 hkl,ZV,hrU,la,lb,evA,simprocAttr];refine YE (v:=.i (cmpN (g (gI U j)) (g (gI U k)))) (hf (gI U j) (gI U k) U (hUQ j (by omega)) (hUQ k (by omega))) rfl ?_;have hlt:ltG g U j=decide (g (gI U j)<g (gI U k)):=by unfold ltG;rw[show j-1=k by omega]
   cases hb:ltG g U j with
   | true =>
    have hb2:decide (cmpN (g (gI U j)) (g (gI U k))<0)=true:=by rw[QcF,← hlt,hb]
    have ej:j+1≤U.length:=by omega
    have ek:k+1≤U.length:=by omega
    have hsw:(U.set j (U[k]?.getD 0)).set k (U[j]?.getD 0)=swpL U j:=by unfold swpL;rw[show j-1=k by omega]
    simp only[hb2,evA,simprocAttr];refine DW_s [] [] hmix (by kernel_rfl) rfl ?_;have hr2:∀ V:List Int,rowOf (σ.set P (.cells (V.map AV.i))) P=some (V.map AV.i):=fun V=>W0 hr
    simp only[hw1,W9 hjl,W9 hkl,ZV,hr2,la,lb,ZK,WE,ej,ek,GC,List.set_set,hsw,evA,simprocAttr];refine ZL (by omega) ⟨swpL U j,v6,.b true,by omega,by simp[swpL,hU],?_,?_,?_⟩
    ·rw[hk];exact swp_ok hUQ (by omega)
    ·rw[← hins,hk,show t-m=k by omega];rw[hk] at hb;rw[insJ,if_pos hb]
    ·rw[show t-m=k by omega]
   | false =>
    have hb2:decide (cmpN (g (gI U j)) (g (gI U k))<0)=false:=by rw[QcF,← hlt,hb]
    have hw3:IntKind.i64.wrap (((t+1:Nat):Int)+1)=((t+1+1:Nat):Int):=by rw[ZC (by omega)];omega
    have hUe:U=insJ g (t+1) W:=by rw[← hins,hk,insJ,if_neg (by rw[← hk,hb];decide)]
    simp only[hb2,hw3,evA,simprocAttr];exact ZL (by omega) ⟨_,_,_,by rw[← hUe]⟩
 ·have hd:decide (((t+1:Nat):Int)<l.length)=false:=decide_eq_false fun h'=>h (hiff.1 h')
  have hfin:isrt g l (t+1)=isrt g l l.length:=by
   rcases XF l.length with h0 | h0
   ·have:l=[]:=ZT h0;subst this;have ht0:t=0:=by simpa using ht
    subst ht0;rfl
   ·rw[show t+1=l.length by omega]
  simp only[ic159l1,hd,evA,simprocAttr];rw[hfin]
def bgF (d:Dy) (z:Int):Int:=(d.ls[z.toNat]!).b
def isLi (d:Dy) (z:Int):Prop:=∃ k:Nat,k<d.ls.length∧z=(k:Int)
theorem le102 (p:Pln) {Q:Nat} {σ:List AObj} (hQ:rowOf σ Q=some (plC9 p)) {a b:Int} (ha:isLi p.day a) (hb:isLi p.day b):AC Tryz.prog 102 [.i a,.i b,.ptr Q 0] σ fun r τ=>r=.i (cmpN (bgF p.day a) (bgF p.day b))∧τ=σ:=by
 obtain ⟨i,hi,rfl⟩:=ha;obtain ⟨j,hj,rfl⟩:=hb;unfold bgF;rw[Int.toNat_natCast,Int.toNat_natCast];refine ZF (fok102 true) (QC rfl) ?_;simp only[ic102,evA,simprocAttr];refine DW_s [16] [] hmix (by kernel_rfl) rfl ?_;simp only[hQ,F5 hi,F5 hj,les_3 hi,les_3 hj,evA,simprocAttr];refine YE ((c98 _ _).call frz ⟨rfl,rfl⟩) rfl ?_;simp only[evA,simprocAttr]
theorem Qb5 {σ:List AObj} {P Q:Nat} {cs:List AV} (h:rowOf σ Q=some cs) (hne:P≠Q) (x:AObj):rowOf (σ.set P x) Q=some cs:=by rw[QX hne];exact h
theorem le137 (p:Pln) {P Q:Nat} {σ:List AObj} {l:List Int} (hl:l.length≤12) (hr:rowOf σ P=some (l.map AV.i)) (hQ:rowOf σ Q=some (plC9 p)) (hne:P≠Q) (hli:∀ i,i<l.length→isLi p.day (gI l i)) :
  AC Tryz.prog 137 [.sl P 0 l.length 1,.i l.length,.fn (.func 102) [.ptr Q 0]] σ fun r τ=>r=.tup []∧τ=σ.set P (.cells ((isrt (bgF p.day) l l.length).map AV.i)):=by
 refine ZF (fok137 true) (QC rfl) ?_;have h1:decide (20≤(l.length:Int))=false:=decide_eq_false (by omega);have h2:decide (20<(l.length:Int))=false:=decide_eq_false (by omega);simp only[ic137,evA,simprocAttr];refine J1 ?_;simp only[ic137l2,h1,evA,simprocAttr];refine (le159 (g:=bgF p.day) (Q:=isLi p.day) (fv:=.fn (.func 102) [.ptr Q 0]) hl hr hli fun a b m ha hb=>le102 p (Qb5 hQ hne _) ha hb).run ?_;simp only[evA,simprocAttr];refine J1 ?_;simp only[ic137l1,h2,evA,simprocAttr]
theorem le101 (p:Pln) {P Q:Nat} {σ:List AObj} {l:List Int} (hl:l.length≤12) (hr:rowOf σ P=some (l.map AV.i)) (hQ:rowOf σ Q=some (plC9 p)) (hne:P≠Q) (hli:∀ i,i<l.length→isLi p.day (gI l i)) :
  AC Tryz.prog 101 [.sl P 0 l.length 1,.fn (.func 102) [.ptr Q 0]] σ fun r τ=>r=.tup []∧τ=σ.set P (.cells ((isrt (bgF p.day) l l.length).map AV.i)):=by
 refine ZF (fok101 true) (QC rfl) ?_;simp only[ic101,evA,simprocAttr];refine (le137 p hl hr hQ hne hli).run ?_;simp only[evA,simprocAttr]
theorem le159n (fv:AV) (σ:List AObj):AC Tryz.prog 159 [.cv .nils,.i 0,.i 0,fv] σ fun r τ=>r=.tup []∧τ=σ:=by
 refine ZF (fok159 true) (QC rfl) ?_;simp only[ic159,evA,simprocAttr];refine J1 ?_;simp only[ic159l1,evA,simprocAttr]
theorem le101n (fv:AV) (σ:List AObj):AC Tryz.prog 101 [.cv .nils,fv] σ fun r τ=>r=.tup []∧τ=σ:=by
 refine ZF (fok101 true) (QC rfl) ?_;simp only[ic101,evA,simprocAttr];have h137:AC Tryz.prog 137 [.cv .nils,.i 0,fv] σ fun r τ=>r=.tup []∧τ=σ:=by refine ZF (fok137 true) (QC rfl) ?_;simp only[ic137,evA,simprocAttr];refine J1 ?_;simp only[ic137l2,evA,simprocAttr];refine (le159n fv _).run ?_;simp only[evA,simprocAttr];refine J1 ?_;simp only[ic137l1,evA,simprocAttr]
 refine h137.run ?_;simp only[evA,simprocAttr]
def Qdf (p:Pln) (r:Nat) (l:Les):Bool:=match r with | 0=>kindB p l | 1=>Qca p l | _=>Qcr p l
def rE (p:Pln) (r k:Nat):Int:=if Qdf p r p.day.ls[k]! then 0 else 1
def ruE (p:Pln) (r:Nat):Int × Int:=fndE (rE p r) 0 p.day.ls.length
def ru1 (p:Pln):Int × Int:=fndE (fun r=>(ruE p r).2) 0 3
def whoF (w:Nat) (l:Les):Int:=match w with | 0=>l.le | 1=>l.te | _=>l.ca
def thL (d:Dy) (w n:Nat):List Int:=isrt (bgF d) (pkL (whoF w) d.ls n d.ls.length) (pkL (whoF w) d.ls n d.ls.length).length
def chE (d:Dy) (T:List Int) (j:Nat):Int:=if canB d (gI T j).toNat (gI T (j+1)).toNat then 0 else 1
def chW (d:Dy) (w n:Nat):Int × Int:=fndE (chE d (thL d w n)) 0 ((thL d w n).length-1)
def whN (d:Dy) (w:Nat):Int × Int:=fndE (fun n=>(chW d w n).2) 0 8
def wh3 (d:Dy):Int × Int:=fndE (fun w=>(whN d w).2) 0 3
def brL (p:Pln):Int × Int × Int :=
 if (ru1 p).2≠0 then (1+(ru1 p).1,(ruE p (ru1 p).1.toNat).1,0)
 else if (wh3 p.day).2≠0 then (4+(wh3 p.day).1,gI (thL p.day (wh3 p.day).1.toNat (whN p.day (wh3 p.day).1.toNat).1.toNat) (chW p.day (wh3 p.day).1.toNat (whN p.day (wh3 p.day).1.toNat).1.toNat).1.toNat,gI (thL p.day (wh3 p.day).1.toNat (whN p.day (wh3 p.day).1.toNat).1.toNat) ((chW p.day (wh3 p.day).1.toNat (whN p.day (wh3 p.day).1.toNat).1.toNat).1.toNat+1))
 else (0,0,0)
abbrev brV (b:Int × Int × Int):AV:=.agg [.i b.1,.i b.2.1,.i b.2.2]
def brA (p:Pln):AV:=if plnE p≠0 then .tup [brV (0,0,0),.i (plnE p)] else .tup [brV (brL p),.i 0]
theorem brL_rule {p:Pln} {r k:Nat} (hr:r<3) (hk:k<p.day.ls.length) (h1:∀ r',r'<r→(ruE p r').2=0) (h2:∀ k',k'<k→rE p r k'=0) (h3:rE p r k≠0):brL p=(1+(r:Int),(k:Int),0):=by
 have e1:ruE p r=((k:Int),rE p r k):=VO _ 0 k (QF _) (by omega) (fun j _ hj=>h2 j hj) h3;have e2:ru1 p=((r:Int),(ruE p r).2):=VO (g:=fun r=>(ruE p r).2) 3 0 r (QF _) (by omega) (fun j _ hj=>h1 j hj) (by show (ruE p r).2≠0;rw[e1];exact h3);unfold brL;rw[e2];simp only[Int.toNat_natCast];rw[e1];simp only;rw[if_pos h3]
theorem brL_who {p:Pln} (h0:∀ r,r<3→(ruE p r).2=0) {w n j:Nat} (hw:w<3) (hn:n<8) (hj:j<(thL p.day w n).length-1) (h1:∀ w',w'<w→(whN p.day w').2=0) (h2:∀ n',n'<n→(chW p.day w n').2=0) (h3:∀ j',j'<j→chE p.day (thL p.day w n) j'=0) (h4:chE p.day (thL p.day w n) j≠0) :
  brL p=(4+(w:Int),gI (thL p.day w n) j,gI (thL p.day w n) (j+1)):=by
 have e0:ru1 p=(0,0):=J7 3 0 fun r _ hr=>h0 r (by omega)
 have e1:chW p.day w n=((j:Int),chE p.day (thL p.day w n) j):=VO _ 0 j (QF _) (by omega) (fun j' _ hj=>h3 j' hj) h4;have e2:whN p.day w=((n:Int),(chW p.day w n).2):=VO (g:=fun n=>(chW p.day w n).2) 8 0 n (QF _) (by omega) (fun n' _ hn=>h2 n' hn) (by show (chW p.day w n).2≠0;rw[e1];exact h4);have e3:wh3 p.day=((w:Int),(whN p.day w).2):=VO (g:=fun w=>(whN p.day w).2) 3 0 w (QF _) (by omega) (fun w' _ hw=>h1 w' hw) (by show (whN p.day w).2≠0;rw[e2,e1];exact h4);unfold brL;rw[e0,e3];simp only[Int.toNat_natCast];rw[e2];simp only[Int.toNat_natCast];rw[e1];simp only[Int.toNat_natCast];rw[if_neg (by decide),if_pos h4]
theorem brL_none {p:Pln} (h0:∀ r,r<3→(ruE p r).2=0) (h1:∀ w,w<3→(whN p.day w).2=0):brL p=(0,0,0):=by
 have e0:ru1 p=(0,0):=J7 3 0 fun r _ hr=>h0 r (by omega)
 have e3:wh3 p.day=(0,0):=J7 3 0 fun w _ hw=>h1 w (by omega)
 unfold brL;rw[e0,e3,if_neg (by decide),if_neg (by decide)]
theorem pk_li {d:Dy} {f:Les→Int} {z:Int}:∀ i,i<(pkL f d.ls z d.ls.length).length→isLi d (gI (pkL f d.ls z d.ls.length) i):=fun i hi=>by
 obtain ⟨k,h1,h2,_⟩:=bits_mem.1 (Qcs hi);exact ⟨k,h2,h1⟩
theorem AG {σ τ:List AObj} (h:σ.length≤τ.length) (hl:∀ l,l<σ.length→τ[l]? = σ[l]?):∃ J,τ=σ++J:=by
 refine ⟨τ.drop σ.length,?_⟩;apply Z1;intro j;by_cases hj:j<σ.length
 ·rw[QE hj,hl j hj]
 ·rw[QS (by omega),X4];congr 1;omega
theorem le35 (p:Pln) (hp:PSz p):PC Tryz.prog 35 [plnV p] (brA p):=by
 refine ⟨ZF (fok35 true) (QC rfl) ?_,by unfold brA;split <;> rfl⟩;simp only[ic35,WI,cellsOf,evA,simprocAttr];refine (le93 p hp).call ?_;unfold brA;by_cases he:plnE p=0
 rotate_left
 ·have hb:(plnE p != 0)=true:=by simpa using he
  have hl2:lkP p=plV9 p∨lkP p=.agg (List.replicate 9 (.cv .nils)):=by
   unfold lkP;split
   ·exact .inr rfl
   ·exact .inl rfl
  rw[if_pos he];rcases hl2 with h | h <;> rw[h]
  ·simp only[hb,evA,simprocAttr];exact frz
  ·simp only[hb,List.replicate,evA,simprocAttr];exact frz
 have hok:=Qdc he;have hlk:lkP p=plV9 p:=by unfold lkP;rw[if_neg (fun h=>h.elim (fun h=>h hok.sys) (fun h=>h hok.dy0))]
 have hb:(plnE p != 0)=false:=by simpa using he
 rw[if_neg (fun h=>h he),hlk];simp only[hb,he,evA,simprocAttr];have h12:=hok.day.l12;refine ZW 3 (fun r s=>(∀ r',r'<r→(ruE p r').2=0)∧∃ v5 v6 v7 v8 v21 v22 v23 v24 v25 v26,s=⟨[plnV p,.ptr 0 0,.ptr 1 0,.i 0,.ptr 2 0,v5,v6,v7,v8,.undef,.undef,.undef,.undef,.undef,.undef,.undef,.undef,.b false,.sl 3 0 3 1,.i 3,.i r,v21,v22,v23,v24,v25,v26,.undef,.undef,.undef,.undef,.undef,.undef,.undef,.undef],[.cells (plnC p),.cells [.i 0,.i 0,.i 0],.cells (plC9 p),.cells [.bm 94 [plV9 p],.bm 95 [plV9 p],.bm 96 [plV9 p]]]⟩) ?_ 0 (QF _) ⟨by omega,_,_,_,_,_,_,_,_,_,_,rfl⟩;rintro r s hr ⟨hall,v5,v6,v7,v8,v21,v22,v23,v24,v25,v26,rfl⟩;have hob:∀ o∈[AObj.cells (plnC p),.cells [.i 0,.i 0,.i 0],.cells (plC9 p),.cells [.bm 94 [plV9 p],.bm 95 [plV9 p],.bm 96 [plV9 p]]],Z3 4 o=true:=by intro o ho;simp only[ZD,WK,or_false] at ho;rcases ho with rfl | rfl | rfl | rfl <;> rfl
 by_cases hr3:r<3
 ·have hd:decide ((r:Int)<3)=true:=decide_eq_true (by omega);obtain ⟨f,hget,hcall⟩:∃ f,([AV.bm 94 [plV9 p],.bm 95 [plV9 p],.bm 96 [plV9 p]])[r]? = some (.bm f [plV9 p])∧∀ l,LiOk p l→PC Tryz.prog f [plV9 p,lesA l] (.b (Qdf p r l)):=by
   match r,hr3 with
   | 0,_=>exact ⟨94,rfl,fun l hl=>le94 p l hl⟩
   | 1,_=>exact ⟨95,rfl,fun l hl=>le95 p hp l hl⟩
   | 2,_=>exact ⟨96,rfl,fun l hl=>le96 p l hl⟩
  simp only[ic35l4,hd,W9 hr3,ZV,hget,evA,simprocAttr];refine ZW p.day.ls.length (fun i s=>(∀ j,j<i→rE p r j=0)∧∃ v7 v8 v25 v26,s=⟨[plnV p,.ptr 0 0,.ptr 1 0,.i 0,.ptr 2 0,.i r,.bm f [plV9 p],v7,v8,.undef,.undef,.undef,.undef,.undef,.undef,.undef,.undef,.b false,.sl 3 0 3 1,.i 3,.i r,.b true,.cv (lesR p.day.ls),.i p.day.ls.length,.i i,v25,v26,.undef,.undef,.undef,.undef,.undef,.undef,.undef,.undef],[.cells (plnC p),.cells [.i 0,.i 0,.i 0],.cells (plC9 p),.cells [.bm 94 [plV9 p],.bm 95 [plV9 p],.bm 96 [plV9 p]]]⟩) ?_ 0 (QF _) ⟨by omega,_,_,_,_,rfl⟩;rintro k s hk ⟨hk0,v7,v8,v25,v26,rfl⟩;by_cases h:k<p.day.ls.length
  ·have hld:=MQ h;have hc:=hcall _ (hok.li h);have hE:rE p r k=if Qdf p r p.day.ls[k]! then 0 else 1:=rfl
   have hrule:=fun h3=>brL_rule hr3 h hall hk0 h3
   generalize p.day.ls[k]! = l at *;obtain ⟨l1,l2,l3,l4,l5,l6,l7⟩:=l;simp only at hld hc hE;simp only[ic35l3,QJ,h,F5 h,hld,evA,simprocAttr];refine hc.call frz ?_;cases hb:Qdf p r ⟨l1,l2,l3,l4,l5,l6,l7⟩ with
   | true =>
    rw[hb,if_pos rfl] at hE;simp only[hb,Q6 (show k+1<2 ^ 63 by omega),evA,simprocAttr];refine W1 [.cells (plnC p),.cells [.i 0,.i 0,.i 0],.cells (plC9 p),.cells [.bm 94 [plV9 p],.bm 95 [plV9 p],.bm 96 [plV9 p]]] _ rfl (by first | trivial | omega) (QF _) hob ⟨fun j hj=>?_,_,_,_,_,rfl⟩;by_cases hjk:j=k
    ·rw[hjk];exact hE
    ·exact hk0 j (by omega)
   | false =>
    rw[hb,if_neg (by decide)] at hE;rw[hrule (by rw[hE];decide)];have hw:IntKind.i64.wrap (1+(r:Int))=1+(r:Int):=ZC (by omega);simp only[hb,hw,evA,simprocAttr];exact frz
  ·have hke:k=p.day.ls.length:=by omega
   subst hke;simp only[ic35l3,QJ,h,Q6 (show r+1<2 ^ 63 by omega),evA,simprocAttr];refine ZL (by first | trivial | omega) ⟨fun r' hr'=>?_,_,_,_,_,_,_,_,_,_,_,rfl⟩;by_cases hrr:r'=r
   ·subst hrr;unfold ruE;rw[J7 _ 0 fun j _ hj=>hk0 j (by omega)]
   ·exact hall r' (by omega)
 ·have hre:r=3:=by omega
  subst hre;simp only[ic35l4,evA,simprocAttr];have hob5:∀ o∈[AObj.cells (plnC p),.cells [.i 0,.i 0,.i 0],.cells (plC9 p),.cells [.bm 94 [plV9 p],.bm 95 [plV9 p],.bm 96 [plV9 p]],.cells [.fn (.func 97) [],.fn (.func 98) [],.fn (.func 99) []]],Z3 5 o=true:=by intro o ho;simp only[ZD,WK,or_false] at ho;rcases ho with rfl | rfl | rfl | rfl | rfl <;> rfl
  refine ZW 3 (fun w s=>(∀ w',w'<w→(whN p.day w').2=0)∧∃ v5 v6 v7 v8 v10 v11 v12 v13 v14 v15 v16 v22 v23 v24 v25 v26 v30 v31 v32 v33 v34,s=⟨[plnV p,.ptr 0 0,.ptr 1 0,.i 0,.ptr 2 0,v5,v6,v7,v8,.sl 4 0 3 1,v10,v11,v12,v13,v14,v15,v16,.b false,.sl 3 0 3 1,.i 3,.i 3,.b false,v22,v23,v24,v25,v26,.sl 4 0 3 1,.i 3,.i w,v30,v31,v32,v33,v34],[.cells (plnC p),.cells [.i 0,.i 0,.i 0],.cells (plC9 p),.cells [.bm 94 [plV9 p],.bm 95 [plV9 p],.bm 96 [plV9 p]],.cells [.fn (.func 97) [],.fn (.func 98) [],.fn (.func 99) []]]⟩) ?_ 0 (QF _) ⟨by omega,_,_,_,_,_,_,_,_,_,_,_,_,_,_,_,_,_,_,_,_,_,rfl⟩;clear hr3 hr hob v5 v6 v7 v8 v21 v22 v23 v24 v25 v26;rintro w s hw ⟨hw0,v5,v6,v7,v8,v10,v11,v12,v13,v14,v15,v16,v22,v23,v24,v25,v26,v30,v31,v32,v33,v34,rfl⟩;by_cases hw3:w<3
  ·have hd:decide ((w:Int)<3)=true:=decide_eq_true (by omega);obtain ⟨f,hget,hcall⟩:∃ f,([AV.fn (.func 97) [],.fn (.func 98) [],.fn (.func 99) []])[w]? = some (.fn (.func f) [])∧∀ l,PC Tryz.prog f [lesA l] (.i (whoF w l)):=by
    match w,hw3 with
    | 0,_=>exact ⟨97,rfl,le97⟩
    | 1,_=>exact ⟨98,rfl,le98⟩
    | 2,_=>exact ⟨99,rfl,le99⟩
   simp only[ic35l2,hd,W9 hw3,ZV,hget,evA,simprocAttr];refine ZW 8 (fun n s=>(∀ n',n'<n→(chW p.day w n').2=0)∧∃ v5 v6 v7 v8 v12 v13 v14 v15 v16 v22 v23 v24 v25 v26 v32 v33 v34,s=⟨[plnV p,.ptr 0 0,.ptr 1 0,.i 0,.ptr 2 0,v5,v6,v7,v8,.sl 4 0 3 1,.i w,.fn (.func f) [],v12,v13,v14,v15,v16,.b false,.sl 3 0 3 1,.i 3,.i 3,.b false,v22,v23,v24,v25,v26,.sl 4 0 3 1,.i 3,.i w,.b true,.i n,v32,v33,v34],[.cells (plnC p),.cells [.i 0,.i 0,.i 0],.cells (plC9 p),.cells [.bm 94 [plV9 p],.bm 95 [plV9 p],.bm 96 [plV9 p]],.cells [.fn (.func 97) [],.fn (.func 98) [],.fn (.func 99) []]]⟩) ?_ 0 (QF _) ⟨by omega,_,_,_,_,_,_,_,_,_,_,_,_,_,_,_,_,_,rfl⟩;clear v5 v6 v7 v8 v10 v11 v12 v13 v14 v15 v16 v22 v23 v24 v25 v26 v30 v31 v32 v33 v34;rintro n s hn ⟨hn0,v5,v6,v7,v8,v12,v13,v14,v15,v16,v22,v23,v24,v25,v26,v32,v33,v34,rfl⟩;by_cases hn8:n<8
   ·have hd2:decide ((n:Int)<8)=true:=decide_eq_true (by omega);have hTl:(thL p.day w n).length=(pkL (whoF w) p.day.ls n p.day.ls.length).length:=I9 _ _ _;have hpkl:(pkL (whoF w) p.day.ls n p.day.ls.length).length≤12:=YR M7 h12;have hTli:∀ i,i<(thL p.day w n).length→isLi p.day (gI (thL p.day w n) i):=Qao (bgF p.day) (pk_li) _ (QG _);simp only[ic35l1,hd2,evA,simprocAttr];refine (le100 p.day.ls h12 f (whoF w) hcall n _).mono ?_;rintro r τ ⟨hA,hle,hlow⟩;obtain ⟨J,rfl⟩:=AG hle hlow;have hstep:(chW p.day w n).2=0→∀ n',n'<n+1→(chW p.day w n').2=0:=fun h n' hn'=>by
     by_cases e:n'=n
     ·rw[e];exact h
     ·exact hn0 n' (by omega)
    rcases hA with ⟨rfl,hz,_⟩ | ⟨l,hl5,rfl,_,hrow⟩
    ·simp only[evA,simprocAttr];refine (le101n _ _).run ?_;simp only[evA,simprocAttr];refine J1 ?_;simp only[ic35l0,Q6 (show n+1<2 ^ 63 by omega),evA,simprocAttr];refine W1 [.cells (plnC p),.cells [.i 0,.i 0,.i 0],.cells (plC9 p),.cells [.bm 94 [plV9 p],.bm 95 [plV9 p],.bm 96 [plV9 p]],.cells [.fn (.func 97) [],.fn (.func 98) [],.fn (.func 99) []]] J rfl (by first | trivial | omega) (QF _) hob5 ⟨hstep ?_,_,_,_,_,_,_,_,_,_,_,_,_,_,_,_,_,_,rfl⟩;unfold chW;rw[hTl,hz];rfl
    ·rw[XW] at hrow;simp only[evA,simprocAttr];refine (le101 p hpkl hrow (Q:=2) rfl (by simp at hl5;omega) pk_li).mono ?_;rintro r τ ⟨rfl,hτ⟩;obtain ⟨J',rfl⟩:∃ J',τ=[.cells (plnC p),.cells [.i 0,.i 0,.i 0],.cells (plC9 p),.cells [.bm 94 [plV9 p],.bm 95 [plV9 p],.bm 96 [plV9 p]],.cells [.fn (.func 97) [],.fn (.func 98) [],.fn (.func 99) []]]++J':=AG (by rw[hτ];simp) (fun k hk=>by rw[hτ,QU (by omega),QE hk]);have hrow2:rowOf ([.cells (plnC p),.cells [.i 0,.i 0,.i 0],.cells (plC9 p),.cells [.bm 94 [plV9 p],.bm 95 [plV9 p],.bm 96 [plV9 p]],.cells [.fn (.func 97) [],.fn (.func 98) [],.fn (.func 99) []]]++J') l=some ((thL p.day w n).map AV.i):=by rw[hτ];exact W0 hrow
     rw[← hTl] at *;clear hτ hrow;simp only[List.cons_append,List.nil_append] at hrow2;have hchW:chW p.day w n=fndE (chE p.day (thL p.day w n)) 0 ((thL p.day w n).length-1):=rfl;have hwho:=fun (k:Nat) (hk:k<(thL p.day w n).length-1) h3 h4=>brL_who hall hw3 hn8 hk hw0 hn0 h3 h4
     generalize hT:thL p.day w n=T at *;simp only[evA,simprocAttr];refine ZW (T.length-1) (fun k s=>(∀ j,j<k→chE p.day T j=0)∧∃ v15 v16 v33 v34,s=⟨[plnV p,.ptr 0 0,.ptr 1 0,.i 0,.ptr 2 0,v5,v6,v7,v8,.sl 4 0 3 1,.i w,.fn (.func f) [],.i n,.sl l 0 T.length 1,.i (k+1:Nat),v15,v16,.b false,.sl 3 0 3 1,.i 3,.i 3,.b false,v22,v23,v24,v25,v26,.sl 4 0 3 1,.i 3,.i w,.b true,.i n,.b true,v33,v34],[.cells (plnC p),.cells [.i 0,.i 0,.i 0],.cells (plC9 p),.cells [.bm 94 [plV9 p],.bm 95 [plV9 p],.bm 96 [plV9 p]],.cells [.fn (.func 97) [],.fn (.func 98) [],.fn (.func 99) []]]++J'⟩) ?_ 0 (QF _) ⟨by omega,_,_,_,_,rfl⟩;clear v15 v16 v33 v34;rintro k s hk ⟨hk0,v15,v16,v33,v34,rfl⟩;have hiff:(((k+1:Nat):Int)<T.length)↔k+1<T.length:=QJ;by_cases hkt:k+1<T.length
     ·have hd3:decide (((k+1:Nat):Int)<T.length)=true:=decide_eq_true (hiff.2 hkt);have hw1:IntKind.i64.wrap (((k+1:Nat):Int)-1)=(k:Int):=by rw[ZC (by omega)];omega
      have hw2:IntKind.i64.wrap (((k+1:Nat):Int)+1)=((k+1+1:Nat):Int):=by rw[ZC (by omega)];omega
      have la:=V1 (zs:=T) (k:=k) (by omega);have lb:=V1 (zs:=T) (k:=k+1) hkt;obtain ⟨x,hx,hxe⟩:=hTli k (by omega);obtain ⟨y,hy,hye⟩:=hTli (k+1) hkt;have hE:chE p.day T k=if canB p.day x y then 0 else 1:=by unfold chE;rw[hxe,hye];rfl
      have hrule:=hwho k (by omega) hk0;rw[hxe,hye] at hrule;rw[show T[k]?.getD 0=(x:Int) from hxe] at la;rw[show T[k+1]?.getD 0=(y:Int) from hye] at lb;have hkl:k<T.length:=by omega
      simp only[ic35l0,hd3,evA,simprocAttr];refine DW_s [] [] hmix (by kernel_rfl) rfl ?_;simp only[hw1,W9 hkl,W9 hkt,ZV,hrow2,la,lb,evA,simprocAttr];refine (le104 p.day hok.day hx hy).call frz ?_;cases hcb:canB p.day x y with
      | true =>
       rw[hcb,if_pos rfl] at hE;simp only[hcb,hw2,evA,simprocAttr];refine ZL (by first | trivial | omega) ⟨fun j hj=>?_,_,_,_,_,rfl⟩;by_cases hjk:j=k
       ·rw[hjk];exact hE
       ·exact hk0 j (by omega)
      | false =>
       rw[hcb,if_neg (by decide)] at hE;rw[hrule (by rw[hE];decide)];have hw4:IntKind.i64.wrap (4+(w:Int))=4+(w:Int):=ZC (by omega);simp only[hcb,hw4,evA,simprocAttr];exact frz
     ·have hd3:decide (((k+1:Nat):Int)<T.length)=false:=decide_eq_false fun e=>hkt (hiff.1 e)
      simp only[ic35l0,hd3,Q6 (show n+1<2 ^ 63 by omega),evA,simprocAttr];refine W1 [.cells (plnC p),.cells [.i 0,.i 0,.i 0],.cells (plC9 p),.cells [.bm 94 [plV9 p],.bm 95 [plV9 p],.bm 96 [plV9 p]],.cells [.fn (.func 97) [],.fn (.func 98) [],.fn (.func 99) []]] J' rfl (by first | trivial | omega) (QF _) hob5 ⟨hstep ?_,_,_,_,_,_,_,_,_,_,_,_,_,_,_,_,_,_,rfl⟩;rw[hchW,J7 _ 0 fun j _ hj=>hk0 j (by omega)]
   ·have hne:n=8:=by omega
    subst hne;simp only[ic35l1,Q6 (show w+1<2 ^ 63 by omega),evA,simprocAttr];refine ZL (by first | trivial | omega) ⟨fun w' hw'=>?_,_,_,_,_,_,_,_,_,_,_,_,_,_,_,_,_,_,_,_,_,_,rfl⟩;by_cases hww:w'=w
    ·subst hww;unfold whN;rw[J7 8 0 fun j _ hj=>hn0 j (by omega)]
    ·exact hw0 w' (by omega)
  ·have hwe:w=3:=by omega
   subst hwe;rw[brL_none hall hw0];simp only[ic35l2,evA,simprocAttr];exact frz
def ia125:IC:=.region [jw 8 .mv [.v 10]]
def ib125:IC:=(.block 1 (.seq (.seq (.region [jL 2,jv 8,ja 1 0 1,jl 2,jt 3,jg 4 false .load1 [.v 3],jh 4 false 8,jg 4 false (.iaS 1) [.t 5,.t 6],ji 4 false 7,jg 4 false (.bin .geq .int) [.t 8,jn 0],jw 11 .pick [.t 4,jB true,.t 9]])
 (.cond 11 (.exit 1)
 .skip))
 (.seq (.region [jL 2,jv 8,ja 1 0 1,jq (.store 1) [.t 2,jB true]])
 (.seq (.dr [[],[],[0,1],[2],[3],[4],[5],[5],[5],[7,8,5],[9,5],[6,10,5,5],[5,11]] [jL 4,jv 8,ja 1 0 1,jl 2,jq (.bin .lss .int) [.t 3,jn 0],jt 4,jg 5 false .load1 [.v 5],jg 5 false .load1 [.v 4],jh 5 false 8,jg 5 false (.iaS 1) [.t 7,.t 8],ji 5 false 9,⟨none,(.some (5,false)),.call,[(.t 6),(.t 10)]⟩,jw 12 .pick [.t 5,jB true,.t 11]])
 (.cond 12 (.seq (.region [jL 4,jv 8,jL 6,ja 1 0 1,jq (.store 1) [.t 3,.t 2]])
 (.seq (.region [jq (.store 1) [.v 7,jB true]])
 .ret))
 .skip)))))
theorem ca125:QL Tryz.prog vs125 44 (nav [1,0,1,0,2] (Tryz.f125.body.getD .skip))=some ia125:=by kernel_rfl
theorem cb125:QL Tryz.prog vs125 44 (nav [1,0,1,0,3] (Tryz.f125.body.getD .skip))=some ib125:=by kernel_rfl
theorem le125 (d:Dy) (hd:DyOk d) (told:List Int) (htl:told.length=d.ls.length) {D SE TO BE MV SS BB TT:Nat}:∀ (f i:Nat) (σ:List AObj) (se:List Bool) (be:List Int),MvH d told σ D SE TO BE MV SS BB TT→i<d.ls.length→se.length=d.ls.length→be.length=d.ls.length→R4 d.ls.length be→cnt d.ls.length (fun k=>!gB se k)<f →
  AC Tryz.prog 125 [.i i,.ptr D 0,.ptr SE 0,.ptr TO 0,.ptr BE 0,.ptr MV 0] (stH SS BB σ se be) fun r τ=>r=.b (VE (canB d) told d.ls.length f i ⟨se,be⟩).1∧τ=stH SS BB σ (VE (canB d) told d.ls.length f i ⟨se,be⟩).2.seen (VE (canB d) told d.ls.length f i ⟨se,be⟩).2.bef
 | 0,_,_,_,_,_,_,_,_,_,h=>absurd h (W5 _)
 | f + 1,i,σ,se,be,hH,hi,hse,hbe,hok,hf=>by
  obtain ⟨n,hn⟩:∃ n,n=d.ls.length:=⟨_,rfl⟩;have hkm:=LD (can:=canB d) (told:=told) (f+1) i ⟨se,be⟩ hi hse hbe hok;have hls:=hH.ls;have hlb:=hH.lb;have hnn:=hH.n2;have hin:=fun x hx=>hH.hi x hx
  have xD:=hH.n1 D (by simp);have xSE:=hH.n1 SE (by simp);have xTO:=hH.n1 TO (by simp);have xBE:=hH.n1 BE (by simp);have xMV:=hH.n1 MV (by simp);have xTT:=hH.n1 TT (by simp);have rD:=T9 hls hlb hH.dd xD.1 xD.2;have rSE:=T9 hls hlb hH.se xSE.1 xSE.2;have rTO:=T9 hls hlb hH.to xTO.1 xTO.2;have rBE:=T9 hls hlb hH.be xBE.1 xBE.2;have rMV:=T9 hls hlb hH.mv xMV.1 xMV.2;have rTT:=T9 hls hlb hH.tt xTT.1 xTT.2;have rSS:=stH_seen hls hlb hnn;have rBB:=stH_bef hls hlb;have sSS:=fun se be J o=>stH_setS (σ:=σ) hls hnn se o be J
  have sBB:=fun se be o J=>stH_setB (σ:=σ) (SS:=SS) hlb se be o J
  have hz:=fun se be J=>stH_z (SS:=SS) (BB:=BB) (σ:=σ) se be J
  have hs:=fun se be J k=>stH_s (SS:=SS) (BB:=BB) (σ:=σ) se be J k
  have hgs:=fun se be J k=>stH_gs (SS:=SS) (BB:=BB) (σ:=σ) se be J k
  have hzs:=fun se be J v k=>stH_zs (SS:=SS) (BB:=BB) (σ:=σ) se be J v k
  have hlen:=fun se be=>V8 (SS:=SS) (BB:=BB) (σ:=σ) se be
  refine AC.cut (σ2:=stH SS BB σ _ _) ?_ (by rw[V8,V8]) rfl fun l o h=>QdT _ _ _ _ h
  refine ZF (fok125 true) (QC rfl) ?_;simp only[ic125,WI,cellsOf,rD,hlen,QW,QM,hz,hs,evA,simprocAttr];refine (le74 d i).call ?_;simp only[evA,simprocAttr];refine RW_g ia125 ib125 (gf:=121) (cap:=[.cv (.rp [minR d.mi,lesR d.ls] 0),.cv (.rp [.int .i64 i] 0)]) rfl (QC rfl) (fun l h=>by cases h) ca125 cb125 ?_;intro R hR;simp only[hlen,QW,QM,evA,simprocAttr] at hR ⊢;obtain ⟨FIN,hFIN⟩:∃ r,r=VE (canB d) told d.ls.length (f+1) i ⟨se,be⟩:=⟨_,rfl⟩;rw[← hFIN] at hkm ⊢;refine (Qdd d hd hi (σ.length+2) (fun k τ=>∃ se' be',τ=stH SS BB σ se' be'++[.cells [.i i],.cells [.b false],.loop R]∧UC (canB d) told (VE (canB d) told d.ls.length f) i (d.ls.length-k) k ⟨se',be'⟩=FIN∧se'.length=d.ls.length∧be'.length=d.ls.length∧R4 d.ls.length be'∧∀ j,gB se j=true→gB se' j=true)
   (fun τ=>∃ se' be',τ=stH SS BB σ se' be'++[.cells [.i i],.cells [.b true],.loop (retL R)]∧FIN=(true,⟨se',be'⟩)) _ (by simp[V8]) ⟨se,be,rfl,by rw[hFIN];rfl,hse,hbe,hok,fun _ h=>h⟩ ?_ ?_).mono ?_
  ·rintro k τ hk hc ⟨se',be',rfl,h1,h2,h3,h4,h5⟩;refine ⟨se',be',rfl,?_,h2,h3,h4,h5⟩;obtain ⟨m,hm⟩:∃ m,d.ls.length-k=m+1:=⟨d.ls.length-k-1,by omega⟩;rw[hm] at h1;unfold UC at h1;rw[if_neg (fun h=>by rw[hc] at h;exact absurd h.1 (by decide))] at h1;rw[show d.ls.length-(k+1)=m by omega];exact h1
  ·rintro k τ hk hc ⟨se',be',rfl,h1,h2,h3,h4,h5⟩ _;obtain ⟨m,hm⟩:∃ m,d.ls.length-k=m+1:=⟨d.ls.length-k-1,by omega⟩;have hm2:d.ls.length-(k+1)=m:=by omega
   rw[hm] at h1;unfold UC at h1;have hks:k<se'.length:=by omega
   have hkb:k<be'.length:=by omega
   have hkt:k<told.length:=by omega
   have hgs1:=NB (o:=se') hks;have hgb1:=V1 hkb;have hgt1:=V1 hkt;refine YC_g hR (by rw[hgs];rfl) rfl (by decide) ?_;have x12:vs125.idxOf? 12=some 10:=by decide
   simp only[ia125,JM,x12,QW,QM,WW,X9,VW,EZ,Qau,CH,get_nz,get_ns,evA,simprocAttr];refine Qan hR (by rw[hgs];rfl) ?_;simp only[hzs,ib125,rSE,rSS,hgs1,W9 hk,evA,simprocAttr];have cont:UC (canB d) told (VE (canB d) told d.ls.length f) i m (k+1) ⟨se',be'⟩=FIN→∃ τ2 J,stH SS BB σ se' be'++[AObj.cells [.i i],AObj.cells [.b false],AObj.loop R]=τ2++J∧(stH SS BB σ se be).length+3≤τ2.length∧(J=[]∨∀ o∈τ2,Z3 τ2.length o=true)∧∃ se' be',τ2=stH SS BB σ se' be'++[AObj.cells [.i i],AObj.cells [.b false],AObj.loop R]∧UC (canB d) told (VE (canB d) told d.ls.length f) i (d.ls.length-(k+1)) (k+1) ⟨se',be'⟩=FIN∧se'.length=d.ls.length∧be'.length=d.ls.length∧R4 d.ls.length be'∧∀ j,gB se j=true→gB se' j=true:=fun h =>
    ⟨_,[],(ZU _).symm,by simp[V8],.inl rfl,se',be',rfl,by rw[hm2];exact h,h2,h3,h4,h5⟩
   cases hsk:se'[k]?.getD false with
   | true =>
    rw[if_neg (fun h=>by rw[show gB se' k=true from hsk] at h;exact absurd h.2.1 (by decide))] at h1;simp only[evA,simprocAttr];refine RU hR (by rw[hgs];rfl) ?_;rw[hzs];exact .inl ⟨rfl,cont h1⟩
   | false =>
   simp only[rTO,rTT,W9 hkt,hgt1,evA,simprocAttr];by_cases ht:gI told k<0
   ·have ht2:decide (told[k]?.getD 0≥0)=false:=decide_eq_false (by show ¬ gI told k≥0;omega);rw[if_pos ⟨hc,hsk,ht⟩] at h1;have hsl:k+1≤se'.length:=hks;have hst:(XT se').set k (.cv (.bool true))=XT (se'.set k true):=List.map_set.symm;simp only[ht2,rSE,rSS,W9 hk,hsl,hst,sSS,evA,simprocAttr];refine DW_s [] [] hmix (by kernel_rfl) rfl ?_;simp only[rBE,rBB,W9 hk,hgb1,evA,simprocAttr];have hbl:k+1≤be'.length:=hkb;have hset:(be'.map AV.i).set k (.cv (.int .i64 i))=(be'.set k (i:Int)).map AV.i:=GC;by_cases hb0:gI be' k<0
    ·have hb2:decide (be'[k]?.getD 0<0)=true:=decide_eq_true hb0;rw[if_pos hb0] at h1;simp only[hb2,rBE,rBB,W9 hk,hz,hs,hbl,hset,sBB,hzs,evA,simprocAttr];refine Qdh (by rw[hgs];rfl) ?_;rw[hzs];exact .inr ⟨rfl,_,_,rfl,h1.symm⟩
    ·have hb2:decide (be'[k]?.getD 0<0)=false:=decide_eq_false hb0;rw[if_neg hb0] at h1;obtain ⟨l,hl⟩:∃ l:Nat,gI be' k=(l:Int):=⟨(gI be' k).toNat,by omega⟩;have hln:l<d.ls.length:=by have:=h4 k hk;omega
     have hl2:be'[k]?.getD 0=(l:Int):=hl;rw[hl,Int.toNat_natCast] at h1;have hcn:cnt d.ls.length (fun j=>!gB (se'.set k true) j)<f:=by have e1:=BH (n:=d.ls.length) h2 hk hsk;have e2:=QbU (n:=d.ls.length) h5;omega
     have hrec:=le125 d hd told htl f l (σ++[.cells [.i i],.cells [.b false],.loop (KB R)]) (se'.set k true) be' (hH.app _) hln (by simp;exact h2) h3 h4 hcn;rw[← MG hls hlb,← MG hls hlb] at hrec;have hok2:=LD (can:=canB d) (told:=told) f l ⟨se'.set k true,be'⟩ hln (by simp;exact h2) h3 h4;generalize VE (canB d) told d.ls.length f l ⟨se'.set k true,be'⟩=r at hrec h1 hok2;obtain ⟨r1,se2,be2⟩:=r;have hse2:se2.length=d.ls.length:=by have:=hok2.ls;simpa[h2] using this
     have hbe2:be2.length=d.ls.length:=by have:=hok2.lb;simpa[h3] using this
     have hb3:decide ((l:Int)<0)=false:=decide_eq_false (by omega);simp only[hb3,hl2,rMV,rBE,rBB,W9 hk,hgb1,evA,simprocAttr];refine MS (v:=.b r1) (τ:=stH SS BB σ se2 be2++[.cells [.i i],.cells [.b false],.loop (KB R)]) ?_ (stH_ok _ rfl _ _ _ _ _ hls hlb) ?_
     ·exact hrec
     have hbl2:k+1≤be2.length:=by omega
     have hset2:(be2.map AV.i).set k (.cv (.int .i64 i))=(be2.set k (i:Int)).map AV.i:=GC;cases r1 with
     | true =>
      rw[if_pos rfl] at h1;simp only[rBE,rBB,W9 hk,hz,hs,hbl2,hset2,sBB,hzs,evA,simprocAttr];refine Qdh (by rw[hgs];rfl) ?_;rw[hzs];exact .inr ⟨rfl,_,_,rfl,h1.symm⟩
     | false =>
      rw[if_neg (fun h=>by cases h)] at h1;simp only[evA,simprocAttr];refine RU hR (by rw[hgs];rfl) ?_;rw[hzs];refine .inl ⟨rfl,_,[],(ZU _).symm,by simp[V8],.inl rfl,se2,be2,rfl,by rw[hm2];exact h1,hse2,hbe2,hok2.ok h4,fun j hj=>hok2.mono j ?_⟩;show gB (se'.set k true) j=true;rw[DF hks];split
      ·rfl
      ·exact h5 j hj
   ·have ht2:decide (told[k]?.getD 0≥0)=true:=decide_eq_true (by show gI told k≥0;omega);rw[if_neg (fun h=>ht h.2.2)] at h1;simp only[ht2,evA,simprocAttr];refine RU hR (by rw[hgs];rfl) ?_;rw[hzs];exact .inl ⟨rfl,cont h1⟩
  ·rintro r τ ⟨rfl,h | h⟩
   ·obtain ⟨se',be',rfl,h1,_⟩:=h;rw[Nat.sub_self] at h1;refine M9 hR (by rw[hgs];rfl) ?_;subst h1;simp only[hzs,hs,UC,evA,simprocAttr];exact ⟨_,rfl⟩
   ·obtain ⟨se',be',rfl,h1⟩:=h;refine after_r (R:=R) (by rw[hgs];rfl) (QcP ?_);subst h1;simp only[hzs,hs,evA,simprocAttr];exact ⟨_,rfl⟩
end Go.Proofs.YtgkidpolomhghaaGreatDoor.AM
namespace Go.Proofs.YtgkidpolomhghaaGreatDoor.AM
variable [Dr]
open Go Pl
set_option maxRecDepth 100000
def mulTab:List (Nat × FE):=[(153,⟨ic153,vs153,30,rs153,true⟩),(173,⟨ic173,vs173,51,rs173,true⟩)]
theorem Qej:TOk Tryz.prog mulTab:=⟨fok153 _,fok173 _,trivial⟩
def TM:Tb:=⟨tget mulTab,[]⟩
theorem TM_ok:TbOk Tryz.prog TM:=⟨fun _ _ h=>TOk.get Qej _ _ h,trivial⟩
theorem mul0:JL TM (UI TM 1000 10) 1000 [] 153 [.cv (.int .u64 1),.cv (.int .u64 ((0:Nat):Int))] []=some (true,.tup [.cv (.int .u64 0),.cv (.int .u64 ((0:Nat):Int))],[]):=by kernel_rfl
theorem mul1:JL TM (UI TM 1000 10) 1000 [] 153 [.cv (.int .u64 1),.cv (.int .u64 ((1:Nat):Int))] []=some (true,.tup [.cv (.int .u64 0),.cv (.int .u64 ((1:Nat):Int))],[]):=by kernel_rfl
theorem mul2:JL TM (UI TM 1000 10) 1000 [] 153 [.cv (.int .u64 1),.cv (.int .u64 ((2:Nat):Int))] []=some (true,.tup [.cv (.int .u64 0),.cv (.int .u64 ((2:Nat):Int))],[]):=by kernel_rfl
theorem mul3:JL TM (UI TM 1000 10) 1000 [] 153 [.cv (.int .u64 1),.cv (.int .u64 ((3:Nat):Int))] []=some (true,.tup [.cv (.int .u64 0),.cv (.int .u64 ((3:Nat):Int))],[]):=by kernel_rfl
theorem mul4:JL TM (UI TM 1000 10) 1000 [] 153 [.cv (.int .u64 1),.cv (.int .u64 ((4:Nat):Int))] []=some (true,.tup [.cv (.int .u64 0),.cv (.int .u64 ((4:Nat):Int))],[]):=by kernel_rfl
theorem mul5:JL TM (UI TM 1000 10) 1000 [] 153 [.cv (.int .u64 1),.cv (.int .u64 ((5:Nat):Int))] []=some (true,.tup [.cv (.int .u64 0),.cv (.int .u64 ((5:Nat):Int))],[]):=by kernel_rfl
theorem mul6:JL TM (UI TM 1000 10) 1000 [] 153 [.cv (.int .u64 1),.cv (.int .u64 ((6:Nat):Int))] []=some (true,.tup [.cv (.int .u64 0),.cv (.int .u64 ((6:Nat):Int))],[]):=by kernel_rfl
theorem mul7:JL TM (UI TM 1000 10) 1000 [] 153 [.cv (.int .u64 1),.cv (.int .u64 ((7:Nat):Int))] []=some (true,.tup [.cv (.int .u64 0),.cv (.int .u64 ((7:Nat):Int))],[]):=by kernel_rfl
theorem mul8:JL TM (UI TM 1000 10) 1000 [] 153 [.cv (.int .u64 1),.cv (.int .u64 ((8:Nat):Int))] []=some (true,.tup [.cv (.int .u64 0),.cv (.int .u64 ((8:Nat):Int))],[]):=by kernel_rfl
theorem mul9:JL TM (UI TM 1000 10) 1000 [] 153 [.cv (.int .u64 1),.cv (.int .u64 ((9:Nat):Int))] []=some (true,.tup [.cv (.int .u64 0),.cv (.int .u64 ((9:Nat):Int))],[]):=by kernel_rfl
theorem mul10:JL TM (UI TM 1000 10) 1000 [] 153 [.cv (.int .u64 1),.cv (.int .u64 ((10:Nat):Int))] []=some (true,.tup [.cv (.int .u64 0),.cv (.int .u64 ((10:Nat):Int))],[]):=by kernel_rfl
theorem mul11:JL TM (UI TM 1000 10) 1000 [] 153 [.cv (.int .u64 1),.cv (.int .u64 ((11:Nat):Int))] []=some (true,.tup [.cv (.int .u64 0),.cv (.int .u64 ((11:Nat):Int))],[]):=by kernel_rfl
theorem mul12:JL TM (UI TM 1000 10) 1000 [] 153 [.cv (.int .u64 1),.cv (.int .u64 ((12:Nat):Int))] []=some (true,.tup [.cv (.int .u64 0),.cv (.int .u64 ((12:Nat):Int))],[]):=by kernel_rfl
theorem mulK:∀ {n:Nat},n≤12→JL TM (UI TM 1000 10) 1000 [] 153 [.cv (.int .u64 1),.cv (.int .u64 n)] []=some (true,.tup [.cv (.int .u64 0),.cv (.int .u64 n)],[])
 | 0,_=>mul0
 | 1,_=>mul1
 | 2,_=>mul2
 | 3,_=>mul3
 | 4,_=>mul4
 | 5,_=>mul5
 | 6,_=>mul6
 | 7,_=>mul7
 | 8,_=>mul8
 | 9,_=>mul9
 | 10,_=>mul10
 | 11,_=>mul11
 | 12,_=>mul12
 | n+13,h=>absurd h (by omega)
theorem le153 {n:Nat} (hn:n≤12) (σ:List AObj):AC Tryz.prog 153 [.cv (.int .u64 1),.cv (.int .u64 n)] σ fun r τ=>r=.tup [.cv (.int .u64 0),.cv (.int .u64 n)]∧τ=σ:=AC_run hmix TM_ok 1000 10 (mulK hn) rfl σ
def rowW (w n:Nat):List Int:=List.replicate w (-1)++List.replicate (n-w) 0
theorem Qb4 {w n:Nat} (h:w≤n):(rowW w n).length=n:=by simp[rowW];omega
theorem rowW_set {w n k:Nat} (h:w+k≤n):setRange ((rowW w n).map AV.i) w ((List.replicate k (-1:Int)).map AV.i)=(rowW (w+k) n).map AV.i:=by
 have h1:=TB (xs:=(List.replicate w (-1:Int)).map AV.i) (ys:=(List.replicate (n-w) (0:Int)).map AV.i) (zs:=[]) (vs:=(List.replicate k (-1:Int)).map AV.i) (by simp;omega);simp only[ZU,ZK,List.length_replicate] at h1;unfold rowW;rw[ZS,h1,ZS,← List.map_drop,List.drop_replicate,← ZS,List.replicate_append_replicate,show n-w-k=n-(w+k) by omega]
theorem Qee {w n:Nat} (h:w≤n):((rowW w n).map AV.i).take w=(List.replicate w (-1:Int)).map AV.i:=by
 unfold rowW;rw[ZS,List.take_left' (by simp)]
theorem QcB {σ J:List AObj} {n w m:Nat} {src:AV} {new:List AV} (hw:w+m≤n) (hm:m≤n) (hs:Z9 (σ++AObj.cells ((rowW w n).map AV.i)::J) 1 src=some new) (hl:lenF src=some new.length) (hmin:min new.length (n-w)=m) (hsc:new.all AV.isSc=true) (ht:new.take m=(List.replicate m (-1:Int)).map AV.i) :
  UE 1 [.sl σ.length w (n-w) 1,src] (σ++AObj.cells ((rowW w n).map AV.i)::J)=some (.i m,σ++AObj.cells ((rowW (w+m) n).map AV.i)::J):=by
 have h1:True∧w+(n-w)*1≤((rowW w n).map AV.i).length∧new.length*1=new.length∧new.all AV.isSc=true:=⟨trivial,by rw[ZK,Qb4 (by omega)];omega,by omega,hsc⟩;have hmin2:Nat.min new.length (n-w)=m:=hmin;simp only[UE,WW,HE,hs,hl,Option.bind_some];rw[if_pos h1,hmin2,W3,ht,rowW_set hw,VW];rfl
theorem le124 {n:Nat} (hn:n≤12) {σ:List AObj} {p:Nat} (hp:rowOf σ p=some [.i (-1)]):AC Tryz.prog 124 [.sl p 0 1 1,.i n] σ fun r τ=>r=.sl σ.length 0 n 1∧τ=σ++[.cells ((List.replicate n (-1:Int)).map AV.i)]:=by
 refine ZF (fok124 true) (QC rfl) ?_;have h0:decide ((n:Int)<0)=false:=decide_eq_false (by omega);have hu:IntKind.u64.wrap (n:Int)=n:=by unfold IntKind.wrap;simp[IntKind.bits,IntKind.signed];omega
 have hi64:IntKind.i64.wrap (n:Int)=n:=ZC (by omega);have hu1:IntKind.u64.wrap (1:Int)=1:=by decide
 have h9:decide ((n:Int)>9223372036854775807)=false:=decide_eq_false (by omega);simp only[ic124,h0,hu,hu1,evA,simprocAttr];refine (le153 hn _).run ?_;simp only[h9,hi64,evA,simprocAttr];have hmk:=MP (n:=n) (WJ hn (by decide)) σ;simp only[hmk,evA,simprocAttr];have hc:UE 1 [.sl σ.length 0 n 1,.sl p 0 1 1] (σ++[.cells ((List.replicate n (0:Int)).map AV.i)])=some (.i (min 1 n:Nat),σ++[.cells ((rowW (min 1 n) n).map AV.i)]):=by
  have hr:rowW 0 n=List.replicate n 0:=by simp[rowW]
  have:=QcB (σ:=σ) (J:=[]) (n:=n) (w:=0) (m:=min 1 n) (src:=.sl p 0 1 1) (new:=[.i (-1)]) (by omega) (by omega) (by
   simp only[Z9,if_true,ZH hp,Option.bind_some];rfl) rfl (by simp) rfl (by
   match n with
   | 0=>rfl
   | k + 1 => have:min 1 (k+1)=1:=by omega
              rw[this];rfl)
  rw[hr,ZV,Nat.sub_zero] at this;exact this
 simp only[hc,evA,simprocAttr];refine ZW n (fun i s=>∃ w v9,(w=n∨i<w)∧w≤n∧s=⟨[.sl p 0 1 1,.i n,.cv .nils,.cv (.int .u64 0),.cv (.int .u64 n),.sl σ.length 0 n 1,.i w,.b false,.b false,v9],σ++[.cells ((rowW w n).map AV.i)]⟩) ?_ 0 (QF _) ⟨min 1 n,_,by omega,by omega,rfl⟩;rintro i s hi ⟨w,v9,hiw,hwn,rfl⟩;by_cases hlt:w<n
 ·have hpos:i<w:=by omega
  simp only[ic124l0,QJ,hlt,evA,simprocAttr];have h1:=fun σ'=>BP (l:=σ.length) hlt σ'
  have h2:=fun σ'=>Qb1 (l:=σ.length) (w:=w) (n:=n) (by omega) σ'
  have hcp:UE 1 [.sl σ.length w (n-w) 1,.sl σ.length 0 w 1] (σ++[.cells ((rowW w n).map AV.i)])=some (.i (min w (n-w):Nat),σ++[.cells ((rowW (w+min w (n-w)) n).map AV.i)]) :=
   QcB (σ:=σ) (J:=[]) (new:=(List.replicate w (-1:Int)).map AV.i) (by omega) (by omega) (by
    have h3:0+w*1≤((rowW w n).map AV.i).length:=by rw[ZK,Qb4 hwn];omega
    simp only[Z9,if_true,WW,HE,Option.bind_some];rw[if_pos h3,YO,W3,Qee hwn]) (by simp[lenF]) (by simp) (Qa3 _) (by
    rw[← List.map_take,List.take_replicate,show min (min w (n-w)) w=min w (n-w) by omega])
  refine DW_s [] [] hmix (by kernel_rfl) rfl ?_;have hwr:IntKind.i64.wrap ((w:Int)+(min w (n-w):Nat))=((w+min w (n-w):Nat):Int):=by rw[ZC (by omega)];omega
  simp only[h1,h2,hcp,hwr,evA,simprocAttr];exact ZL (by omega) ⟨_,_,by omega,by omega,rfl⟩
 ·have hw:w=n:=by omega
  subst hw;simp only[ic124l0,QJ,hlt,evA,simprocAttr];simp[rowW]
theorem le87 {σ:List AObj} {p:Nat} {zs:List Int} (hl:zs.length≤100) (hp:rowOf σ p=some (zs.map AV.i)):AC Tryz.prog 87 [.sl p 0 zs.length 1] σ fun r τ=>r=.sl (σ.length+1) 0 zs.length 1∧τ=σ++[.dead,.cells (zs.map AV.i)]:=by
 refine ZF (fok87 true) (QC rfl) ?_;simp only[ic87,evA,simprocAttr];have ha:ZX 1 8 [.sl σ.length 0 0 1,.sl p 0 zs.length 1] (σ++[.cells []])=some (.sl (σ.length+1) 0 zs.length 1,σ++[.dead,.cells (zs.map AV.i)]):=by
  have hs:Z9 (σ++[AObj.cells []]) 1 (.sl p 0 zs.length 1)=some (zs.map AV.i):=by
   have h1:0+zs.length*1≤(zs.map AV.i).length:=by simp
   simp only[Z9,if_true,ZH hp,Option.bind_some];rw[if_pos h1,YO,Q5 (by simp)]
  have h2:True∧0*1≤([]:List AV).length∧zs.length*1=(zs.map AV.i).length∧(0+zs.length)*8≤2 ^ 44∧0+zs.length≤2 ^ 44∧(zs.map AV.i).all AV.isSc=true:=by
   have:(2:Nat) ^ 44=17592186044416:=by decide
   exact ⟨trivial,by simp,by simp,by omega,by omega,Qa3 zs⟩
  simp only[ZX,WW,HE,hs,lenF,Option.bind_some];rw[if_pos h2,VW];simp
 simp only[ha,evA,simprocAttr]
theorem le87n (σ:List AObj):AC Tryz.prog 87 [.cv .nils] σ fun r τ=>r=.cv .nils∧τ=σ:=by
 refine ZF (fok87 true) (QC rfl) ?_;simp only[ic87,evA,simprocAttr]
theorem le122 (zs:List Int) (z:Int) (hz:zs.length<2 ^ 63):PC Tryz.prog 122 [ints zs,.i z] (.i (idxF (fun x=>z == x) zs)):=by
 refine ⟨ZF (fok122 true) (QC rfl) ?_,rfl⟩;simp only[ic122,evA,simprocAttr];refine ZW zs.length (fun i s=>(∀ j,j<i→(z == zs[j]?.getD 0)=false)∧∃ v2 v3 v6 v7,s=⟨[ints zs,.i z,v2,v3,.i zs.length,.i i,v6,v7],[]⟩) ?_ 0 (QF _) ⟨by omega,_,_,_,_,rfl⟩;rintro i s hi ⟨hall,v2,v3,v6,v7,rfl⟩;by_cases h:i<zs.length
 ·simp only[ic122l0,QJ,h,evA,simprocAttr];cases hp:(z == zs[i]?.getD 0)
  ·simp only[evA,simprocAttr];refine ZL (by first | trivial | omega) ⟨fun j hj=>?_,_,_,_,_,by rw[ZC (by omega)];rfl⟩;rcases QQ.1 hj with hj | rfl
   ·exact hall j hj
   ·exact hp
  ·rw[AW (p:=fun x=>z == x) h hall hp];simp only[evA,simprocAttr];exact frz
 ·have:i=zs.length:=by omega
  subst this;rw[AX (p:=fun x=>z == x) hall];simp only[ic122l0,QJ,h,evA,simprocAttr];exact frz
theorem le76 (zs:List Int) (z:Int) (hz:zs.length<2 ^ 63):PC Tryz.prog 76 [ints zs,.i z] (.b (zs.contains z)):=by
 refine ⟨ZF (fok76 true) (QC rfl) ?_,rfl⟩;simp only[ic76,evA,simprocAttr];refine (le122 zs z hz).call frz ?_;have hc:zs.contains z=zs.any fun x=>z == x:=by rw[List.contains_eq_any_beq]
 rw[hc];simp only[Qdl,evA,simprocAttr];exact frz
end Go.Proofs.YtgkidpolomhghaaGreatDoor.AM
namespace Go.Proofs.YtgkidpolomhghaaGreatDoor.AM
variable [Dr]
open Go Pl
def tolL (n:Nat) (fx:List Int):Nat→List Int × Nat
 | 0=>(List.replicate n (-1),0)
 | j+1=>if gI fx j<0 then tolL n fx j else ((tolL n fx j).1.set (gI fx j).toNat j,(tolL n fx j).2+1)
theorem EX (n:Nat) (fx:List Int):∀ j,(tolL n fx j).1.length=n
 | 0=>by simp[tolL]
 | j+1=>by
  unfold tolL;split
  ·exact EX n fx j
  ·simp[EX n fx j]
theorem QdQ {n:Nat} {fx:List Int} (h:∀ i,gI fx i<(n:Int)) {k:Nat} (hk:k<n):∀ j,gI (tolL n fx j).1 k<0↔∀ i,i<j→gI fx i≠(k:Int)
 | 0=>by
  have:gI (tolL n fx 0).1 k = -1:=by unfold tolL gI;simp[hk]
  rw[this];exact ⟨fun _ i hi=>absurd hi (W5 _),fun _=>by decide⟩
 | j + 1=>by
  have ih:=QdQ h hk j;unfold tolL;split
  ·rename_i hn;rw[ih];constructor
   ·intro h1 i hi;rcases QQ.1 hi with hi | rfl
    ·exact h1 i hi
    ·omega
   ·exact fun h1 i hi=>h1 i (by omega)
  ·rename_i hn;have hj:=h j;rw[JO (by rw[EX];omega)];split
   ·rename_i e;constructor
    ·intro h1;omega
    ·intro h1;exact absurd (show gI fx j=(k:Int) by omega) (h1 j (by omega))
   ·rename_i e;rw[ih];constructor
    ·intro h1 i hi;rcases QQ.1 hi with hi | rfl
     ·exact h1 i hi
     ·omega
    ·exact fun h1 i hi=>h1 i (by omega)
theorem tol_lt {n:Nat} {fx:List Int} (h:∀ i,gI fx i<(n:Int)):∀ j,j≤n→R4 n (tolL n fx j).1
 | 0,_=>fun k hk=>by
  have:gI (tolL n fx 0).1 k = -1:=by unfold tolL gI;simp[hk]
  rw[this];omega
 | j+1,hj=>by
  have ih:=tol_lt h j (by omega);unfold tolL;split
  ·exact ih
  ·rename_i hn;have:=h j;exact EU (by rw[EX];omega) (by omega) ih
theorem Qeq {can:Nat→Nat→Bool} {n f p0:Nat} {told:List Int} (hl:told.length=n):C9 can told n f p0 f (told,p0):=by
 refine ⟨hl,fun k _ h=>.inl h,fun l _=>?_,?_,fun _=>false,fun _=>false,fun l k h=>(by cases h),fun k _ h=>(by cases h),fun l h1 h2=>absurd h2 (by omega)⟩
 ·rw[KN fun k hk=>?_]
  ·omega
  ·cases h:decide (gI told k<0) with
   | false=>rfl
   | true =>
    have:=of_decide_eq_true h;exact beq_eq_false_iff_ne.2 (by show gI told k≠_;omega)
 ·rw[KN fun k hk=>?_]
  ·rfl
  ·cases h:decide (gI told k<0) with
   | false=>rfl
   | true =>
    have:=of_decide_eq_true h;exact decide_eq_false (by show ¬ 0≤gI told k;omega)
def E5 (d:Dy) (fx:List Int):Nat :=
 (tolL d.ls.length fx fx.length).2+prF (canB d) d.ls.length (d.ls.length-fx.length) fx.length (fun k=>!decide (gI (tolL d.ls.length fx fx.length).1 k<0))
theorem Qbl {can:Nat→Nat→Bool} {told:List Int} {n:Nat}:∀ (m i:Nat) (s:List Int × Nat),i+m≤n→s.1.length=n→R4 n s.1→(F2 can told n m i s).1.length=n∧R4 n (F2 can told n m i s).1
 | 0,_,_,_,h1,h2=>⟨h1,h2⟩
 | m+1,i,s,hm,h1,h2=>by have:=LD (can:=can) (told:=told) (n+1) i ⟨List.replicate n false,s.1⟩ (by omega) (by simp) h1 h2;exact Qbl m (i+1) _ (by omega) (this.lb.trans h1) (this.ok h2)
theorem PY {can:Nat→Nat→Bool} {told:List Int} {n:Nat}:∀ (m i:Nat) (s:List Int × Nat),F2 can told n (m+1) i s=((VE can told n (n+1) (i+m) ⟨List.replicate n false,(F2 can told n m i s).1⟩).2.bef,if (VE can told n (n+1) (i+m) ⟨List.replicate n false,(F2 can told n m i s).1⟩).1=true then (F2 can told n m i s).2+1 else (F2 can told n m i s).2)
 | 0,i,s=>rfl
 | m+1,i,s=>by rw[F2,PY m (i+1),show i+1+m=i+(m+1) by omega];rfl
theorem objI (k:Nat) (zs:List Int):Z3 k (.cells (zs.map AV.i))=true:=by
 simp only[Z3];rw[Z8];intro v hv;obtain ⟨z,_,rfl⟩:=ZP.1 hv;rfl
theorem le79 (d : Dy) (hd:DyOk d) (fx:List Int) (hfl:fx.length≤d.ls.length) (hfx:∀ i,i<fx.length→gI fx i<(d.ls.length:Int)):∃ bef,PC Tryz.prog 79 [dyV d,ints fx] (.tup [ints bef,.i (E5 d fx)]):=by
 obtain ⟨T,hT⟩:∃ T,T=tolL d.ls.length fx fx.length:=⟨_,rfl⟩;obtain ⟨F,hF⟩:∃ F,F=F2 (canB d) T.1 d.ls.length (d.ls.length-fx.length) fx.length T:=⟨_,rfl⟩;have h12:=hd.l12;have hnum:F.2=E5 d fx:=by
  have:=(Qde (n:=d.ls.length) hfl (by have:=O8 (n:=d.ls.length) (can:=canB d) (told:=T.1) (f:=fx.length) (p0:=T.2) (d.ls.length-fx.length) fx.length T (QG _) (Qeq (by rw[hT];exact EX _ _ _));rw[show fx.length+(d.ls.length-fx.length)=d.ls.length by omega] at this;exact this)).1
  rw[← hF] at this;rw[this,hT];rfl
 refine ⟨F.1,ZF (fok79 true) (QC rfl) ?_,rfl⟩;rw[← hnum];simp only[ic79,WI,cellsOf,evA,simprocAttr];refine (le124 h12 (p:=2) rfl).run ?_;simp only[evA,simprocAttr];have hrl:(List.replicate d.ls.length (-1:Int)).length=d.ls.length:=by simp
 have h87:=le87 (σ:=[AObj.cells [.cv (minR d.mi),.cv (lesR d.ls)],.cells [.sl 3 0 d.ls.length 1],.cells [.i (-1)],.cells ((List.replicate d.ls.length (-1:Int)).map AV.i)]) (p:=3) (zs:=List.replicate d.ls.length (-1:Int)) (by rw[hrl];omega) rfl;rw[hrl] at h87;refine h87.run ?_;simp only[evA,simprocAttr];have h0:List.replicate d.ls.length (-1:Int)=(tolL d.ls.length fx 0).1:=rfl;rw[h0];refine ZW fx.length (fun j s=>∃ v6 v7 v14 v15,s=⟨[dyV d,ints fx,.ptr 0 0,.ptr 1 0,.i (tolL d.ls.length fx j).2,.ptr 6 0,v6,v7,.undef,.undef,.undef,ints fx,.i fx.length,.i j,v14,v15,.undef,.undef],[.cells [.cv (minR d.mi),.cv (lesR d.ls)],.cells [.sl 3 0 d.ls.length 1],.cells [.i (-1)],.cells ((tolL d.ls.length fx j).1.map AV.i),.dead,.cells ((tolL d.ls.length fx j).1.map AV.i),.cells [.sl 5 0 d.ls.length 1]]⟩) ?_ 0 (QF _) ⟨_,_,_,_,rfl⟩;rintro j s hj ⟨v6,v7,v14,v15,rfl⟩;by_cases hjl:j<fx.length
 ·have hj63 : j + 1 < 2 ^ 63 := by have:(2:Nat) ^ 63=9223372036854775808:=by decide
                                   omega
  have htl:=EX d.ls.length fx j;have hstep:tolL d.ls.length fx (j+1)=if gI fx j<0 then tolL d.ls.length fx j else ((tolL d.ls.length fx j).1.set (gI fx j).toNat j,(tolL d.ls.length fx j).2+1):=rfl
  have hcnt:(tolL d.ls.length fx j).2≤j:=by
   clear hstep htl hjl hj hj63
   induction j with
   | zero=>simp[tolL]
   | succ j ih => unfold tolL;split
                  ·omega
                  ·simp only;omega
  rw[hstep];generalize tolL d.ls.length fx j=U at *;obtain ⟨U1,U2⟩:=U;simp only at htl hcnt ⊢;simp only[ic79l1,QJ,hjl,evA,simprocAttr];by_cases hk:gI fx j<0
  ·have hb:decide (fx[j]?.getD 0≥0)=false:=decide_eq_false (by show ¬ gI fx j≥0;omega);rw[if_pos hk];simp only[hb,Q6 hj63,evA,simprocAttr];exact ZL (by first | trivial | omega) ⟨_,_,_,_,rfl⟩
  ·have hb:decide (fx[j]?.getD 0≥0)=true:=decide_eq_true (by show gI fx j≥0;omega);have hlt:=hfx j hjl;obtain ⟨k,hkk⟩:∃ k:Nat,gI fx j=(k:Int):=⟨(gI fx j).toNat,by omega⟩;have hkn:k<d.ls.length:=by omega
   have hk2:fx[j]?.getD 0=(k:Int):=hkk;have hb3:decide ((k:Int)≥0)=true:=decide_eq_true (by omega);rw[if_neg hk,hkk,Int.toNat_natCast];have hle:k+1≤U1.length:=by omega
   simp only[hk2,hb3,evA,simprocAttr];refine DW_s [] [(2,7)] hmix (by kernel_rfl) rfl ?_;simp only[W9 hkn,GC,ZK,WE,hle,Q6 hj63,Q6 (show U2+1<2 ^ 63 by omega),evA,simprocAttr];exact ZL (by first | trivial | omega) ⟨_,_,_,_,rfl⟩
 have hje:j=fx.length:=by omega
 subst hje;simp only[ic79l1,QJ,hjl,evA,simprocAttr];rw[← hT];have hTl:T.1.length=d.ls.length:=by rw[hT];exact EX _ _ _
 have hTo:R4 d.ls.length T.1:=by
  intro k hk;rw[hT];refine tol_lt (fun i=>?_) _ hfl k hk;rcases ZB i fx.length with h | h
  ·exact hfx i h
  ·unfold gI;rw[QN h];show (0:Int)<_;omega
 have hT2 : T.2 ≤ d.ls.length:=by
  have:∀ j,(tolL d.ls.length fx j).2≤j:=fun j=>by
   induction j with
   | zero=>simp[tolL]
   | succ j ih => unfold tolL;split
                  ·omega
                  ·simp only;omega
  have:=this fx.length;rw[hT];omega
 have hfalse:decide ((fx.length:Int)<fx.length)=false:=decide_eq_false (by omega);refine ZW (d.ls.length-fx.length) (fun m s=>∃ v6 v7 v9 v10 v14 v15 v16 v17,s=⟨[dyV d,ints fx,.ptr 0 0,.ptr 1 0,.i (F2 (canB d) T.1 d.ls.length m fx.length T).2,.ptr 6 0,v6,v7,.i (fx.length+m:Nat),v9,v10,ints fx,.i fx.length,.i fx.length,v14,v15,v16,v17],[.cells [.cv (minR d.mi),.cv (lesR d.ls)],.cells [.sl 3 0 d.ls.length 1],.cells [.i (-1)],.cells ((F2 (canB d) T.1 d.ls.length m fx.length T).1.map AV.i),.dead,.cells (T.1.map AV.i),.cells [.sl 5 0 d.ls.length 1]]⟩) ?_ 0 (QF _) ⟨_,_,_,_,_,_,_,_,rfl⟩;rintro m s hm ⟨v6,v7,v9,v10,v14,v15,v16,v17,rfl⟩;obtain ⟨k1,k2⟩:=Qbl (can:=canB d) (told:=T.1) m fx.length T (by omega) hTl hTo;have hstep:=PY (can:=canB d) (told:=T.1) (n:=d.ls.length) m fx.length T;have hnn:(F2 (canB d) T.1 d.ls.length m fx.length T).2≤T.2+m:=by
  clear hstep k1 k2
  induction m with
  | zero=>exact QG _
  | succ m ih =>
   rw[PY];have:=ih (by omega);simp only;split <;> omega
 by_cases hml:m<d.ls.length-fx.length
 ·have hin:fx.length+m<d.ls.length:=by omega
  rw[hstep];generalize F2 (canB d) T.1 d.ls.length m fx.length T=U at *;obtain ⟨U1,U2⟩:=U;simp only at k1 k2 hnn ⊢;have hmk:=fun σ=>B6 (n:=d.ls.length) (WJ h12 (by decide)) σ
  simp only[ic79l0,QJ,hin,hmk,evA,simprocAttr];have hmv:=le125 d hd T.1 hTl (D:=0) (SE:=8) (TO:=6) (BE:=1) (MV:=9) (SS:=7) (BB:=3) (TT:=5) (d.ls.length+1) (fx.length+m)
   [.cells [.cv (minR d.mi),.cv (lesR d.ls)],.cells [.sl 3 0 d.ls.length 1],.cells [.i (-1)],.cells (U1.map AV.i),.dead,.cells (T.1.map AV.i),.cells [.sl 5 0 d.ls.length 1],.cells (XT (List.replicate d.ls.length false)),.cells [.sl 7 0 d.ls.length 1],.cells [.fn (.func 125) [.ptr 0 0,.ptr 8 0,.ptr 6 0,.ptr 1 0,.ptr 9 0]]]
   (List.replicate d.ls.length false) U1 ⟨rfl,rfl,by rw[hTl];rfl,rfl,rfl,rfl,by decide,by decide,QC rfl,QC rfl,by
    intro x hx;simp only[ZD,WK,or_false] at hx;simp only[List.length_cons,List.length_nil];omega⟩ hin (by simp) k1 k2 (by
    have:=P7 (n:=d.ls.length) (P:=fun k=>!gB (List.replicate d.ls.length false) k);omega)
  generalize VE (canB d) T.1 d.ls.length (d.ls.length+1) (fx.length+m) ⟨List.replicate d.ls.length false,U1⟩=r at hmv ⊢;obtain ⟨r1,r2⟩:=r;refine hmv.run ?_;have hw:IntKind.i64.wrap (((fx.length+m:Nat):Int)+1)=((fx.length+(m+1):Nat):Int):=by rw[ZC (by omega)];omega
  have hw2:IntKind.i64.wrap ((U2:Int)+1)=((U2+1:Nat):Int):=by rw[ZC (by omega)];omega
  have hob:∀ o∈[AObj.cells [.cv (minR d.mi),.cv (lesR d.ls)],.cells [.sl 3 0 d.ls.length 1],.cells [.i (-1)],.cells (r2.bef.map AV.i),.dead,.cells (T.1.map AV.i),.cells [.sl 5 0 d.ls.length 1]],Z3 7 o=true:=by
   intro o ho;simp only[ZD,WK,or_false] at ho;rcases ho with rfl | rfl | rfl | rfl | rfl | rfl | rfl
   ·rfl
   ·rfl
   ·rfl
   ·exact objI _ _
   ·rfl
   ·exact objI _ _
   ·rfl
  cases r1 with
  | true =>
   simp only[stH,hw,hw2,evA,simprocAttr];exact W1 [.cells [.cv (minR d.mi),.cv (lesR d.ls)],.cells [.sl 3 0 d.ls.length 1],.cells [.i (-1)],.cells (r2.bef.map AV.i),.dead,.cells (T.1.map AV.i),.cells [.sl 5 0 d.ls.length 1]] _ rfl (by first | trivial | omega) (QF _) hob ⟨_,_,_,_,_,_,_,_,rfl⟩
  | false =>
   simp only[stH,hw,evA,simprocAttr];exact W1 [.cells [.cv (minR d.mi),.cv (lesR d.ls)],.cells [.sl 3 0 d.ls.length 1],.cells [.i (-1)],.cells (r2.bef.map AV.i),.dead,.cells (T.1.map AV.i),.cells [.sl 5 0 d.ls.length 1]] _ rfl (by first | trivial | omega) (QF _) hob ⟨_,_,_,_,_,_,_,_,rfl⟩
 ·have hme:m=d.ls.length-fx.length:=by omega
  have hin:¬ (fx.length+m<d.ls.length):=by omega
  simp only[ic79l0,QJ,hin,evA,simprocAttr];rw[hme,← hF];rw[hme,← hF] at k1;exact .tup (.cons (U4 (fun _=>trivial) k1.symm rfl) (.cons (.c (.c _ trivial)) .nil))
def posN (L:List Int):Nat:=L.countP fun x=>decide (0≤x)
theorem B3 (L:List Int) (x:Int):posN (L++[x])=posN L+if 0≤x then 1 else 0:=by
 unfold posN;rw[List.countP_append];by_cases h:0≤x <;> simp[h]
theorem tol_take (n:Nat) (L x:List Int):∀ j,j≤L.length→tolL n (L++x) j=tolL n L j
 | 0,_=>rfl
 | j+1,h=>by
  have hg:gI (L++x) j=gI L j:=by unfold gI;rw[QE (by omega)]
  unfold tolL;rw[hg,tol_take n L x j (by omega)]
theorem QdP (n:Nat) (L:List Int):∀ j,j≤L.length→(tolL n L j).2=posN (L.take j)
 | 0,_=>rfl
 | j+1,h=>by
  have hj:j<L.length:=by omega
  have hg:L.take (j+1)=L.take j++[gI L j]:=by rw[JC,QI hj];unfold gI;rw[QI hj];rfl
  have e:tolL n L (j+1)=if gI L j<0 then tolL n L j else ((tolL n L j).1.set (gI L j).toNat j,(tolL n L j).2+1):=rfl
  have ih:=QdP n L j (by omega);rw[hg,B3,e];split
  ·rename_i h1;rw[if_neg (by omega),ih];rfl
  ·rename_i h1;rw[if_pos (by omega)];simp only;omega
theorem OL {L:List Int} {k:Nat}:L.contains (k:Int)=true↔∃ i,i<L.length∧gI L i=(k:Int):=by
 rw[XS,WN];constructor
 ·rintro ⟨i,hi,h⟩;exact ⟨i,hi,by unfold gI;rw[QI hi];exact h⟩
 ·rintro ⟨i,hi,h⟩;refine ⟨i,hi,?_⟩;unfold gI at h;rw[QI hi] at h;exact h
theorem Qek (d:Dy) {L:List Int} (h:∀ i,gI L i<(d.ls.length:Int)):E5 d L=posN L+prF (canB d) d.ls.length (d.ls.length-L.length) L.length (fun j=>L.contains (j:Int)):=by
 unfold E5;rw[QdP _ _ _ (QG _),X7];congr 1;refine V6 _ _ _ _ fun k hk=>?_
 have h1:=QdQ (n:=d.ls.length) h hk L.length;cases hc:L.contains (k:Int) with
 | true =>
  obtain ⟨i,hi,e⟩:=OL.1 hc;have:¬ gI (tolL d.ls.length L L.length).1 k<0:=fun h2=>h1.1 h2 i hi e
  simp[this]
 | false =>
  have:gI (tolL d.ls.length L L.length).1 k<0:=h1.2 fun i hi e=>by rw[OL.2 ⟨i,hi,e⟩] at hc;cases hc
  simp[this]
structure NxSt (d:Dy) (i:Nat) (L:List Int) (B:Nat→Bool):Prop where
 len:L.length=i
 le:i≤d.ls.length
 tl:nxtL d=L++nxL (canB d) d.ls.length (d.ls.length-i) i B
 bb:∀ j,j<d.ls.length→B j=L.contains (j:Int)
 lt:∀ j,gI L j<(d.ls.length:Int)
 num:posN L+prF (canB d) d.ls.length (d.ls.length-i) i B=TH d
theorem Qct {L:List Int} {x:Int} {j:Nat}:gI (L++[x]) j=if j<L.length then gI L j else if j=L.length then x else 0:=by
 unfold gI;by_cases h:j<L.length
 ·rw[if_pos h,QE h]
 ·rw[if_neg h,QS (by omega)];by_cases h2:j=L.length
  ·subst h2;simp
  ·rw[if_neg h2,QN (by simp;omega)];rfl
theorem Qeh {d:Dy} (hn:0<d.ls.length):NxSt d 0 [] (fun _=>false) :=
 ⟨rfl,QF _,by simp[nxtL],fun j _=>by simp,fun j=>(by simp[gI];omega),by simp[posN,TH]⟩
theorem Qei {d:Dy} {i:Nat} {L:List Int} {B:Nat→Bool} (h:NxSt d i L B) (hi:i<d.ls.length) {k:Nat} (hk:k<d.ls.length) (hc:canB d i k=true) (hB:L.contains (k:Int)=false) :
  (((E5 d (L++[(k:Int)]):Nat):Int) == ((TH d:Nat):Int))=J2 (canB d) d.ls.length (d.ls.length-i-1) i B k:=by
 have hlt:∀ j,gI (L++[(k:Int)]) j<(d.ls.length:Int):=fun j=>by
  rw[Qct];have:=h.lt j;split
  ·exact this
  ·split <;> omega
 rw[Qek d hlt,B3,if_pos (by omega)];have hl:(L++[(k:Int)]).length=i+1:=by simp[h.len]
 rw[hl,← h.num];have he:prF (canB d) d.ls.length (d.ls.length-(i+1)) (i+1) (fun j=>(L++[(k:Int)]).contains (j:Int))=prF (canB d) d.ls.length (d.ls.length-i-1) (i+1) (fun j=>B j||j == k):=by
  rw[show d.ls.length-(i+1)=d.ls.length-i-1 by omega];refine V6 _ _ _ _ fun j hj=>?_
  rw[h.bb j hj,Q8];simp[Int.natCast_inj]
 rw[he];unfold J2;rw[hc,h.bb k hk,hB,show d.ls.length-i-1+1=d.ls.length-i by omega];rw[Q8];simp;omega
theorem AB {d:Dy} {i:Nat} {L:List Int} {B:Nat→Bool} (h:NxSt d i L B) (hi:i<d.ls.length) :
  NxSt d (i+1) (L++[XQ (J2 (canB d) d.ls.length (d.ls.length-i-1) i B) d.ls.length 0]) (addB B (XQ (J2 (canB d) d.ls.length (d.ls.length-i-1) i B) d.ls.length 0)):=by
 obtain ⟨m,hm⟩:∃ m,d.ls.length-i=m+1:=⟨d.ls.length-i-1,by omega⟩;have hm1:d.ls.length-i-1=m:=by omega
 have hm2:d.ls.length-(i+1)=m:=by omega
 rw[hm1];have htl:=h.tl;have hnum:=h.num;rw[hm] at htl hnum;obtain ⟨c,hc⟩:∃ c,c=XQ (J2 (canB d) d.ls.length m i B) d.ls.length 0:=⟨_,rfl⟩;have hor:=NE (p:=J2 (canB d) d.ls.length m i B) d.ls.length 0;have hlo:-1≤c∧c<(d.ls.length:Int):=by
  rcases hor with ⟨h1,_⟩ | ⟨x,_,h2,_,h3,_⟩
  ·omega
  ·omega
 rw[← hc] at hor ⊢;refine ⟨by simp[h.len],by omega,?_,fun j hj=>?_,fun j=>?_,?_⟩
 ·rw[hm2,htl];simp only[nxL,← hc,QW,List.cons_append,List.nil_append]
 ·unfold addB;rw[h.bb j hj,Q8];simp
 ·rw[Qct];have:=h.lt j;split
  ·exact this
  ·split <;> omega
 ·rw [hm2,B3,← hnum];rcases hor with ⟨h1,h2⟩ | ⟨x,_,h2,h3,h4,_⟩
  ·rw [if_neg (by omega)];have e0:prF (canB d) d.ls.length m (i+1) (addB B c)=prF (canB d) d.ls.length m (i+1) B:=V6 _ _ _ _ fun k _=>by
    unfold addB;have:decide ((k:Int)=c)=false:=decide_eq_false (by omega);rw[this,Bool.or_false]
   rw[e0];have e1:prF (canB d) d.ls.length (m+1) i B=prF (canB d) d.ls.length m (i+1) B:=by
    have hle:prF (canB d) d.ls.length m (i+1) B≤prF (canB d) d.ls.length (m+1) i B:=by simp only[prF];exact TL
    have hk:prF (canB d) d.ls.length (m+1) i B=prF (canB d) d.ls.length m (i+1) B∨∃ k,k<d.ls.length∧prF (canB d) d.ls.length (m+1) i B=if canB d i k && !B k then 1+prF (canB d) d.ls.length m (i+1) (fun j=>B j||j == k) else 0:=by simp only[prF];exact I1
    rcases hk with h | ⟨k,hk,he⟩
    ·exact h
    ·have hf:=h2 k (QF _) (by omega);unfold J2 at hf;by_cases hcb:(canB d i k && !B k)=true
     ·rw[if_pos hcb] at he;rw[hcb,XI] at hf;exact absurd he.symm (of_decide_eq_false hf)
     ·rw[if_neg hcb] at he;omega
   omega
  ·rw[if_pos (by omega)];have e0:prF (canB d) d.ls.length m (i+1) (addB B c)=prF (canB d) d.ls.length m (i+1) (fun j=>B j||j == x):=V6 _ _ _ _ fun k _=>by
    unfold addB;rw[h4,Q8];simp[Int.natCast_inj]
   rw[e0];unfold J2 at h3;have h5:=of_decide_eq_true (Bool.and_eq_true_iff.1 h3).2;omega
end Go.Proofs.YtgkidpolomhghaaGreatDoor.AM

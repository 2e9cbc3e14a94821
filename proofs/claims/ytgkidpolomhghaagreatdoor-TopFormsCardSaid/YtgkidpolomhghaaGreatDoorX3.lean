/- Parts of the proof, joined: AmEb to AmYg. -/
import Derived.Test.YtgkidpolomhghaaGreatDoorX2
set_option linter.unusedVariables false
set_option linter.unusedSimpArgs false
set_option linter.unusedSectionVars false
set_option linter.defProp false
namespace Go.Proofs.YtgkidpolomhghaaGreatDoor.AM
variable [Dr]
open Go
section
variable {P:Program} {fx:Fx} {s:St} {Q:Exit→St→Prop}
theorem X0.mono {fv:AV} {args:List AV} {σ:List AObj} {Q Q':AV→List AObj→Prop} (h:X0 P fv args σ Q) (hq:∀ r σ',Q r σ'→Q' r σ'):X0 P fv args σ Q':=by
 unfold X0 at h ⊢;split at h
 ·exact AC.mono h hq
 ·exact AC.mono h hq
 ·exact YC.mono h hq
 ·exact h.elim
theorem QaK {a b:Nat} (h:a≠b):Nat.beq a b=false:=by
 cases hb:Nat.beq a b with
 | true=>exact absurd (ZJ hb) h
 | false=>rfl
def H4 (P:Program) (E:Env) (call:CallE):Prop :=
 ∀ fv as_ σ k v σ',RD P E σ→call fv as_ σ=some (k,v,σ')→X0 P fv as_ σ (fun v' τ'=>v'=v∧τ'=σ')∧WT σ σ'∧(k=true→σ'=σ∧QR 0 v=true)
theorem WT.of_step {io:IOp} {as_:List AV} {σ σ':List AObj} {v:AV} (h:ZQ io as_ σ=some (v,σ')):WT σ σ':=fun l r hr=>⟨r,Qc2 h hr,.refl r⟩
theorem Qcp {o:AObj} (h:Qcq o=true):o.live:=by cases o <;> simp_all [Qcq,AObj.live]
theorem QbA {σ τ:List AObj} {v:AV} (h:QdD σ v τ=true):HM σ v τ:=by
 simp only[QdD,QD,decide_eq_true_eq,Q1] at h;obtain ⟨⟨⟨h1,h2⟩,h3⟩,h4⟩:=h;refine ⟨h1,h2,fun l o ho _=>⟨h3 o (QZ ho),fun hl=>Qcp (h4 o ?_)⟩⟩;apply QZ (i:=l-σ.length);rw[X4,show σ.length+(l-σ.length)=l by omega];exact ho
theorem MI {E:Env} {call:CallE} (hc:H4 P E call):∀ (is:List Ins) (vals ρ:List AV) (σ:List AObj) (vals' ρ':List AV) (σ':List AObj),RD P E σ→runR call is vals ρ σ=some (vals',ρ',σ') →
  WT σ σ'∧∀ K:List AV→List AV→List AObj→Prop,K vals' ρ' σ'→RG P is vals ρ σ K
 | [],vals,ρ,σ,vals',ρ',σ',hE,h=>by simp only[runR,Option.some.injEq,Prod.mk.injEq] at h;obtain ⟨rfl,rfl,rfl⟩:=h;exact ⟨.refl _,fun K hK=>hK⟩
 | i :: is,vals,ρ,σ,vals',ρ',σ',hE,h=>by
  simp only[runR,rIns] at h;simp only[RG];split at h
  ·cases h
  ·rename_i hg;obtain ⟨h1,h2⟩:=MI hc is _ _ _ _ _ _ hE h;refine ⟨h1,fun K hK=>?_⟩
   (try simp only[hg]);exact h2 K hK
  ·rename_i hg
   try simp only[hg]
   unfold rOp at h;split at h
   ·rename_i io hop;unfold rPrim at h;split at h
    ·rename_i v σ1 hst;rw[LI] at h;have hk:=WT.of_step hst;obtain ⟨h1,h2⟩:=MI hc is _ _ _ _ _ _ (hE.keep hk) h;refine ⟨hk.trans h1,fun K hK=>?_⟩;simp only[hop,hst];exact h2 K hK
    ·cases h
   ·rename_i hop;unfold rCall1 at h;split at h
    rotate_left
    ·cases h
    rename_i fv as_ hargs;unfold rCall at h;split at h
    ·rename_i k v σ1 hcall;simp only[LI] at h;obtain ⟨g1,g2,g3⟩:=hc _ _ _ _ _ _ hE hcall;obtain ⟨h1,h2⟩:=MI hc is _ _ _ _ _ _ (hE.keep g2) h;refine ⟨g2.trans h1,fun K hK=>?_⟩;simp only[hop,hargs];refine g1.mono ?_;rintro r τ ⟨rfl,rfl⟩;exact h2 K hK
    ·cases h
theorem QdJ {a b:AV} (h:avEq a b=true):a=b:=by
 unfold avEq at h;split at h
 ·simp only[QD,decide_eq_true_eq] at h;obtain ⟨rfl,rfl⟩:=h;rfl
 ·have:=eq_of_beq h;subst this;rfl
 ·rfl
 ·rfl
 ·simp only[QD] at h;rw[ZJ h.1,ZJ h.2]
 ·rw[ZJ h]
 ·simp only[QD] at h;rw[ZJ h.1.1,ZJ h.1.2,ZJ h.2.1,ZJ h.2.2]
 ·simp only[QD] at h;rw[ZJ h.1.1,ZJ h.1.2,ZJ h.2.1.1,ZJ h.2.1.2,ZJ h.2.2]
 ·cases h
theorem N4:∀ {as_ bs:List AV},QaL as_ bs=true→as_=bs
 | [],[],_=>rfl
 | a::as_,b::bs,h=>by simp only[QaL,QD] at h;rw[QdJ h.1,N4 h.2]
 | [],_::_,h=>by simp[QaL] at h
 | _::_,[],h=>by simp[QaL] at h
theorem Qbg {a b:Option AObj} (h:objEq a b=true):a=b:=by
 unfold objEq at h;split at h
 ·rw[N4 h]
 ·rfl
 ·rfl
 ·cases h
theorem NP:∀ {ls:List Nat} {a b:List AObj},QdN ls a b=true→xOne ls a b
 | [],_,_,_=>trivial
 | l::ls,a,b,h=>by simp only[QdN,QD] at h;exact ⟨Qbg h.1,NP h.2⟩
theorem NQ:∀ {xs:List (Nat × Nat)} {pl:List PlT} {hs:List (List AObj)},QdO xs pl hs=true→xAll xs pl hs
 | [],pl,hs,_=>trivial
 | p::xs,pl,hs,h=>by simp only[QdO,QD] at h;exact ⟨NP h.1,NQ h.2⟩
theorem MH {E:Env} {call:CallE} (hc:H4 P E call):∀ (is:List Ins) (kp:List Nat) (xs:List (Nat × Nat)) (j:Nat) (pl:List PlT) (hs:List (List AObj)) (vals ρ:List AV) (σ:List AObj) (vals' ρ':List AV) (σ':List AObj),RD P E σ→runX call kp xs j is pl hs vals ρ σ=some (vals',ρ',σ') →
  WT σ σ'∧∀ K:List AV→List AV→List AObj→Prop,K vals' ρ' σ'→RPx P kp xs j is pl hs vals ρ σ K
 | [],kp,xs,j,pl,hs,vals,ρ,σ,vals',ρ',σ',hE,h=>by
  simp only[runX] at h;split at h
  ·rename_i hx;simp only[Option.some.injEq,Prod.mk.injEq] at h;obtain ⟨rfl,rfl,rfl⟩:=h;exact ⟨.refl _,fun K hK=>⟨NQ hx,hK⟩⟩
  ·cases h
 | i :: is,kp,xs,j,pl,hs,vals,ρ,σ,vals',ρ',σ',hE,h=>by
  simp only[runX,xIns] at h;simp only[RPx];split at h
  ·cases h
  ·rename_i hg;obtain ⟨h1,h2⟩:=MH hc is kp xs (j+1) _ _ _ _ _ _ _ _ hE h;refine ⟨h1,fun K hK=>?_⟩
   (try simp only[hg]);exact h2 K hK
  ·rename_i hg
   try simp only[hg]
   unfold xOp at h;split at h
   ·rename_i io hop;unfold xPrim at h;split at h
    ·rename_i v σ1 hst;rw[LI] at h;have hk:=WT.of_step hst;obtain ⟨h1,h2⟩:=MH hc is kp xs (j+1) _ _ _ _ _ _ _ _ (hE.keep hk) h;refine ⟨hk.trans h1,fun K hK=>?_⟩;simp only[hop,hst];exact h2 K hK
    ·cases h
   ·rename_i hop;unfold xCall1 at h;split at h
    rotate_left
    ·cases h
    rename_i fv as_ hargs;unfold xCall at h;split at h
    ·rename_i k v σ1 hcall;split at h
     ·rename_i hok;rw[LI] at h;obtain ⟨g1,g2,g3⟩:=hc _ _ _ _ _ _ hE hcall;obtain ⟨h1,h2⟩:=MH hc is kp xs (j+1) _ _ _ _ _ _ _ _ (hE.keep g2) h;refine ⟨g2.trans h1,fun K hK=>?_⟩;simp only[hop,hargs];by_cases hkp:kp.contains j=true
      ·simp only[hkp,Qaj] at hok;simp only[hkp,if_true];obtain ⟨rfl,hl⟩:=g3 hok;exact ⟨v,g1,Y8 (QF _) v hl,h2 K hK⟩
      ·simp only[hkp,Qaj] at hok;simp only[hkp,if_false,QT];exact ⟨v,σ1,g1,QbA hok,h2 K hK⟩
     ·cases h
    ·cases h
theorem Qbx {E:Env} {k l:Nat} {e:LE}:P6 ((k,e)::E) l=if k=l then some e else P6 E l:=by
 simp only[P6];by_cases h:k=l
 ·subst h;simp
 ·have:Nat.beq k l=false:=QaK h;rw[this,if_neg h];rfl
theorem WT.push (σ:List AObj) (o:AObj):WT σ (σ++[o]):=fun l r hr=>⟨r,by rw[QE (QH.1 hr).1];exact hr,.refl r⟩
theorem GD {σ:List AObj} {l:Nat} {r:XC} (h:TI σ l=some r):σ[l]? = some (.loop r):=by
 unfold TI at h;split at h
 ·cases h;assumption
 ·cases h
theorem WT.setLoop {σ:List AObj} {l:Nat} {r:XC} (h:σ[l]? = some (.loop r)) (st:LoopState) (p:Option Code):WT σ (setLoop σ l r st p):=by
 intro l' r' hr';unfold AM.setLoop;by_cases hl:l=l'
 ·subst hl;rw[h] at hr';cases hr';have:l<σ.length:=(QH.1 h).1;exact ⟨{ r with state:=st,pending:=p },by rw[Z2 this],rfl,rfl,rfl,rfl,rfl⟩
 ·exact ⟨r',by rw[QU hl];exact hr',.refl _⟩
theorem Qer {dirs:List (List Nat)} {is:List Ins} {pds:List (List Nat)} {kp:List Nat} {xs:List (Nat × Nat)} (h:kpSel dirs is pds=some (kp,xs)):RQ dirs is pds kp xs=true:=by
 unfold kpSel at h
 dsimp only at h
 split at h
 ·rename_i hf;cases h;exact hf
 ·simp only[QA,Prod.mk.injEq] at h;obtain ⟨kp',hf,rfl,rfl⟩:=h;exact List.find?_some (p:=fun kp=>RQ dirs is pds kp (xsOf is pds kp)) hf
theorem NX {E:Env} {body:St→Option (Exit × St)} {c:Code} (hb:∀ s e s',RD P E s.heap→body s=some (e,s')→WT s.heap s'.heap∧∀ Q:Exit→St→Prop,Q e s'→W P fx c s Q):∀ (n:Nat) (s:St) (e:Exit) (s':St),RD P E s.heap→Qbj body n s=some (e,s') →
  WT s.heap s'.heap∧∀ Q:Exit→St→Prop,Q e s'→WL P fx c s Q
 | 0,s,e,s',hE,h=>by simp[Qbj] at h
 | n+1,s,e,s',hE,h=>by
  simp only[Qbj,A0] at h;split at h
  ·rename_i s1 h1;obtain ⟨k1,k2⟩:=hb s _ s1 hE h1;obtain ⟨k3,k4⟩:=NX hb n _ e s' (hE.keep k1) h;exact ⟨k1.trans k3,fun Q hQ=>FG (k2 _ (k4 Q hQ))⟩
  ·rename_i hne;obtain ⟨k1,k2⟩:=hb s e s' hE h;refine ⟨k1,fun Q hQ=>FG (k2 _ ?_)⟩;cases e with
   | normal=>exact absurd h (hne s')
   | _=>exact hQ
theorem AD {α:Type} (o:Option α):Qbh o=o.isNone:=by cases o <;> rfl
variable {call:Env→CallE}
theorem XL (hmix:P.follows .mixedOrders=true) (hc:∀ E,H4 P E (call E)) (lf:Nat):∀ (c:Code) (E:Env) (fx:Fx) (ic:IC) (s:St) (e:Exit) (s':St),QL P fx.vars fx.N c=some ic→RD P E s.heap→runI call lf ic E fx s=some (e,s') →
  WT s.heap s'.heap∧∀ Q:Exit→St→Prop,Q e s'→W P fx c s Q
 | .skip,E,fx,ic,s,e,s',hcc,hE,h=>by simp only[QL,Option.some.injEq] at hcc;subst hcc;simp only[runI,Option.some.injEq,Prod.mk.injEq] at h;obtain ⟨rfl,rfl⟩:=h;exact ⟨.refl _,fun Q hQ=>W_skip hQ⟩
 | .label l,E,fx,ic,s,e,s',hcc,hE,h=>by simp only[QL,Option.some.injEq] at hcc;subst hcc;simp only[runI,Option.some.injEq,Prod.mk.injEq] at h;obtain ⟨rfl,rfl⟩:=h;exact ⟨.refl _,fun Q hQ=>QeJ hQ⟩
 | .exit i,E,fx,ic,s,e,s',hcc,hE,h=>by simp only[QL,Option.some.injEq] at hcc;subst hcc;simp only[runI,Option.some.injEq,Prod.mk.injEq] at h;obtain ⟨rfl,rfl⟩:=h;exact ⟨.refl _,fun Q hQ=>QbM hQ⟩
 | .ret,E,fx,ic,s,e,s',hcc,hE,h=>by simp only[QL,Option.some.injEq] at hcc;subst hcc;simp only[runI,Option.some.injEq,Prod.mk.injEq] at h;obtain ⟨rfl,rfl⟩:=h;exact ⟨.refl _,fun Q hQ=>QcP hQ⟩
 | .seq a b,E,fx,ic,s,e,s',hcc,hE,h=>by
  simp only[QL,QB,QA] at hcc;obtain ⟨x,hx,y,hy,rfl⟩:=hcc;simp only[runI] at h;unfold rThen at h;split at h
  ·rename_i s1 h1;obtain ⟨k1,k2⟩:=XL hmix hc lf a E fx x s _ s1 hx hE h1;obtain ⟨k3,k4⟩:=XL hmix hc lf b E fx y s1 e s' hy (hE.keep k1) h;exact ⟨k1.trans k3,fun Q hQ=>QcO (k2 _ (k4 Q hQ))⟩
  ·rename_i hne;obtain ⟨k1,k2⟩:=XL hmix hc lf a E fx x s e s' hx hE h;refine ⟨k1,fun Q hQ=>QcO (k2 _ ?_)⟩;cases e with
   | normal=>exact absurd h (hne s')
   | _=>exact hQ
 | .block i a,E,fx,ic,s,e,s',hcc,hE,h=>by
  simp only[QL,QA] at hcc;obtain ⟨x,hx,rfl⟩:=hcc;simp only[runI] at h;unfold rBlock at h;split at h
  ·rename_i i' s1 h1;simp only[Option.some.injEq,Prod.mk.injEq] at h;obtain ⟨h2,rfl⟩:=h;obtain ⟨k1,k2⟩:=XL hmix hc lf a E fx x s _ s1 hx hE h1;refine ⟨k1,fun Q hQ=>QbO (k2 _ ?_)⟩;by_cases hi:i'=i
   ·subst hi;simp at h2 ⊢;subst h2;exact hQ
   ·have hb:Nat.beq i' i=false:=QaK hi;rw[hb] at h2;simp only[QT,if_false] at h2;subst h2;simp only[hi,if_false];exact hQ
  ·rename_i hne;obtain ⟨k1,k2⟩:=XL hmix hc lf a E fx x s e s' hx hE h;refine ⟨k1,fun Q hQ=>QbO (k2 _ ?_)⟩;cases e with
   | exit i'=>exact absurd h (hne i' s')
   | _=>exact hQ
 | .loop a,E,fx,ic,s,e,s',hcc,hE,h=>by simp only[QL,QA] at hcc;obtain ⟨x,hx,rfl⟩:=hcc;simp only[runI] at h;obtain ⟨k1,k2⟩:=NX (P:=P) (fx:=fx) (E:=E) (c:=a) (fun s e s' hE h=>XL hmix hc lf a E fx x s e s' hx hE h) lf s e s' hE h;exact ⟨k1,fun Q hQ=>W_loop (k2 Q hQ)⟩
 | .scope a,E,fx,ic,s,e,s',hcc,hE,h=>by
  simp only[QL,QA] at hcc;obtain ⟨x,hx,rfl⟩:=hcc;simp only[runI] at h;unfold rScope at h;split at h
  ·cases h
  ·rename_i hne;obtain ⟨k1,k2⟩:=XL hmix hc lf a E fx x s e s' hx hE h;refine ⟨k1,fun Q hQ=>QeI (k2 _ ?_)⟩;cases e with
   | goto l=>exact absurd h (hne l s')
   | _=>exact hQ
 | .cond (.const v) a b,E,fx,ic,s,e,s',hcc,hE,h=>by
  cases v <;> simp only[QL,reduceCtorEq] at hcc
  rename_i t;cases t with
  | true =>
   simp only[if_true] at hcc;obtain ⟨k1,k2⟩:=XL hmix hc lf a E fx ic s e s' hcc hE h;exact ⟨k1,fun Q hQ=>XD (k2 Q hQ)⟩
  | false =>
   simp only[QT,if_false] at hcc;obtain ⟨k1,k2⟩:=XL hmix hc lf b E fx ic s e s' hcc hE h;exact ⟨k1,fun Q hQ=>XD (k2 Q hQ)⟩
 | .cond (.tmp t) a b,E,fx,ic,s,e,s',hcc,hE,h=>by
  simp only[QL,QB,QA] at hcc;obtain ⟨i,hi,x,hx,y,hy,rfl⟩:=hcc;simp only[runI] at h;unfold rCond at h;split at h
  ·rename_i hv;obtain ⟨k1,k2⟩:=XL hmix hc lf a E fx x s e s' hx hE h;exact ⟨k1,fun Q hQ=>QbN (Y9 hi) hv (k2 Q hQ)⟩
  ·rename_i hv;obtain ⟨k1,k2⟩:=XL hmix hc lf b E fx y s e s' hy hE h;exact ⟨k1,fun Q hQ=>QbN (Y9 hi) hv (k2 Q hQ)⟩
  ·cases h
 | .region id ops false,E,fx,ic,s,e,s',hcc,hE,h=>by
  simp only[QL,QA] at hcc;obtain ⟨is,his,rfl⟩:=hcc;simp only[runI] at h;unfold rReg at h;split at h
  ·rename_i vals ρ σ hr;simp only[Option.some.injEq,Prod.mk.injEq] at h;obtain ⟨rfl,rfl⟩:=h;obtain ⟨k1,k2⟩:=MI (hc E) is _ _ _ _ _ _ hE hr;exact ⟨k1,fun Q hQ=>C5 his (k2 _ hQ)⟩
  ·cases h
 | .region id ops true,E,fx,ic,s,e,s',hcc,hE,h=>by
  simp only[QL,QA] at hcc;obtain ⟨is,his,rfl⟩:=hcc;simp only[runI] at h;unfold rDraw at h;split at h
  ·cases h
  ·rename_i kp xs hkp;split at h
   ·rename_i hlen;unfold rReg at h;split at h
    ·rename_i vals ρ σ hr;simp only[Option.some.injEq,Prod.mk.injEq] at h;obtain ⟨rfl,rfl⟩:=h;obtain ⟨k1,k2⟩:=MH (hc E) is _ _ _ _ _ _ _ _ _ _ _ hE hr;exact ⟨k1,fun Q hQ=>PE _ kp xs hmix his (AA (Qer hkp)) (by simpa using hlen) (k2 _ hQ)⟩
    ·cases h
   ·cases h
 | .rangeFunc g ps assign body,E,fx,ic,s,e,s',hcc,hE,h=>by
  simp only[QL,QB,QA] at hcc;obtain ⟨ia,hia,ib,hib,rfl⟩:=hcc;simp only[runI] at h;unfold rfGo at h;split at h
  rotate_left
  ·cases h
  rename_i gf cap hg;split at h
  rotate_left
  ·cases h
  rename_i hchk;simp only[rfChk,QD,decide_eq_true_eq,Q1] at hchk;obtain ⟨⟨hvl,hr0⟩,hnd,hps⟩:=hchk;unfold rfRes at h;split at h
  rotate_left
  ·cases h
  rename_i k0 v0 σ' hcall;unfold rfLoop at h;split at h
  rotate_left
  ·cases h
  rename_i r2 hr2;have hr2':=GD hr2;have hE':RD P ((s.heap.length,⟨fx.vars,fx.N,ps.toList,ia,ib⟩)::E) (s.heap++[.loop (VJ fx s.vals ps assign body)]):=by
   intro l le hl;rw[Qbx] at hl;split at hl
   ·rename_i hl0;subst hl0;cases hl;refine ⟨VJ fx s.vals ps assign body,by simp,rfl,rfl,rfl,hia,hib,hnd,fun t ht=>?_,fun t ht=>?_⟩
    ·have:=(hps t ht).1;simpa using this
    ·have:=(hps t ht).2;simpa using this
   ·exact (hE.keep (.push _ _)) l le hl
  obtain ⟨g1,g2,g3⟩:=hc _ _ _ _ _ _ _ hE' hcall;have hk:WT s.heap σ':=(WT.push _ _).trans g2;have hr0':∀ l0,fx.r=some l0→∃ r0,s.heap[l0]? = some (.loop r0):=by intro l0 hl0;rw[hl0] at hr0;simp only[Option.isSome_iff_exists] at hr0;obtain ⟨r0,hr0⟩:=hr0;exact ⟨r0,GD hr0⟩
  have main:∀ Q:Exit→St→Prop,r2.state≠.busy→(match r2.pending with
    | none=>Q .normal ⟨s.vals,setLoop σ' s.heap.length r2 .exhausted none⟩
    | some c=>W P fx c ⟨s.vals,setLoop σ' s.heap.length r2 .exhausted (some c)⟩ Q)→W P fx (.rangeFunc g ps assign body) s Q:=by
   intro Q hbusy hq;refine N6 rfl hg (by simpa using hvl) hr0' ?_;have g1':AC P gf (.yld s.heap.length::cap) (s.heap++[.loop (VJ fx s.vals ps assign body)]) fun v' τ'=>v'=v0∧τ'=σ':=g1
   refine g1'.mono ?_;rintro r τ ⟨rfl,rfl⟩;exact ⟨r2,hr2',hbusy,hq⟩
  split at h
  ·cases h
  rename_i hbusy;have hbusy:r2.state≠.busy:=fun hb=>by rw[hb] at hbusy;exact hbusy rfl
  unfold rfPend at h;split at h
  ·rename_i hp;simp only[Option.some.injEq,Prod.mk.injEq] at h;obtain ⟨rfl,rfl⟩:=h;exact ⟨hk.trans (.setLoop hr2' _ _),fun Q hQ=>main Q hbusy (by rw[hp];exact hQ)⟩
  ·rename_i hp;simp only[Option.some.injEq,Prod.mk.injEq] at h;obtain ⟨rfl,rfl⟩:=h;exact ⟨hk.trans (.setLoop hr2' _ _),fun Q hQ=>main Q hbusy (by rw[hp];exact QcP hQ)⟩
  ·rename_i i hp;simp only[Option.some.injEq,Prod.mk.injEq] at h;obtain ⟨rfl,rfl⟩:=h;exact ⟨hk.trans (.setLoop hr2' _ _),fun Q hQ=>main Q hbusy (by rw[hp];exact QbM hQ)⟩
  ·cases h
 | .cond (.global _) _ _,_,_,_,_,_,_,hcc,_,_=>by simp[QL] at hcc
 | .cond (.func _) _ _,_,_,_,_,_,_,hcc,_,_=>by simp[QL] at hcc
 | .goto _,_,_,_,_,_,_,hcc,_,_=>by simp[QL] at hcc
 | .refuse _,_,_,_,_,_,_,hcc,_,_=>by simp[QL] at hcc
variable {T:Nat→Option FE}
theorem BV (hmix:P.follows .mixedOrders=true) (hc:∀ E,H4 P E (call E)) (lf:Nat) {E:Env} {f:FuncId} {fe:FE} (hf:FnOk P f fe) {args:List AV} {σ σ':List AObj} {r:AV} (hE:RD P E σ) (h:runF call lf E fe args σ=some (r,σ')) :
  AC P f args σ (fun v τ=>v=r∧τ=σ')∧WT σ σ':=by
 obtain ⟨fn,c,h1,h2,h3,h4,h5,h6⟩:=hf.ok;unfold runF at h;split at h
 rotate_left
 ·cases h
 rename_i hlen;have hlen':args.length≤fn.ntmps:=by rw[h4];simpa using hlen
 have fin:∀ e s,runI call lf fe.ic E ⟨fe.vars,fe.N,none,σ.length⟩ ⟨Y5 fe.vars args,σ⟩=some (e,s)→(e=.normal∨e=.ret)→rRes s.heap (RL s.vals s.heap fe.res)=some (r,σ')→AC P f args σ (fun v τ=>v=r∧τ=σ')∧WT σ σ':=by
  intro e s hr he hres;unfold rRes at hres;split at hres
  rotate_left
  ·cases hres
  rename_i r' hres';simp only[Option.some.injEq,Prod.mk.injEq] at hres;obtain ⟨rfl,rfl⟩:=hres;obtain ⟨k1,k2⟩:=XL hmix hc lf c E ⟨fe.vars,fe.N,none,σ.length⟩ fe.ic ⟨Y5 fe.vars args,σ⟩ e s (by rw[← h4];exact h5) hE hr;refine ⟨?_,k1⟩;refine IB (vars:=fe.vars) h1 h2 (RE h1 h3 h2) hlen' ?_;rw[h4];refine k2 _ ?_;have:UB P fe.vars s.vals s.heap fn.results.toList=some r':=by rw[BY h6];exact hres'
  rcases he with rfl | rfl <;> exact ⟨r',this,rfl,rfl⟩
 unfold rFn at h;split at h
 ·rename_i s hr;exact fin _ _ hr (.inl rfl) h
 ·rename_i s hr;exact fin _ _ hr (.inr rfl) h
 ·cases h
theorem cut_AC {f:FuncId} {args:List AV} {σ σ':List AObj} {r:AV} (h:AC P f args σ (fun v τ=>v=r∧τ=σ')) (hk:WT σ σ') (hle:σ.length≤σ'.length):AC P f args σ (fun v τ=>v=r∧τ=cutF σ.length r σ')∧WT σ (cutF σ.length r σ'):=by
 unfold cutF;split
 ·rename_i hc;simp only[QD,Q1] at hc
  replace hc:=hc.2
  have hlt:(σ'.take σ.length).length=σ.length:=by simp[hle]
  refine ⟨h.tidy ?_,?_⟩
  ·rintro v τ ⟨rfl,rfl⟩;refine ⟨id,v,τ.take σ.length,⟨fun _ _=>rfl,fun _ _ h _=>h,by omega,?_,by rw[hlt];exact hc.1,fun l o ho=>.inr ?_⟩,rfl,rfl⟩
   ·exact (PU (g:=id) (k:=σ.length) (fun _ _=>rfl) v hc.1).symm
   ·have hin:=hc.2 o (QZ ho);rw[hlt];refine ⟨hin,?_⟩;rw[E1 (g:=id) (k:=σ.length) (fun _ _=>rfl) hin];rw[Z7] at ho;split at ho
    ·exact ho
    ·cases ho
  ·intro l r' hr';obtain ⟨r2,k1,k2⟩:=hk l r' hr';have:l<σ.length:=(QH.1 hr').1;exact ⟨r2,by rw[Z7,if_pos this];exact k1,k2⟩
 ·exact ⟨h,hk⟩
end
section
variable {P:Program} {T:Tb} {call:Env→CallE}
theorem RD.nil (σ:List AObj):RD P [] σ:=fun l le h=>by simp[P6] at h
theorem cut_AC' {f:FuncId} {args:List AV} {σ σ':List AObj} {r:AV} (h:AC P f args σ (fun v τ=>v=r∧τ=σ')) (hk:WT σ σ'):AC P f args σ (fun v τ=>v=r∧τ=cutF σ.length r σ')∧WT σ (cutF σ.length r σ'):=by
 rcases ZB σ'.length σ.length with hlt | hge
 ·have:cutF σ.length r σ'=σ':=by
   unfold cutF;rw[Q5 (by omega)];split <;> rfl
  rw[this];exact ⟨h,hk⟩
 ·exact cut_AC h hk hge
theorem CQ:∀ (n:Nat),(∀ a b:CV,SizeOf.sizeOf a≤n→cvEq a b=true→a=b)∧(∀ as_ bs:List CV,SizeOf.sizeOf as_≤n→Qbz as_ bs=true→as_=bs)
 | 0=>⟨fun a b h=>by cases a <;> simp at h,fun as_ bs h=>by cases as_ <;> simp at h⟩
 | n+1=>by
  obtain ⟨ih1,ih2⟩:=CQ n;refine ⟨fun a b hn h=>?_,fun as_ bs hn h=>?_⟩
  ·cases a <;> cases b <;> simp only[cvEq,QT,QD,decide_eq_true_eq,beq_iff_eq] at h
   ·rw[h.1,h.2]
   ·rw[h]
   ·rw[h]
   ·rfl
   ·rfl
   ·rfl
   ·rfl
   ·rfl
   ·rw[ZJ h.1,ih2 _ _ (by simp at hn;omega) h.2]
   ·rw[ZJ h.1,ih2 _ _ (by simp at hn;omega) h.2]
  ·cases as_ <;> cases bs <;> simp only[Qbz,QT,QD] at h
   ·rfl
   ·rw[ih1 _ _ (by simp at hn;omega) h.1,ih2 _ _ (by simp at hn;omega) h.2]
theorem QaM:∀ (n:Nat),(∀ a b:AV,SizeOf.sizeOf a≤n→aEq a b=true→a=b)∧(∀ as_ bs:List AV,SizeOf.sizeOf as_≤n→asEq as_ bs=true→as_=bs)
 | 0=>⟨fun a b h=>by cases a <;> simp at h,fun as_ bs h=>by cases as_ <;> simp at h⟩
 | n+1=>by
  obtain ⟨ih1,ih2⟩:=QaM n;refine ⟨fun a b hn h=>?_,fun as_ bs hn h=>?_⟩
  ·cases a <;> cases b <;> simp only[aEq,QT,reduceCtorEq] at h
   ·rw[(CQ _).1 _ _ (QG _) h]
   ·rw[ih2 _ _ (by simp at hn;omega) h]
  ·cases as_ <;> cases bs <;> simp only[asEq,QT,QD,reduceCtorEq] at h
   ·rfl
   ·rw[ih1 _ _ (by simp at hn;omega) h.1,ih2 _ _ (by simp at hn;omega) h.2]
def KnOk (P:Program):Kn→Prop
 | []=>True
 | (f,as_,v)::ks=>(QR 0 v=true∧∀ σ,AC P f as_ σ fun r τ=>r=v∧τ=σ)∧KnOk P ks
theorem KnOk.get {P:Program}:∀ {ks:Kn},KnOk P ks→∀ f as_ v,Qbm ks f as_=some v→QR 0 v=true∧∀ σ,AC P f as_ σ fun r τ=>r=v∧τ=σ
 | [],_,f,as_,v,h=>by simp[Qbm] at h
 | (g,bs,u)::ks,hok,f,as_,v,h=>by
  simp only[Qbm] at h;split at h
  ·rename_i hk;cases h;simp only[QD] at hk;rw[← ZJ hk.1,← (QaM _).2 _ _ (QG _) hk.2];exact hok.1
  ·exact KnOk.get hok.2 f as_ v h
structure TbOk (P:Program) (T:Tb):Prop where
 t:∀ f fe,T.T f=some fe→FnOk P f fe
 k:KnOk P T.K
theorem R7 (hmix:P.follows .mixedOrders=true) (hT:TbOk P T) (hc:∀ E,H4 P E (call E)) (lf:Nat) {E:Env} {f:FuncId} {args:List AV} {σ σ':List AObj} {k:Bool} {v:AV} (hE:RD P E σ)
  (h:JL T call lf E f args σ=some (k,v,σ')):AC P f args σ (fun v' τ=>v'=v∧τ=σ')∧WT σ σ'∧(k=true→σ'=σ∧QR 0 v=true):=by
 unfold JL rKn at h;split at h
 ·rename_i v0 hkn;simp only[Option.some.injEq,Prod.mk.injEq] at h;obtain ⟨rfl,rfl,rfl⟩:=h;obtain ⟨h1,h2⟩:=hT.k.get _ _ _ hkn;exact ⟨h2 σ,.refl _,fun _=>⟨rfl,h1⟩⟩
 unfold rFe at h;split at h
 ·cases h
 rename_i fe hfe;have hfo:=hT.t f fe hfe;by_cases hp:(fe.pure&&QO 0 args)=true
 ·rw[if_pos hp] at h;simp only[QD] at hp;unfold rFrz at h;split at h
  rotate_left
  ·cases h
  rename_i r τ hr;unfold rFrz2 at h;split at h
  rotate_left
  ·cases h
  rename_i v0 hv0;split at h
  rotate_left
  ·cases h
  rename_i hl0;simp only[Option.some.injEq,Prod.mk.injEq] at h;obtain ⟨rfl,rfl,rfl⟩:=h;obtain ⟨g1,g2⟩:=BV hmix hc lf hfo (.nil []) hr;refine ⟨?_,.refl _,fun _=>⟨rfl,hl0⟩⟩;refine AC.pure hp.2 g1 ?_ σ;rintro v' τ' ⟨rfl,rfl⟩;exact ⟨v0,Qbr 8 _ _ hv0,rfl⟩
 ·rw[if_neg hp] at h;unfold rCut at h;split at h
  rotate_left
  ·cases h
  rename_i r τ hr;simp only[Option.some.injEq,Prod.mk.injEq] at h;obtain ⟨rfl,rfl,rfl⟩:=h;obtain ⟨g1,g2⟩:=BV hmix hc lf hfo hE hr;obtain ⟨g3,g4⟩:=cut_AC' g1 g2;exact ⟨g3,g4,fun hk=>by cases hk⟩
theorem Qc9 (hmix:P.follows .mixedOrders=true) (hc:∀ E,H4 P E (call E)) (lf:Nat) {E:Env} {l:Nat} {args:List AV} {σ σ':List AObj} {k:Bool} {v:AV} (hE:RD P E σ)
  (h:runY call lf E l args σ=some (k,v,σ')):YC P l args σ (fun v' τ=>v'=v∧τ=σ')∧WT σ σ'∧(k=true→σ'=σ∧QR 0 v=true):=by
 unfold runY yGo at h;split at h
 rotate_left
 ·cases h
 rename_i le r hle hr;have hr:=GD hr;obtain ⟨r',h0,h1,h2,h3,h4,h5,h6,h7,h8⟩:=hE l le hle;rw[hr] at h0;cases h0;have ready:∀ st:LoopState,MU st=true→st=.ready:=fun st h=>by cases st <;> simp_all [MU]
 split at h
 rotate_left
 ·cases h
 rename_i hchk;simp only[QD] at hchk;have hst:=ready _ hchk.1;have hlen:=ZJ hchk.2;unfold yAss at h;split at h
 rotate_left
 ·cases h
 rename_i s1 hs1;obtain ⟨k1,k2⟩:=XL hmix hc lf r.assign E ⟨le.vars,le.N,some l,σ.length⟩ le.ia _ _ _ h4 hE hs1;unfold yBody at h;split at h
 rotate_left
 ·cases h
 rename_i r1 hr1;have hr1:=GD hr1;split at h
 rotate_left
 ·cases h
 rename_i hst1;have hst1:=ready _ hst1;have hkl:=WT.setLoop hr1 .busy r1.pending;have fin:∀ (e:Exit) (s2:St) (r2:XC),runI call lf le.ib E ⟨le.vars,le.N,some l,σ.length⟩ ⟨s1.vals,setLoop s1.heap l r1 .busy r1.pending⟩=some (e,s2)→(∀ x,e≠.panic x)→e≠.outgrown→TI s2.heap l=some r2 →
   (k,v,σ')=(false,.b (Qbh (GQ e)),setLoop s2.heap l r2 (if Qbh (GQ e) then .ready else .done) (GQ e)) →
   YC P l args σ (fun v' τ=>v'=v∧τ=σ')∧WT σ σ'∧(k=true→σ'=σ∧QR 0 v=true):=by
  intro e s2 r2 hrun hnp hno hr2 heq;have hr2:=GD hr2;simp only[Prod.mk.injEq] at heq;obtain ⟨rfl,rfl,rfl⟩:=heq;obtain ⟨k3,k4⟩:=XL hmix hc lf r.body E ⟨le.vars,le.N,some l,σ.length⟩ le.ib _ _ _ h5 (hE.keep (k1.trans hkl)) hrun;refine ⟨?_,((k1.trans hkl).trans k3).trans (.setLoop hr2 _ _),fun hk=>by cases hk⟩;refine N5 hr hst (by rw[h3];exact hlen) (by rw[h1];exact h6) (by rw[h1,h3];exact h7) (by rw[h2,h3];exact h8) ?_;rw[h1,h2,h3];refine k2 _ ?_;refine ⟨r1,hr1,hst1,?_⟩;refine k4 _ ?_;cases e with
  | panic x=>exact absurd rfl (hnp x)
  | outgrown=>exact absurd rfl hno
  | _=>exact ⟨r2,hr2,by simp only[AD],by simp only[AD]⟩
 unfold yRes at h;split at h
 ·cases h
 ·cases h
 ·cases h
 ·rename_i e s2 hn1 hn2 hs2;unfold yEnd at h;split at h
  rotate_left
  ·cases h
  rename_i r2 hr2;simp only[Option.some.injEq] at h;exact fin e s2 r2 hs2 (fun x hx=>hn1 x hx) (fun hx=>hn2 hx) hr2 h.symm
theorem N2 (hmix:P.follows .mixedOrders=true) (hT:TbOk P T) (lf:Nat):∀ (d:Nat) (E:Env),H4 P E (UI T lf d E)
 | 0,E,fv,as_,σ,k,v,σ',hE,h=>by simp[UI] at h
 | d+1,E,fv,as_,σ,k,v,σ',hE,h=>by
  have hc:=N2 hmix hT lf d;simp only[UI] at h;split at h
  ·exact R7 hmix hT hc lf hE h
  ·exact R7 hmix hT hc lf hE h
  ·exact Qc9 hmix hc lf hE h
  ·cases h
theorem AC_run (hmix:P.follows .mixedOrders=true) (hT:TbOk P T) (lf d:Nat) {f:FuncId} {args:List AV} {v:AV} (h:JL T (UI T lf d) lf [] f args []=some (true,v,[])) (hcl:QO 0 args=true) (σ:List AObj) :
  AC P f args σ fun r τ=>r=v∧τ=σ:=by
 obtain ⟨g1,g2,g3⟩:=R7 hmix hT (N2 hmix hT lf d) lf (.nil []) h;obtain ⟨_,hl⟩:=g3 rfl;refine AC.pure hcl g1 ?_ σ;rintro r τ ⟨rfl,rfl⟩;refine ⟨r,?_,rfl⟩;exact GE (k:=0) r hl
end
def TOk (P:Program):List (Nat × FE)→Prop
 | []=>True
 | (f,fe)::es=>FnOk P f fe∧TOk P es
def tget:List (Nat × FE)→Nat→Option FE
 | [],_=>none
 | (k,e)::es,f=>if Nat.beq k f then some e else tget es f
theorem TOk.get {P:Program}:∀ {es:List (Nat × FE)},TOk P es→∀ f fe,tget es f=some fe→FnOk P f fe
 | [],_,f,fe,h=>by simp[tget] at h
 | (k,e)::es,hok,f,fe,h=>by
  simp only[tget] at h;split at h
  ·rename_i hk;cases h;rw[← ZJ hk];exact hok.1
  ·exact TOk.get hok.2 f fe h
theorem FnOk.mk' {P:Program} {f:FuncId} {fn:Func} {c:Code} {vars:List Nat} {N:Nat} {ic:IC} {res:List RC} {pure:Bool} (h1:P.funcs[f]? = some fn) (h2:fn.body=some c) (h3:(fn.name == "runtime.NumGoroutine")=false) (h5:QL P vars fn.ntmps c=some ic)
  (h6:mapO (R0 P vars) fn.results.toList=some res) (h4:fn.ntmps=N):FnOk P f ⟨ic,vars,N,res,pure⟩:=⟨fn,c,h1,h2,h3,h4,h5,h6⟩
theorem FnOk.mk2 {P:Program} {f:FuncId} {fn:Func} {vars:List Nat} {N:Nat} {ic:IC} {res:List RC} {pure:Bool} (h1:P.funcs[f]? = some fn) (h2:fn.body.isSome=true) (h3:(fn.name == "runtime.NumGoroutine")=false)
  (h5:QL P vars fn.ntmps (fn.body.getD .skip)=some ic) (h6:mapO (R0 P vars) fn.results.toList=some res) (h4:fn.ntmps=N):FnOk P f ⟨ic,vars,N,res,pure⟩:=by
 cases hb:fn.body with
 | none=>rw[hb] at h2;cases h2
 | some c=>rw[hb] at h5;exact FnOk.mk' h1 hb h3 h5 h6 h4
def jS:Opd:=.c (.cv .nils)
def jB (b:Bool):Opd:=.c (.cv (.bool b))
def jn (z:Int):Opd:=.c (.cv (.int .i64 z))
def jq (o:IOp) (a:List Opd):Ins:=⟨none,none,.prim o,a⟩
def jw (d:Nat) (o:IOp) (a:List Opd):Ins:=⟨some d,none,.prim o,a⟩
def jg (n:Nat) (b:Bool) (o:IOp) (a:List Opd):Ins:=⟨none,some (n,b),.prim o,a⟩
def jk (f:Nat) (a:List Opd):Ins:=⟨none,none,.call,.c (.fn (.func f) [])::a⟩
def jd (d f:Nat) (a:List Opd):Ins:=⟨some d,none,.call,.c (.fn (.func f) [])::a⟩
def jf (n:Nat) (b:Bool) (f:Nat) (a:List Opd):Ins:=⟨none,some (n,b),.call,.c (.fn (.func f) [])::a⟩
def jv (n:Nat):Ins:=⟨none,none,.prim .mv,[.v n]⟩
def jt (n:Nat):Ins:=⟨none,none,.prim .mv,[.t n]⟩
def jl (n:Nat):Ins:=⟨none,none,.prim .load1,[.t n]⟩
def jL (n:Nat):Ins:=⟨none,none,.prim .load1,[.v n]⟩
def je (n:Nat):Ins:=⟨none,none,.prim (.len false),[.t n]⟩
def jc (n:Nat):Ins:=⟨none,none,.prim .nilck,[.t n]⟩
def ja (e a b:Nat):Ins:=⟨none,none,.prim (.iaS e),[.t a,.t b]⟩
def jF (k n:Nat):Ins:=⟨none,none,.prim (.fadd k),[.v n]⟩
def jG (k n:Nat):Ins:=⟨none,none,.prim (.fadd k),[.t n]⟩
def jx (k n:Nat):Ins:=⟨none,none,.prim (.extract k),[.t n]⟩
def jN (k n:Nat):Ins:=⟨none,none,.prim (.loadN k),[.v n]⟩
def jm (d n:Nat):Ins:=⟨some d,none,.prim .mv,[.t n]⟩
def jz (d:Nat) (z:Int):Ins:=⟨some d,none,.prim .mv,[.c (.cv (.int .i64 z))]⟩
def jb (d n:Nat):Ins:=⟨some d,none,.prim .box,[.v n]⟩
def jh (n:Nat) (b:Bool) (m:Nat):Ins:=⟨none,some (n,b),.prim .mv,[.v m]⟩
def ji (n:Nat) (b:Bool) (m:Nat):Ins:=⟨none,some (n,b),.prim .load1,[.t m]⟩
abbrev vs17:List Nat:=[0,1,2,4,5,6,7,8,10,11,12,13,14,15,16,17,18,23,26,27,28,29,33,34,35,36,44,51,68,99]
def ic17l0:IC:=(.seq (.seq (.region [jN 2 13,jq (.build [(.cv (.int .i64 0)),(.cv (.int .i64 0))] []) [],jw 28 (.eqS true (true,[(.int .i64),(.int .i64)])) [.t 0,.t 1]])
 (.cond 28 .skip
 (.exit 4)))
 (.block 5 (.seq (.region [jL 2,jF 0 12,jl 1,ja 2 0 2,jq (.loadN 2) [.t 3],jw 14 (.alloc [(.cv (.int .i64 0)),(.cv (.int .i64 0))]) [],jq (.store 2) [.v 14,.t 4]])
 (.seq (.dr [[],[0],[],[2],[],[3,4],[1,5],[],[7,6,5,0,1,2,3,4,5,6,7]] [jF 0 12,jl 0,jF 1 12,jq (.loadN 6) [.t 2],jN 2 14,jk 58 [.t 3,.t 4],jq (.build [(.cv (.int .i64 0)),(.cv (.int .i64 0)),(.cv (.int .i64 0)),(.cv (.int .i64 0)),(.cv (.int .i64 0)),(.cv (.int .i64 0)),(.cv (.int .i64 0))] [(0,1),(1,6)]) [.t 1,.t 5],jw 15 (.alloc [(.cv (.int .i64 0)),(.cv (.int .i64 0)),(.cv (.int .i64 0)),(.cv (.int .i64 0)),(.cv (.int .i64 0)),(.cv (.int .i64 0)),(.cv (.int .i64 0))]) [],jq (.store 7) [.v 15,.t 6]])
 (.seq (.seq (.region [jL 11,jN 7 15,⟨none,none,.call,[(.t 0),(.t 1)]⟩,jw 16 (.alloc [(.cv (.int .i64 0)),(.cv (.int .i64 0))]) [],jq (.store 2) [.v 16,.t 2]])
 (.seq (.region [jN 7 15,jN 7 12,jq (.eqS true (true,[(.int .i64),(.int .i64),(.int .i64),(.int .i64),(.int .i64),(.int .i64),(.int .i64)])) [.t 0,.t 1],jt 2,jg 3 true (.loadN 2) [.v 13],jg 3 true (.fadd 0) [.v 16],ji 3 true 5,jg 3 true (.bin .add .int) [.t 6,jn 1],jg 3 true (.fadd 1) [.v 16],ji 3 true 8,jg 3 true (.fadd 1) [.v 14],ji 3 true 10,jg 3 true (.bin .add .int) [.t 9,.t 11],jg 3 true (.build [(.cv (.int .i64 0)),(.cv (.int .i64 0))] [(0,1),(1,1)]) [.t 7,.t 12],jg 3 true (.eqS false (true,[(.int .i64),(.int .i64)])) [.t 4,.t 13],jw 29 .pick [.t 3,.t 14,jB false]])
 (.cond 29 (.seq (.dr [[],[0],[],[2],[3],[1,4],[],[],[0,1,2,3,4,5],[8,5,5,0,1,2,3,4,5],[6,9,0,1,2,3,4,5,6,8,9],[7,10,0,1,2,3,4,5,6,7,8,9,10]] [jF 0 3,jl 0,jF 0 12,jl 2,jq (.bslice 1 1 [(.cv (.int .i64 0))] [(0,1)]) [.t 3],jq (.append 1 8) [.t 1,.t 4],jN 7 15,jN 2 16,jF 0 3,jq (.store 1) [.t 8,.t 5],jq (.store 7) [.v 12,.t 6],jq (.store 2) [.v 13,.t 7]])
 (.exit 5))
 .skip)))
 (.region [jF 0 12,jl 0,jq (.bin .add .int) [.t 1,jn 1],jF 0 12,jq (.store 1) [.t 3,.t 2]]))))))
def ic17l1:IC:=(.seq (.region [jw 25 (.bin .lss .int) [.v 24,.v 23]])
 (.seq (.cond 25 .skip
 (.exit 2))
 (.seq (.block 3 (.seq (.region [jq (.iaS 2) [.v 22,.v 24],jq (.loadN 2) [.t 0],jw 8 (.alloc [(.cv (.int .i64 0)),(.cv (.int .i64 0))]) [],jq (.store 2) [.v 8,.t 1]])
 (.seq (.region [jF 0 8,jl 0,jv 6,jq (.bin .shr .int) [.t 1,.t 2],jq (.bin .and .int) [.t 3,jn 1],jw 26 (.bin .eql .int) [.t 4,jn 1]])
 (.cond 26 (.region [jz 7 0])
 .skip))))
 (.region [jq (.bin .add .int) [.v 24,jn 1],jm 24 0]))))
def ic17l2:IC:=(.seq (.region [jw 21 (.bin .lss .int) [.v 20,.v 19]])
 (.seq (.cond 21 .skip
 (.exit 0))
 (.seq (.block 1 (.seq (.region [jv 20,jq (.iaS 1) [.v 18,.v 20],jl 1,jm 6 0,jm 7 2])
 (.seq (.seq (.region [jw 22 .load1 [.v 2],jw 23 (.len false) [.v 22],jz 24 0])
 (.block 2 (.loop ic17l1)))
 (.region [jv 5,jv 7,jq (.bin .add .int) [.t 0,.t 1],jm 5 2]))))
 (.region [jq (.bin .add .int) [.v 20,jn 1],jm 20 0]))))
def ic17:IC:=(.seq (.region [jb 2 0,jw 3 (.alloc [(.cv .nils),(.cv (.int .i64 0))]) [],jz 4 0])
 (.seq (.seq (.region [jL 2,jv 1,jk 56 [.t 0,.t 1],jm 4 2])
 (.seq (.region [jv 4,jw 17 (.bin .neq .int) [.t 0,jn 0]])
 (.cond 17 (.seq (.region [jN 2 3,jv 4,jq (.store 2) [.v 3,.t 0],jm 4 1])
 .ret)
 .skip)))
 (.seq (.region [jz 5 0])
 (.seq (.seq (.region [jw 18 .mv [.v 1],jw 19 (.len false) [.v 18],jz 20 0])
 (.block 0 (.loop ic17l2)))
 (.seq (.seq (.region [jv 5,jw 27 (.bin .gtr .int) [.t 0,jn 0]])
 (.cond 27 (.seq (.region [jN 2 3,jq (.store 2) [.v 3,.t 0],jz 4 9])
 .ret)
 .skip))
 (.seq (.region [jq .mkmap [],jw 9 (.alloc [(.cv .nilm)]) [],jq (.store 1) [.v 9,.t 0]])
 (.seq (.region [jq (.build [(.cv (.int .i64 0)),(.cv (.int .i64 0))] [(0,1)]) [jn 1073741824],jw 10 (.alloc [(.cv (.int .i64 0)),(.cv (.int .i64 0))]) [],jq (.store 2) [.v 10,.t 0]])
 (.seq (.region [jw 11 (.alloc [(.cv .nilf)]) []])
 (.seq (.region [jq (.mkfn (.func 57)) [.v 2,.v 10,.v 9,.v 11],jq (.store 1) [.v 11,.t 0]])
 (.seq (.region [jw 12 (.alloc [(.cv (.int .i64 0)),(.cv (.int .i64 0)),(.cv (.int .i64 0)),(.cv (.int .i64 0)),(.cv (.int .i64 0)),(.cv (.int .i64 0)),(.cv (.int .i64 0))]) []])
 (.seq (.region [jF 1 12,jq (.slA 6 1 false false) [.t 0],jv 1,jq (.copy 1) [.t 1,.t 2]])
 (.seq (.region [jL 11,jN 7 12,⟨none,none,.call,[(.t 0),(.t 1)]⟩,jw 13 (.alloc [(.cv (.int .i64 0)),(.cv (.int .i64 0))]) [],jq (.store 2) [.v 13,.t 2]])
 (.seq (.region [jF 1 13,jl 0,jF 1 3,jq (.store 1) [.t 2,.t 1]])
 (.seq (.block 4 (.loop ic17l0))
 (.seq (.region [jN 2 3,jq (.store 2) [.v 3,.t 0],jz 4 0])
 .ret)))))))))))))))
abbrev rs17:List RC:=[(.lN 3 2),(.v 4)]
theorem fok17 (p:Bool):FnOk Tryz.prog 17 ⟨ic17,vs17,114,rs17,p⟩:=.mk2 Tryz.func17 (by kernel_rfl) (by kernel_rfl) (by kernel_rfl) (by kernel_rfl) (by kernel_rfl)
abbrev vs19:List Nat:=[0,1,2,3,4]
def ic19:IC:=(.seq (.region [jb 2 0,jb 3 1,jw 4 .mv [jB false]])
 (.seq (.region [jF 0 2,jl 0,jF 0 3,jl 2,jk 32 [.t 1,.t 3],jt 4,jg 5 true (.fadd 1) [.v 2],ji 5 true 6,jg 5 true (.fadd 1) [.v 3],ji 5 true 8,jg 5 true (.bin .eql .int) [.t 7,.t 9],jq .pick [.t 5,.t 10,jB false],jm 4 11])
 .ret))
abbrev rs19:List RC:=[(.v 4)]
theorem fok19 (p:Bool):FnOk Tryz.prog 19 ⟨ic19,vs19,17,rs19,p⟩:=.mk2 Tryz.func19 (by kernel_rfl) (by kernel_rfl) (by kernel_rfl) (by kernel_rfl) (by kernel_rfl)
abbrev vs20:List Nat:=[0,1,2,6,7,8,10,11,12,13,14,15,16,21,23,29,32,33,34,35,38,39,40,41,56,58,59,60,61]
def ic20l0:IC:=(.seq (.region [jw 28 (.bin .lss .int) [.v 27,.v 26]])
 (.seq (.cond 28 .skip
 (.exit 5))
 (.seq (.block 6 (.seq (.region [jv 27,jq (.iaS 1) [.v 25,.v 27],jl 1,jm 11 0,jm 12 2])
 (.region [jv 10,jv 12,jv 1,jv 11,ja 1 2 3,jl 4,jq (.bin .mul .int) [.t 1,.t 5],jq (.bin .add .int) [.t 0,.t 6],jm 10 7])))
 (.region [jq (.bin .add .int) [.v 27,jn 1],jm 27 0]))))
def ic20l1:IC:=(.seq (.region [jw 23 (.bin .lss .int) [.v 22,.v 21]])
 (.seq (.cond 23 .skip
 (.exit 3))
 (.seq (.block 4 (.seq (.region [jv 22,jq (.iaS 1) [.v 20,.v 22],jl 1,jm 8 0,jm 9 2])
 (.region [jv 7,jv 9,jF 0 6,jl 2,jv 8,jq (.bin .shr .int) [.t 3,.t 4],jq (.bin .and .int) [.t 5,jn 1],jq (.bin .mul .int) [.t 1,.t 6],jq (.bin .sub .int) [.t 0,.t 7],jm 7 8])))
 (.region [jq (.bin .add .int) [.v 22,jn 1],jm 22 0]))))
def ic20l2:IC:=(.seq (.region [jw 19 (.bin .lss .int) [.v 18,.v 17]])
 (.seq (.cond 19 .skip
 (.exit 1))
 (.seq (.block 2 (.seq (.region [jq (.iaS 2) [.v 16,.v 18],jq (.loadN 2) [.t 0],jw 6 (.alloc [(.cv (.int .i64 0)),(.cv (.int .i64 0))]) [],jq (.store 2) [.v 6,.t 1]])
 (.seq (.region [jz 7 1000])
 (.seq (.seq (.region [jw 20 .mv [.v 2],jw 21 (.len false) [.v 20],jz 22 0])
 (.block 3 (.loop ic20l1)))
 (.seq (.region [jv 7,jw 24 (.bin .lss .int) [.t 0,jn 0]])
 (.cond 24 (.seq (.region [jz 3 0,jz 4 2])
 .ret)
 .skip))))))
 (.region [jq (.bin .add .int) [.v 18,jn 1],jm 18 0]))))
def ic20:IC:=(.seq (.region [jz 3 0,jz 4 0])
 (.seq (.seq (.region [jv 0,jv 1,jk 56 [.t 0,.t 1],jm 5 2])
 (.seq (.region [jv 5,jw 13 (.bin .neq .int) [.t 0,jn 0]])
 (.cond 13 (.seq (.region [jv 5,jz 3 0,jm 4 0])
 .ret)
 .skip)))
 (.seq (.block 0 (.seq (.region [jv 2,je 0,jv 1,je 2,jq (.bin .neq .int) [.t 1,.t 3],jm 14 4])
 (.cond 14 (.seq (.region [jz 3 0,jz 4 3])
 .ret)
 (.seq (.region [jv 2,jk 63 [jn 0,jn 1000,.t 0],jm 15 1])
 (.cond 15 (.seq (.region [jz 3 0,jz 4 7])
 .ret)
 .skip)))))
 (.seq (.seq (.region [jw 16 .mv [.v 0],jw 17 (.len false) [.v 16],jz 18 0])
 (.block 1 (.loop ic20l2)))
 (.seq (.region [jz 10 0])
 (.seq (.seq (.region [jw 25 .mv [.v 2],jw 26 (.len false) [.v 25],jz 27 0])
 (.block 5 (.loop ic20l0)))
 (.seq (.region [jv 10,jq (.bin .add .int) [.t 0,jn 1000],jq (.bin .sub .int) [.t 1,jn 1],jq (.bin .quo .int) [.t 2,jn 1000],jm 3 3,jz 4 0])
 .ret)))))))
abbrev rs20:List RC:=[(.v 3),(.v 4)]
theorem fok20 (p:Bool):FnOk Tryz.prog 20 ⟨ic20,vs20,78,rs20,p⟩:=.mk2 Tryz.func20 (by kernel_rfl) (by kernel_rfl) (by kernel_rfl) (by kernel_rfl) (by kernel_rfl)
abbrev vs23:List Nat:=[0,1,2,3,4,5,20,31,44]
def ic23:IC:=(.seq (.region [jb 1 0,jz 2 0,jz 3 0,jz 4 0])
 (.seq (.region [jN 2 1,jq (.build [(.cv .nils),(.cv .nils)] [(0,2)]) [.t 0],jw 5 (.alloc [(.cv .nils),(.cv .nils)]) [],jq (.store 2) [.v 5,.t 1]])
 (.seq (.seq (.region [jF 0 5,jG 0 0,jl 1,je 2,jq (.bslice 1 1 [(.cv (.int .i64 0))] [(0,1)]) [.t 3],jk 63 [jn 1,jn 16,.t 4],jt 5,jg 6 false (.fadd 0) [.v 5],jg 6 false (.fadd 1) [.t 7],ji 6 false 8,jg 6 false (.len false) [.t 9],jg 6 false (.bin .gtr .int) [.t 10,jn 12],jw 6 .pick [.t 6,jB true,.t 11]])
 (.cond 6 (.seq (.region [jz 2 1,jz 3 0,jz 4 3])
 .ret)
 .skip))
 (.seq (.seq (.region [jF 0 5,jG 0 0,jl 1,jN 2 5,jq (.mkbm 67) [.t 3],jk 66 [.t 2,.t 4],jt 5,jx 0 6,jx 1 6,jm 3 7,jm 4 8])
 (.seq (.region [jv 4,jw 7 (.bin .neq .int) [.t 0,jn 0]])
 (.cond 7 (.seq (.region [jv 3,jv 4,jz 2 2,jm 3 0,jm 4 1])
 .ret)
 .skip)))
 (.seq (.seq (.region [jF 0 5,jG 1 0,jl 1,jN 2 5,jq (.mkbm 69) [.t 3],jk 68 [.t 2,.t 4],jt 5,jx 0 6,jx 1 6,jm 3 7,jm 4 8])
 (.seq (.region [jv 4,jw 8 (.bin .neq .int) [.t 0,jn 0]])
 (.cond 8 (.seq (.region [jv 3,jv 4,jz 2 3,jm 3 0,jm 4 1])
 .ret)
 .skip)))
 (.seq (.region [jz 2 0,jz 3 0,jz 4 0])
 .ret))))))
abbrev rs23:List RC:=[(.v 2),(.v 3),(.v 4)]
theorem fok23 (p:Bool):FnOk Tryz.prog 23 ⟨ic23,vs23,47,rs23,p⟩:=.mk2 Tryz.func23 (by kernel_rfl) (by kernel_rfl) (by kernel_rfl) (by kernel_rfl) (by kernel_rfl)
abbrev vs25:List Nat:=[0,1,2,3,4,5,6,7,14,22,23,24]
def ic25l0:IC:=(.seq (.region [jw 11 (.bin .lss .int) [.v 10,.v 9]])
 (.seq (.cond 11 .skip
 (.exit 0))
 (.seq (.block 1 (.seq (.region [jv 10,jm 7 0])
 (.region [jv 6,jv 7,jN 2 4,jv 7,jk 74 [.t 2,.t 3],jk 73 [.t 4],ja 1 0 1,jq (.store 1) [.t 6,.t 5]])))
 (.region [jq (.bin .add .int) [.v 10,jn 1],jm 10 0]))))
def ic25:IC:=(.seq (.region [jb 1 0,jw 2 .mv [jS],jz 3 0])
 (.seq (.region [jN 2 1,jk 72 [.t 0],jt 1,jx 0 2,jx 1 2,jw 4 (.alloc [(.cv .nils),(.cv .nils)]) [],jq (.store 2) [.v 4,.t 3],jm 5 4])
 (.seq (.seq (.region [jv 5,jw 8 (.bin .neq .int) [.t 0,jn 0]])
 (.cond 8 (.seq (.region [jv 5,jw 2 .mv [jS],jm 3 0])
 .ret)
 .skip))
 (.seq (.region [jF 0 4,jG 1 0,jl 1,je 2,jq (.mkslice 1 24 [(.cv .nils)]) [.t 3,.t 3],jm 6 4])
 (.seq (.seq (.region [jv 6,jw 9 (.len false) [.t 0],jz 10 0])
 (.block 0 (.loop ic25l0)))
 (.seq (.region [jv 6,jm 2 0,jz 3 0])
 .ret))))))
abbrev rs25:List RC:=[(.v 2),(.v 3)]
theorem fok25 (p:Bool):FnOk Tryz.prog 25 ⟨ic25,vs25,35,rs25,p⟩:=.mk2 Tryz.func25 (by kernel_rfl) (by kernel_rfl) (by kernel_rfl) (by kernel_rfl) (by kernel_rfl)
abbrev vs27:List Nat:=[0,1,4,5,10,14,26]
def ic27l0:IC:=(.seq (.seq (.region [jv 3,jv 0,je 1,jw 5 (.bin .lss .int) [.t 0,.t 2]])
 (.cond 5 .skip
 (.exit 0)))
 (.seq (.block 1 (.seq (.dr [[],[],[0,1],[2],[],[],[4,5],[6],[3,7],[8]] [jv 0,jv 3,ja 1 0 1,jl 2,jv 1,jv 3,ja 1 4 5,jl 6,jk 32 [.t 3,.t 7],jw 6 .not [.t 8]])
 (.cond 6 (.seq (.region [jw 2 .mv [jB false]])
 .ret)
 .skip)))
 (.region [jv 3,jq (.bin .add .int) [.t 0,jn 1],jm 3 1])))
def ic27:IC:=(.seq (.region [jw 2 .mv [jB false]])
 (.seq (.seq (.region [jv 0,je 0,jv 1,je 2,jw 4 (.bin .neq .int) [.t 1,.t 3]])
 (.cond 4 (.seq (.region [jw 2 .mv [jB false]])
 .ret)
 .skip))
 (.seq (.seq (.region [jz 3 0])
 (.block 0 (.loop ic27l0)))
 (.seq (.region [jw 2 .mv [jB true]])
 .ret))))
abbrev rs27:List RC:=[(.v 2)]
theorem fok27 (p:Bool):FnOk Tryz.prog 27 ⟨ic27,vs27,27,rs27,p⟩:=.mk2 Tryz.func27 (by kernel_rfl) (by kernel_rfl) (by kernel_rfl) (by kernel_rfl) (by kernel_rfl)
abbrev vs28:List Nat:=[0,1,2,3,4,5,6,7,8,15,20,21,22,26,29]
def ic28l0:IC:=(.seq (.seq (.region [jv 8,jw 14 (.bin .geq .int) [.t 0,jn 0]])
 (.cond 14 .skip
 (.exit 2)))
 (.seq (.block 3 (.region [jv 7,jv 8,jq (.bslice 1 1 [(.cv (.int .i64 0))] [(0,1)]) [.t 1],jq (.append 1 8) [.t 0,.t 2],jm 7 3]))
 (.region [jv 5,jv 8,ja 1 0 1,jl 2,jm 8 3])))
def ic28l1:IC:=(.seq (.region [jw 12 (.bin .lss .int) [.v 11,.v 10]])
 (.seq (.cond 12 .skip
 (.exit 0))
 (.seq (.block 1 (.seq (.region [jv 11,jm 6 0])
 (.seq (.seq (.region [jv 5,jv 6,jd 13 76 [.t 0,.t 1]])
 (.cond 13 (.exit 1)
 .skip))
 (.seq (.region [jw 7 .mv [jS]])
 (.seq (.seq (.region [jv 6,jm 8 0])
 (.block 2 (.loop ic28l0)))
 (.region [jv 2,jv 7,jq (.bslice 1 1 [(.cv .nils)] [(0,1)]) [.t 1],jq (.append 1 24) [.t 0,.t 2],jm 2 3]))))))
 (.region [jq (.bin .add .int) [.v 11,jn 1],jm 11 0]))))
def ic28:IC:=(.seq (.region [jb 1 0,jw 2 .mv [jS],jz 3 0])
 (.seq (.region [jN 2 1,jk 72 [.t 0],jt 1,jx 0 2,jx 1 2,jw 4 (.alloc [(.cv .nils),(.cv .nils)]) [],jq (.store 2) [.v 4,.t 3],jm 3 4])
 (.seq (.seq (.region [jv 3,jw 9 (.bin .neq .int) [.t 0,jn 0]])
 (.cond 9 (.seq (.region [jv 3,jw 2 .mv [jS],jm 3 0])
 .ret)
 .skip))
 (.seq (.region [jN 2 4,jk 75 [.t 0],jm 5 1])
 (.seq (.seq (.region [jv 5,jw 10 (.len false) [.t 0],jz 11 0])
 (.block 0 (.loop ic28l1)))
 (.seq (.region [jv 2,jm 2 0,jz 3 0])
 .ret))))))
abbrev rs28:List RC:=[(.v 2),(.v 3)]
theorem fok28 (p:Bool):FnOk Tryz.prog 28 ⟨ic28,vs28,44,rs28,p⟩:=.mk2 Tryz.func28 (by kernel_rfl) (by kernel_rfl) (by kernel_rfl) (by kernel_rfl) (by kernel_rfl)
abbrev vs30:List Nat:=[0,1,2,3,4,5,6,8,9,10,12,19,30,31,32,33,41,54]
def ic30l0:IC:=(.seq (.region [jw 15 (.bin .lss .int) [.v 14,.v 13]])
 (.seq (.cond 15 .skip
 (.exit 2))
 (.seq (.block 3 (.seq (.region [jq (.iaS 2) [.v 12,.v 14],jq (.loadN 2) [.t 0],jw 10 (.alloc [(.cv (.int .i64 0)),(.cv (.int .i64 0))]) [],jq (.store 2) [.v 10,.t 1]])
 (.seq (.region [jv 8,jF 0 10,jl 1,jq (.bin .shr .int) [.t 0,.t 2],jq (.bin .and .int) [.t 3,.c (.cv (.int .u64 1))],jw 16 (.bin .eql .int) [.t 4,.c (.cv (.int .u64 0))]])
 (.cond 16 (.region [jv 9,jF 1 10,jl 1,jq (.bin .shl .int) [.c (.cv (.int .u64 1)),.t 2],jq (.bin .or .int) [.t 0,.t 3],jm 9 4])
 .skip))))
 (.region [jq (.bin .add .int) [.v 14,jn 1],jm 14 0]))))
def ic30l1:IC:=(.seq (.block 1 (.seq (.region [jw 9 .mv [.c (.cv (.int .u64 0))]])
 (.seq (.seq (.region [jw 12 .mv [.v 6],jw 13 (.len false) [.v 12],jz 14 0])
 (.block 2 (.loop ic30l0)))
 (.seq (.region [jv 8,jk 80 [.t 0],jv 9,jk 80 [.t 2],jq (.bin .add .int) [.t 1,.t 3],jv 7,jw 17 (.bin .eql .int) [.t 4,.t 5]])
 (.cond 17 (.seq (.region [jv 8,jk 81 [.t 0],jv 9,jk 81 [.t 2],jm 2 1,jm 3 3,jz 4 0])
 .ret)
 .skip)))))
 (.region [jv 8,jq (.bin .add .int) [.t 0,.c (.cv (.int .u64 1))],jm 8 1]))
def ic30:IC:=(.seq (.region [jb 1 0,jw 2 .mv [jS],jw 3 .mv [jS],jz 4 0])
 (.seq (.region [jN 2 1,jk 72 [.t 0],jt 1,jx 0 2,jx 1 2,jw 5 (.alloc [(.cv .nils),(.cv .nils)]) [],jq (.store 2) [.v 5,.t 3],jm 4 4])
 (.seq (.seq (.region [jv 4,jw 11 (.bin .neq .int) [.t 0,jn 0]])
 (.cond 11 (.seq (.region [jv 4,jw 2 .mv [jS],jw 3 .mv [jS],jm 4 0])
 .ret)
 .skip))
 (.seq (.region [jN 2 5,jk 78 [.t 0],jm 6 1])
 (.seq (.region [jN 2 5,jk 79 [.t 0,jS],jt 1,jx 0 2,jx 1 2,jt 3,jm 7 4])
 (.seq (.region [jw 8 .mv [.c (.cv (.int .u64 0))]])
 (.block 0 (.loop ic30l1))))))))
abbrev rs30:List RC:=[(.v 2),(.v 3),(.v 4)]
theorem fok30 (p:Bool):FnOk Tryz.prog 30 ⟨ic30,vs30,59,rs30,p⟩:=.mk2 Tryz.func30 (by kernel_rfl) (by kernel_rfl) (by kernel_rfl) (by kernel_rfl) (by kernel_rfl)
abbrev vs32:List Nat:=[0,1,4,5,10,14,25]
def ic32l0:IC:=(.seq (.seq (.region [jv 3,jv 0,je 1,jw 5 (.bin .lss .int) [.t 0,.t 2]])
 (.cond 5 .skip
 (.exit 0)))
 (.seq (.block 1 (.seq (.dr [[],[],[0,1],[2],[],[],[4,5],[6],[3,7]] [jv 0,jv 3,ja 1 0 1,jl 2,jv 1,jv 3,ja 1 4 5,jl 6,jw 6 (.bin .neq .int) [.t 3,.t 7]])
 (.cond 6 (.seq (.region [jw 2 .mv [jB false]])
 .ret)
 .skip)))
 (.region [jv 3,jq (.bin .add .int) [.t 0,jn 1],jm 3 1])))
def ic32:IC:=(.seq (.region [jw 2 .mv [jB false]])
 (.seq (.seq (.region [jv 0,je 0,jv 1,je 2,jw 4 (.bin .neq .int) [.t 1,.t 3]])
 (.cond 4 (.seq (.region [jw 2 .mv [jB false]])
 .ret)
 .skip))
 (.seq (.seq (.region [jz 3 0])
 (.block 0 (.loop ic32l0)))
 (.seq (.region [jw 2 .mv [jB true]])
 .ret))))
abbrev rs32:List RC:=[(.v 2)]
theorem fok32 (p:Bool):FnOk Tryz.prog 32 ⟨ic32,vs32,26,rs32,p⟩:=.mk2 Tryz.func32 (by kernel_rfl) (by kernel_rfl) (by kernel_rfl) (by kernel_rfl) (by kernel_rfl)
abbrev vs33:List Nat:=[0,1,2,3,4,5,6,7,8,9,11,18,32,35,36,37,38,52,57]
def ic33l0:IC:=(.seq (.region [jw 16 (.bin .lss .int) [.v 15,.v 14]])
 (.seq (.cond 16 .skip
 (.exit 0))
 (.seq (.block 1 (.seq (.region [jq (.iaS 1) [.v 13,.v 15],jl 0,jm 10 1])
 (.seq (.region [jv 10,jk 85 [.t 0],jq .not [.t 1],jt 2,jh 3 false 10,jf 3 false 87 [.t 4],jf 3 false 86 [.t 5],jg 3 false (.len false) [.t 6],jh 3 false 10,jg 3 false (.len false) [.t 8],jg 3 false (.bin .lss .int) [.t 7,.t 9],jw 17 .pick [.t 3,jB true,.t 10]])
 (.cond 17 (.seq (.region [jz 6 0,jz 7 5])
 .ret)
 .skip))))
 (.region [jq (.bin .add .int) [.v 15,jn 1],jm 15 0]))))
def ic33:IC:=(.seq (.region [jb 3 0,jb 4 1,jb 5 2,jz 6 0,jz 7 0])
 (.seq (.region [jN 2 3,jk 72 [.t 0],jt 1,jx 0 2,jx 1 2,jw 8 (.alloc [(.cv .nils),(.cv .nils)]) [],jq (.store 2) [.v 8,.t 3],jm 7 4])
 (.seq (.seq (.region [jv 7,jw 11 (.bin .neq .int) [.t 0,jn 0]])
 (.cond 11 (.seq (.region [jv 7,jz 6 0,jm 7 0])
 .ret)
 .skip))
 (.seq (.region [jF 0 8,jG 1 0,jl 1,je 2,jq (.bin .sub .int) [.t 3,jn 1],jm 9 4])
 (.seq (.seq (.region [jv 9,jL 4,jk 63 [jn 0,.t 0,.t 1],jt 2,jh 3 false 9,jg 3 false .load1 [.v 5],jf 3 false 63 [jn 0,.t 4,.t 5],jw 12 .pick [.t 3,jB true,.t 6]])
 (.cond 12 (.seq (.region [jz 6 0,jz 7 4])
 .ret)
 .skip))
 (.seq (.seq (.region [jL 4,jL 5,jw 13 (.bslice 1 2 [(.cv .nils),(.cv .nils)] [(0,1),(1,1)]) [.t 0,.t 1],jw 14 (.len false) [.v 13],jz 15 0])
 (.block 0 (.loop ic33l0)))
 (.seq (.seq (.region [jN 2 8,jk 78 [.t 0],jq (.mkfn (.func 89)) [.v 4,.v 5],jd 18 88 [.t 1,.t 2]])
 (.cond 18 (.seq (.region [jz 6 0,jz 7 2])
 .ret)
 .skip))
 (.seq (.region [jF 0 8,jG 1 0,jl 1,je 2,jL 4,je 4,jq (.bin .sub .int) [.t 3,.t 5],jL 5,je 7,jq (.bin .sub .int) [.t 6,.t 8],jq .max2 [jn 0,.t 9],jm 6 10,jz 7 0])
 .ret))))))))
abbrev rs33:List RC:=[(.v 6),(.v 7)]
theorem fok33 (p:Bool):FnOk Tryz.prog 33 ⟨ic33,vs33,69,rs33,p⟩:=.mk2 Tryz.func33 (by kernel_rfl) (by kernel_rfl) (by kernel_rfl) (by kernel_rfl) (by kernel_rfl)
abbrev vs35:List Nat:=[0,1,2,3,4,5,6,7,8,9,10,11,12,13,14,15,16,23,32,33,34,35,42,43,44,45,52,60,61,62,63,67,68,83,100]
def ic35l0:IC:=(.seq (.seq (.region [jv 14,jv 13,je 1,jw 33 (.bin .lss .int) [.t 0,.t 2]])
 (.cond 33 .skip
 (.exit 8)))
 (.seq (.block 9 (.seq (.dr [[],[],[1],[0,2],[3],[],[],[5,6],[7],[4,0,1,2,3,4],[8,9,0,1,2,3,4,5,6,7,8,9]] [jv 13,jv 14,jq (.bin .sub .int) [.t 1,jn 1],ja 1 0 2,jl 3,jv 13,jv 14,ja 1 5 6,jl 7,jm 15 4,jm 16 8])
 (.seq (.region [jF 7 4,jq (.loadN 2) [.t 0],jv 15,jv 16,jk 104 [.t 1,.t 2,.t 3],jw 34 .not [.t 4]])
 (.cond 34 (.seq (.region [jv 10,jq (.bin .add .int) [jn 4,.t 0],jv 15,jv 16,jq (.build [(.cv (.int .i64 0)),(.cv (.int .i64 0)),(.cv (.int .i64 0))] [(0,1),(1,1),(2,1)]) [.t 1,.t 2,.t 3],jq (.store 3) [.v 2,.t 4],jz 3 0])
 .ret)
 .skip))))
 (.region [jv 14,jq (.bin .add .int) [.t 0,jn 1],jm 14 1])))
def ic35l1:IC:=(.seq (.region [jw 32 (.bin .lss .int) [.v 31,jn 8]])
 (.seq (.cond 32 .skip
 (.exit 6))
 (.seq (.block 7 (.seq (.region [jv 31,jm 12 0])
 (.seq (.region [jF 7 4,jG 0 0,jG 1 1,jl 2,jv 11,jv 12,jk 100 [.t 3,.t 4,.t 5],jm 13 6])
 (.seq (.region [jv 13,jq (.mkfn (.func 102)) [.v 4],jk 101 [.t 0,.t 1]])
 (.seq (.region [jz 14 1])
 (.block 8 (.loop ic35l0)))))))
 (.region [jq (.bin .add .int) [.v 31,jn 1],jm 31 0]))))
def ic35l2:IC:=(.seq (.region [jw 30 (.bin .lss .int) [.v 29,.v 28]])
 (.seq (.cond 30 .skip
 (.exit 4))
 (.seq (.block 5 (.seq (.region [jv 29,jq (.iaS 1) [.v 27,.v 29],jl 1,jm 10 0,jm 11 2])
 (.seq (.region [jz 31 0])
 (.block 6 (.loop ic35l1)))))
 (.region [jq (.bin .add .int) [.v 29,jn 1],jm 29 0]))))
def ic35l3:IC:=(.seq (.region [jw 25 (.bin .lss .int) [.v 24,.v 23]])
 (.seq (.cond 25 .skip
 (.exit 2))
 (.seq (.block 3 (.seq (.region [jv 24,jq (.iaS 7) [.v 22,.v 24],jq (.loadN 7) [.t 1],jw 8 (.alloc [(.cv (.int .i64 0)),(.cv (.int .i64 0)),(.cv (.int .i64 0)),(.cv (.int .i64 0)),(.cv (.int .i64 0)),(.cv (.int .i64 0)),(.cv (.int .i64 0))]) [],jm 7 0,jq (.store 7) [.v 8,.t 2]])
 (.seq (.region [jv 6,jN 7 8,⟨none,none,.call,[(.t 0),(.t 1)]⟩,jw 26 .not [.t 2]])
 (.cond 26 (.seq (.region [jv 5,jq (.bin .add .int) [jn 1,.t 0],jv 7,jq (.build [(.cv (.int .i64 0)),(.cv (.int .i64 0)),(.cv (.int .i64 0))] [(0,1),(1,1)]) [.t 1,.t 2],jq (.store 3) [.v 2,.t 3],jz 3 0])
 .ret)
 .skip))))
 (.region [jq (.bin .add .int) [.v 24,jn 1],jm 24 0]))))
def ic35l4:IC:=(.seq (.region [jw 21 (.bin .lss .int) [.v 20,.v 19]])
 (.seq (.cond 21 .skip
 (.exit 0))
 (.seq (.block 1 (.seq (.region [jv 20,jq (.iaS 1) [.v 18,.v 20],jl 1,jm 5 0,jm 6 2])
 (.seq (.region [jF 7 4,jG 0 0,jG 1 1,jw 22 .load1 [.t 2],jw 23 (.len false) [.v 22],jz 24 0])
 (.block 2 (.loop ic35l3)))))
 (.region [jq (.bin .add .int) [.v 20,jn 1],jm 20 0]))))
def ic35:IC:=(.seq (.region [jb 1 0,jw 2 (.alloc [(.cv (.int .i64 0)),(.cv (.int .i64 0)),(.cv (.int .i64 0))]) [],jz 3 0])
 (.seq (.region [jN 7 1,jk 93 [.t 0],jt 1,jx 0 2,jx 1 2,jw 4 (.alloc [(.cv .nils),(.cv .nils),(.cv .nils),(.cv .nils),(.cv .nils),(.cv .nils),(.cv .nils),(.cv .nils),(.cv .nils)]) [],jq (.store 9) [.v 4,.t 3],jm 3 4])
 (.seq (.seq (.region [jv 3,jw 17 (.bin .neq .int) [.t 0,jn 0]])
 (.cond 17 (.seq (.region [jN 3 2,jv 3,jq (.store 3) [.v 2,.t 0],jm 3 1])
 .ret)
 .skip))
 (.seq (.seq (.region [jN 9 4,jq (.mkbm 94) [.t 0],jN 9 4,jq (.mkbm 95) [.t 2],jN 9 4,jq (.mkbm 96) [.t 4],jw 18 (.bslice 1 3 [(.cv .nilf),(.cv .nilf),(.cv .nilf)] [(0,1),(1,1),(2,1)]) [.t 1,.t 3,.t 5],jw 19 (.len false) [.v 18],jz 20 0])
 (.block 0 (.loop ic35l4)))
 (.seq (.region [jq (.bslice 1 3 [(.cv .nilf),(.cv .nilf),(.cv .nilf)] [(0,1),(1,1),(2,1)]) [.c (.fn (.func 97) []),.c (.fn (.func 98) []),.c (.fn (.func 99) [])],jm 9 0])
 (.seq (.seq (.region [jw 27 .mv [.v 9],jw 28 (.len false) [.v 27],jz 29 0])
 (.block 4 (.loop ic35l2)))
 (.seq (.region [jN 3 2,jq (.store 3) [.v 2,.t 0],jz 3 0])
 .ret)))))))
abbrev rs35:List RC:=[(.lN 2 3),(.v 3)]
theorem fok35 (p:Bool):FnOk Tryz.prog 35 ⟨ic35,vs35,109,rs35,p⟩:=.mk2 Tryz.func35 (by kernel_rfl) (by kernel_rfl) (by kernel_rfl) (by kernel_rfl) (by kernel_rfl)
abbrev vs37:List Nat:=[0,1,2,3,4,6,7,14,36,37,38,39]
def ic37l0:IC:=(.seq (.region [jw 11 (.bin .lss .int) [.v 10,.v 9]])
 (.seq (.cond 11 .skip
 (.exit 0))
 (.seq (.block 1 (.seq (.region [jq (.iaS 7) [.v 8,.v 10],jq (.loadN 7) [.t 0],jw 5 (.alloc [(.cv (.int .i64 0)),(.cv (.int .i64 0)),(.cv (.int .i64 0)),(.cv (.int .i64 0)),(.cv (.int .i64 0)),(.cv (.int .i64 0)),(.cv (.int .i64 0))]) [],jq (.store 7) [.v 5,.t 1]])
 (.seq (.region [jF 4 5,jl 0,jF 3 5,jl 2,jq (.bin .sub .int) [.t 1,.t 3],jm 6 4])
 (.seq (.region [jF 0 2,jl 0,jF 0 5,jl 2,ja 1 1 3,jl 4,jv 6,jq (.bin .add .int) [.t 5,.t 6],ja 1 1 3,jq (.store 1) [.t 8,.t 7]])
 (.seq (.region [jF 1 2,jl 0,jF 1 5,jl 2,ja 1 1 3,jl 4,jv 6,jq (.bin .add .int) [.t 5,.t 6],ja 1 1 3,jq (.store 1) [.t 8,.t 7]])
 (.region [jF 2 2,jl 0,jF 2 5,jl 2,ja 1 1 3,jl 4,jv 6,jq (.bin .add .int) [.t 5,.t 6],ja 1 1 3,jq (.store 1) [.t 8,.t 7]]))))))
 (.region [jq (.bin .add .int) [.v 10,jn 1],jm 10 0]))))
def ic37:IC:=(.seq (.region [jb 1 0,jw 2 (.alloc [(.cv .nils),(.cv .nils),(.cv .nils)]) [],jz 3 0])
 (.seq (.region [jN 7 1,jk 93 [.t 0],jt 1,jx 0 2,jx 1 2,jw 4 (.alloc [(.cv .nils),(.cv .nils),(.cv .nils),(.cv .nils),(.cv .nils),(.cv .nils),(.cv .nils),(.cv .nils),(.cv .nils)]) [],jq (.store 9) [.v 4,.t 3],jm 3 4])
 (.seq (.seq (.region [jv 3,jw 7 (.bin .neq .int) [.t 0,jn 0]])
 (.cond 7 (.seq (.region [jN 3 2,jv 3,jq (.store 3) [.v 2,.t 0],jm 3 1])
 .ret)
 .skip))
 (.seq (.dr [[],[0],[1],[2],[3,3],[],[5],[6],[7],[8,8],[],[10],[11],[12],[13,13],[4,9,14],[15,0,1,2,3,4,5,6,7,8,9,10,11,12,13,14,15]] [jF 0 4,jG 2 0,jl 1,je 2,jq (.mkslice 1 8 [(.cv (.int .i64 0))]) [.t 3,.t 3],jF 0 4,jG 3 5,jl 6,je 7,jq (.mkslice 1 8 [(.cv (.int .i64 0))]) [.t 8,.t 8],jF 0 4,jG 4 10,jl 11,je 12,jq (.mkslice 1 8 [(.cv (.int .i64 0))]) [.t 13,.t 13],jq (.build [(.cv .nils),(.cv .nils),(.cv .nils)] [(0,1),(1,1),(2,1)]) [.t 4,.t 9,.t 14],jq (.store 3) [.v 2,.t 15]])
 (.seq (.seq (.region [jF 7 4,jG 0 0,jG 1 1,jw 8 .load1 [.t 2],jw 9 (.len false) [.v 8],jz 10 0])
 (.block 0 (.loop ic37l0)))
 (.seq (.region [jN 3 2,jq (.store 3) [.v 2,.t 0],jz 3 0])
 .ret))))))
abbrev rs37:List RC:=[(.lN 2 3),(.v 3)]
theorem fok37 (p:Bool):FnOk Tryz.prog 37 ⟨ic37,vs37,76,rs37,p⟩:=.mk2 Tryz.func37 (by kernel_rfl) (by kernel_rfl) (by kernel_rfl) (by kernel_rfl) (by kernel_rfl)
abbrev vs39:List Nat:=[0]
def ic39:IC:=(.seq (.region [jw 0 .mv [jS]])
 (.seq (.region [jq (.build [(.cv (.int .i64 0)),(.cv (.int .i64 0))] [(0,1),(1,1)]) [jn 3,jn 500],jq (.build [(.cv (.int .i64 0)),(.cv (.int .i64 0))] [(0,1),(1,1)]) [jn 4,jn 200],jq (.build [(.cv (.int .i64 0)),(.cv (.int .i64 0))] [(0,1),(1,1)]) [jn 6,jn 400],jq (.build [(.cv (.int .i64 0)),(.cv (.int .i64 0))] [(0,1),(1,1)]) [jn 1,jn 100],jq (.bslice 2 4 [(.cv (.int .i64 0)),(.cv (.int .i64 0)),(.cv (.int .i64 0)),(.cv (.int .i64 0)),(.cv (.int .i64 0)),(.cv (.int .i64 0)),(.cv (.int .i64 0)),(.cv (.int .i64 0))] [(0,2),(2,2),(4,2),(6,2)]) [.t 0,.t 1,.t 2,.t 3],jm 0 4])
 .ret))
abbrev rs39:List RC:=[(.v 0)]
theorem fok39 (p:Bool):FnOk Tryz.prog 39 ⟨ic39,vs39,6,rs39,p⟩:=.mk2 Tryz.func39 (by kernel_rfl) (by kernel_rfl) (by kernel_rfl) (by kernel_rfl) (by kernel_rfl)
abbrev vs40:List Nat:=[0]
def ic40:IC:=(.seq (.region [jw 0 (.alloc [(.cv .nils),(.cv .nils)]) []])
 (.seq (.region [jq (.bslice 1 2 [(.cv (.int .i64 0)),(.cv (.int .i64 0))] [(0,1),(1,1)]) [jn 0,jn 10],jq (.bslice 1 2 [(.cv (.int .i64 0)),(.cv (.int .i64 0))] [(0,1),(1,1)]) [jn 10,jn 0],jq (.bslice 1 2 [(.cv .nils),(.cv .nils)] [(0,1),(1,1)]) [.t 0,.t 1],jq (.build [(.cv (.int .i64 0)),(.cv (.int .i64 0)),(.cv (.int .i64 0)),(.cv (.int .i64 0)),(.cv (.int .i64 0)),(.cv (.int .i64 0)),(.cv (.int .i64 0))] [(3,1),(4,1)]) [jn 60,jn 120],jq (.build [(.cv (.int .i64 0)),(.cv (.int .i64 0)),(.cv (.int .i64 0)),(.cv (.int .i64 0)),(.cv (.int .i64 0)),(.cv (.int .i64 0)),(.cv (.int .i64 0))] [(0,1),(2,1),(3,1),(4,1),(6,1)]) [jn 1,jn 1,jn 120,jn 180,jn 1],jq (.build [(.cv (.int .i64 0)),(.cv (.int .i64 0)),(.cv (.int .i64 0)),(.cv (.int .i64 0)),(.cv (.int .i64 0)),(.cv (.int .i64 0)),(.cv (.int .i64 0))] [(0,1),(2,1),(3,1),(4,1),(5,1),(6,1)]) [jn 2,jn 2,jn 125,jn 170,jn 1,jn 1],jq (.build [(.cv (.int .i64 0)),(.cv (.int .i64 0)),(.cv (.int .i64 0)),(.cv (.int .i64 0)),(.cv (.int .i64 0)),(.cv (.int .i64 0)),(.cv (.int .i64 0))] [(0,1),(2,1),(3,1),(4,1)]) [jn 3,jn 3,jn 190,jn 250],jq (.bslice 7 4 [(.cv (.int .i64 0)),(.cv (.int .i64 0)),(.cv (.int .i64 0)),(.cv (.int .i64 0)),(.cv (.int .i64 0)),(.cv (.int .i64 0)),(.cv (.int .i64 0)),(.cv (.int .i64 0)),(.cv (.int .i64 0)),(.cv (.int .i64 0)),(.cv (.int .i64 0)),(.cv (.int .i64 0)),(.cv (.int .i64 0)),(.cv (.int .i64 0)),(.cv (.int .i64 0)),(.cv (.int .i64 0)),(.cv (.int .i64 0)),(.cv (.int .i64 0)),(.cv (.int .i64 0)),(.cv (.int .i64 0)),(.cv (.int .i64 0)),(.cv (.int .i64 0)),(.cv (.int .i64 0)),(.cv (.int .i64 0)),(.cv (.int .i64 0)),(.cv (.int .i64 0)),(.cv (.int .i64 0)),(.cv (.int .i64 0))] [(0,7),(7,7),(14,7),(21,7)]) [.t 3,.t 4,.t 5,.t 6],jq (.build [(.cv .nils),(.cv .nils)] [(0,1),(1,1)]) [.t 2,.t 7],jq (.store 2) [.v 0,.t 8]])
 .ret))
abbrev rs40:List RC:=[(.lN 0 2)]
theorem fok40 (p:Bool):FnOk Tryz.prog 40 ⟨ic40,vs40,10,rs40,p⟩:=.mk2 Tryz.func40 (by kernel_rfl) (by kernel_rfl) (by kernel_rfl) (by kernel_rfl) (by kernel_rfl)
abbrev vs41:List Nat:=[0,1,4]
def ic41:IC:=(.seq (.region [jw 2 (.alloc [(.cv .nils),(.cv (.int .i64 0))]) []])
 (.seq (.region [jv 1,jv 0,jq (.build [(.cv .nils),(.cv (.int .i64 0))] [(0,1),(1,1)]) [.t 0,.t 1],jq (.store 2) [.v 2,.t 2]])
 .ret))
abbrev rs41:List RC:=[(.lN 2 2)]
theorem fok41 (p:Bool):FnOk Tryz.prog 41 ⟨ic41,vs41,8,rs41,p⟩:=.mk2 Tryz.func41 (by kernel_rfl) (by kernel_rfl) (by kernel_rfl) (by kernel_rfl) (by kernel_rfl)
abbrev vs43:List Nat:=[0,1,4]
def ic43:IC:=(.seq (.region [jw 2 .mv [jB false]])
 (.seq (.region [jv 0,jv 1,jk 83 [.t 1],jq (.bin .quo .int) [.t 0,.t 2],jq (.bin .rem .int) [.t 3,jn 2],jq (.bin .eql .int) [.t 4,jn 1],jm 2 5])
 .ret))
abbrev rs43:List RC:=[(.v 2)]
theorem fok43 (p:Bool):FnOk Tryz.prog 43 ⟨ic43,vs43,11,rs43,p⟩:=.mk2 Tryz.func43 (by kernel_rfl) (by kernel_rfl) (by kernel_rfl) (by kernel_rfl) (by kernel_rfl)
abbrev vs53:List Nat:=[0,1,2,3,4,8,9,10,11,15,22,53]
def ic53l0:IC:=(.seq (.seq (.region [jv 8,jF 1 4,jl 1,je 2,jw 10 (.bin .lss .int) [.t 0,.t 3]])
 (.cond 10 .skip
 (.exit 2)))
 (.seq (.block 3 (.region [jv 7,jt 0,jh 1 true 1,jh 1 true 6,jg 1 true (.iaS 2) [.t 2,.t 3],jg 1 true (.fadd 1) [.t 4],ji 1 true 5,jh 1 true 8,jf 1 true 43 [.t 6,.t 7],jg 1 true .mv [.t 8],jh 9 true 3,jh 9 true 8,jf 9 true 43 [.t 10,.t 11],jg 1 true .pick [.t 9,.t 12,jB false],jg 1 true .not [.t 13],jq .pick [.t 1,.t 14,jB false],jm 7 15]))
 (.region [jv 8,jq (.bin .add .int) [.t 0,jn 1],jm 8 1])))
def ic53l1:IC:=(.seq (.seq (.region [jv 6,jv 1,je 1,jw 9 (.bin .lss .int) [.t 0,.t 2]])
 (.cond 9 .skip
 (.exit 0)))
 (.seq (.block 1 (.seq (.region [jw 7 .mv [jB true]])
 (.seq (.seq (.region [jz 8 0])
 (.block 2 (.loop ic53l0)))
 (.seq (.dr [[],[0],[1],[1],[1],[3,4,1],[5,1],[6,1],[2,7,1,1],[1],[8,9,1],[10,1],[1,11]] [jv 7,jt 0,jg 1 true (.loadN 2) [.v 4],jh 1 true 1,jh 1 true 6,jg 1 true (.iaS 2) [.t 3,.t 4],jg 1 true (.fadd 0) [.t 5],ji 1 true 6,jf 1 true 109 [.t 2,.t 7],jh 1 true 2,jg 1 true (.iaS 1) [.t 8,.t 9],ji 1 true 10,jw 11 .pick [.t 1,.t 11,jB false]])
 (.cond 11 (.seq (.region [jw 5 .mv [jB true]])
 .ret)
 .skip)))))
 (.region [jv 6,jq (.bin .add .int) [.t 0,jn 1],jm 6 1])))
def ic53:IC:=(.seq (.region [jb 4 0,jw 5 .mv [jB false]])
 (.seq (.seq (.region [jz 6 0])
 (.block 0 (.loop ic53l1)))
 (.seq (.region [jw 5 .mv [jB false]])
 .ret)))
abbrev rs53:List RC:=[(.v 5)]
theorem fok53 (p:Bool):FnOk Tryz.prog 53 ⟨ic53,vs53,54,rs53,p⟩:=.mk2 Tryz.func53 (by kernel_rfl) (by kernel_rfl) (by kernel_rfl) (by kernel_rfl) (by kernel_rfl)
abbrev vs54:List Nat:=[0,1,2,4,5,6,7,16]
def ic54:IC:=(.seq (.region [jb 2 0,jw 3 .mv [jS],jz 4 0])
 (.seq (.region [jN 2 2,jv 1,jq (.bslice 1 1 [(.cv .nils)] [(0,1)]) [.t 1],jk 110 [.t 0,.t 2],jt 3,jx 0 4,jx 1 4,jm 5 5,jm 6 6])
 (.seq (.seq (.region [jv 6,jw 7 (.bin .neq .int) [.t 0,jn 0]])
 (.cond 7 (.seq (.region [jv 6,jw 3 .mv [jS],jm 4 0])
 .ret)
 .skip))
 (.seq (.region [jv 5,jv 1,jk 111 [.t 0,.t 1],jm 3 2,jz 4 0])
 .ret))))
abbrev rs54:List RC:=[(.v 3),(.v 4)]
theorem fok54 (p:Bool):FnOk Tryz.prog 54 ⟨ic54,vs54,21,rs54,p⟩:=.mk2 Tryz.func54 (by kernel_rfl) (by kernel_rfl) (by kernel_rfl) (by kernel_rfl) (by kernel_rfl)
abbrev vs56:List Nat:=[0,1,3,4,6,16,18]
def ic56:IC:=(.seq (.region [jb 2 1,jz 3 0])
 (.seq (.seq (.region [jv 0,je 0,jq (.bslice 1 1 [(.cv (.int .i64 0))] [(0,1)]) [.t 1],jk 63 [jn 1,jn 12,.t 2],jt 3,jg 4 false .load1 [.v 2],jg 4 false (.len false) [.t 5],jg 4 false (.bslice 1 1 [(.cv (.int .i64 0))] [(0,1)]) [.t 6],jf 4 false 63 [jn 1,jn 6,.t 7],jw 5 .pick [.t 4,jB true,.t 8]])
 (.cond 5 (.seq (.region [jz 3 3])
 .ret)
 .skip))
 (.seq (.seq (.region [jL 2,jd 6 63 [jn 0,jn 3,.t 0]])
 (.cond 6 (.seq (.region [jz 3 7])
 .ret)
 .skip))
 (.seq (.region [jv 0,jq (.mkfn (.func 115)) [.v 2],jk 114 [.t 0,.t 1],jt 2,jx 0 3,jx 1 3,jt 4,jm 4 5])
 (.seq (.region [jv 4,jm 3 0])
 .ret)))))
abbrev rs56:List RC:=[(.v 3)]
theorem fok56 (p:Bool):FnOk Tryz.prog 56 ⟨ic56,vs56,26,rs56,p⟩:=.mk2 Tryz.func56 (by kernel_rfl) (by kernel_rfl) (by kernel_rfl) (by kernel_rfl) (by kernel_rfl)
abbrev vs57:List Nat:=[0,1,2,3,4,5,6,7,8,9,10,11,15,21,29,51,69]
def ic57:IC:=(.seq (.region [jb 5 0,jw 6 (.alloc [(.cv (.int .i64 0)),(.cv (.int .i64 0))]) []])
 (.seq (.seq (.region [jF 1 5,jq (.loadN 6) [.t 0],jq (.build [(.cv (.int .i64 0)),(.cv (.int .i64 0)),(.cv (.int .i64 0)),(.cv (.int .i64 0)),(.cv (.int .i64 0)),(.cv (.int .i64 0))] []) [],jw 12 (.eqS false (true,[(.int .i64),(.int .i64),(.int .i64),(.int .i64),(.int .i64),(.int .i64)])) [.t 1,.t 2]])
 (.cond 12 (.seq (.region [jq (.build [(.cv (.int .i64 0)),(.cv (.int .i64 0))] []) [],jq (.store 2) [.v 6,.t 0]])
 .ret)
 .skip))
 (.seq (.seq (.region [jF 0 5,jl 0,jL 1,je 2,jw 13 (.bin .eql .int) [.t 1,.t 3]])
 (.cond 13 (.seq (.region [jN 2 2,jq (.store 2) [.v 6,.t 0]])
 .ret)
 .skip))
 (.seq (.region [jL 3,jN 7 5,jq (.lookup (true,[(.int .i64),(.int .i64),(.int .i64),(.int .i64),(.int .i64),(.int .i64),(.int .i64)]) (.agg [(.cv (.int .i64 0)),(.cv (.int .i64 0))]) true) [.t 0,.t 1],jt 2,jx 0 3,jx 1 3,jw 7 (.alloc [(.cv (.int .i64 0)),(.cv (.int .i64 0))]) [],jq (.store 2) [.v 7,.t 4],jm 8 5])
 (.seq (.seq (.region [jw 14 .mv [.v 8]])
 (.cond 14 (.seq (.region [jN 2 7,jq (.store 2) [.v 6,.t 0]])
 .ret)
 .skip))
 (.seq (.region [jL 4,jF 0 5,jl 1,jq (.bin .add .int) [.t 2,jn 1],jF 1 5,jq (.loadN 6) [.t 4],jq (.build [(.cv (.int .i64 0)),(.cv (.int .i64 0)),(.cv (.int .i64 0)),(.cv (.int .i64 0)),(.cv (.int .i64 0)),(.cv (.int .i64 0)),(.cv (.int .i64 0))] [(0,1),(1,6)]) [.t 3,.t 5],⟨none,none,.call,[(.t 0),(.t 6)]⟩,jq (.store 2) [.v 7,.t 7]])
 (.seq (.region [jL 1,jF 0 5,jl 1,ja 2 0 2,jq (.loadN 2) [.t 3],jw 9 (.alloc [(.cv (.int .i64 0)),(.cv (.int .i64 0))]) [],jq (.store 2) [.v 9,.t 4]])
 (.seq (.seq (.region [jF 1 5,jq (.loadN 6) [.t 0],jN 2 9,jk 58 [.t 1,.t 2],jw 10 (.alloc [(.cv (.int .i64 0)),(.cv (.int .i64 0)),(.cv (.int .i64 0)),(.cv (.int .i64 0)),(.cv (.int .i64 0)),(.cv (.int .i64 0))]) [],jq (.store 6) [.v 10,.t 3]])
 (.seq (.region [jN 6 10,jF 1 5,jq (.loadN 6) [.t 1],jw 15 (.eqS true (true,[(.int .i64),(.int .i64),(.int .i64),(.int .i64),(.int .i64),(.int .i64)])) [.t 0,.t 2]])
 (.cond 15 (.seq (.region [jL 4,jF 0 5,jl 1,jN 6 10,jq (.build [(.cv (.int .i64 0)),(.cv (.int .i64 0)),(.cv (.int .i64 0)),(.cv (.int .i64 0)),(.cv (.int .i64 0)),(.cv (.int .i64 0)),(.cv (.int .i64 0))] [(0,1),(1,6)]) [.t 2,.t 3],⟨none,none,.call,[(.t 0),(.t 4)]⟩,jw 11 (.alloc [(.cv (.int .i64 0)),(.cv (.int .i64 0))]) [],jq (.store 2) [.v 11,.t 5]])
 (.seq (.region [jF 0 11,jl 0,jq (.bin .add .int) [.t 1,jn 1],jF 1 11,jl 3,jF 1 9,jl 5,jq (.bin .add .int) [.t 4,.t 6],jq (.build [(.cv (.int .i64 0)),(.cv (.int .i64 0))] [(0,1),(1,1)]) [.t 2,.t 7],jq (.store 2) [.v 11,.t 8]])
 (.seq (.region [jN 2 7,jN 2 11,jd 16 59 [.t 0,.t 1]])
 (.cond 16 (.region [jN 2 11,jq (.store 2) [.v 7,.t 0]])
 .skip))))
 .skip)))
 (.seq (.region [jL 3,jN 7 5,jN 2 7,jq (.mapset (true,[(.int .i64),(.int .i64),(.int .i64),(.int .i64),(.int .i64),(.int .i64),(.int .i64)])) [.t 0,.t 1,.t 2]])
 (.seq (.region [jN 2 7,jq (.store 2) [.v 6,.t 0]])
 .ret))))))))))
abbrev rs57:List RC:=[(.lN 6 2)]
theorem fok57 (p:Bool):FnOk Tryz.prog 57 ⟨ic57,vs57,75,rs57,p⟩:=.mk2 Tryz.func57 (by kernel_rfl) (by kernel_rfl) (by kernel_rfl) (by kernel_rfl) (by kernel_rfl)
abbrev vs58:List Nat:=[0,1,2,3,4,5,6,7,14]
def ic58l0:IC:=(.seq (.region [jw 7 (.bin .lss .int) [.v 6,jn 6]])
 (.seq (.cond 7 .skip
 (.exit 0))
 (.seq (.block 1 (.seq (.region [jv 6,jm 5 0])
 (.seq (.region [jF 0 3,jl 0,jv 5,jq (.bin .shr .int) [.t 1,.t 2],jq (.bin .and .int) [.t 3,jn 1],jw 8 (.bin .eql .int) [.t 4,jn 1]])
 (.cond 8 (.region [jv 5,jv 5,jq (.iaA 6 1) [.v 2,.t 1],jl 2,jq (.bin .sub .int) [.t 3,jn 1],jq .max2 [jn 0,.t 4],jq (.iaA 6 1) [.v 2,.t 0],jq (.store 1) [.t 6,.t 5]])
 .skip))))
 (.region [jq (.bin .add .int) [.v 6,jn 1],jm 6 0]))))
def ic58:IC:=(.seq (.region [jb 2 0,jb 3 1,jw 4 (.alloc [(.cv (.int .i64 0)),(.cv (.int .i64 0)),(.cv (.int .i64 0)),(.cv (.int .i64 0)),(.cv (.int .i64 0)),(.cv (.int .i64 0))]) []])
 (.seq (.seq (.region [jz 6 0])
 (.block 0 (.loop ic58l0)))
 (.seq (.region [jN 6 2,jq (.store 6) [.v 4,.t 0]])
 .ret)))
abbrev rs58:List RC:=[(.lN 4 6)]
theorem fok58 (p:Bool):FnOk Tryz.prog 58 ⟨ic58,vs58,24,rs58,p⟩:=.mk2 Tryz.func58 (by kernel_rfl) (by kernel_rfl) (by kernel_rfl) (by kernel_rfl) (by kernel_rfl)
abbrev vs59:List Nat:=[0,1,2,3,4]
def ic59:IC:=(.seq (.region [jb 2 0,jb 3 1,jw 4 .mv [jB false]])
 (.seq (.region [jF 0 2,jl 0,jF 0 3,jl 2,jq (.bin .gtr .int) [.t 1,.t 3],jt 4,jg 5 false (.fadd 0) [.v 2],ji 5 false 6,jg 5 false (.fadd 0) [.v 3],ji 5 false 8,jg 5 false (.bin .eql .int) [.t 7,.t 9],jg 5 false .mv [.t 10],jg 11 true (.fadd 1) [.v 2],ji 11 true 12,jg 11 true (.fadd 1) [.v 3],ji 11 true 14,jg 11 true (.bin .gtr .int) [.t 13,.t 15],jg 5 false .pick [.t 11,.t 16,jB false],jq .pick [.t 5,jB true,.t 17],jm 4 18])
 .ret))
abbrev rs59:List RC:=[(.v 4)]
theorem fok59 (p:Bool):FnOk Tryz.prog 59 ⟨ic59,vs59,24,rs59,p⟩:=.mk2 Tryz.func59 (by kernel_rfl) (by kernel_rfl) (by kernel_rfl) (by kernel_rfl) (by kernel_rfl)
theorem hb111:Tryz.f111.body=some (Tryz.f111.body.getD .skip):=by kernel_rfl
abbrev vs111:List Nat:=[0,1,2,4,5,6,7,8,9,11,12,13,14,23,24,26,27,52]
def ic111l0:IC:=(.seq (.region [jw 12 (.bin .lss .int) [.v 11,.v 10]])
 (.seq (.cond 12 .skip
 (.exit 0))
 (.seq (.block 1 (.seq (.region [jv 11,jq (.iaS 2) [.v 9,.v 11],jq (.loadN 2) [.t 1],jw 6 (.alloc [(.cv (.int .i64 0)),(.cv (.int .i64 0))]) [],jm 5 0,jq (.store 2) [.v 6,.t 2]])
 (.region [jL 4,jN 2 6,jv 5,jq (.mapset (true,[(.int .i64),(.int .i64)])) [.t 0,.t 1,.t 2]])))
 (.region [jq (.bin .add .int) [.v 11,jn 1],jm 11 0]))))
def ic111 (b111:Code):IC:=(.seq (.region [jb 2 0,jw 3 .mv [jS]])
 (.seq (.region [jq .mkmap [],jw 4 (.alloc [(.cv .nilm)]) [],jq (.store 1) [.v 4,.t 0]])
 (.seq (.seq (.region [jw 9 .mv [.v 1],jw 10 (.len false) [.v 9],jz 11 0])
 (.block 0 (.loop ic111l0)))
 (.seq (.seq (.region [jL 4,jd 13 113 [.t 0]])
 (.block 2 (.rangef (.v 13) #[24] (nav [1,1,1,0,1,0,2] b111) (nav [1,1,1,0,1,0,3] b111) (.region [jw 7 (.alloc [(.cv (.int .i64 0)),(.cv (.int .i64 0))]) [],jq (.store 2) [.v 7,.v 14]])
 (.block 3 (.seq (.region [jL 4,jd 15 113 [.t 0]])
 (.block 4 (.rangef (.v 15) #[27] (nav [1,1,1,0,1,0,3,0,1,0,2] b111) (nav [1,1,1,0,1,0,3,0,1,0,3] b111) (.region [jw 8 (.alloc [(.cv (.int .i64 0)),(.cv (.int .i64 0))]) [],jq (.store 2) [.v 8,.v 16]])
 (.block 5 (.seq (.dr [[],[],[0,1],[2],[3],[4,3],[5,3],[6,3],[3],[8,3],[7,9,3],[10,3],[3],[12,3],[11,13,3],[14,3],[3,15],[16,3],[17],[18,17],[17],[20,17],[19,21,17],[22,17],[17,23]] [jN 2 8,jN 2 7,jq (.eqS true (true,[(.int .i64),(.int .i64)])) [.t 0,.t 1],jt 2,jg 3 true .load1 [.v 2],jg 3 true .nilck [.t 4],jg 3 true (.fadd 2) [.t 5],ji 3 true 6,jg 3 true (.fadd 0) [.v 7],ji 3 true 8,jg 3 true (.iaS 1) [.t 7,.t 9],ji 3 true 10,jg 3 true (.fadd 0) [.v 8],ji 3 true 12,jg 3 true (.iaS 1) [.t 11,.t 13],ji 3 true 14,jq .pick [.t 3,.t 15,jB false],jt 16,jg 17 true (.fadd 1) [.v 7],ji 17 true 18,jg 17 true (.fadd 1) [.v 8],ji 17 true 20,jg 17 true (.bin .andNot .int) [.t 19,.t 21],jg 17 true (.bin .eql .int) [.t 22,jn 0],jw 17 .pick [.t 17,.t 23,jB false]])
 (.cond 17 (.region [jL 4,jN 2 8,jq (.mapdel (true,[(.int .i64),(.int .i64)])) [.t 0,.t 1]])
 .skip))))))))))
 (.seq (.region [jL 4,jk 113 [.t 0],jk 112 [.t 1],jm 3 2])
 .ret)))))
theorem cc111:QL Tryz.prog vs111 Tryz.f111.ntmps (Tryz.f111.body.getD .skip)=some (ic111 (Tryz.f111.body.getD .skip)):=by kernel_rfl
abbrev rs111:List RC:=[(.v 3)]
theorem fok111 (p:Bool):FnOk Tryz.prog 111 ⟨ic111 (Tryz.f111.body.getD .skip),vs111,58,rs111,p⟩:=FnOk.mk' Tryz.func111 hb111 (by kernel_rfl) cc111 (by kernel_rfl) (by kernel_rfl)
abbrev vs112:List Nat:=[0,2]
def ic112:IC:=(.seq (.region [jw 1 .mv [jS]])
 (.seq (.region [jv 0,jk 147 [jS,.t 0],jm 1 1])
 .ret))
abbrev rs112:List RC:=[(.v 1)]
theorem fok112 (p:Bool):FnOk Tryz.prog 112 ⟨ic112,vs112,5,rs112,p⟩:=.mk2 Tryz.func112 (by kernel_rfl) (by kernel_rfl) (by kernel_rfl) (by kernel_rfl) (by kernel_rfl)
abbrev vs114:List Nat:=[0,1,4,5,6,7,8,9,10,11,20]
def ic114l0:IC:=(.seq (.region [jw 9 (.bin .lss .int) [.v 8,.v 7]])
 (.seq (.cond 9 .skip
 (.exit 0))
 (.seq (.block 1 (.seq (.region [jv 8,jq (.iaS 2) [.v 6,.v 8],jq (.loadN 2) [.t 1],jw 5 (.alloc [(.cv (.int .i64 0)),(.cv (.int .i64 0))]) [],jm 4 0,jq (.store 2) [.v 5,.t 2]])
 (.seq (.region [jv 1,jv 4,jN 2 5,⟨none,none,.call,[(.t 0),(.t 1),(.t 2)]⟩,jm 3 3])
 (.seq (.region [jv 3,jw 10 (.bin .neq .int) [.t 0,jn 0]])
 (.cond 10 (.seq (.region [jv 4,jv 3,jm 2 0,jm 3 1])
 .ret)
 .skip)))))
 (.region [jq (.bin .add .int) [.v 8,jn 1],jm 8 0]))))
def ic114:IC:=(.seq (.region [jz 2 0,jz 3 0])
 (.seq (.seq (.region [jw 6 .mv [.v 0],jw 7 (.len false) [.v 6],jz 8 0])
 (.block 0 (.loop ic114l0)))
 (.seq (.region [jz 2 0,jz 3 0])
 .ret)))
abbrev rs114:List RC:=[(.v 2),(.v 3)]
theorem fok114 (p:Bool):FnOk Tryz.prog 114 ⟨ic114,vs114,24,rs114,p⟩:=.mk2 Tryz.func114 (by kernel_rfl) (by kernel_rfl) (by kernel_rfl) (by kernel_rfl) (by kernel_rfl)
abbrev vs115:List Nat:=[0,1,2,4,5,19]
def ic115:IC:=(.seq (.region [jb 3 1,jz 4 0])
 (.seq (.seq (.dr [[],[0],[1],[2],[],[4],[5],[3,6],[7,7],[8],[9,8],[10,8],[11,8,8],[8,12]] [jL 2,je 0,jq (.bin .shl .int) [jn 1,.t 1],jq (.bin .sub .int) [.t 2,jn 1],jF 0 3,jl 4,jq (.bslice 1 1 [(.cv (.int .i64 0))] [(0,1)]) [.t 5],jk 63 [jn 0,.t 3,.t 6],jt 7,jg 8 false (.fadd 1) [.v 3],ji 8 false 9,jg 8 false (.bslice 1 1 [(.cv (.int .i64 0))] [(0,1)]) [.t 10],jf 8 false 63 [jn 0,jn 100000,.t 11],jw 5 .pick [.t 8,jB true,.t 12]])
 (.cond 5 (.seq (.region [jz 4 7])
 .ret)
 .skip))
 (.seq (.region [jz 4 0])
 .ret)))
abbrev rs115:List RC:=[(.v 4)]
theorem fok115 (p:Bool):FnOk Tryz.prog 115 ⟨ic115,vs115,20,rs115,p⟩:=.mk2 Tryz.func115 (by kernel_rfl) (by kernel_rfl) (by kernel_rfl) (by kernel_rfl) (by kernel_rfl)
abbrev vs117:List Nat:=[0,1,4]
def ic117:IC:=(.seq (.region [jw 2 .mv [jB false]])
 (.seq (.region [jv 0,jv 1,jk 152 [.t 0,.t 1],jq (.bin .geq .int) [.t 2,jn 0],jm 2 3])
 .ret))
abbrev rs117:List RC:=[(.v 2)]
theorem fok117 (p:Bool):FnOk Tryz.prog 117 ⟨ic117,vs117,9,rs117,p⟩:=.mk2 Tryz.func117 (by kernel_rfl) (by kernel_rfl) (by kernel_rfl) (by kernel_rfl) (by kernel_rfl)
abbrev vs118:List Nat:=[0,1,2,4]
def ic118:IC:=(.seq (.region [jw 3 .mv [jB false]])
 (.seq (.region [jv 0,jL 1,jq (.bin .lss .int) [.t 0,.t 1],jt 2,jh 3 false 0,jg 3 false .load1 [.v 2],jg 3 false (.bin .gtr .int) [.t 4,.t 5],jq .pick [.t 3,jB true,.t 6],jm 3 7])
 .ret))
abbrev rs118:List RC:=[(.v 3)]
theorem fok118 (p:Bool):FnOk Tryz.prog 118 ⟨ic118,vs118,13,rs118,p⟩:=.mk2 Tryz.func118 (by kernel_rfl) (by kernel_rfl) (by kernel_rfl) (by kernel_rfl) (by kernel_rfl)
abbrev vs119:List Nat:=[0]
def ic119:IC:=(.seq (.region [jw 0 (.alloc [(.cv .nils),(.cv .nils)]) []])
 (.seq (.region [jq (.build [(.cv (.str (bts []))),(.cv .nils),(.cv (.int .i64 0)),(.cv (.int .i64 0)),(.cv (.int .i64 0))] [(0,1),(2,1),(3,1)]) [.c (.cv (.str (bts [97,109]))),jn (-1),jn 16],jq (.bslice 1 1 [(.cv (.int .i64 0))] [(0,1)]) [jn 0],jq (.build [(.cv (.str (bts []))),(.cv .nils),(.cv (.int .i64 0)),(.cv (.int .i64 0)),(.cv (.int .i64 0))] [(0,1),(1,1),(2,1),(3,1),(4,1)]) [.c (.cv (.str (bts [98]))),.t 1,jn (-1),jn 18,jn 15],jq (.bslice 1 1 [(.cv (.int .i64 0))] [(0,1)]) [jn 1],jq (.build [(.cv (.str (bts []))),(.cv .nils),(.cv (.int .i64 0)),(.cv (.int .i64 0)),(.cv (.int .i64 0))] [(0,1),(1,1),(2,1),(3,1),(4,1)]) [.c (.cv (.str (bts [98,101]))),.t 3,jn 1,jn 18,jn 15],jq (.bslice 1 1 [(.cv (.int .i64 0))] [(0,1)]) [jn 1],jq (.build [(.cv (.str (bts []))),(.cv .nils),(.cv (.int .i64 0)),(.cv (.int .i64 0)),(.cv (.int .i64 0))] [(0,1),(1,1),(2,1),(3,1),(4,1)]) [.c (.cv (.str (bts [99]))),.t 5,jn 1,jn 21,jn 5],jq (.bslice 5 4 [(.cv (.str (bts []))),(.cv .nils),(.cv (.int .i64 0)),(.cv (.int .i64 0)),(.cv (.int .i64 0)),(.cv (.str (bts []))),(.cv .nils),(.cv (.int .i64 0)),(.cv (.int .i64 0)),(.cv (.int .i64 0)),(.cv (.str (bts []))),(.cv .nils),(.cv (.int .i64 0)),(.cv (.int .i64 0)),(.cv (.int .i64 0)),(.cv (.str (bts []))),(.cv .nils),(.cv (.int .i64 0)),(.cv (.int .i64 0)),(.cv (.int .i64 0))] [(0,5),(5,5),(10,5),(15,5)]) [.t 0,.t 2,.t 4,.t 6],jq (.bslice 1 2 [(.cv (.str (bts []))),(.cv (.str (bts [])))] [(0,1),(1,1)]) [.c (.cv (.str (bts [109,97,110,117,97,108]))),.c (.cv (.str (bts [110,105,103,104,116])))],jq (.build [(.cv .nils),(.cv .nils)] [(0,1),(1,1)]) [.t 7,.t 8],jq (.store 2) [.v 0,.t 9]])
 .ret))
abbrev rs119:List RC:=[(.lN 0 2)]
theorem fok119 (p:Bool):FnOk Tryz.prog 119 ⟨ic119,vs119,11,rs119,p⟩:=.mk2 Tryz.func119 (by kernel_rfl) (by kernel_rfl) (by kernel_rfl) (by kernel_rfl) (by kernel_rfl)
theorem hb120:Tryz.f120.body=some (Tryz.f120.body.getD .skip):=by kernel_rfl
abbrev vs120:List Nat:=[0,1,2,4,5,6,7]
def ic120 (b120:Code):IC:=(.seq (.region [jb 2 0,jw 3 .mv [jS]])
 (.seq (.seq (.region [jw 5 .mv [.v 1]])
 (.block 0 (.rangef (.v 5) #[7] (nav [1,0,1,0,2] b120) (nav [1,0,1,0,3] b120) (.region [jw 4 .mv [.v 6]])
 (.block 1 (.region [jL 2,jv 4,jq (.bslice 1 1 [(.cv (.int .i64 0))] [(0,1)]) [.t 1],jq (.append 1 8) [.t 0,.t 2],jq (.store 1) [.v 2,.t 3]])))))
 (.seq (.region [jL 2,jm 3 0])
 .ret)))
theorem cc120:QL Tryz.prog vs120 Tryz.f120.ntmps (Tryz.f120.body.getD .skip)=some (ic120 (Tryz.f120.body.getD .skip)):=by kernel_rfl
abbrev rs120:List RC:=[(.v 3)]
theorem fok120 (p:Bool):FnOk Tryz.prog 120 ⟨ic120 (Tryz.f120.body.getD .skip),vs120,13,rs120,p⟩:=FnOk.mk' Tryz.func120 hb120 (by kernel_rfl) cc120 (by kernel_rfl) (by kernel_rfl)
abbrev vs121:List Nat:=[0,1,2,4,8,9,10,21]
def ic121l0:IC:=(.seq (.region [jw 6 (.bin .lss .int) [.v 5,.v 4]])
 (.seq (.cond 6 .skip
 (.exit 0))
 (.seq (.block 1 (.seq (.region [jv 5,jm 3 0])
 (.seq (.region [jN 2 1,jL 2,jv 3,jk 104 [.t 0,.t 1,.t 2],jt 3,jh 4 true 0,jh 4 true 3,⟨none,(.some (4,true)),.call,[(.t 5),(.t 6)]⟩,jg 4 true .not [.t 7],jw 7 .pick [.t 4,.t 8,jB false]])
 (.cond 7 .ret
 .skip))))
 (.region [jq (.bin .add .int) [.v 5,jn 1],jm 5 0]))))
def ic121:IC:=(.seq (.region [jF 0 1,jG 1 0,jl 1,jw 4 (.len false) [.t 2],jz 5 0])
 (.block 0 (.loop ic121l0)))
abbrev rs121:List RC:=[]
theorem fok121 (p:Bool):FnOk Tryz.prog 121 ⟨ic121,vs121,23,rs121,p⟩:=.mk2 Tryz.func121 (by kernel_rfl) (by kernel_rfl) (by kernel_rfl) (by kernel_rfl) (by kernel_rfl)
abbrev vs122:List Nat:=[0,1,4,5,7,8,9,16]
def ic122l0:IC:=(.seq (.region [jw 6 (.bin .lss .int) [.v 5,.v 4]])
 (.seq (.cond 6 .skip
 (.exit 0))
 (.seq (.block 1 (.seq (.region [jv 5,jm 3 0])
 (.seq (.region [jv 1,jv 0,jv 3,ja 1 1 2,jl 3,jw 7 (.bin .eql .int) [.t 0,.t 4]])
 (.cond 7 (.seq (.region [jv 3,jm 2 0])
 .ret)
 .skip))))
 (.region [jq (.bin .add .int) [.v 5,jn 1],jm 5 0]))))
def ic122:IC:=(.seq (.region [jz 2 0])
 (.seq (.seq (.region [jv 0,jw 4 (.len false) [.t 0],jz 5 0])
 (.block 0 (.loop ic122l0)))
 (.seq (.region [jz 2 (-1)])
 .ret)))
abbrev rs122:List RC:=[(.v 2)]
theorem fok122 (p:Bool):FnOk Tryz.prog 122 ⟨ic122,vs122,19,rs122,p⟩:=.mk2 Tryz.func122 (by kernel_rfl) (by kernel_rfl) (by kernel_rfl) (by kernel_rfl) (by kernel_rfl)
abbrev vs124:List Nat:=[0,1,4,5,6,7,8,10,26,37]
def ic124l0:IC:=(.seq (.seq (.region [jv 6,jv 5,je 1,jw 9 (.bin .lss .int) [.t 0,.t 2]])
 (.cond 9 .skip
 (.exit 0)))
 (.block 1 (.dr [[],[],[],[1,2],[],[],[4,5],[3,6],[0,7],[8,7,0,1,2,3,4,5,6,7,8]] [jv 6,jv 5,jv 6,jq (.slS 1 true false) [.t 1,.t 2],jv 5,jv 6,jq (.slS 1 false true) [.t 4,.t 5],jq (.copy 1) [.t 3,.t 6],jq (.bin .add .int) [.t 0,.t 7],jm 6 8])))
def ic124:IC:=(.seq (.region [jw 2 .mv [jS]])
 (.seq (.seq (.region [jv 1,jw 7 (.bin .lss .int) [.t 0,jn 0]])
 (.cond 7 (.region [jq .stuck [],jq .stuck []])
 .skip))
 (.seq (.region [jv 0,je 0,jq (.conv .u64) [.t 1],jv 1,jq (.conv .u64) [.t 3],jk 153 [.t 2,.t 4],jt 5,jx 0 6,jx 1 6,jm 3 7,jm 4 8])
 (.seq (.seq (.region [jv 3,jq (.bin .gtr .int) [.t 0,.c (.cv (.int .u64 0))],jt 1,jh 2 false 4,jg 2 false (.bin .gtr .int) [.t 3,.c (.cv (.int .u64 9223372036854775807))],jw 8 .pick [.t 2,jB true,.t 4]])
 (.cond 8 (.region [jq .stuck [],jq .stuck []])
 .skip))
 (.seq (.region [jv 4,jq (.conv .i64) [.t 0],jq (.mkslice 1 8 [(.cv (.int .i64 0))]) [.t 1,.t 1],jm 5 2])
 (.seq (.region [jv 5,jv 0,jq (.copy 1) [.t 0,.t 1],jm 6 2])
 (.seq (.block 0 (.loop ic124l0))
 (.seq (.region [jv 5,jm 2 0])
 .ret))))))))
abbrev rs124:List RC:=[(.v 2)]
theorem fok124 (p:Bool):FnOk Tryz.prog 124 ⟨ic124,vs124,48,rs124,p⟩:=.mk2 Tryz.func124 (by kernel_rfl) (by kernel_rfl) (by kernel_rfl) (by kernel_rfl) (by kernel_rfl)
theorem hb125:Tryz.f125.body=some (Tryz.f125.body.getD .skip):=by kernel_rfl
abbrev vs125:List Nat:=[0,1,2,3,4,5,6,7,8,11,12,23,39]
def ic125 (b125:Code):IC:=(.seq (.region [jb 6 0,jw 7 (.alloc [(.cv (.bool false))]) []])
 (.seq (.seq (.region [jN 2 1,jL 6,jd 9 74 [.t 0,.t 1]])
 (.block 0 (.rangef (.v 9) #[12] (nav [1,0,1,0,2] b125) (nav [1,0,1,0,3] b125) (.region [jw 8 .mv [.v 10]])
 (.block 1 (.seq (.seq (.region [jL 2,jv 8,ja 1 0 1,jl 2,jt 3,jg 4 false .load1 [.v 3],jh 4 false 8,jg 4 false (.iaS 1) [.t 5,.t 6],ji 4 false 7,jg 4 false (.bin .geq .int) [.t 8,jn 0],jw 11 .pick [.t 4,jB true,.t 9]])
 (.cond 11 (.exit 1)
 .skip))
 (.seq (.region [jL 2,jv 8,ja 1 0 1,jq (.store 1) [.t 2,jB true]])
 (.seq (.dr [[],[],[0,1],[2],[3],[4],[5],[5],[5],[7,8,5],[9,5],[6,10,5,5],[5,11]] [jL 4,jv 8,ja 1 0 1,jl 2,jq (.bin .lss .int) [.t 3,jn 0],jt 4,jg 5 false .load1 [.v 5],jg 5 false .load1 [.v 4],jh 5 false 8,jg 5 false (.iaS 1) [.t 7,.t 8],ji 5 false 9,⟨none,(.some (5,false)),.call,[(.t 6),(.t 10)]⟩,jw 12 .pick [.t 5,jB true,.t 11]])
 (.cond 12 (.seq (.region [jL 4,jv 8,jL 6,ja 1 0 1,jq (.store 1) [.t 3,.t 2]])
 (.seq (.region [jq (.store 1) [.v 7,jB true]])
 .ret))
 .skip))))))))
 (.seq (.region [jq (.store 1) [.v 7,jB false]])
 .ret)))
theorem cc125:QL Tryz.prog vs125 Tryz.f125.ntmps (Tryz.f125.body.getD .skip)=some (ic125 (Tryz.f125.body.getD .skip)):=by kernel_rfl
abbrev rs125:List RC:=[(.l1 7)]
theorem fok125 (p:Bool):FnOk Tryz.prog 125 ⟨ic125 (Tryz.f125.body.getD .skip),vs125,44,rs125,p⟩:=FnOk.mk' Tryz.func125 hb125 (by kernel_rfl) cc125 (by kernel_rfl) (by kernel_rfl)
abbrev vs127:List Nat:=[0,2]
def ic127:IC:=(.seq (.region [jz 1 0])
 (.seq (.region [jv 0,jq (.bin .shr .int) [.t 0,.c (.cv (.int .u64 1))],jq (.bin .and .int) [.t 1,.c (.cv (.int .u64 6148914691236517205))],jv 0,jq (.bin .and .int) [.t 3,.c (.cv (.int .u64 6148914691236517205))],jq (.bin .add .int) [.t 2,.t 4],jm 0 5])
 (.seq (.region [jv 0,jq (.bin .shr .int) [.t 0,.c (.cv (.int .u64 2))],jq (.bin .and .int) [.t 1,.c (.cv (.int .u64 3689348814741910323))],jv 0,jq (.bin .and .int) [.t 3,.c (.cv (.int .u64 3689348814741910323))],jq (.bin .add .int) [.t 2,.t 4],jm 0 5])
 (.seq (.region [jv 0,jq (.bin .shr .int) [.t 0,.c (.cv (.int .u64 4))],jv 0,jq (.bin .add .int) [.t 1,.t 2],jq (.bin .and .int) [.t 3,.c (.cv (.int .u64 1085102592571150095))],jm 0 4])
 (.seq (.region [jv 0,jv 0,jq (.bin .shr .int) [.t 1,.c (.cv (.int .u64 8))],jq (.bin .add .int) [.t 0,.t 2],jm 0 3])
 (.seq (.region [jv 0,jv 0,jq (.bin .shr .int) [.t 1,.c (.cv (.int .u64 16))],jq (.bin .add .int) [.t 0,.t 2],jm 0 3])
 (.seq (.region [jv 0,jv 0,jq (.bin .shr .int) [.t 1,.c (.cv (.int .u64 32))],jq (.bin .add .int) [.t 0,.t 2],jm 0 3])
 (.seq (.region [jv 0,jq (.conv .i64) [.t 0],jq (.bin .and .int) [.t 1,jn 127],jm 1 2])
 .ret))))))))
abbrev rs127:List RC:=[(.v 1)]
theorem fok127 (p:Bool):FnOk Tryz.prog 127 ⟨ic127,vs127,35,rs127,p⟩:=.mk2 Tryz.func127 (by kernel_rfl) (by kernel_rfl) (by kernel_rfl) (by kernel_rfl) (by kernel_rfl)
abbrev vs128:List Nat:=[0,2]
def ic128:IC:=(.seq (.region [jz 1 0])
 (.seq .skip
 (.seq (.region [jv 0,jk 155 [.t 0],jm 1 1])
 .ret)))
abbrev rs128:List RC:=[(.v 1)]
theorem fok128 (p:Bool):FnOk Tryz.prog 128 ⟨ic128,vs128,8,rs128,p⟩:=.mk2 Tryz.func128 (by kernel_rfl) (by kernel_rfl) (by kernel_rfl) (by kernel_rfl) (by kernel_rfl)
abbrev vs129:List Nat:=[0,1,4]
def ic129:IC:=(.seq (.region [jw 2 .mv [jB false]])
 (.seq (.region [jv 0,jk 138 [.t 0],jt 1,jh 2 true 1,jf 2 true 138 [.t 3],jg 2 true .not [.t 4],jq .pick [.t 2,.t 5,jB false],jt 6,jh 7 false 0,jh 7 false 1,jg 7 false (.bin .lss .int) [.t 8,.t 9],jq .pick [.t 7,jB true,.t 10],jm 2 11])
 .ret))
abbrev rs129:List RC:=[(.v 2)]
theorem fok129 (p:Bool):FnOk Tryz.prog 129 ⟨ic129,vs129,17,rs129,p⟩:=.mk2 Tryz.func129 (by kernel_rfl) (by kernel_rfl) (by kernel_rfl) (by kernel_rfl) (by kernel_rfl)
abbrev vs130:List Nat:=[0,1,4,5,7,8,9,16]
def ic130l0:IC:=(.seq (.region [jw 6 (.bin .lss .int) [.v 5,.v 4]])
 (.seq (.cond 6 .skip
 (.exit 0))
 (.seq (.block 1 (.seq (.region [jv 5,jm 3 0])
 (.seq (.region [jv 1,jv 0,jv 3,ja 2 1 2,jq (.loadN 2) [.t 3],⟨(.some 7),none,.call,[(.t 0),(.t 4)]⟩])
 (.cond 7 (.seq (.region [jv 3,jm 2 0])
 .ret)
 .skip))))
 (.region [jq (.bin .add .int) [.v 5,jn 1],jm 5 0]))))
def ic130:IC:=(.seq (.region [jz 2 0])
 (.seq (.seq (.region [jv 0,jw 4 (.len false) [.t 0],jz 5 0])
 (.block 0 (.loop ic130l0)))
 (.seq (.region [jz 2 (-1)])
 .ret)))
abbrev rs130:List RC:=[(.v 2)]
theorem fok130 (p:Bool):FnOk Tryz.prog 130 ⟨ic130,vs130,19,rs130,p⟩:=.mk2 Tryz.func130 (by kernel_rfl) (by kernel_rfl) (by kernel_rfl) (by kernel_rfl) (by kernel_rfl)
abbrev vs131:List Nat:=[0,1,2,3,4]
def ic131:IC:=(.seq (.region [jb 1 0,jz 2 0,jz 3 0,jz 4 0])
 (.seq (.region [jN 2 1,jk 145 [.t 0],jt 1,jx 0 2,jx 1 2,jx 2 2,jx 3 2,jm 2 4,jm 3 5,jm 4 6])
 (.seq (.region [jv 2,jv 3,jv 4,jm 2 0,jm 3 1,jm 4 2])
 .ret)))
abbrev rs131:List RC:=[(.v 2),(.v 3),(.v 4)]
theorem fok131 (p:Bool):FnOk Tryz.prog 131 ⟨ic131,vs131,15,rs131,p⟩:=.mk2 Tryz.func131 (by kernel_rfl) (by kernel_rfl) (by kernel_rfl) (by kernel_rfl) (by kernel_rfl)
abbrev vs132:List Nat:=[0,1,4,5,6,7,8,9,10,11,20]
def ic132l0:IC:=(.seq (.region [jw 9 (.bin .lss .int) [.v 8,.v 7]])
 (.seq (.cond 9 .skip
 (.exit 0))
 (.seq (.block 1 (.seq (.region [jv 8,jq (.iaS 3) [.v 6,.v 8],jq (.loadN 3) [.t 1],jw 5 (.alloc [(.cv .nils),(.cv (.int .i64 0)),(.cv (.int .i64 0))]) [],jm 4 0,jq (.store 3) [.v 5,.t 2]])
 (.seq (.region [jv 1,jv 4,jN 3 5,⟨none,none,.call,[(.t 0),(.t 1),(.t 2)]⟩,jm 3 3])
 (.seq (.region [jv 3,jw 10 (.bin .neq .int) [.t 0,jn 0]])
 (.cond 10 (.seq (.region [jv 4,jv 3,jm 2 0,jm 3 1])
 .ret)
 .skip)))))
 (.region [jq (.bin .add .int) [.v 8,jn 1],jm 8 0]))))
def ic132:IC:=(.seq (.region [jz 2 0,jz 3 0])
 (.seq (.seq (.region [jw 6 .mv [.v 0],jw 7 (.len false) [.v 6],jz 8 0])
 (.block 0 (.loop ic132l0)))
 (.seq (.region [jz 2 0,jz 3 0])
 .ret)))
abbrev rs132:List RC:=[(.v 2),(.v 3)]
theorem fok132 (p:Bool):FnOk Tryz.prog 132 ⟨ic132,vs132,24,rs132,p⟩:=.mk2 Tryz.func132 (by kernel_rfl) (by kernel_rfl) (by kernel_rfl) (by kernel_rfl) (by kernel_rfl)
abbrev vs133:List Nat:=[0,1,2,3,5,6,8,19,21,28]
def ic133:IC:=(.seq (.region [jb 3 0,jb 4 2,jz 5 0])
 (.seq (.seq (.region [jF 0 3,jG 0 0,jq (.loadN 2) [.t 1],jF 0 4,jl 3,jk 54 [.t 2,.t 4],jt 5,jx 0 6,jx 1 6,jt 7,jm 6 8])
 (.seq (.region [jv 6,jw 7 (.bin .neq .int) [.t 0,jn 0]])
 (.cond 7 (.seq (.region [jv 6,jm 5 0])
 .ret)
 .skip)))
 (.seq (.block 0 (.seq (.region [jF 1 4,jl 0,jF 2 4,jl 2,jq (.bslice 1 2 [(.cv (.int .i64 0)),(.cv (.int .i64 0))] [(0,1),(1,1)]) [.t 1,.t 3],jk 63 [jn 0,jn 1440,.t 4],jm 8 5])
 (.cond 8 (.seq (.region [jz 5 7])
 .ret)
 (.seq (.region [jF 1 4,jl 0,jF 2 4,jl 2,jq (.bin .gtr .int) [.t 1,.t 3],jm 9 4])
 (.cond 9 (.seq (.region [jz 5 2])
 .ret)
 .skip)))))
 (.seq (.region [jz 5 0])
 .ret))))
abbrev rs133:List RC:=[(.v 5)]
theorem fok133 (p:Bool):FnOk Tryz.prog 133 ⟨ic133,vs133,34,rs133,p⟩:=.mk2 Tryz.func133 (by kernel_rfl) (by kernel_rfl) (by kernel_rfl) (by kernel_rfl) (by kernel_rfl)
abbrev vs134:List Nat:=[0,1,4,5,6,7,8,9,10,11,20]
def ic134l0:IC:=(.seq (.region [jw 9 (.bin .lss .int) [.v 8,.v 7]])
 (.seq (.cond 9 .skip
 (.exit 0))
 (.seq (.block 1 (.seq (.region [jv 8,jq (.iaS 2) [.v 6,.v 8],jq (.loadN 2) [.t 1],jw 5 (.alloc [(.cv (.int .i64 0)),(.cv (.int .i64 0))]) [],jm 4 0,jq (.store 2) [.v 5,.t 2]])
 (.seq (.region [jv 1,jv 4,jN 2 5,⟨none,none,.call,[(.t 0),(.t 1),(.t 2)]⟩,jm 3 3])
 (.seq (.region [jv 3,jw 10 (.bin .neq .int) [.t 0,jn 0]])
 (.cond 10 (.seq (.region [jv 4,jv 3,jm 2 0,jm 3 1])
 .ret)
 .skip)))))
 (.region [jq (.bin .add .int) [.v 8,jn 1],jm 8 0]))))
def ic134:IC:=(.seq (.region [jz 2 0,jz 3 0])
 (.seq (.seq (.region [jw 6 .mv [.v 0],jw 7 (.len false) [.v 6],jz 8 0])
 (.block 0 (.loop ic134l0)))
 (.seq (.region [jz 2 0,jz 3 0])
 .ret)))
abbrev rs134:List RC:=[(.v 2),(.v 3)]
theorem fok134 (p:Bool):FnOk Tryz.prog 134 ⟨ic134,vs134,24,rs134,p⟩:=.mk2 Tryz.func134 (by kernel_rfl) (by kernel_rfl) (by kernel_rfl) (by kernel_rfl) (by kernel_rfl)
abbrev vs135:List Nat:=[0,1,2,3,5,6,8]
def ic135:IC:=(.seq (.region [jb 3 0,jb 4 2,jz 5 0])
 (.seq (.region [jF 0 3,jG 0 0,jq (.loadN 2) [.t 1],jF 0 4,jl 3,jF 1 4,jl 5,jk 136 [.t 2,jS,.t 4,.t 6],jt 7,jx 0 8,jx 1 8,jt 9,jm 6 10])
 (.seq (.region [jv 6,jm 5 0])
 .ret)))
abbrev rs135:List RC:=[(.v 5)]
theorem fok135 (p:Bool):FnOk Tryz.prog 135 ⟨ic135,vs135,21,rs135,p⟩:=.mk2 Tryz.func135 (by kernel_rfl) (by kernel_rfl) (by kernel_rfl) (by kernel_rfl) (by kernel_rfl)
abbrev vs136:List Nat:=[0,1,2,3,4,8,9,10,11,19,23,34]
def ic136:IC:=(.seq (.region [jb 4 0,jw 5 .mv [jB false],jz 6 0])
 (.seq (.region [jN 2 4,jv 1,jq (.bslice 1 1 [(.cv .nils)] [(0,1)]) [.t 1],jk 110 [.t 0,.t 2],jt 3,jx 0 4,jx 1 4,jm 7 5,jm 8 6])
 (.seq (.block 0 (.seq (.region [jv 8,jq (.bin .neq .int) [.t 0,jn 0],jm 9 1])
 (.cond 9 (.seq (.region [jv 8,jw 5 .mv [jB false],jm 6 0])
 .ret)
 (.seq (.region [jv 7,jc 0,jG 0 1,jG 0 2,jl 3,je 4,jq (.bin .sub .int) [.t 5,jn 1],jv 2,jq (.bslice 1 1 [(.cv (.int .i64 0))] [(0,1)]) [.t 7],jk 156 [jn 0,.t 6,.t 8],jm 10 9])
 (.cond 10 (.seq (.region [jw 5 .mv [jB false],jz 6 4])
 .ret)
 (.seq (.region [jv 7,jk 157 [.t 0],jq (.bin .sub .int) [.t 1,jn 1],jv 3,jq (.bslice 1 1 [(.cv (.int .i64 0))] [(0,1)]) [.t 3],jk 156 [jn 0,.t 2,.t 4],jm 11 5])
 (.cond 11 (.seq (.region [jw 5 .mv [jB false],jz 6 7])
 .ret)
 .skip)))))))
 (.seq (.region [jv 7,jv 1,jv 2,jv 3,jk 158 [.t 0,.t 1,.t 2,.t 3],jm 5 4,jz 6 0])
 .ret))))
abbrev rs136:List RC:=[(.v 5),(.v 6)]
theorem fok136 (p:Bool):FnOk Tryz.prog 136 ⟨ic136,vs136,46,rs136,p⟩:=.mk2 Tryz.func136 (by kernel_rfl) (by kernel_rfl) (by kernel_rfl) (by kernel_rfl) (by kernel_rfl)
abbrev vs137:List Nat:=[0,1,2,6,7,8,9,13,30,35,54]
def ic137l0:IC:=(.seq (.seq (.region [jv 5,jv 1,jw 9 (.bin .leq .int) [.t 0,.t 1]])
 (.cond 9 .skip
 (.exit 4)))
 (.block 5 (.seq (.region [jv 0,jv 4,jv 4,jv 3,jq (.bin .add .int) [.t 2,.t 3],jv 5,jv 2,jk 160 [.t 0,.t 1,.t 4,.t 5,.t 6]])
 (.seq (.region [jv 5,jm 4 0])
 (.region [jv 5,jv 3,jq (.bin .mul .int) [jn 2,.t 1],jq (.bin .add .int) [.t 0,.t 2],jm 5 3])))))
def ic137l1:IC:=(.seq (.seq (.region [jv 3,jv 1,jw 8 (.bin .lss .int) [.t 0,.t 1]])
 (.cond 8 .skip
 (.exit 2)))
 (.block 3 (.seq (.region [jv 3,jq (.bin .mul .int) [jn 2,.t 0],jz 4 0,jm 5 1])
 (.seq (.block 4 (.loop ic137l0))
 (.seq (.seq (.region [jv 4,jv 3,jq (.bin .add .int) [.t 0,.t 1],jm 6 2])
 (.seq (.region [jv 6,jv 1,jw 10 (.bin .lss .int) [.t 0,.t 1]])
 (.cond 10 (.region [jv 0,jv 4,jv 6,jv 1,jv 2,jk 160 [.t 0,.t 1,.t 2,.t 3,.t 4]])
 .skip)))
 (.region [jv 3,jq (.bin .mul .int) [.t 0,jn 2],jm 3 1]))))))
def ic137l2:IC:=(.seq (.seq (.region [jv 5,jv 1,jw 7 (.bin .leq .int) [.t 0,.t 1]])
 (.cond 7 .skip
 (.exit 0)))
 (.block 1 (.seq (.region [jv 0,jv 4,jv 5,jv 2,jk 159 [.t 0,.t 1,.t 2,.t 3]])
 (.seq (.region [jv 5,jm 4 0])
 (.region [jv 5,jv 3,jq (.bin .add .int) [.t 0,.t 1],jm 5 2])))))
def ic137:IC:=(.seq (.region [jz 3 20])
 (.seq (.region [jv 3,jz 4 0,jm 5 0])
 (.seq (.block 0 (.loop ic137l2))
 (.seq (.region [jv 0,jv 4,jv 1,jv 2,jk 159 [.t 0,.t 1,.t 2,.t 3]])
 (.block 2 (.loop ic137l1))))))
abbrev rs137:List RC:=[]
theorem fok137 (p:Bool):FnOk Tryz.prog 137 ⟨ic137,vs137,63,rs137,p⟩:=.mk2 Tryz.func137 (by kernel_rfl) (by kernel_rfl) (by kernel_rfl) (by kernel_rfl) (by kernel_rfl)
abbrev vs138:List Nat:=[0,2]
def ic138:IC:=(.seq (.region [jw 1 .mv [jB false]])
 (.seq (.region [jv 0,jv 0,jq (.bin .neq .int) [.t 0,.t 1],jm 1 2])
 .ret))
abbrev rs138:List RC:=[(.v 1)]
theorem fok138 (p:Bool):FnOk Tryz.prog 138 ⟨ic138,vs138,6,rs138,p⟩:=.mk2 Tryz.func138 (by kernel_rfl) (by kernel_rfl) (by kernel_rfl) (by kernel_rfl) (by kernel_rfl)
abbrev vs140:List Nat:=[0,1,2,6]
def ic140:IC:=(.seq (.region [jw 3 .mv [jB false]])
 (.seq (.region [jv 0,jv 1,jq (.bin .geq .int) [.t 0,.t 1],jt 2,jh 3 true 0,jh 3 true 2,jg 3 true (.bin .leq .int) [.t 4,.t 5],jq .pick [.t 3,.t 6,jB false],jm 3 7])
 .ret))
abbrev rs140:List RC:=[(.v 3)]
theorem fok140 (p:Bool):FnOk Tryz.prog 140 ⟨ic140,vs140,15,rs140,p⟩:=.mk2 Tryz.func140 (by kernel_rfl) (by kernel_rfl) (by kernel_rfl) (by kernel_rfl) (by kernel_rfl)
abbrev vs142:List Nat:=[0,2,3,14,18,34]
def ic142l0:IC:=(.seq (.seq (.region [jv 2,jv 0,jq (.len true) [.t 1],jw 4 (.bin .lss .int) [.t 0,.t 2]])
 (.cond 4 .skip
 (.exit 0)))
 (.seq (.block 1 (.seq (.region [jv 0,jv 2,jq .ixStr [.t 0,.t 1],jq (.conv .i64) [.t 2],jk 140 [.t 3,jn 97,jn 122],jq .not [.t 4],jt 5,jh 6 true 0,jh 6 true 2,jg 6 true .ixStr [.t 7,.t 8],jg 6 true (.conv .i64) [.t 9],jf 6 true 140 [.t 10,jn 48,jn 57],jg 6 true .not [.t 11],jw 5 .pick [.t 6,.t 12,jB false]])
 (.cond 5 (.seq (.region [jw 1 .mv [jB false]])
 .ret)
 .skip)))
 (.region [jv 2,jq (.bin .add .int) [.t 0,jn 1],jm 2 1])))
def ic142:IC:=(.seq (.region [jw 1 .mv [jB false]])
 (.seq (.seq (.region [jv 0,jq (.len true) [.t 0],jk 140 [.t 1,jn 1,jn 16],jq .not [.t 2],jt 3,jh 4 false 0,jg 4 false .ixStr [.t 5,jn 0],jg 4 false (.conv .i64) [.t 6],jf 4 false 140 [.t 7,jn 97,jn 122],jg 4 false .not [.t 8],jw 3 .pick [.t 4,jB true,.t 9]])
 (.cond 3 (.seq (.region [jw 1 .mv [jB false]])
 .ret)
 .skip))
 (.seq (.seq (.region [jz 2 0])
 (.block 0 (.loop ic142l0)))
 (.seq (.region [jw 1 .mv [jB true]])
 .ret))))
abbrev rs142:List RC:=[(.v 1)]
theorem fok142 (p:Bool):FnOk Tryz.prog 142 ⟨ic142,vs142,35,rs142,p⟩:=.mk2 Tryz.func142 (by kernel_rfl) (by kernel_rfl) (by kernel_rfl) (by kernel_rfl) (by kernel_rfl)
abbrev vs145:List Nat:=[0,1,2,3,4,5,6,7,27,40,55,64,65,66,67,74]
def ic145l0:IC:=(.seq (.region [jw 14 (.bin .lss .int) [.v 13,.v 12]])
 (.seq (.cond 14 .skip
 (.exit 0))
 (.seq (.block 1 (.seq (.region [jv 13,jq (.iaS 5) [.v 11,.v 13],jq (.loadN 5) [.t 1],jw 6 (.alloc [(.cv (.int .i64 0))]) [],jw 7 (.alloc [(.cv (.str (bts []))),(.cv .nils),(.cv (.int .i64 0)),(.cv (.int .i64 0)),(.cv (.int .i64 0))]) [],jq (.store 1) [.v 6,.t 0],jq (.store 5) [.v 7,.t 2]])
 (.seq (.region [jF 1 7,jl 0,jq (.mkfn (.func 166)) [.v 2,.v 6],jd 15 117 [.t 1,.t 2]])
 (.cond 15 (.seq (.dr [[],[],[1,1],[0,2,0,1,2],[3,0,1,2,3]] [jL 6,jq (.store 1) [.v 2,.c (.cv .nilp)],jz 3 4,jm 4 0,jz 5 9])
 .ret)
 .skip))))
 (.region [jq (.bin .add .int) [.v 13,jn 1],jm 13 0]))))
def ic145:IC:=(.seq (.region [jb 1 0,jw 2 (.alloc [(.cv .nilp)]) [],jz 3 0,jz 4 0,jz 5 0])
 (.seq (.region [jN 2 1,jq (.build [(.cv .nils),(.cv .nils),(.cv .nils)] [(0,2)]) [.t 0],jq .box [.t 1],jq (.store 1) [.v 2,.t 2]])
 (.seq (.seq (.region [jL 2,jc 0,jG 0 1,jG 0 2,jl 3,je 4,jq (.bslice 1 1 [(.cv (.int .i64 0))] [(0,1)]) [.t 5],jk 156 [jn 1,jn 12,.t 6],jt 7,jg 8 false .load1 [.v 2],jg 8 false .nilck [.t 9],jg 8 false (.fadd 0) [.t 10],jg 8 false (.fadd 1) [.t 11],ji 8 false 12,jg 8 false (.len false) [.t 13],jg 8 false (.bin .gtr .int) [.t 14,jn 8],jw 8 .pick [.t 8,jB true,.t 15]])
 (.cond 8 (.seq (.region [jq (.store 1) [.v 2,.c (.cv .nilp)],jz 3 1,jz 4 0,jz 5 3])
 .ret)
 .skip))
 (.seq (.seq (.dr [[],[0],[1],[2],[3],[],[5],[4,6],[7],[8],[8],[9,7,0,1,2,3,4,5,6,7,8,9],[10,11,0,1,2,3,4,5,6,7,8,9,10,11]] [jL 2,jc 0,jG 0 1,jG 0 2,jl 3,jL 2,jq (.mkbm 162) [.t 5],jk 161 [.t 4,.t 6],jt 7,jx 0 8,jx 1 8,jm 4 9,jm 5 10])
 (.seq (.region [jv 5,jw 9 (.bin .neq .int) [.t 0,jn 0]])
 (.cond 9 (.seq (.region [jv 4,jv 5,jq (.store 1) [.v 2,.c (.cv .nilp)],jz 3 2,jm 4 0,jm 5 1])
 .ret)
 .skip)))
 (.seq (.seq (.dr [[],[0],[1],[2],[3],[],[5],[4,6],[7],[8],[8],[9,7,0,1,2,3,4,5,6,7,8,9],[10,11,0,1,2,3,4,5,6,7,8,9,10,11]] [jL 2,jc 0,jG 0 1,jG 1 2,jl 3,jL 2,jq (.mkbm 164) [.t 5],jk 163 [.t 4,.t 6],jt 7,jx 0 8,jx 1 8,jm 4 9,jm 5 10])
 (.seq (.region [jv 5,jw 10 (.bin .neq .int) [.t 0,jn 0]])
 (.cond 10 (.seq (.region [jv 4,jv 5,jq (.store 1) [.v 2,.c (.cv .nilp)],jz 3 3,jm 4 0,jm 5 1])
 .ret)
 .skip)))
 (.seq (.region [jL 2,jk 165 [.t 0]])
 (.seq (.seq (.region [jL 2,jc 0,jG 0 1,jG 0 2,jw 11 .load1 [.t 3],jw 12 (.len false) [.v 11],jz 13 0])
 (.block 0 (.loop ic145l0)))
 (.seq (.region [jL 2,jq (.store 1) [.v 2,.t 0],jz 3 0,jz 4 0,jz 5 0])
 .ret))))))))
abbrev rs145:List RC:=[(.l1 2),(.v 3),(.v 4),(.v 5)]
theorem fok145 (p:Bool):FnOk Tryz.prog 145 ⟨ic145,vs145,78,rs145,p⟩:=.mk2 Tryz.func145 (by kernel_rfl) (by kernel_rfl) (by kernel_rfl) (by kernel_rfl) (by kernel_rfl)
abbrev vs146:List Nat:=[0,1,2,4,6,9]
def ic146:IC:=(.seq (.region [jb 2 0,jz 3 0])
 (.seq (.seq (.region [jv 1,je 0,jw 5 (.bin .gtr .int) [.t 1,jn 40]])
 (.cond 5 (.seq (.region [jz 3 3])
 .ret)
 .skip))
 (.seq (.region [jv 1,jq (.mkfn (.func 168)) [.v 2],jk 167 [.t 0,.t 1],jt 2,jx 0 3,jx 1 3,jt 4,jm 4 5])
 (.seq (.region [jv 4,jm 3 0])
 .ret))))
abbrev rs146:List RC:=[(.v 3)]
theorem fok146 (p:Bool):FnOk Tryz.prog 146 ⟨ic146,vs146,17,rs146,p⟩:=.mk2 Tryz.func146 (by kernel_rfl) (by kernel_rfl) (by kernel_rfl) (by kernel_rfl) (by kernel_rfl)
theorem hb147:Tryz.f147.body=some (Tryz.f147.body.getD .skip):=by kernel_rfl
abbrev vs147:List Nat:=[0,1,2,4,5,6,7]
def ic147 (b147:Code):IC:=(.seq (.region [jb 2 0,jw 3 .mv [jS]])
 (.seq (.seq (.region [jw 5 .mv [.v 1]])
 (.block 0 (.rangef (.v 5) #[7] (nav [1,0,1,0,2] b147) (nav [1,0,1,0,3] b147) (.region [jw 4 (.alloc [(.cv (.int .i64 0)),(.cv (.int .i64 0))]) [],jq (.store 2) [.v 4,.v 6]])
 (.block 1 (.region [jL 2,jN 2 4,jq (.bslice 2 1 [(.cv (.int .i64 0)),(.cv (.int .i64 0))] [(0,2)]) [.t 1],jq (.append 2 16) [.t 0,.t 2],jq (.store 1) [.v 2,.t 3]])))))
 (.seq (.region [jL 2,jm 3 0])
 .ret)))
theorem cc147:QL Tryz.prog vs147 Tryz.f147.ntmps (Tryz.f147.body.getD .skip)=some (ic147 (Tryz.f147.body.getD .skip)):=by kernel_rfl
abbrev rs147:List RC:=[(.v 3)]
theorem fok147 (p:Bool):FnOk Tryz.prog 147 ⟨ic147 (Tryz.f147.body.getD .skip),vs147,13,rs147,p⟩:=FnOk.mk' Tryz.func147 hb147 (by kernel_rfl) cc147 (by kernel_rfl) (by kernel_rfl)
abbrev vs148:List Nat:=[0,1,4]
def ic148:IC:=(.seq (.region [jv 0,je 0,jm 2 1])
 (.region [jv 0,jv 2,jv 2,jq (.conv .u64) [.t 2],jk 170 [.t 3],jv 1,jk 169 [.t 0,jn 0,.t 1,.t 4,.t 5]]))
abbrev rs148:List RC:=[]
theorem fok148 (p:Bool):FnOk Tryz.prog 148 ⟨ic148,vs148,14,rs148,p⟩:=.mk2 Tryz.func148 (by kernel_rfl) (by kernel_rfl) (by kernel_rfl) (by kernel_rfl) (by kernel_rfl)
abbrev vs149:List Nat:=[0,1,2,3,4]
def ic149:IC:=(.seq (.region [jb 2 0,jb 3 1,jz 4 0])
 (.seq (.dr [[],[0],[],[2],[1,3],[],[5],[],[7],[6,8,4],[4,9],[10,9],[11,11,0,1,2,3,4,5,6,7,8,9,10,11]] [jF 0 2,jl 0,jF 0 3,jl 2,jk 103 [.t 1,.t 3],jF 1 2,jl 5,jF 1 3,jl 7,jk 103 [.t 6,.t 8],jq (.bslice 1 2 [(.cv (.int .i64 0)),(.cv (.int .i64 0))] [(0,1),(1,1)]) [.t 4,.t 9],jk 150 [.t 10],jm 4 11])
 .ret))
abbrev rs149:List RC:=[(.v 4)]
theorem fok149 (p:Bool):FnOk Tryz.prog 149 ⟨ic149,vs149,17,rs149,p⟩:=.mk2 Tryz.func149 (by kernel_rfl) (by kernel_rfl) (by kernel_rfl) (by kernel_rfl) (by kernel_rfl)
abbrev vs150:List Nat:=[0,2,3,5,6,7,8,9,14]
def ic150l0:IC:=(.seq (.region [jw 7 (.bin .lss .int) [.v 6,.v 5]])
 (.seq (.cond 7 .skip
 (.exit 0))
 (.seq (.block 1 (.seq (.region [jq (.iaS 1) [.v 4,.v 6],jl 0,jm 3 1])
 (.seq (.region [jv 3,jv 2,jw 8 (.bin .neq .int) [.t 0,.t 1]])
 (.cond 8 (.seq (.region [jv 3,jm 1 0])
 .ret)
 .skip))))
 (.region [jq (.bin .add .int) [.v 6,jn 1],jm 6 0]))))
def ic150:IC:=(.seq (.region [jz 1 0])
 (.seq (.region [jz 2 0])
 (.seq (.seq (.region [jw 4 .mv [.v 0],jw 5 (.len false) [.v 4],jz 6 0])
 (.block 0 (.loop ic150l0)))
 (.seq (.region [jv 2,jm 1 0])
 .ret))))
abbrev rs150:List RC:=[(.v 1)]
theorem fok150 (p:Bool):FnOk Tryz.prog 150 ⟨ic150,vs150,18,rs150,p⟩:=.mk2 Tryz.func150 (by kernel_rfl) (by kernel_rfl) (by kernel_rfl) (by kernel_rfl) (by kernel_rfl)
abbrev vs151:List Nat:=[0,1,2]
def ic151:IC:=(.seq (.region [jb 1 0,jw 2 .mv [.c (.cv .nilf)]])
 (.seq (.region [jq (.mkfn (.func 171)) [.v 1],jm 2 0])
 .ret))
abbrev rs151:List RC:=[(.v 2)]
theorem fok151 (p:Bool):FnOk Tryz.prog 151 ⟨ic151,vs151,4,rs151,p⟩:=.mk2 Tryz.func151 (by kernel_rfl) (by kernel_rfl) (by kernel_rfl) (by kernel_rfl) (by kernel_rfl)
abbrev vs152:List Nat:=[0,1,4,5,7,8,9,16]
def ic152l0:IC:=(.seq (.region [jw 6 (.bin .lss .int) [.v 5,.v 4]])
 (.seq (.cond 6 .skip
 (.exit 0))
 (.seq (.block 1 (.seq (.region [jv 5,jm 3 0])
 (.seq (.region [jv 1,jv 0,jv 3,ja 1 1 2,jl 3,⟨(.some 7),none,.call,[(.t 0),(.t 4)]⟩])
 (.cond 7 (.seq (.region [jv 3,jm 2 0])
 .ret)
 .skip))))
 (.region [jq (.bin .add .int) [.v 5,jn 1],jm 5 0]))))
def ic152:IC:=(.seq (.region [jz 2 0])
 (.seq (.seq (.region [jv 0,jw 4 (.len false) [.t 0],jz 5 0])
 (.block 0 (.loop ic152l0)))
 (.seq (.region [jz 2 (-1)])
 .ret)))
abbrev rs152:List RC:=[(.v 2)]
theorem fok152 (p:Bool):FnOk Tryz.prog 152 ⟨ic152,vs152,19,rs152,p⟩:=.mk2 Tryz.func152 (by kernel_rfl) (by kernel_rfl) (by kernel_rfl) (by kernel_rfl) (by kernel_rfl)
abbrev vs153:List Nat:=[0,1,4,5,6,7,8,9]
def ic153:IC:=(.seq (.region [jw 2 .mv [.c (.cv (.int .u64 0))],jw 3 .mv [.c (.cv (.int .u64 0))]])
 (.seq .skip
 (.seq (.region [jv 0,jv 1,jk 173 [.t 0,.t 1],jt 2,jx 0 3,jx 1 3,jm 6 4,jm 7 5])
 (.seq (.region [jv 6,jv 7,jm 2 0,jm 3 1])
 .ret))))
abbrev rs153:List RC:=[(.v 2),(.v 3)]
theorem fok153 (p:Bool):FnOk Tryz.prog 153 ⟨ic153,vs153,30,rs153,p⟩:=.mk2 Tryz.func153 (by kernel_rfl) (by kernel_rfl) (by kernel_rfl) (by kernel_rfl) (by kernel_rfl)
abbrev vs156:List Nat:=[0,1,2,3,4,6]
def ic156:IC:=(.seq (.region [jb 3 0,jb 4 1,jw 5 .mv [jB false]])
 (.seq (.region [jv 2,jq (.mkfn (.func 174)) [.v 3,.v 4],jk 117 [.t 0,.t 1],jm 5 2])
 .ret))
abbrev rs156:List RC:=[(.v 5)]
theorem fok156 (p:Bool):FnOk Tryz.prog 156 ⟨ic156,vs156,10,rs156,p⟩:=.mk2 Tryz.func156 (by kernel_rfl) (by kernel_rfl) (by kernel_rfl) (by kernel_rfl) (by kernel_rfl)
abbrev vs157:List Nat:=[0,2]
def ic157:IC:=(.seq (.region [jz 1 0])
 (.seq (.region [jv 0,jc 0,jG 0 1,jG 1 2,jl 3,je 4,jq (.bin .shl .int) [jn 1,.t 5],jm 1 6])
 .ret))
abbrev rs157:List RC:=[(.v 1)]
theorem fok157 (p:Bool):FnOk Tryz.prog 157 ⟨ic157,vs157,10,rs157,p⟩:=.mk2 Tryz.func157 (by kernel_rfl) (by kernel_rfl) (by kernel_rfl) (by kernel_rfl) (by kernel_rfl)
abbrev vs158:List Nat:=[0,1,2,3,4,6,7,8]
def ic158:IC:=(.seq (.region [jb 4 0,jb 5 2,jb 6 3,jw 7 .mv [jB false]])
 (.seq (.region [jv 1,jq (.mkfn (.func 176)) [.v 4,.v 5,.v 6],jk 175 [.t 0,.t 1],jm 7 2])
 .ret))
abbrev rs158:List RC:=[(.v 7)]
theorem fok158 (p:Bool):FnOk Tryz.prog 158 ⟨ic158,vs158,12,rs158,p⟩:=.mk2 Tryz.func158 (by kernel_rfl) (by kernel_rfl) (by kernel_rfl) (by kernel_rfl) (by kernel_rfl)
abbrev vs159:List Nat:=[0,1,2,3,8,9,14,34]
def ic159l0:IC:=(.seq (.seq (.dr [[],[],[0,1],[2],[3],[3],[3],[5,6,3],[7,3],[3],[3],[10,3],[9,11,3],[12,3],[4,8,13,3,3],[14,3],[3,15]] [jv 5,jv 1,jq (.bin .gtr .int) [.t 0,.t 1],jt 2,jh 3 true 3,jh 3 true 0,jh 3 true 5,jg 3 true (.iaS 1) [.t 5,.t 6],ji 3 true 7,jh 3 true 0,jh 3 true 5,jg 3 true (.bin .sub .int) [.t 10,jn 1],jg 3 true (.iaS 1) [.t 9,.t 11],ji 3 true 12,⟨none,(.some (3,true)),.call,[(.t 4),(.t 8),(.t 13)]⟩,jg 3 true (.bin .lss .int) [.t 14,jn 0],jw 7 .pick [.t 3,.t 15,jB false]])
 (.cond 7 .skip
 (.exit 2)))
 (.seq (.block 3 (.dr [[],[],[],[],[3],[],[],[6],[5,7],[8],[],[],[10,11],[12],[0,1,0,1,5,6,7,8,9,13],[14,9,0,1,5,6,7,8,9,13],[2,4,0,1,2,3,4,5,6,7,8,9,10,11,12,13,14,15],[16,13,15,0,1,2,3,4,5,6,7,8,9,10,11,12,13,14,15]] [jv 0,jv 5,jv 0,jv 5,jq (.bin .sub .int) [.t 3,jn 1],jv 0,jv 5,jq (.bin .sub .int) [.t 6,jn 1],ja 1 5 7,jl 8,jv 0,jv 5,ja 1 10 11,jl 12,ja 1 0 1,jq (.store 1) [.t 14,.t 9],ja 1 2 4,jq (.store 1) [.t 16,.t 13]]))
 (.region [jv 5,jq (.bin .sub .int) [.t 0,jn 1],jm 5 1])))
def ic159l1:IC:=(.seq (.seq (.region [jv 4,jv 2,jw 6 (.bin .lss .int) [.t 0,.t 1]])
 (.cond 6 .skip
 (.exit 0)))
 (.seq (.block 1 (.seq (.region [jv 4,jm 5 0])
 (.block 2 (.loop ic159l0))))
 (.region [jv 4,jq (.bin .add .int) [.t 0,jn 1],jm 4 1])))
def ic159:IC:=(.seq (.region [jv 1,jq (.bin .add .int) [.t 0,jn 1],jm 4 1])
 (.block 0 (.loop ic159l1)))
abbrev rs159:List RC:=[]
theorem fok159 (p:Bool):FnOk Tryz.prog 159 ⟨ic159,vs159,53,rs159,p⟩:=.mk2 Tryz.func159 (by kernel_rfl) (by kernel_rfl) (by kernel_rfl) (by kernel_rfl) (by kernel_rfl)
abbrev vs161:List Nat:=[0,1,4,5,6,7,8,9,10,11,20]
def ic161l0:IC:=(.seq (.region [jw 9 (.bin .lss .int) [.v 8,.v 7]])
 (.seq (.cond 9 .skip
 (.exit 0))
 (.seq (.block 1 (.seq (.region [jv 8,jq (.iaS 5) [.v 6,.v 8],jq (.loadN 5) [.t 1],jw 5 (.alloc [(.cv (.str (bts []))),(.cv .nils),(.cv (.int .i64 0)),(.cv (.int .i64 0)),(.cv (.int .i64 0))]) [],jm 4 0,jq (.store 5) [.v 5,.t 2]])
 (.seq (.region [jv 1,jv 4,jN 5 5,⟨none,none,.call,[(.t 0),(.t 1),(.t 2)]⟩,jm 3 3])
 (.seq (.region [jv 3,jw 10 (.bin .neq .int) [.t 0,jn 0]])
 (.cond 10 (.seq (.region [jv 4,jv 3,jm 2 0,jm 3 1])
 .ret)
 .skip)))))
 (.region [jq (.bin .add .int) [.v 8,jn 1],jm 8 0]))))
def ic161:IC:=(.seq (.region [jz 2 0,jz 3 0])
 (.seq (.seq (.region [jw 6 .mv [.v 0],jw 7 (.len false) [.v 6],jz 8 0])
 (.block 0 (.loop ic161l0)))
 (.seq (.region [jz 2 0,jz 3 0])
 .ret)))
abbrev rs161:List RC:=[(.v 2),(.v 3)]
theorem fok161 (p:Bool):FnOk Tryz.prog 161 ⟨ic161,vs161,24,rs161,p⟩:=.mk2 Tryz.func161 (by kernel_rfl) (by kernel_rfl) (by kernel_rfl) (by kernel_rfl) (by kernel_rfl)
abbrev vs162:List Nat:=[0,1,2,5,6,7,15,20,30,41,53,58]
def ic162:IC:=(.seq (.region [jb 3 2,jz 4 0])
 (.seq (.region [jv 0,jc 0,jG 0 1,jG 0 2,jl 3,je 4,jq (.bin .sub .int) [.t 5,jn 1],jm 5 6])
 (.seq (.block 0 (.seq (.region [jF 0 3,jl 0,jk 178 [.t 1],jq .not [.t 2],jm 6 3])
 (.cond 6 (.seq (.region [jz 4 6])
 .ret)
 (.seq (.region [jv 0,jc 0,jG 0 1,jG 0 2,jl 3,jv 1,jq (.slS 5 false true) [.t 4,.t 5],jq (.mkfn (.func 180)) [.v 3],jk 179 [.t 6,.t 7],jm 7 8])
 (.cond 7 (.seq (.region [jz 4 5])
 .ret)
 (.seq (.dr [[],[0],[1],[],[3],[4],[5],[6],[7],[2,8],[9]] [jF 1 3,jl 0,je 1,jv 0,jc 3,jG 0 4,jG 0 5,jl 6,je 7,jq (.bin .gtr .int) [.t 2,.t 8],jm 8 9])
 (.cond 8 (.seq (.region [jz 4 3])
 .ret)
 (.seq (.region [jv 5,jF 1 3,jl 1,jk 156 [jn 0,.t 0,.t 2],jt 3,jh 4 false 5,jg 4 false (.fadd 2) [.v 3],ji 4 false 6,jg 4 false (.bslice 1 1 [(.cv (.int .i64 0))] [(0,1)]) [.t 7],jf 4 false 156 [jn (-1),.t 5,.t 8],jq .pick [.t 4,jB true,.t 9],jm 9 10])
 (.cond 9 (.seq (.region [jz 4 4])
 .ret)
 (.seq (.region [jF 2 3,jl 0,jv 1,jq (.bin .eql .int) [.t 1,.t 2],jm 10 3])
 (.cond 10 (.seq (.region [jz 4 2])
 .ret)
 (.seq (.region [jF 3 3,jl 0,jF 4 3,jl 2,jq (.bslice 1 2 [(.cv (.int .i64 0)),(.cv (.int .i64 0))] [(0,1),(1,1)]) [.t 1,.t 3],jk 156 [jn 0,jn 100,.t 4],jm 11 5])
 (.cond 11 (.seq (.region [jz 4 7])
 .ret)
 .skip)))))))))))))
 (.seq (.region [jz 4 0])
 .ret))))
abbrev rs162:List RC:=[(.v 4)]
theorem fok162 (p:Bool):FnOk Tryz.prog 162 ⟨ic162,vs162,65,rs162,p⟩:=.mk2 Tryz.func162 (by kernel_rfl) (by kernel_rfl) (by kernel_rfl) (by kernel_rfl) (by kernel_rfl)
abbrev vs163:List Nat:=[0,1,4,5,6,7,8,9,10,11,20]
def ic163l0:IC:=(.seq (.region [jw 9 (.bin .lss .int) [.v 8,.v 7]])
 (.seq (.cond 9 .skip
 (.exit 0))
 (.seq (.block 1 (.seq (.region [jv 8,jq (.iaS 1) [.v 6,.v 8],jl 1,jm 4 0,jm 5 2])
 (.seq (.region [jv 1,jv 4,jv 5,⟨none,none,.call,[(.t 0),(.t 1),(.t 2)]⟩,jm 3 3])
 (.seq (.region [jv 3,jw 10 (.bin .neq .int) [.t 0,jn 0]])
 (.cond 10 (.seq (.region [jv 4,jv 3,jm 2 0,jm 3 1])
 .ret)
 .skip)))))
 (.region [jq (.bin .add .int) [.v 8,jn 1],jm 8 0]))))
def ic163:IC:=(.seq (.region [jz 2 0,jz 3 0])
 (.seq (.seq (.region [jw 6 .mv [.v 0],jw 7 (.len false) [.v 6],jz 8 0])
 (.block 0 (.loop ic163l0)))
 (.seq (.region [jz 2 0,jz 3 0])
 .ret)))
abbrev rs163:List RC:=[(.v 2),(.v 3)]
theorem fok163 (p:Bool):FnOk Tryz.prog 163 ⟨ic163,vs163,24,rs163,p⟩:=.mk2 Tryz.func163 (by kernel_rfl) (by kernel_rfl) (by kernel_rfl) (by kernel_rfl) (by kernel_rfl)
abbrev vs164:List Nat:=[0,1,2,6,7,11]
def ic164:IC:=(.seq (.region [jz 3 0])
 (.seq (.block 0 (.seq (.region [jv 2,jk 178 [.t 0],jq .not [.t 1],jm 4 2])
 (.cond 4 (.seq (.region [jz 3 6])
 .ret)
 (.seq (.region [jv 0,jc 0,jG 0 1,jG 1 2,jl 3,jv 1,jq (.slS 1 false true) [.t 4,.t 5],jv 2,jk 181 [.t 6,.t 7],jm 5 8])
 (.cond 5 (.seq (.region [jz 3 5])
 .ret)
 .skip)))))
 (.seq (.region [jz 3 0])
 .ret)))
abbrev rs164:List RC:=[(.v 3)]
theorem fok164 (p:Bool):FnOk Tryz.prog 164 ⟨ic164,vs164,21,rs164,p⟩:=.mk2 Tryz.func164 (by kernel_rfl) (by kernel_rfl) (by kernel_rfl) (by kernel_rfl) (by kernel_rfl)
abbrev vs165:List Nat:=[0,1,2,3,4,10,11,12]
def ic165l0:IC:=(.seq (.region [jw 7 (.bin .lss .int) [.v 6,.v 5]])
 (.seq (.cond 7 .skip
 (.exit 0))
 (.seq (.block 1 (.seq (.region [jv 6,jm 2 0])
 (.seq (.region [jL 1,jc 0,jG 0 1,jG 0 2,jl 3,je 4,jq (.mkslice 1 1 [(.cv (.bool false))]) [.t 5,.t 5],jw 3 (.alloc [(.cv .nils)]) [],jq (.store 1) [.v 3,.t 6]])
 (.seq (.region [jw 4 (.alloc [(.cv .nilf)]) []])
 (.seq (.region [jq (.mkfn (.func 182)) [.v 3,.v 1,.v 4],jq (.store 1) [.v 4,.t 0]])
 (.seq (.region [jL 4,jv 2,⟨none,none,.call,[(.t 0),(.t 1)]⟩])
 (.dr [[],[],[1],[2],[3],[],[5],[4,6],[0,0,1,2,3,4,5,6,7],[8,0,1,2,3,4,5,6,7],[9,7,7,0,1,2,3,4,5,6,7]] [jL 1,jL 1,jc 1,jG 2 2,jl 3,jL 3,jq (.bslice 1 1 [(.cv .nils)] [(0,1)]) [.t 5],jq (.append 1 24) [.t 4,.t 6],jc 0,jG 2 8,jq (.store 1) [.t 9,.t 7]])))))))
 (.region [jq (.bin .add .int) [.v 6,jn 1],jm 6 0]))))
def ic165:IC:=(.seq (.region [jb 1 0])
 (.seq (.region [jL 1,jc 0,jG 0 1,jG 0 2,jl 3,jw 5 (.len false) [.t 4],jz 6 0])
 (.block 0 (.loop ic165l0))))
abbrev rs165:List RC:=[]
theorem fok165 (p:Bool):FnOk Tryz.prog 165 ⟨ic165,vs165,36,rs165,p⟩:=.mk2 Tryz.func165 (by kernel_rfl) (by kernel_rfl) (by kernel_rfl) (by kernel_rfl) (by kernel_rfl)
abbrev vs166:List Nat:=[0,1,2,4]
def ic166:IC:=(.seq (.region [jw 3 .mv [jB false]])
 (.seq (.dr [[],[0],[1],[2],[],[3,4],[5],[],[6,7],[8],[9,0,1,2,3,4,5,6,7,8,9]] [jL 1,jc 0,jG 2 1,jl 2,jv 0,ja 1 3 4,jl 5,jL 2,ja 1 6 7,jl 8,jm 3 9])
 .ret))
abbrev rs166:List RC:=[(.v 3)]
theorem fok166 (p:Bool):FnOk Tryz.prog 166 ⟨ic166,vs166,15,rs166,p⟩:=.mk2 Tryz.func166 (by kernel_rfl) (by kernel_rfl) (by kernel_rfl) (by kernel_rfl) (by kernel_rfl)
abbrev vs167:List Nat:=[0,1,4,5,6,7,8,9,10,11,20]
def ic167l0:IC:=(.seq (.region [jw 9 (.bin .lss .int) [.v 8,.v 7]])
 (.seq (.cond 9 .skip
 (.exit 0))
 (.seq (.block 1 (.seq (.region [jv 8,jq (.iaS 2) [.v 6,.v 8],jq (.loadN 2) [.t 1],jw 5 (.alloc [(.cv (.int .i64 0)),(.cv (.int .i64 0))]) [],jm 4 0,jq (.store 2) [.v 5,.t 2]])
 (.seq (.region [jv 1,jv 4,jN 2 5,⟨none,none,.call,[(.t 0),(.t 1),(.t 2)]⟩,jm 3 3])
 (.seq (.region [jv 3,jw 10 (.bin .neq .int) [.t 0,jn 0]])
 (.cond 10 (.seq (.region [jv 4,jv 3,jm 2 0,jm 3 1])
 .ret)
 .skip)))))
 (.region [jq (.bin .add .int) [.v 8,jn 1],jm 8 0]))))
def ic167:IC:=(.seq (.region [jz 2 0,jz 3 0])
 (.seq (.seq (.region [jw 6 .mv [.v 0],jw 7 (.len false) [.v 6],jz 8 0])
 (.block 0 (.loop ic167l0)))
 (.seq (.region [jz 2 0,jz 3 0])
 .ret)))
abbrev rs167:List RC:=[(.v 2),(.v 3)]
theorem fok167 (p:Bool):FnOk Tryz.prog 167 ⟨ic167,vs167,24,rs167,p⟩:=.mk2 Tryz.func167 (by kernel_rfl) (by kernel_rfl) (by kernel_rfl) (by kernel_rfl) (by kernel_rfl)
abbrev vs168:List Nat:=[0,1,2,4,5,6,18]
def ic168:IC:=(.seq (.region [jb 3 1,jz 4 0])
 (.seq (.block 0 (.seq (.dr [[],[0],[1],[2],[3],[4],[5],[],[7],[8],[6,9],[10,10]] [jL 2,jc 0,jG 0 1,jG 0 2,jl 3,je 4,jq (.bin .sub .int) [.t 5,jn 1],jF 0 3,jl 7,jq (.bslice 1 1 [(.cv (.int .i64 0))] [(0,1)]) [.t 8],jk 156 [jn 0,.t 6,.t 9],jm 5 10])
 (.cond 5 (.seq (.region [jz 4 4])
 .ret)
 (.seq (.dr [[],[0],[1],[],[3],[4],[2,5,1],[6,6]] [jL 2,jk 157 [.t 0],jq (.bin .sub .int) [.t 1,jn 1],jF 1 3,jl 3,jq (.bslice 1 1 [(.cv (.int .i64 0))] [(0,1)]) [.t 4],jk 156 [jn 0,.t 2,.t 5],jm 6 6])
 (.cond 6 (.seq (.region [jz 4 7])
 .ret)
 .skip)))))
 (.seq (.region [jz 4 0])
 .ret)))
abbrev rs168:List RC:=[(.v 4)]
theorem fok168 (p:Bool):FnOk Tryz.prog 168 ⟨ic168,vs168,26,rs168,p⟩:=.mk2 Tryz.func168 (by kernel_rfl) (by kernel_rfl) (by kernel_rfl) (by kernel_rfl) (by kernel_rfl)
abbrev vs169:List Nat:=[0,1,2,3,4,10,11,12,13,14,15,16,17,18,19,20,25,32,39,56,75,80,97,125]
def ic169l0:IC:=(.block 1 (.seq (.region [jv 2,jv 1,jq (.bin .sub .int) [.t 0,.t 1],jm 7 2])
 (.seq (.seq (.region [jv 7,jw 16 (.bin .leq .int) [.t 0,jn 12]])
 (.cond 16 (.seq (.region [jv 0,jv 1,jv 2,jv 4,jk 183 [.t 0,.t 1,.t 2,.t 3]])
 .ret)
 .skip))
 (.seq (.seq (.region [jv 3,jw 17 (.bin .eql .int) [.t 0,jn 0]])
 (.cond 17 (.seq (.region [jv 0,jv 1,jv 2,jv 4,jk 184 [.t 0,.t 1,.t 2,.t 3]])
 .ret)
 .skip))
 (.seq (.seq (.region [jv 5,jw 18 .not [.t 0]])
 (.cond 18 (.seq (.region [jv 0,jv 1,jv 2,jv 4,jk 185 [.t 0,.t 1,.t 2,.t 3]])
 (.region [jv 3,jq (.bin .sub .int) [.t 0,jn 1],jm 3 1]))
 .skip))
 (.seq (.region [jv 0,jv 1,jv 2,jv 4,jk 186 [.t 0,.t 1,.t 2,.t 3],jt 4,jx 0 5,jx 1 5,jm 8 6,jm 9 7])
 (.seq (.seq (.region [jv 9,jw 19 (.bin .eql .int) [.t 0,jn 2]])
 (.cond 19 (.seq (.region [jv 0,jv 1,jv 2,jv 4,jk 187 [.t 0,.t 1,.t 2,.t 3]])
 (.seq (.region [jv 2,jq (.bin .sub .int) [.t 0,jn 1],jv 8,jv 1,jq (.bin .sub .int) [.t 2,.t 3],jq (.bin .sub .int) [.t 1,.t 4],jm 8 5])
 (.region [jz 9 1])))
 .skip))
 (.seq (.seq (.region [jv 5,jt 0,jh 1 true 6,jq .pick [.t 1,.t 2,jB false],jt 3,jh 4 true 9,jg 4 true (.bin .eql .int) [.t 5,jn 1],jw 20 .pick [.t 4,.t 6,jB false]])
 (.cond 20 (.seq (.region [jv 0,jv 1,jv 2,jv 4,jd 21 188 [.t 0,.t 1,.t 2,.t 3]])
 (.cond 21 .ret
 .skip))
 .skip))
 (.seq (.seq (.dr [[],[0],[1],[2],[2],[2],[5,2],[4,6,2],[7,2],[2],[2],[9,10,2],[11,2],[3,8,12,2,2],[13,2],[14,2],[2,15]] [jv 1,jq (.bin .gtr .int) [.t 0,jn 0],jt 1,jh 2 true 4,jh 2 true 0,jh 2 true 1,jg 2 true (.bin .sub .int) [.t 5,jn 1],jg 2 true (.iaS 2) [.t 4,.t 6],jg 2 true (.loadN 2) [.t 7],jh 2 true 0,jh 2 true 8,jg 2 true (.iaS 2) [.t 9,.t 10],jg 2 true (.loadN 2) [.t 11],⟨none,(.some (2,true)),.call,[(.t 3),(.t 8),(.t 12)]⟩,jg 2 true (.bin .lss .int) [.t 13,jn 0],jg 2 true .not [.t 14],jw 22 .pick [.t 2,.t 15,jB false]])
 (.cond 22 (.seq (.region [jv 0,jv 1,jv 2,jv 8,jv 4,jk 189 [.t 0,.t 1,.t 2,.t 3,.t 4],jm 10 5])
 (.seq (.region [jv 10,jm 1 0])
 (.exit 1)))
 .skip))
 (.seq (.region [jv 0,jv 1,jv 2,jv 8,jv 4,jk 190 [.t 0,.t 1,.t 2,.t 3,.t 4],jt 5,jx 0 6,jx 1 6,jm 11 7,jm 12 8])
 (.seq (.region [jv 12,jm 6 0])
 (.seq (.region [jv 11,jv 1,jq (.bin .sub .int) [.t 0,.t 1],jv 2,jv 11,jq (.bin .sub .int) [.t 3,.t 4],jm 13 2,jm 14 5])
 (.seq (.region [jv 7,jq (.bin .quo .int) [.t 0,jn 8],jm 15 1])
 (.seq (.region [jv 13,jv 14,jw 23 (.bin .lss .int) [.t 0,.t 1]])
 (.cond 23 (.seq (.region [jv 13,jv 15,jq (.bin .geq .int) [.t 0,.t 1],jm 5 2])
 (.seq (.region [jv 0,jv 1,jv 11,jv 3,jv 4,jk 169 [.t 0,.t 1,.t 2,.t 3,.t 4]])
 (.region [jv 11,jq (.bin .add .int) [.t 0,jn 1],jm 1 1])))
 (.seq (.region [jv 14,jv 15,jq (.bin .geq .int) [.t 0,.t 1],jm 5 2])
 (.seq (.region [jv 0,jv 11,jq (.bin .add .int) [.t 1,jn 1],jv 2,jv 3,jv 4,jk 169 [.t 0,.t 2,.t 3,.t 4,.t 5]])
 (.region [jv 11,jm 2 0]))))))))))))))))))
def ic169:IC:=(.seq (.region [jw 5 .mv [jB true]])
 (.seq (.region [jw 6 .mv [jB true]])
 (.block 0 (.loop ic169l0))))
abbrev rs169:List RC:=[]
theorem fok169 (p:Bool):FnOk Tryz.prog 169 ⟨ic169,vs169,148,rs169,p⟩:=.mk2 Tryz.func169 (by kernel_rfl) (by kernel_rfl) (by kernel_rfl) (by kernel_rfl) (by kernel_rfl)
abbrev vs170:List Nat:=[0,2]
def ic170:IC:=(.seq (.region [jz 1 0])
 (.seq .skip
 (.seq (.region [jv 0,jk 192 [.t 0],jm 1 1])
 .ret)))
abbrev rs170:List RC:=[(.v 1)]
theorem fok170 (p:Bool):FnOk Tryz.prog 170 ⟨ic170,vs170,8,rs170,p⟩:=.mk2 Tryz.func170 (by kernel_rfl) (by kernel_rfl) (by kernel_rfl) (by kernel_rfl) (by kernel_rfl)
abbrev vs171:List Nat:=[0,1,4,5,6,7,8,14]
def ic171l0:IC:=(.seq (.region [jw 6 (.bin .lss .int) [.v 5,.v 4]])
 (.seq (.cond 6 .skip
 (.exit 0))
 (.seq (.block 1 (.seq (.region [jq (.iaS 2) [.v 3,.v 5],jq (.loadN 2) [.t 0],jw 2 (.alloc [(.cv (.int .i64 0)),(.cv (.int .i64 0))]) [],jq (.store 2) [.v 2,.t 1]])
 (.seq (.region [jv 0,jN 2 2,⟨none,none,.call,[(.t 0),(.t 1)]⟩,jw 7 .not [.t 2]])
 (.cond 7 .ret
 .skip))))
 (.region [jq (.bin .add .int) [.v 5,jn 1],jm 5 0]))))
def ic171:IC:=(.seq (.region [jw 3 .load1 [.v 1],jw 4 (.len false) [.v 3],jz 5 0])
 (.block 0 (.loop ic171l0)))
abbrev rs171:List RC:=[]
theorem fok171 (p:Bool):FnOk Tryz.prog 171 ⟨ic171,vs171,16,rs171,p⟩:=.mk2 Tryz.func171 (by kernel_rfl) (by kernel_rfl) (by kernel_rfl) (by kernel_rfl) (by kernel_rfl)
abbrev vs173:List Nat:=[0,1,4,5,6,7,8,9,10,11,12,13]
def ic173:IC:=(.seq (.region [jw 2 .mv [.c (.cv (.int .u64 0))],jw 3 .mv [.c (.cv (.int .u64 0))]])
 (.seq (.region [jv 0,jq (.bin .and .int) [.t 0,.c (.cv (.int .u64 4294967295))],jm 4 1])
 (.seq (.region [jv 0,jq (.bin .shr .int) [.t 0,.c (.cv (.int .u64 32))],jm 5 1])
 (.seq (.region [jv 1,jq (.bin .and .int) [.t 0,.c (.cv (.int .u64 4294967295))],jm 6 1])
 (.seq (.region [jv 1,jq (.bin .shr .int) [.t 0,.c (.cv (.int .u64 32))],jm 7 1])
 (.seq (.region [jv 4,jv 6,jq (.bin .mul .int) [.t 0,.t 1],jm 8 2])
 (.seq (.region [jv 5,jv 6,jq (.bin .mul .int) [.t 0,.t 1],jv 8,jq (.bin .shr .int) [.t 3,.c (.cv (.int .u64 32))],jq (.bin .add .int) [.t 2,.t 4],jm 9 5])
 (.seq (.region [jv 9,jq (.bin .and .int) [.t 0,.c (.cv (.int .u64 4294967295))],jm 10 1])
 (.seq (.region [jv 9,jq (.bin .shr .int) [.t 0,.c (.cv (.int .u64 32))],jm 11 1])
 (.seq (.region [jv 10,jv 4,jv 7,jq (.bin .mul .int) [.t 1,.t 2],jq (.bin .add .int) [.t 0,.t 3],jm 10 4])
 (.seq (.region [jv 5,jv 7,jq (.bin .mul .int) [.t 0,.t 1],jv 11,jq (.bin .add .int) [.t 2,.t 3],jv 10,jq (.bin .shr .int) [.t 5,.c (.cv (.int .u64 32))],jq (.bin .add .int) [.t 4,.t 6],jm 2 7])
 (.seq (.region [jv 0,jv 1,jq (.bin .mul .int) [.t 0,.t 1],jm 3 2])
 .ret))))))))))))
abbrev rs173:List RC:=[(.v 2),(.v 3)]
theorem fok173 (p:Bool):FnOk Tryz.prog 173 ⟨ic173,vs173,51,rs173,p⟩:=.mk2 Tryz.func173 (by kernel_rfl) (by kernel_rfl) (by kernel_rfl) (by kernel_rfl) (by kernel_rfl)
abbrev vs174:List Nat:=[0,1,2,4]
def ic174:IC:=(.seq (.region [jw 3 .mv [jB false]])
 (.seq (.region [jv 0,jL 1,jq (.bin .lss .int) [.t 0,.t 1],jt 2,jh 3 false 0,jg 3 false .load1 [.v 2],jg 3 false (.bin .gtr .int) [.t 4,.t 5],jq .pick [.t 3,jB true,.t 6],jm 3 7])
 .ret))
abbrev rs174:List RC:=[(.v 3)]
theorem fok174 (p:Bool):FnOk Tryz.prog 174 ⟨ic174,vs174,13,rs174,p⟩:=.mk2 Tryz.func174 (by kernel_rfl) (by kernel_rfl) (by kernel_rfl) (by kernel_rfl) (by kernel_rfl)
abbrev vs175:List Nat:=[0,1,4]
def ic175:IC:=(.seq (.region [jw 2 .mv [jB false]])
 (.seq (.region [jv 0,jv 1,jk 193 [.t 0,.t 1],jq (.bin .geq .int) [.t 2,jn 0],jm 2 3])
 .ret))
abbrev rs175:List RC:=[(.v 2)]
theorem fok175 (p:Bool):FnOk Tryz.prog 175 ⟨ic175,vs175,9,rs175,p⟩:=.mk2 Tryz.func175 (by kernel_rfl) (by kernel_rfl) (by kernel_rfl) (by kernel_rfl) (by kernel_rfl)
abbrev vs176:List Nat:=[0,1,2,3,4,5]
def ic176:IC:=(.seq (.region [jb 4 0,jw 5 .mv [jB false]])
 (.seq (.dr [[],[0],[1],[2],[],[4],[3,5],[6],[],[7,8],[9],[10],[11],[12,11],[11],[13,14,11],[15,11],[11,16],[17,11,0,1,2,3,4,5,6,7,8,9,10,11,12,13,14,15,16,17]] [jL 1,jc 0,jG 2 1,jl 2,jF 0 4,jl 4,ja 1 3 5,jl 6,jL 2,ja 1 7 8,jl 9,jt 10,jg 11 true (.fadd 1) [.v 4],ji 11 true 12,jg 11 true .load1 [.v 3],jg 11 true (.bin .and .int) [.t 13,.t 14],jg 11 true (.bin .eql .int) [.t 15,jn 0],jq .pick [.t 11,.t 16,jB false],jm 5 17])
 .ret))
abbrev rs176:List RC:=[(.v 5)]
theorem fok176 (p:Bool):FnOk Tryz.prog 176 ⟨ic176,vs176,24,rs176,p⟩:=.mk2 Tryz.func176 (by kernel_rfl) (by kernel_rfl) (by kernel_rfl) (by kernel_rfl) (by kernel_rfl)
abbrev vs178:List Nat:=[0,2,3,4,6,7,8,28]
def ic178l0:IC:=(.seq (.region [jw 5 .snext [.v 4],jw 6 (.extract 0) [.v 5]])
 (.seq (.cond 6 .skip
 (.exit 0))
 (.block 1 (.seq (.region [jq (.extract 1) [.v 5],jq (.extract 2) [.v 5],jm 2 0,jm 3 1])
 (.seq (.region [jv 3,jq (.bin .lss .int) [.t 0,.c (.cv (.int .i32 97))],jt 1,jh 2 false 3,jg 2 false (.bin .gtr .int) [.t 3,.c (.cv (.int .i32 122))],jq .pick [.t 2,jB true,.t 4],jt 5,jh 6 true 2,jg 6 true (.bin .eql .int) [.t 7,jn 0],jg 6 true .mv [.t 8],jh 9 false 3,jg 9 false (.bin .lss .int) [.t 10,.c (.cv (.int .i32 48))],jg 6 true .pick [.t 9,jB true,.t 11],jg 6 true .mv [.t 12],jh 13 false 3,jg 13 false (.bin .gtr .int) [.t 14,.c (.cv (.int .i32 57))],jg 6 true .pick [.t 13,jB true,.t 15],jw 7 .pick [.t 6,.t 16,jB false]])
 (.cond 7 (.seq (.region [jw 1 .mv [jB false]])
 .ret)
 .skip))))))
def ic178:IC:=(.seq (.region [jw 1 .mv [jB false]])
 (.seq (.seq (.region [jv 0,jw 4 .rstr [.t 0]])
 (.block 0 (.loop ic178l0)))
 (.seq (.region [jv 0,jq (.len true) [.t 0],jq (.bslice 1 1 [(.cv (.int .i64 0))] [(0,1)]) [.t 1],jk 156 [jn 1,jn 16,.t 2],jq .not [.t 3],jm 1 4])
 .ret)))
abbrev rs178:List RC:=[(.v 1)]
theorem fok178 (p:Bool):FnOk Tryz.prog 178 ⟨ic178,vs178,34,rs178,p⟩:=.mk2 Tryz.func178 (by kernel_rfl) (by kernel_rfl) (by kernel_rfl) (by kernel_rfl) (by kernel_rfl)
abbrev vs179:List Nat:=[0,1,4]
def ic179:IC:=(.seq (.region [jw 2 .mv [jB false]])
 (.seq (.region [jv 0,jv 1,jk 195 [.t 0,.t 1],jq (.bin .geq .int) [.t 2,jn 0],jm 2 3])
 .ret))
abbrev rs179:List RC:=[(.v 2)]
theorem fok179 (p:Bool):FnOk Tryz.prog 179 ⟨ic179,vs179,9,rs179,p⟩:=.mk2 Tryz.func179 (by kernel_rfl) (by kernel_rfl) (by kernel_rfl) (by kernel_rfl) (by kernel_rfl)
abbrev vs180:List Nat:=[0,1,2,3]
def ic180:IC:=(.seq (.region [jb 2 0,jw 3 .mv [jB false]])
 (.seq (.region [jF 0 2,jl 0,jF 0 1,jl 2,jq (.bin .eql .str) [.t 1,.t 3],jm 3 4])
 .ret))
abbrev rs180:List RC:=[(.v 3)]
theorem fok180 (p:Bool):FnOk Tryz.prog 180 ⟨ic180,vs180,9,rs180,p⟩:=.mk2 Tryz.func180 (by kernel_rfl) (by kernel_rfl) (by kernel_rfl) (by kernel_rfl) (by kernel_rfl)
abbrev vs181:List Nat:=[0,1,4]
def ic181:IC:=(.seq (.region [jw 2 .mv [jB false]])
 (.seq (.region [jv 0,jv 1,jk 196 [.t 0,.t 1],jq (.bin .geq .int) [.t 2,jn 0],jm 2 3])
 .ret))
abbrev rs181:List RC:=[(.v 2)]
theorem fok181 (p:Bool):FnOk Tryz.prog 181 ⟨ic181,vs181,9,rs181,p⟩:=.mk2 Tryz.func181 (by kernel_rfl) (by kernel_rfl) (by kernel_rfl) (by kernel_rfl) (by kernel_rfl)
abbrev vs182:List Nat:=[0,1,2,3,6,10,22,23,24,25]
def ic182l0:IC:=(.seq (.region [jw 9 (.bin .lss .int) [.v 8,.v 7]])
 (.seq (.cond 9 .skip
 (.exit 0))
 (.seq (.block 1 (.seq (.region [jq (.iaS 1) [.v 6,.v 8],jl 0,jm 4 1])
 (.region [jL 3,jv 4,⟨none,none,.call,[(.t 0),(.t 1)]⟩])))
 (.region [jq (.bin .add .int) [.v 8,jn 1],jm 8 0]))))
def ic182:IC:=(.seq (.seq (.region [jL 1,jv 0,ja 1 0 1,jw 5 .load1 [.t 2]])
 (.cond 5 .ret
 .skip))
 (.seq (.region [jL 1,jv 0,ja 1 0 1,jq (.store 1) [.t 2,jB true]])
 (.seq (.region [jL 2,jc 0,jG 0 1,jG 0 2,jl 3,jv 0,ja 5 4 5,jG 1 6,jw 6 .load1 [.t 7],jw 7 (.len false) [.v 6],jz 8 0])
 (.block 0 (.loop ic182l0)))))
abbrev rs182:List RC:=[]
theorem fok182 (p:Bool):FnOk Tryz.prog 182 ⟨ic182,vs182,32,rs182,p⟩:=.mk2 Tryz.func182 (by kernel_rfl) (by kernel_rfl) (by kernel_rfl) (by kernel_rfl) (by kernel_rfl)
abbrev vs183:List Nat:=[0,1,2,3,8,9,14,34]
def ic183l0:IC:=(.seq (.seq (.dr [[],[],[0,1],[2],[3],[3],[3],[5,6,3],[7,3],[3],[3],[10,3],[9,11,3],[12,3],[4,8,13,3,3],[14,3],[3,15]] [jv 5,jv 1,jq (.bin .gtr .int) [.t 0,.t 1],jt 2,jh 3 true 3,jh 3 true 0,jh 3 true 5,jg 3 true (.iaS 2) [.t 5,.t 6],jg 3 true (.loadN 2) [.t 7],jh 3 true 0,jh 3 true 5,jg 3 true (.bin .sub .int) [.t 10,jn 1],jg 3 true (.iaS 2) [.t 9,.t 11],jg 3 true (.loadN 2) [.t 12],⟨none,(.some (3,true)),.call,[(.t 4),(.t 8),(.t 13)]⟩,jg 3 true (.bin .lss .int) [.t 14,jn 0],jw 7 .pick [.t 3,.t 15,jB false]])
 (.cond 7 .skip
 (.exit 2)))
 (.seq (.block 3 (.dr [[],[],[],[],[3],[],[],[6],[5,7],[8],[],[],[10,11],[12],[0,1,0,1,5,6,7,8,9,13],[14,9,0,1,5,6,7,8,9,13],[2,4,0,1,2,3,4,5,6,7,8,9,10,11,12,13,14,15],[16,13,15,0,1,2,3,4,5,6,7,8,9,10,11,12,13,14,15]] [jv 0,jv 5,jv 0,jv 5,jq (.bin .sub .int) [.t 3,jn 1],jv 0,jv 5,jq (.bin .sub .int) [.t 6,jn 1],ja 2 5 7,jq (.loadN 2) [.t 8],jv 0,jv 5,ja 2 10 11,jq (.loadN 2) [.t 12],ja 2 0 1,jq (.store 2) [.t 14,.t 9],ja 2 2 4,jq (.store 2) [.t 16,.t 13]]))
 (.region [jv 5,jq (.bin .sub .int) [.t 0,jn 1],jm 5 1])))
def ic183l1:IC:=(.seq (.seq (.region [jv 4,jv 2,jw 6 (.bin .lss .int) [.t 0,.t 1]])
 (.cond 6 .skip
 (.exit 0)))
 (.seq (.block 1 (.seq (.region [jv 4,jm 5 0])
 (.block 2 (.loop ic183l0))))
 (.region [jv 4,jq (.bin .add .int) [.t 0,jn 1],jm 4 1])))
def ic183:IC:=(.seq (.region [jv 1,jq (.bin .add .int) [.t 0,jn 1],jm 4 1])
 (.block 0 (.loop ic183l1)))
abbrev rs183:List RC:=[]
theorem fok183 (p:Bool):FnOk Tryz.prog 183 ⟨ic183,vs183,53,rs183,p⟩:=.mk2 Tryz.func183 (by kernel_rfl) (by kernel_rfl) (by kernel_rfl) (by kernel_rfl) (by kernel_rfl)
abbrev vs192:List Nat:=[0,2,4,8,14]
def ic192:IC:=(.seq (.region [jz 1 0])
 (.seq (.seq (.region [jv 0,jw 2 (.bin .geq .int) [.t 0,.c (.cv (.int .u64 4294967296))]])
 (.cond 2 (.seq (.region [jv 0,jq (.bin .shr .int) [.t 0,.c (.cv (.int .u64 32))],jm 0 1])
 (.region [jz 1 32]))
 .skip))
 (.seq (.seq (.region [jv 0,jw 3 (.bin .geq .int) [.t 0,.c (.cv (.int .u64 65536))]])
 (.cond 3 (.seq (.region [jv 0,jq (.bin .shr .int) [.t 0,.c (.cv (.int .u64 16))],jm 0 1])
 (.region [jv 1,jq (.bin .add .int) [.t 0,jn 16],jm 1 1]))
 .skip))
 (.seq (.seq (.region [jv 0,jw 4 (.bin .geq .int) [.t 0,.c (.cv (.int .u64 256))]])
 (.cond 4 (.seq (.region [jv 0,jq (.bin .shr .int) [.t 0,.c (.cv (.int .u64 8))],jm 0 1])
 (.region [jv 1,jq (.bin .add .int) [.t 0,jn 8],jm 1 1]))
 .skip))
 (.seq (.region [jv 1,jv 0,jq (.conv .u8) [.t 1],jq .ixStr [.c (.cv (.str (bts [0,1,2,2,3,3,3,3,4,4,4,4,4,4,4,4,5,5,5,5,5,5,5,5,5,5,5,5,5,5,5,5,6,6,6,6,6,6,6,6,6,6,6,6,6,6,6,6,6,6,6,6,6,6,6,6,6,6,6,6,6,6,6,6,7,7,7,7,7,7,7,7,7,7,7,7,7,7,7,7,7,7,7,7,7,7,7,7,7,7,7,7,7,7,7,7,7,7,7,7,7,7,7,7,7,7,7,7,7,7,7,7,7,7,7,7,7,7,7,7,7,7,7,7,7,7,7,7,8,8,8,8,8,8,8,8,8,8,8,8,8,8,8,8,8,8,8,8,8,8,8,8,8,8,8,8,8,8,8,8,8,8,8,8,8,8,8,8,8,8,8,8,8,8,8,8,8,8,8,8,8,8,8,8,8,8,8,8,8,8,8,8,8,8,8,8,8,8,8,8,8,8,8,8,8,8,8,8,8,8,8,8,8,8,8,8,8,8,8,8,8,8,8,8,8,8,8,8,8,8,8,8,8,8,8,8,8,8,8,8,8,8,8,8,8,8,8,8,8,8,8,8,8,8,8,8]))),.t 2],jq (.conv .i64) [.t 3],jq (.bin .add .int) [.t 0,.t 4],jm 1 5])
 .ret)))))
abbrev rs192:List RC:=[(.v 1)]
theorem fok192 (p:Bool):FnOk Tryz.prog 192 ⟨ic192,vs192,25,rs192,p⟩:=.mk2 Tryz.func192 (by kernel_rfl) (by kernel_rfl) (by kernel_rfl) (by kernel_rfl) (by kernel_rfl)
abbrev vs193:List Nat:=[0,1,4,5,7,8,9,16]
def ic193l0:IC:=(.seq (.region [jw 6 (.bin .lss .int) [.v 5,.v 4]])
 (.seq (.cond 6 .skip
 (.exit 0))
 (.seq (.block 1 (.seq (.region [jv 5,jm 3 0])
 (.seq (.region [jv 1,jv 0,jv 3,ja 2 1 2,jq (.loadN 2) [.t 3],⟨(.some 7),none,.call,[(.t 0),(.t 4)]⟩])
 (.cond 7 (.seq (.region [jv 3,jm 2 0])
 .ret)
 .skip))))
 (.region [jq (.bin .add .int) [.v 5,jn 1],jm 5 0]))))
def ic193:IC:=(.seq (.region [jz 2 0])
 (.seq (.seq (.region [jv 0,jw 4 (.len false) [.t 0],jz 5 0])
 (.block 0 (.loop ic193l0)))
 (.seq (.region [jz 2 (-1)])
 .ret)))
abbrev rs193:List RC:=[(.v 2)]
theorem fok193 (p:Bool):FnOk Tryz.prog 193 ⟨ic193,vs193,19,rs193,p⟩:=.mk2 Tryz.func193 (by kernel_rfl) (by kernel_rfl) (by kernel_rfl) (by kernel_rfl) (by kernel_rfl)
abbrev vs195:List Nat:=[0,1,4,5,7,8,9,16]
def ic195l0:IC:=(.seq (.region [jw 6 (.bin .lss .int) [.v 5,.v 4]])
 (.seq (.cond 6 .skip
 (.exit 0))
 (.seq (.block 1 (.seq (.region [jv 5,jm 3 0])
 (.seq (.region [jv 1,jv 0,jv 3,ja 5 1 2,jq (.loadN 5) [.t 3],⟨(.some 7),none,.call,[(.t 0),(.t 4)]⟩])
 (.cond 7 (.seq (.region [jv 3,jm 2 0])
 .ret)
 .skip))))
 (.region [jq (.bin .add .int) [.v 5,jn 1],jm 5 0]))))
def ic195:IC:=(.seq (.region [jz 2 0])
 (.seq (.seq (.region [jv 0,jw 4 (.len false) [.t 0],jz 5 0])
 (.block 0 (.loop ic195l0)))
 (.seq (.region [jz 2 (-1)])
 .ret)))
abbrev rs195:List RC:=[(.v 2)]
theorem fok195 (p:Bool):FnOk Tryz.prog 195 ⟨ic195,vs195,19,rs195,p⟩:=.mk2 Tryz.func195 (by kernel_rfl) (by kernel_rfl) (by kernel_rfl) (by kernel_rfl) (by kernel_rfl)
abbrev vs196:List Nat:=[0,1,4,5,7,8,9,16]
def ic196l0:IC:=(.seq (.region [jw 6 (.bin .lss .int) [.v 5,.v 4]])
 (.seq (.cond 6 .skip
 (.exit 0))
 (.seq (.block 1 (.seq (.region [jv 5,jm 3 0])
 (.seq (.region [jv 1,jv 0,jv 3,ja 1 1 2,jl 3,jw 7 (.bin .eql .str) [.t 0,.t 4]])
 (.cond 7 (.seq (.region [jv 3,jm 2 0])
 .ret)
 .skip))))
 (.region [jq (.bin .add .int) [.v 5,jn 1],jm 5 0]))))
def ic196:IC:=(.seq (.region [jz 2 0])
 (.seq (.seq (.region [jv 0,jw 4 (.len false) [.t 0],jz 5 0])
 (.block 0 (.loop ic196l0)))
 (.seq (.region [jz 2 (-1)])
 .ret)))
abbrev rs196:List RC:=[(.v 2)]
theorem fok196 (p:Bool):FnOk Tryz.prog 196 ⟨ic196,vs196,19,rs196,p⟩:=.mk2 Tryz.func196 (by kernel_rfl) (by kernel_rfl) (by kernel_rfl) (by kernel_rfl) (by kernel_rfl)
abbrev vs63:List Nat:=[0,1,2,3,4,6]
def ic63:IC:=(.seq (.region [jb 3 0,jb 4 1,jw 5 .mv [jB false]])
 (.seq (.region [jv 2,jq (.mkfn (.func 118)) [.v 3,.v 4],jk 117 [.t 0,.t 1],jm 5 2])
 .ret))
abbrev rs63:List RC:=[(.v 5)]
theorem fok63 (p:Bool):FnOk Tryz.prog 63 ⟨ic63,vs63,10,rs63,p⟩:=.mk2 Tryz.func63 (by kernel_rfl) (by kernel_rfl) (by kernel_rfl) (by kernel_rfl) (by kernel_rfl)
abbrev vs65:List Nat:=[0]
def ic65:IC:=(.seq (.region [jw 0 (.alloc [(.cv .nils),(.cv .nils),(.cv .nils),(.cv .nils),(.cv .nils),(.cv .nils),(.cv .nils)]) []])
 (.seq (.region [jk 119 [],jq (.bslice 1 4 [(.cv (.int .i64 0)),(.cv (.int .i64 0)),(.cv (.int .i64 0)),(.cv (.int .i64 0))] [(0,1),(1,1),(2,1),(3,1)]) [jn 1,jn 1,jn 1,jn 1],jq (.build [(.cv (.int .i64 0)),(.cv (.int .i64 0))] [(0,1)]) [jn 1],jq (.bslice 2 1 [(.cv (.int .i64 0)),(.cv (.int .i64 0))] [(0,2)]) [.t 2],jq (.build [(.cv .nils),(.cv (.int .i64 0)),(.cv (.int .i64 0))] [(0,1),(2,1)]) [.t 3,jn 1440],jq (.bslice 3 1 [(.cv .nils),(.cv (.int .i64 0)),(.cv (.int .i64 0))] [(0,3)]) [.t 4],jq (.build [(.cv (.int .i64 0)),(.cv (.int .i64 0))] [(0,1)]) [jn 1],jq (.build [(.cv (.int .i64 0)),(.cv (.int .i64 0))] [(0,1)]) [jn 1],jq (.build [(.cv (.int .i64 0)),(.cv (.int .i64 0))] [(0,1)]) [jn 1],jq (.build [(.cv (.int .i64 0)),(.cv (.int .i64 0))] [(0,1)]) [jn 1],jq (.bslice 2 4 [(.cv (.int .i64 0)),(.cv (.int .i64 0)),(.cv (.int .i64 0)),(.cv (.int .i64 0)),(.cv (.int .i64 0)),(.cv (.int .i64 0)),(.cv (.int .i64 0)),(.cv (.int .i64 0))] [(0,2),(2,2),(4,2),(6,2)]) [.t 6,.t 7,.t 8,.t 9],jk 40 [],jq (.build [(.cv .nils),(.cv .nils),(.cv .nils),(.cv .nils),(.cv .nils),(.cv .nils),(.cv .nils)] [(0,2),(2,1),(3,1),(4,1),(5,2)]) [.t 0,.t 1,.t 5,.t 10,.t 11],jq (.store 7) [.v 0,.t 12]])
 .ret))
abbrev rs65:List RC:=[(.lN 0 7)]
theorem fok65 (p:Bool):FnOk Tryz.prog 65 ⟨ic65,vs65,14,rs65,p⟩:=.mk2 Tryz.func65 (by kernel_rfl) (by kernel_rfl) (by kernel_rfl) (by kernel_rfl) (by kernel_rfl)
abbrev vs66:List Nat:=[0,1,4,5,6,7,8,9,10,11,20]
def ic66l0:IC:=(.seq (.region [jw 9 (.bin .lss .int) [.v 8,.v 7]])
 (.seq (.cond 9 .skip
 (.exit 0))
 (.seq (.block 1 (.seq (.region [jv 8,jq (.iaS 1) [.v 6,.v 8],jl 1,jm 4 0,jm 5 2])
 (.seq (.region [jv 1,jv 4,jv 5,⟨none,none,.call,[(.t 0),(.t 1),(.t 2)]⟩,jm 3 3])
 (.seq (.region [jv 3,jw 10 (.bin .neq .int) [.t 0,jn 0]])
 (.cond 10 (.seq (.region [jv 4,jv 3,jm 2 0,jm 3 1])
 .ret)
 .skip)))))
 (.region [jq (.bin .add .int) [.v 8,jn 1],jm 8 0]))))
def ic66:IC:=(.seq (.region [jz 2 0,jz 3 0])
 (.seq (.seq (.region [jw 6 .mv [.v 0],jw 7 (.len false) [.v 6],jz 8 0])
 (.block 0 (.loop ic66l0)))
 (.seq (.region [jz 2 0,jz 3 0])
 .ret)))
abbrev rs66:List RC:=[(.v 2),(.v 3)]
theorem fok66 (p:Bool):FnOk Tryz.prog 66 ⟨ic66,vs66,24,rs66,p⟩:=.mk2 Tryz.func66 (by kernel_rfl) (by kernel_rfl) (by kernel_rfl) (by kernel_rfl) (by kernel_rfl)
abbrev vs67:List Nat:=[0,1,2,3,6,7,15,18]
def ic67:IC:=(.seq (.region [jb 3 0,jz 4 0])
 (.seq (.block 0 (.seq (.region [jv 2,je 0,jF 0 3,jG 0 2,jl 3,je 4,jq (.bin .neq .int) [.t 1,.t 5],jm 5 6])
 (.cond 5 (.seq (.region [jz 4 3])
 .ret)
 (.seq (.region [jv 2,jk 63 [jn 0,jn 120,.t 0],jm 6 1])
 (.cond 6 (.seq (.region [jz 4 7])
 .ret)
 (.seq (.region [jv 2,jv 1,ja 1 0 1,jl 2,jq (.bin .neq .int) [.t 3,jn 0],jm 7 4])
 (.cond 7 (.seq (.region [jz 4 2])
 .ret)
 .skip)))))))
 (.seq (.region [jz 4 0])
 .ret)))
abbrev rs67:List RC:=[(.v 4)]
theorem fok67 (p:Bool):FnOk Tryz.prog 67 ⟨ic67,vs67,24,rs67,p⟩:=.mk2 Tryz.func67 (by kernel_rfl) (by kernel_rfl) (by kernel_rfl) (by kernel_rfl) (by kernel_rfl)
abbrev vs68:List Nat:=[0,1,4,5,6,7,8,9,10,11,20]
def ic68l0:IC:=(.seq (.region [jw 9 (.bin .lss .int) [.v 8,.v 7]])
 (.seq (.cond 9 .skip
 (.exit 0))
 (.seq (.block 1 (.seq (.region [jv 8,jq (.iaS 7) [.v 6,.v 8],jq (.loadN 7) [.t 1],jw 5 (.alloc [(.cv (.int .i64 0)),(.cv (.int .i64 0)),(.cv (.int .i64 0)),(.cv (.int .i64 0)),(.cv (.int .i64 0)),(.cv (.int .i64 0)),(.cv (.int .i64 0))]) [],jm 4 0,jq (.store 7) [.v 5,.t 2]])
 (.seq (.region [jv 1,jv 4,jN 7 5,⟨none,none,.call,[(.t 0),(.t 1),(.t 2)]⟩,jm 3 3])
 (.seq (.region [jv 3,jw 10 (.bin .neq .int) [.t 0,jn 0]])
 (.cond 10 (.seq (.region [jv 4,jv 3,jm 2 0,jm 3 1])
 .ret)
 .skip)))))
 (.region [jq (.bin .add .int) [.v 8,jn 1],jm 8 0]))))
def ic68:IC:=(.seq (.region [jz 2 0,jz 3 0])
 (.seq (.seq (.region [jw 6 .mv [.v 0],jw 7 (.len false) [.v 6],jz 8 0])
 (.block 0 (.loop ic68l0)))
 (.seq (.region [jz 2 0,jz 3 0])
 .ret)))
abbrev rs68:List RC:=[(.v 2),(.v 3)]
theorem fok68 (p:Bool):FnOk Tryz.prog 68 ⟨ic68,vs68,24,rs68,p⟩:=.mk2 Tryz.func68 (by kernel_rfl) (by kernel_rfl) (by kernel_rfl) (by kernel_rfl) (by kernel_rfl)
abbrev vs69:List Nat:=[0,1,2,3,5,6,7,24,30]
def ic69:IC:=(.seq (.region [jb 3 0,jb 4 2,jz 5 0])
 (.seq (.block 0 (.seq (.region [jF 3 4,jl 0,jF 4 4,jl 2,jq (.bslice 1 2 [(.cv (.int .i64 0)),(.cv (.int .i64 0))] [(0,1),(1,1)]) [.t 1,.t 3],jk 63 [jn 0,jn 1440,.t 4],jt 5,jg 6 false (.fadd 0) [.v 4],ji 6 false 7,jg 6 false (.fadd 1) [.v 4],ji 6 false 9,jg 6 false (.fadd 2) [.v 4],ji 6 false 11,jg 6 false (.bslice 1 3 [(.cv (.int .i64 0)),(.cv (.int .i64 0)),(.cv (.int .i64 0))] [(0,1),(1,1),(2,1)]) [.t 8,.t 10,.t 12],jf 6 false 63 [jn 0,jn 7,.t 13],jq .pick [.t 6,jB true,.t 14],jm 6 15])
 (.cond 6 (.seq (.region [jz 5 7])
 .ret)
 (.seq (.region [jF 3 4,jl 0,jF 4 4,jl 2,jq (.bin .geq .int) [.t 1,.t 3],jm 7 4])
 (.cond 7 (.seq (.region [jz 5 2])
 .ret)
 (.seq (.region [jF 0 3,jG 0 0,jl 1,je 2,jq (.bin .sub .int) [.t 3,jn 1],jF 5 4,jl 5,jF 6 4,jl 7,jq (.bslice 1 2 [(.cv (.int .i64 0)),(.cv (.int .i64 0))] [(0,1),(1,1)]) [.t 6,.t 8],jk 63 [jn 0,.t 4,.t 9],jm 8 10])
 (.cond 8 (.seq (.region [jz 5 4])
 .ret)
 .skip)))))))
 (.seq (.region [jz 5 0])
 .ret)))
abbrev rs69:List RC:=[(.v 5)]
theorem fok69 (p:Bool):FnOk Tryz.prog 69 ⟨ic69,vs69,42,rs69,p⟩:=.mk2 Tryz.func69 (by kernel_rfl) (by kernel_rfl) (by kernel_rfl) (by kernel_rfl) (by kernel_rfl)
abbrev vs72:List Nat:=[0,1,2,3,6]
def ic72:IC:=(.seq (.region [jb 1 0,jw 2 (.alloc [(.cv .nils),(.cv .nils)]) [],jz 3 0])
 (.seq (.region [jN 2 1,jk 23 [.t 0],jt 1,jx 0 2,jx 1 2,jx 2 2,jt 3,jt 4,jm 4 5])
 (.seq (.region [jN 2 1,jq (.build [(.cv .nils),(.cv .nils)] [(0,2)]) [.t 0],jv 4,jq (.store 2) [.v 2,.t 1],jm 3 2])
 .ret)))
abbrev rs72:List RC:=[(.lN 2 2),(.v 3)]
theorem fok72 (p:Bool):FnOk Tryz.prog 72 ⟨ic72,vs72,16,rs72,p⟩:=.mk2 Tryz.func72 (by kernel_rfl) (by kernel_rfl) (by kernel_rfl) (by kernel_rfl) (by kernel_rfl)
abbrev vs73:List Nat:=[0,2]
def ic73:IC:=(.seq (.region [jw 1 .mv [jS]])
 (.seq (.region [jv 0,jk 120 [jS,.t 0],jm 1 1])
 .ret))
abbrev rs73:List RC:=[(.v 1)]
theorem fok73 (p:Bool):FnOk Tryz.prog 73 ⟨ic73,vs73,5,rs73,p⟩:=.mk2 Tryz.func73 (by kernel_rfl) (by kernel_rfl) (by kernel_rfl) (by kernel_rfl) (by kernel_rfl)
abbrev vs74:List Nat:=[0,1,2,3,4]
def ic74:IC:=(.seq (.region [jb 2 0,jb 3 1,jw 4 .mv [.c (.cv .nilf)]])
 (.seq (.region [jq (.mkfn (.func 121)) [.v 2,.v 3],jm 4 0])
 .ret))
abbrev rs74:List RC:=[(.v 4)]
theorem fok74 (p:Bool):FnOk Tryz.prog 74 ⟨ic74,vs74,6,rs74,p⟩:=.mk2 Tryz.func74 (by kernel_rfl) (by kernel_rfl) (by kernel_rfl) (by kernel_rfl) (by kernel_rfl)
theorem hb75:Tryz.f75.body=some (Tryz.f75.body.getD .skip):=by kernel_rfl
abbrev vs75:List Nat:=[0,1,2,4,5,6,8,17,18,19,23,24,27,40]
def ic75l0 (b75:Code):IC:=(.seq (.region [jw 9 (.bin .lss .int) [.v 8,.v 7]])
 (.seq (.cond 9 .skip
 (.exit 0))
 (.seq (.block 1 (.seq (.region [jv 8,jm 4 0])
 (.seq (.seq (.region [jN 2 1,jv 4,jd 10 74 [.t 0,.t 1]])
 (.block 2 (.rangef (.v 10) #[24] (nav [1,0,1,1,0,1,0,0,1,1,0,0,1,0,1,0,2] b75) (nav [1,0,1,1,0,1,0,0,1,1,0,0,1,0,1,0,3] b75) (.region [jw 5 .mv [.v 11]])
 (.block 3 (.seq (.seq (.region [jL 2,jv 5,jd 12 76 [.t 0,.t 1]])
 (.cond 12 (.exit 3)
 .skip))
 (.seq (.dr [[],[],[1],[],[3],[2,4,2],[0,5,5],[6],[7],[7],[8,6,0,1,2,3,4,5,6,7,8],[9,10,0,1,2,3,4,5,6,7,8,9,10]] [jN 2 1,jL 2,jk 87 [.t 1],jv 5,jq (.bslice 1 1 [(.cv (.int .i64 0))] [(0,1)]) [.t 3],jq (.append 1 8) [.t 2,.t 4],jk 79 [.t 0,.t 5],jt 6,jx 0 7,jx 1 7,jt 8,jm 6 9])
 (.seq (.region [jv 6,jL 3,jw 13 (.bin .eql .int) [.t 0,.t 1]])
 (.cond 13 (.seq (.region [jL 2,jv 5,jq (.bslice 1 1 [(.cv (.int .i64 0))] [(0,1)]) [.t 1],jq (.append 1 8) [.t 0,.t 2],jq (.store 1) [.v 2,.t 3]])
 (.exit 1))
 .skip))))))))
 (.region [jL 2,jq (.bslice 1 1 [(.cv (.int .i64 0))] [(0,1)]) [jn (-1)],jq (.append 1 8) [.t 0,.t 1],jq (.store 1) [.v 2,.t 2]]))))
 (.region [jq (.bin .add .int) [.v 8,jn 1],jm 8 0]))))
def ic75 (b75:Code):IC:=(.seq (.region [jb 1 0,jw 2 (.alloc [(.cv .nils)]) []])
 (.scope (.seq (.region [jN 2 1,jk 79 [.t 0,jS],jt 1,jx 0 2,jx 1 2,jw 3 (.alloc [(.cv (.int .i64 0))]) [],jt 3,jq (.store 1) [.v 3,.t 4]])
 (.seq (.label 0)
 (.seq (.seq (.region [jF 0 1,jG 1 0,jl 1,jw 7 (.len false) [.t 2],jz 8 0])
 (.block 0 (.loop  (ic75l0 b75))))
 (.seq (.region [jL 2,jq (.store 1) [.v 2,.t 0]])
 .ret))))))
theorem cc75:QL Tryz.prog vs75 Tryz.f75.ntmps (Tryz.f75.body.getD .skip)=some (ic75 (Tryz.f75.body.getD .skip)):=by kernel_rfl
abbrev rs75:List RC:=[(.l1 2)]
theorem fok75 (p:Bool):FnOk Tryz.prog 75 ⟨ic75 (Tryz.f75.body.getD .skip),vs75,50,rs75,p⟩:=FnOk.mk' Tryz.func75 hb75 (by kernel_rfl) cc75 (by kernel_rfl) (by kernel_rfl)
abbrev vs76:List Nat:=[0,1,4]
def ic76:IC:=(.seq (.region [jw 2 .mv [jB false]])
 (.seq (.region [jv 0,jv 1,jk 122 [.t 0,.t 1],jq (.bin .geq .int) [.t 2,jn 0],jm 2 3])
 .ret))
abbrev rs76:List RC:=[(.v 2)]
theorem fok76 (p:Bool):FnOk Tryz.prog 76 ⟨ic76,vs76,9,rs76,p⟩:=.mk2 Tryz.func76 (by kernel_rfl) (by kernel_rfl) (by kernel_rfl) (by kernel_rfl) (by kernel_rfl)
theorem hb78:Tryz.f78.body=some (Tryz.f78.body.getD .skip):=by kernel_rfl
abbrev vs78:List Nat:=[0,1,2,3,4,8,9,10,14,15]
def ic78l0 (b78:Code):IC:=(.seq (.region [jw 7 (.bin .lss .int) [.v 6,.v 5]])
 (.seq (.cond 7 .skip
 (.exit 0))
 (.seq (.block 1 (.seq (.region [jv 6,jw 3 (.alloc [(.cv (.int .i64 0))]) [],jq (.store 1) [.v 3,.t 0]])
 (.seq (.region [jN 2 1,jL 3,jd 8 74 [.t 0,.t 1]])
 (.block 2 (.rangef (.v 8) #[15] (nav [1,0,1,0,0,1,1,0,0,1,1,0,2] b78) (nav [1,0,1,0,0,1,1,0,0,1,1,0,3] b78) (.region [jw 4 .mv [.v 9]])
 (.block 3 (.region [jL 2,jL 3,jv 4,jq (.build [(.cv (.int .i64 0)),(.cv (.int .i64 0))] [(0,1),(1,1)]) [.t 1,.t 2],jq (.bslice 2 1 [(.cv (.int .i64 0)),(.cv (.int .i64 0))] [(0,2)]) [.t 3],jq (.append 2 16) [.t 0,.t 4],jq (.store 1) [.v 2,.t 5]])))))))
 (.region [jq (.bin .add .int) [.v 6,jn 1],jm 6 0]))))
def ic78 (b78:Code):IC:=(.seq (.region [jb 1 0,jw 2 (.alloc [(.cv .nils)]) []])
 (.seq (.seq (.region [jF 0 1,jG 1 0,jl 1,jw 5 (.len false) [.t 2],jz 6 0])
 (.block 0 (.loop  (ic78l0 b78))))
 (.seq (.region [jL 2,jq (.store 1) [.v 2,.t 0]])
 .ret)))
theorem cc78:QL Tryz.prog vs78 Tryz.f78.ntmps (Tryz.f78.body.getD .skip)=some (ic78 (Tryz.f78.body.getD .skip)):=by kernel_rfl
abbrev rs78:List RC:=[(.l1 2)]
theorem fok78 (p:Bool):FnOk Tryz.prog 78 ⟨ic78 (Tryz.f78.body.getD .skip),vs78,24,rs78,p⟩:=FnOk.mk' Tryz.func78 hb78 (by kernel_rfl) cc78 (by kernel_rfl) (by kernel_rfl)
abbrev vs79:List Nat:=[0,1,2,4,5,6,7,8,9,10,11,20,21,22,23,28,47,58]
def ic79l0:IC:=(.seq (.seq (.region [jv 8,jF 0 2,jG 1 1,jl 2,je 3,jw 16 (.bin .lss .int) [.t 0,.t 4]])
 (.cond 16 .skip
 (.exit 2)))
 (.seq (.block 3 (.seq (.region [jF 0 2,jG 1 0,jl 1,je 2,jq (.mkslice 1 1 [(.cv (.bool false))]) [.t 3,.t 3],jw 9 (.alloc [(.cv .nils)]) [],jq (.store 1) [.v 9,.t 4]])
 (.seq (.region [jw 10 (.alloc [(.cv .nilf)]) []])
 (.seq (.region [jq (.mkfn (.func 125)) [.v 2,.v 9,.v 5,.v 3,.v 10],jq (.store 1) [.v 10,.t 0]])
 (.seq (.region [jL 10,jv 8,⟨(.some 17),none,.call,[(.t 0),(.t 1)]⟩])
 (.cond 17 (.region [jv 4,jq (.bin .add .int) [.t 0,jn 1],jm 4 1])
 .skip))))))
 (.region [jv 8,jq (.bin .add .int) [.t 0,jn 1],jm 8 1])))
def ic79l1:IC:=(.seq (.region [jw 14 (.bin .lss .int) [.v 13,.v 12]])
 (.seq (.cond 14 .skip
 (.exit 0))
 (.seq (.block 1 (.seq (.region [jv 13,jq (.iaS 1) [.v 11,.v 13],jl 1,jm 6 0,jm 7 2])
 (.seq (.region [jv 7,jw 15 (.bin .geq .int) [.t 0,jn 0]])
 (.cond 15 (.seq (.dr [[],[],[],[],[],[],[0,1,0,1,4],[6,4,0,1,4],[2,3,0,1,2,3,4,5,6,7],[8,5,7,0,1,2,3,4,5,6,7]] [jL 3,jv 7,jL 5,jv 7,jv 6,jv 6,ja 1 0 1,jq (.store 1) [.t 6,.t 4],ja 1 2 3,jq (.store 1) [.t 8,.t 5]])
 (.region [jv 4,jq (.bin .add .int) [.t 0,jn 1],jm 4 1]))
 .skip))))
 (.region [jq (.bin .add .int) [.v 13,jn 1],jm 13 0]))))
def ic79:IC:=(.seq (.region [jb 2 0,jw 3 (.alloc [(.cv .nils)]) [],jz 4 0])
 (.seq (.region [jq (.bslice 1 1 [(.cv (.int .i64 0))] [(0,1)]) [jn (-1)],jF 0 2,jG 1 1,jl 2,je 3,jk 124 [.t 0,.t 4],jq (.store 1) [.v 3,.t 5]])
 (.seq (.region [jL 3,jk 87 [.t 0],jw 5 (.alloc [(.cv .nils)]) [],jq (.store 1) [.v 5,.t 1]])
 (.seq (.seq (.region [jw 11 .mv [.v 1],jw 12 (.len false) [.v 11],jz 13 0])
 (.block 0 (.loop ic79l1)))
 (.seq (.seq (.region [jv 1,je 0,jm 8 1])
 (.block 2 (.loop ic79l0)))
 (.seq (.region [jL 3,jv 4,jq (.store 1) [.v 3,.t 0],jm 4 1])
 .ret))))))
abbrev rs79:List RC:=[(.l1 3),(.v 4)]
theorem fok79 (p:Bool):FnOk Tryz.prog 79 ⟨ic79,vs79,63,rs79,p⟩:=.mk2 Tryz.func79 (by kernel_rfl) (by kernel_rfl) (by kernel_rfl) (by kernel_rfl) (by kernel_rfl)
abbrev vs80:List Nat:=[0,2]
def ic80:IC:=(.seq (.region [jz 1 0])
 (.seq .skip
 (.seq (.region [jv 0,jk 127 [.t 0],jm 1 1])
 .ret)))
abbrev rs80:List RC:=[(.v 1)]
theorem fok80 (p:Bool):FnOk Tryz.prog 80 ⟨ic80,vs80,8,rs80,p⟩:=.mk2 Tryz.func80 (by kernel_rfl) (by kernel_rfl) (by kernel_rfl) (by kernel_rfl) (by kernel_rfl)
abbrev vs81:List Nat:=[0,2,4]
def ic81l0:IC:=(.seq (.seq (.region [jv 0,jw 2 (.bin .gtr .int) [.t 0,.c (.cv (.int .u64 0))]])
 (.cond 2 .skip
 (.exit 0)))
 (.seq (.block 1 (.region [jv 1,jv 0,jk 128 [.t 1],jq (.bslice 1 1 [(.cv (.int .i64 0))] [(0,1)]) [.t 2],jq (.append 1 8) [.t 0,.t 3],jm 1 4]))
 (.region [jv 0,jv 0,jq (.bin .sub .int) [.t 1,.c (.cv (.int .u64 1))],jq (.bin .and .int) [.t 0,.t 2],jm 0 3])))
def ic81:IC:=(.seq (.region [jw 1 .mv [jS]])
 (.seq (.block 0 (.loop ic81l0))
 (.seq (.region [jv 1,jm 1 0])
 .ret)))
abbrev rs81:List RC:=[(.v 1)]
theorem fok81 (p:Bool):FnOk Tryz.prog 81 ⟨ic81,vs81,15,rs81,p⟩:=.mk2 Tryz.func81 (by kernel_rfl) (by kernel_rfl) (by kernel_rfl) (by kernel_rfl) (by kernel_rfl)
abbrev vs83:List Nat:=[0,2,3,4,7]
def ic83l0:IC:=(.seq (.seq (.region [jv 3,jv 0,jw 4 (.bin .lss .int) [.t 0,.t 1]])
 (.cond 4 .skip
 (.exit 0)))
 (.seq (.block 1 (.region [jv 2,jq (.bin .mul .int) [jn 2,.t 0],jm 2 1]))
 (.region [jv 3,jq (.bin .add .int) [.t 0,jn 1],jm 3 1])))
def ic83:IC:=(.seq (.region [jz 1 0])
 (.seq (.region [jz 2 1])
 (.seq (.seq (.region [jz 3 0])
 (.block 0 (.loop ic83l0)))
 (.seq (.region [jv 2,jm 1 0])
 .ret))))
abbrev rs83:List RC:=[(.v 1)]
theorem fok83 (p:Bool):FnOk Tryz.prog 83 ⟨ic83,vs83,13,rs83,p⟩:=.mk2 Tryz.func83 (by kernel_rfl) (by kernel_rfl) (by kernel_rfl) (by kernel_rfl) (by kernel_rfl)
abbrev vs85:List Nat:=[0,2,3,8,20]
def ic85l0:IC:=(.seq (.seq (.region [jv 2,jw 3 (.bin .gtr .int) [.t 0,jn 0]])
 (.cond 3 .skip
 (.exit 0)))
 (.seq (.block 1 (.seq (.dr [[],[],[0,1],[2],[],[],[5],[4,6],[7],[3,8]] [jv 0,jv 2,ja 1 0 1,jl 2,jv 0,jv 2,jq (.bin .sub .int) [.t 5,jn 1],ja 1 4 6,jl 7,jd 4 129 [.t 3,.t 8]])
 (.cond 4 (.seq (.region [jw 1 .mv [jB false]])
 .ret)
 .skip)))
 (.region [jv 2,jq (.bin .sub .int) [.t 0,jn 1],jm 2 1])))
def ic85:IC:=(.seq (.region [jw 1 .mv [jB false]])
 (.seq (.seq (.region [jv 0,je 0,jq (.bin .sub .int) [.t 1,jn 1],jm 2 2])
 (.block 0 (.loop ic85l0)))
 (.seq (.region [jw 1 .mv [jB true]])
 .ret)))
abbrev rs85:List RC:=[(.v 1)]
theorem fok85 (p:Bool):FnOk Tryz.prog 85 ⟨ic85,vs85,21,rs85,p⟩:=.mk2 Tryz.func85 (by kernel_rfl) (by kernel_rfl) (by kernel_rfl) (by kernel_rfl) (by kernel_rfl)
abbrev vs86:List Nat:=[0,2,3,4,5,8,13,25,32,44]
def ic86l0:IC:=(.seq (.seq (.region [jv 4,jv 3,je 1,jw 8 (.bin .lss .int) [.t 0,.t 2]])
 (.cond 8 .skip
 (.exit 2)))
 (.seq (.block 3 (.seq (.dr [[],[],[0,1],[2],[],[],[5],[4,6],[7],[3,8]] [jv 3,jv 4,ja 1 0 1,jl 2,jv 3,jv 4,jq (.bin .sub .int) [.t 5,jn 1],ja 1 4 6,jl 7,jw 9 (.bin .neq .int) [.t 3,.t 8]])
 (.cond 9 (.seq (.region [jv 0,jv 2,jv 3,jv 4,ja 1 2 3,jl 4,ja 1 0 1,jq (.store 1) [.t 6,.t 5]])
 (.region [jv 2,jq (.bin .add .int) [.t 0,jn 1],jm 2 1]))
 .skip)))
 (.region [jv 4,jq (.bin .add .int) [.t 0,jn 1],jm 4 1])))
def ic86l1:IC:=(.seq (.seq (.region [jv 2,jv 0,je 1,jw 6 (.bin .lss .int) [.t 0,.t 2]])
 (.cond 6 .skip
 (.exit 0)))
 (.seq (.block 1 (.seq (.dr [[],[],[0,1],[2],[],[],[5],[4,6],[7],[3,8]] [jv 0,jv 2,ja 1 0 1,jl 2,jv 0,jv 2,jq (.bin .sub .int) [.t 5,jn 1],ja 1 4 6,jl 7,jw 7 (.bin .eql .int) [.t 3,.t 8]])
 (.cond 7 (.seq (.region [jv 0,jv 2,jq (.slS 1 true false) [.t 0,.t 1],jm 3 2])
 (.seq (.seq (.region [jz 4 1])
 (.block 2 (.loop ic86l0)))
 (.seq (.region [jv 0,jv 2,jq (.slS 1 true false) [.t 0,.t 1],jq (.clear [(.cv (.int .i64 0))]) [.t 2]])
 (.seq (.region [jv 0,jv 2,jq (.slS 1 false true) [.t 0,.t 1],jm 1 2])
 .ret))))
 .skip)))
 (.region [jv 2,jq (.bin .add .int) [.t 0,jn 1],jm 2 1])))
def ic86:IC:=(.seq (.region [jw 1 .mv [jS]])
 (.seq (.seq (.region [jv 0,je 0,jw 5 (.bin .lss .int) [.t 1,jn 2]])
 (.cond 5 (.seq (.region [jv 0,jm 1 0])
 .ret)
 .skip))
 (.seq (.seq (.region [jz 2 1])
 (.block 0 (.loop ic86l1)))
 (.seq (.region [jv 0,jm 1 0])
 .ret))))
abbrev rs86:List RC:=[(.v 1)]
theorem fok86 (p:Bool):FnOk Tryz.prog 86 ⟨ic86,vs86,61,rs86,p⟩:=.mk2 Tryz.func86 (by kernel_rfl) (by kernel_rfl) (by kernel_rfl) (by kernel_rfl) (by kernel_rfl)
abbrev vs87:List Nat:=[0,2,4]
def ic87:IC:=(.seq (.region [jw 1 .mv [jS]])
 (.seq (.seq (.region [jv 0,jw 2 (.bin .eql .slc) [.t 0,jS]])
 (.cond 2 (.seq (.region [jw 1 .mv [jS]])
 .ret)
 .skip))
 (.seq (.region [jq (.bslice 1 0 [] []) [],jv 0,jq (.append 1 8) [.t 0,.t 1],jm 1 2])
 .ret)))
abbrev rs87:List RC:=[(.v 1)]
theorem fok87 (p:Bool):FnOk Tryz.prog 87 ⟨ic87,vs87,8,rs87,p⟩:=.mk2 Tryz.func87 (by kernel_rfl) (by kernel_rfl) (by kernel_rfl) (by kernel_rfl) (by kernel_rfl)
abbrev vs88:List Nat:=[0,1,4]
def ic88:IC:=(.seq (.region [jw 2 .mv [jB false]])
 (.seq (.region [jv 0,jv 1,jk 130 [.t 0,.t 1],jq (.bin .geq .int) [.t 2,jn 0],jm 2 3])
 .ret))
abbrev rs88:List RC:=[(.v 2)]
theorem fok88 (p:Bool):FnOk Tryz.prog 88 ⟨ic88,vs88,9,rs88,p⟩:=.mk2 Tryz.func88 (by kernel_rfl) (by kernel_rfl) (by kernel_rfl) (by kernel_rfl) (by kernel_rfl)
abbrev vs89:List Nat:=[0,1,2,3,4]
def ic89:IC:=(.seq (.region [jb 3 0,jw 4 .mv [jB false]])
 (.seq (.region [jL 1,jF 0 3,jl 1,jk 76 [.t 0,.t 2],jq .not [.t 3],jt 4,jg 5 true .load1 [.v 2],jg 5 true (.fadd 1) [.v 3],ji 5 true 7,jf 5 true 76 [.t 6,.t 8],jg 5 true .not [.t 9],jq .pick [.t 5,.t 10,jB false],jm 4 11])
 .ret))
abbrev rs89:List RC:=[(.v 4)]
theorem fok89 (p:Bool):FnOk Tryz.prog 89 ⟨ic89,vs89,17,rs89,p⟩:=.mk2 Tryz.func89 (by kernel_rfl) (by kernel_rfl) (by kernel_rfl) (by kernel_rfl) (by kernel_rfl)
abbrev vs93:List Nat:=[0,1,2,3,4,6,15,25,31,47,69,82,88,89,90,91,118]
def ic93l0:IC:=(.seq (.region [jw 15 (.bin .lss .int) [.v 14,.v 13]])
 (.seq (.cond 15 .skip
 (.exit 1))
 (.seq (.block 2 (.seq (.region [jq (.iaS 7) [.v 12,.v 14],jq (.loadN 7) [.t 0],jw 5 (.alloc [(.cv (.int .i64 0)),(.cv (.int .i64 0)),(.cv (.int .i64 0)),(.cv (.int .i64 0)),(.cv (.int .i64 0)),(.cv (.int .i64 0)),(.cv (.int .i64 0))]) [],jq (.store 7) [.v 5,.t 1]])
 (.seq (.region [jF 0 5,jl 0,jF 0 2,jG 2 2,jl 3,je 4,jq (.bin .geq .int) [.t 1,.t 5],jt 6,jg 7 false (.fadd 1) [.v 5],ji 7 false 8,jg 7 false (.fadd 0) [.v 2],jg 7 false (.fadd 3) [.t 10],ji 7 false 11,jg 7 false (.len false) [.t 12],jg 7 false (.bin .geq .int) [.t 9,.t 13],jq .pick [.t 7,jB true,.t 14],jt 15,jg 16 false (.fadd 2) [.v 5],ji 16 false 17,jg 16 false (.fadd 0) [.v 2],jg 16 false (.fadd 4) [.t 19],ji 16 false 20,jg 16 false (.len false) [.t 21],jg 16 false (.bin .geq .int) [.t 18,.t 22],jw 16 .pick [.t 16,jB true,.t 23]])
 (.cond 16 (.seq (.region [jN 9 2,jq (.store 9) [.v 2,.t 0],jz 3 4])
 .ret)
 .skip))))
 (.region [jq (.bin .add .int) [.v 14,jn 1],jm 14 0]))))
def ic93:IC:=(.seq (.region [jb 1 0,jw 2 (.alloc [(.cv .nils),(.cv .nils),(.cv .nils),(.cv .nils),(.cv .nils),(.cv .nils),(.cv .nils),(.cv .nils),(.cv .nils)]) [],jz 3 0])
 (.seq (.seq (.region [jF 0 1,jq (.loadN 2) [.t 0],jk 131 [.t 1],jt 2,jx 0 3,jx 1 3,jx 2 3,jm 3 6])
 (.seq (.region [jv 3,jw 6 (.bin .neq .int) [.t 0,jn 0]])
 (.cond 6 (.seq (.region [jN 9 2,jv 3,jq (.store 9) [.v 2,.t 0],jm 3 1])
 .ret)
 .skip)))
 (.seq (.region [jF 5 1,jq (.loadN 2) [.t 0],jk 72 [.t 1],jt 2,jx 0 3,jx 1 3,jw 4 (.alloc [(.cv .nils),(.cv .nils)]) [],jq (.store 2) [.v 4,.t 4],jm 3 5])
 (.seq (.seq (.region [jv 3,jw 7 (.bin .neq .int) [.t 0,jn 0]])
 (.cond 7 (.seq (.region [jN 9 2,jv 3,jq (.store 9) [.v 2,.t 0],jm 3 1])
 .ret)
 .skip))
 (.seq (.region [jN 7 1,jN 2 4,jq (.build [(.cv .nils),(.cv .nils),(.cv .nils),(.cv .nils),(.cv .nils),(.cv .nils),(.cv .nils),(.cv .nils),(.cv .nils)] [(0,7),(7,2)]) [.t 0,.t 1],jq (.store 9) [.v 2,.t 2]])
 (.seq (.block 0 (.seq (.region [jF 0 2,jG 2 0,jl 1,je 2,jF 0 2,jG 3 4,jl 5,je 6,jF 0 2,jG 4 8,jl 9,je 10,jq .max2 [.t 3,.t 7,.t 11],jq (.bin .gtr .int) [.t 12,jn 8],jm 8 13])
 (.cond 8 (.seq (.region [jN 9 2,jq (.store 9) [.v 2,.t 0],jz 3 3])
 .ret)
 (.seq (.region [jF 0 2,jG 0 0,jG 0 1,jl 2,je 3,jq (.bin .sub .int) [.t 4,jn 1],jF 0 2,jG 2 6,jl 7,jk 63 [jn 0,.t 5,.t 8],jm 9 9])
 (.cond 9 (.seq (.region [jN 9 2,jq (.store 9) [.v 2,.t 0],jz 3 4])
 .ret)
 .skip)))))
 (.seq (.seq (.region [jF 0 2,jG 3 0,jl 1,jN 9 2,jq (.mkbm 133) [.t 3],jk 132 [.t 2,.t 4],jt 5,jx 0 6,jx 1 6,jm 3 8])
 (.seq (.region [jv 3,jw 10 (.bin .neq .int) [.t 0,jn 0]])
 (.cond 10 (.seq (.region [jN 9 2,jv 3,jq (.store 9) [.v 2,.t 0],jm 3 1])
 .ret)
 .skip)))
 (.seq (.seq (.region [jF 0 2,jG 4 0,jl 1,jN 9 2,jq (.mkbm 135) [.t 3],jk 134 [.t 2,.t 4],jt 5,jx 0 6,jx 1 6,jm 3 8])
 (.seq (.region [jv 3,jw 11 (.bin .neq .int) [.t 0,jn 0]])
 (.cond 11 (.seq (.region [jN 9 2,jv 3,jq (.store 9) [.v 2,.t 0],jm 3 1])
 .ret)
 .skip)))
 (.seq (.seq (.region [jF 7 2,jG 0 0,jG 1 1,jw 12 .load1 [.t 2],jw 13 (.len false) [.v 12],jz 14 0])
 (.block 1 (.loop ic93l0)))
 (.seq (.region [jN 9 2,jq (.store 9) [.v 2,.t 0],jz 3 0])
 .ret))))))))))
abbrev rs93:List RC:=[(.lN 2 9),(.v 3)]
theorem fok93 (p:Bool):FnOk Tryz.prog 93 ⟨ic93,vs93,122,rs93,p⟩:=.mk2 Tryz.func93 (by kernel_rfl) (by kernel_rfl) (by kernel_rfl) (by kernel_rfl) (by kernel_rfl)
abbrev vs94:List Nat:=[0,1,2,3,4]
def ic94:IC:=(.seq (.region [jb 2 0,jb 3 1,jw 4 .mv [jB false]])
 (.seq (.dr [[],[0],[1],[],[3],[2,4],[5],[6],[],[8],[9],[],[11],[10,12],[13],[7,14],[15,0,1,2,3,4,5,6,7,8,9,10,11,12,13,14,15]] [jF 0 2,jG 4 0,jl 1,jF 2 3,jl 3,ja 2 2 4,jG 0 5,jl 6,jF 0 2,jG 2 8,jl 9,jF 0 3,jl 11,ja 1 10 12,jl 13,jq (.bin .eql .int) [.t 7,.t 14],jm 4 15])
 .ret))
abbrev rs94:List RC:=[(.v 4)]
theorem fok94 (p:Bool):FnOk Tryz.prog 94 ⟨ic94,vs94,21,rs94,p⟩:=.mk2 Tryz.func94 (by kernel_rfl) (by kernel_rfl) (by kernel_rfl) (by kernel_rfl) (by kernel_rfl)
abbrev vs95:List Nat:=[0,1,2,3,4,5,6]
def ic95:IC:=(.seq (.region [jb 2 0,jb 3 1,jw 4 .mv [jB false]])
 (.seq (.region [jF 0 2,jG 4 0,jl 1,jF 2 3,jl 3,ja 2 2 4,jq (.loadN 2) [.t 5],jw 5 (.alloc [(.cv (.int .i64 0)),(.cv (.int .i64 0))]) [],jq (.store 2) [.v 5,.t 6]])
 (.seq (.dr [[],[0],[1],[],[3],[4],[],[6],[5,7],[8],[9],[],[11],[],[13],[2,10,12,14],[15],[16],[16],[17,15,0,1,2,3,4,5,6,7,8,9,10,11,12,13,14,15,16,17],[18,19,0,1,2,3,4,5,6,7,8,9,10,11,12,13,14,15,16,17,18,19]] [jF 0 2,jG 0 0,jq (.loadN 2) [.t 1],jF 0 2,jG 3 3,jl 4,jF 1 3,jl 6,ja 3 5 7,jG 0 8,jl 9,jF 0 5,jl 11,jF 1 5,jl 13,jk 136 [.t 2,.t 10,.t 12,.t 14],jt 15,jx 0 16,jx 1 16,jm 6 17,jt 18])
 (.seq (.region [jv 6,jm 4 0])
 .ret))))
abbrev rs95:List RC:=[(.v 4)]
theorem fok95 (p:Bool):FnOk Tryz.prog 95 ⟨ic95,vs95,35,rs95,p⟩:=.mk2 Tryz.func95 (by kernel_rfl) (by kernel_rfl) (by kernel_rfl) (by kernel_rfl) (by kernel_rfl)
abbrev vs96:List Nat:=[0,1,2,3,4,5]
def ic96:IC:=(.seq (.region [jb 2 0,jb 3 1,jw 4 .mv [jB false]])
 (.seq (.region [jF 0 2,jG 3 0,jl 1,jF 1 3,jl 3,ja 3 2 4,jq (.loadN 3) [.t 5],jw 5 (.alloc [(.cv .nils),(.cv (.int .i64 0)),(.cv (.int .i64 0))]) [],jq (.store 3) [.v 5,.t 6]])
 (.seq (.region [jF 3 3,jl 0,jF 1 5,jl 2,jq (.bin .geq .int) [.t 1,.t 3],jt 4,jg 5 true (.fadd 4) [.v 3],ji 5 true 6,jg 5 true (.fadd 2) [.v 5],ji 5 true 8,jg 5 true (.bin .leq .int) [.t 7,.t 9],jq .pick [.t 5,.t 10,jB false],jm 4 11])
 .ret)))
abbrev rs96:List RC:=[(.v 4)]
theorem fok96 (p:Bool):FnOk Tryz.prog 96 ⟨ic96,vs96,25,rs96,p⟩:=.mk2 Tryz.func96 (by kernel_rfl) (by kernel_rfl) (by kernel_rfl) (by kernel_rfl) (by kernel_rfl)
abbrev vs97:List Nat:=[0,1,2]
def ic97:IC:=(.seq (.region [jb 1 0,jz 2 0])
 (.seq (.region [jF 0 1,jl 0,jm 2 1])
 .ret))
abbrev rs97:List RC:=[(.v 2)]
theorem fok97 (p:Bool):FnOk Tryz.prog 97 ⟨ic97,vs97,5,rs97,p⟩:=.mk2 Tryz.func97 (by kernel_rfl) (by kernel_rfl) (by kernel_rfl) (by kernel_rfl) (by kernel_rfl)
abbrev vs98:List Nat:=[0,1,2]
def ic98:IC:=(.seq (.region [jb 1 0,jz 2 0])
 (.seq (.region [jF 1 1,jl 0,jm 2 1])
 .ret))
abbrev rs98:List RC:=[(.v 2)]
theorem fok98 (p:Bool):FnOk Tryz.prog 98 ⟨ic98,vs98,5,rs98,p⟩:=.mk2 Tryz.func98 (by kernel_rfl) (by kernel_rfl) (by kernel_rfl) (by kernel_rfl) (by kernel_rfl)
abbrev vs99:List Nat:=[0,1,2]
def ic99:IC:=(.seq (.region [jb 1 0,jz 2 0])
 (.seq (.region [jF 2 1,jl 0,jm 2 1])
 .ret))
abbrev rs99:List RC:=[(.v 2)]
theorem fok99 (p:Bool):FnOk Tryz.prog 99 ⟨ic99,vs99,5,rs99,p⟩:=.mk2 Tryz.func99 (by kernel_rfl) (by kernel_rfl) (by kernel_rfl) (by kernel_rfl) (by kernel_rfl)
abbrev vs100:List Nat:=[0,1,2,6,7,8,9,10,11,12,20]
def ic100l0:IC:=(.seq (.region [jw 9 (.bin .lss .int) [.v 8,.v 7]])
 (.seq (.cond 9 .skip
 (.exit 0))
 (.seq (.block 1 (.seq (.region [jv 8,jq (.iaS 7) [.v 6,.v 8],jq (.loadN 7) [.t 1],jw 5 (.alloc [(.cv (.int .i64 0)),(.cv (.int .i64 0)),(.cv (.int .i64 0)),(.cv (.int .i64 0)),(.cv (.int .i64 0)),(.cv (.int .i64 0)),(.cv (.int .i64 0))]) [],jm 4 0,jq (.store 7) [.v 5,.t 2]])
 (.seq (.region [jv 1,jN 7 5,⟨none,none,.call,[(.t 0),(.t 1)]⟩,jv 2,jw 10 (.bin .eql .int) [.t 2,.t 3]])
 (.cond 10 (.region [jv 3,jv 4,jq (.bslice 1 1 [(.cv (.int .i64 0))] [(0,1)]) [.t 1],jq (.append 1 8) [.t 0,.t 2],jm 3 3])
 .skip))))
 (.region [jq (.bin .add .int) [.v 8,jn 1],jm 8 0]))))
def ic100:IC:=(.seq (.region [jw 3 .mv [jS]])
 (.seq (.seq (.region [jw 6 .mv [.v 0],jw 7 (.len false) [.v 6],jz 8 0])
 (.block 0 (.loop ic100l0)))
 (.seq (.region [jv 3,jm 3 0])
 .ret)))
abbrev rs100:List RC:=[(.v 3)]
theorem fok100 (p:Bool):FnOk Tryz.prog 100 ⟨ic100,vs100,27,rs100,p⟩:=.mk2 Tryz.func100 (by kernel_rfl) (by kernel_rfl) (by kernel_rfl) (by kernel_rfl) (by kernel_rfl)
abbrev vs101:List Nat:=[0,1]
def ic101:IC:=(.region [jv 0,jv 0,je 1,jv 1,jk 137 [.t 0,.t 2,.t 3]])
abbrev rs101:List RC:=[]
theorem fok101 (p:Bool):FnOk Tryz.prog 101 ⟨ic101,vs101,9,rs101,p⟩:=.mk2 Tryz.func101 (by kernel_rfl) (by kernel_rfl) (by kernel_rfl) (by kernel_rfl) (by kernel_rfl)
abbrev vs102:List Nat:=[0,1,2,5]
def ic102:IC:=(.seq (.region [jz 3 0])
 (.seq (.dr [[],[0],[1],[2],[],[3,4],[5],[6],[],[8],[9],[10],[],[11,12],[13],[14],[7,15],[16,16,0,1,2,3,4,5,6,7,8,9,10,11,12,13,14,15,16]] [jF 7 2,jG 0 0,jG 1 1,jl 2,jv 0,ja 7 3 4,jG 3 5,jl 6,jF 7 2,jG 0 8,jG 1 9,jl 10,jv 1,ja 7 11 12,jG 3 13,jl 14,jk 103 [.t 7,.t 15],jm 3 16])
 .ret))
abbrev rs102:List RC:=[(.v 3)]
theorem fok102 (p:Bool):FnOk Tryz.prog 102 ⟨ic102,vs102,23,rs102,p⟩:=.mk2 Tryz.func102 (by kernel_rfl) (by kernel_rfl) (by kernel_rfl) (by kernel_rfl) (by kernel_rfl)
abbrev vs103:List Nat:=[0,1,4,5,6,11,12,13,16,19]
def ic103:IC:=(.seq (.region [jz 2 0])
 (.seq (.region [jv 0,jk 138 [.t 0],jm 3 1])
 (.seq (.region [jv 1,jk 138 [.t 0],jm 4 1])
 (.seq (.seq (.region [jw 5 .mv [.v 3]])
 (.cond 5 (.seq (.seq (.region [jw 6 .mv [.v 4]])
 (.cond 6 (.seq (.region [jz 2 0])
 .ret)
 .skip))
 (.seq (.region [jz 2 (-1)])
 .ret))
 .skip))
 (.seq (.seq (.region [jw 7 .mv [.v 4]])
 (.cond 7 (.seq (.region [jz 2 1])
 .ret)
 .skip))
 (.seq (.seq (.region [jv 0,jv 1,jw 8 (.bin .lss .int) [.t 0,.t 1]])
 (.cond 8 (.seq (.region [jz 2 (-1)])
 .ret)
 .skip))
 (.seq (.seq (.region [jv 0,jv 1,jw 9 (.bin .gtr .int) [.t 0,.t 1]])
 (.cond 9 (.seq (.region [jz 2 1])
 .ret)
 .skip))
 (.seq (.region [jz 2 0])
 .ret))))))))
abbrev rs103:List RC:=[(.v 2)]
theorem fok103 (p:Bool):FnOk Tryz.prog 103 ⟨ic103,vs103,20,rs103,p⟩:=.mk2 Tryz.func103 (by kernel_rfl) (by kernel_rfl) (by kernel_rfl) (by kernel_rfl) (by kernel_rfl)
abbrev vs104:List Nat:=[0,1,2,3,6,7,8]
def ic104:IC:=(.seq (.region [jb 3 0,jw 4 .mv [jB false]])
 (.seq (.dr [[],[0],[1],[],[2,3],[4],[],[6],[7],[],[8,9],[10],[],[],[12,5,0,1,2,3,4,5,12,13],[13,11,14,0,1,2,3,4,5,6,7,8,9,10,11,12,13,14]] [jF 0 3,jG 1 0,jl 1,jv 1,ja 7 2 3,jq (.loadN 7) [.t 4],jF 0 3,jG 1 6,jl 7,jv 2,ja 7 8 9,jq (.loadN 7) [.t 10],jw 5 (.alloc [(.cv (.int .i64 0)),(.cv (.int .i64 0)),(.cv (.int .i64 0)),(.cv (.int .i64 0)),(.cv (.int .i64 0)),(.cv (.int .i64 0)),(.cv (.int .i64 0))]) [],jw 6 (.alloc [(.cv (.int .i64 0)),(.cv (.int .i64 0)),(.cv (.int .i64 0)),(.cv (.int .i64 0)),(.cv (.int .i64 0)),(.cv (.int .i64 0)),(.cv (.int .i64 0))]) [],jq (.store 7) [.v 5,.t 5],jq (.store 7) [.v 6,.t 11]])
 (.seq (.dr [[],[0],[],[2],[3],[],[5],[4,6],[7],[],[9],[8,10],[11],[1,12],[],[14],[13,15],[16,0,1,2,3,4,5,6,7,8,9,10,11,12,13,14,15,16]] [jF 4 5,jl 0,jF 0 3,jG 0 2,jl 3,jF 6 5,jl 5,ja 1 4 6,jl 7,jF 5 6,jl 9,ja 1 8 10,jl 11,jq (.bin .add .int) [.t 1,.t 12],jF 3 6,jl 14,jq (.bin .leq .int) [.t 13,.t 15],jm 4 16])
 .ret)))
abbrev rs104:List RC:=[(.v 4)]
theorem fok104 (p:Bool):FnOk Tryz.prog 104 ⟨ic104,vs104,38,rs104,p⟩:=.mk2 Tryz.func104 (by kernel_rfl) (by kernel_rfl) (by kernel_rfl) (by kernel_rfl) (by kernel_rfl)
abbrev vs109:List Nat:=[0,1,2,4,5,6,7,8,20,27,44]
def ic109l0:IC:=(.seq (.seq (.region [jv 7,jF 0 2,jl 1,jv 6,ja 5 2 3,jG 1 4,jl 5,je 6,jq (.bin .lss .int) [.t 0,.t 7],jt 8,jh 9 true 4,jh 9 true 6,jg 9 true (.iaS 1) [.t 10,.t 11],ji 9 true 12,jw 10 .pick [.t 9,.t 13,jB false]])
 (.cond 10 .skip
 (.exit 4)))
 (.seq (.block 5 (.region [jv 4,jF 0 2,jl 1,jv 6,ja 5 2 3,jG 1 4,jl 5,jv 7,ja 1 6 7,jl 8,ja 1 0 9,jq (.store 1) [.t 10,jB true]]))
 (.region [jv 7,jq (.bin .add .int) [.t 0,jn 1],jm 7 1])))
def ic109l1:IC:=(.seq (.seq (.region [jv 6,jF 0 2,jl 1,je 2,jw 9 (.bin .lss .int) [.t 0,.t 3]])
 (.cond 9 .skip
 (.exit 2)))
 (.seq (.block 3 (.seq (.region [jz 7 0])
 (.block 4 (.loop ic109l0))))
 (.region [jv 6,jq (.bin .add .int) [.t 0,jn 1],jm 6 1])))
def ic109l2:IC:=(.seq (.seq (.region [jv 5,jF 0 2,jl 1,je 2,jw 8 (.bin .lss .int) [.t 0,.t 3]])
 (.cond 8 .skip
 (.exit 0)))
 (.seq (.block 1 (.seq (.region [jz 6 0])
 (.block 2 (.loop ic109l1))))
 (.region [jv 5,jq (.bin .add .int) [.t 0,jn 1],jm 5 1])))
def ic109:IC:=(.seq (.region [jb 2 0,jw 3 .mv [jS]])
 (.seq (.region [jF 0 2,jl 0,je 1,jq (.mkslice 1 1 [(.cv (.bool false))]) [.t 2,.t 2],jm 4 3])
 (.seq (.region [jv 4,jv 1,ja 1 0 1,jq (.store 1) [.t 2,jB true]])
 (.seq (.seq (.region [jz 5 0])
 (.block 0 (.loop ic109l2)))
 (.seq (.region [jv 4,jm 3 0])
 .ret)))))
abbrev rs109:List RC:=[(.v 3)]
theorem fok109 (p:Bool):FnOk Tryz.prog 109 ⟨ic109,vs109,59,rs109,p⟩:=.mk2 Tryz.func109 (by kernel_rfl) (by kernel_rfl) (by kernel_rfl) (by kernel_rfl) (by kernel_rfl)
abbrev vs110:List Nat:=[0,1,2,4,5,6,9,11,19,20,21,22,26]
def ic110l0:IC:=(.seq (.region [jw 11 (.bin .lss .int) [.v 10,.v 9]])
 (.seq (.cond 11 .skip
 (.exit 0))
 (.seq (.block 1 (.seq (.region [jq (.iaS 1) [.v 8,.v 10],jl 0,jm 7 1])
 (.seq (.region [jv 6,jw 12 (.bin .eql .int) [.t 0,jn 0]])
 (.cond 12 (.region [jv 5,jv 7,jk 146 [.t 0,.t 1],jm 6 2])
 .skip))))
 (.region [jq (.bin .add .int) [.v 10,jn 1],jm 10 0]))))
def ic110:IC:=(.seq (.region [jb 2 0,jw 3 .mv [.c (.cv .nilp)],jz 4 0])
 (.seq (.region [jN 2 2,jk 145 [.t 0],jt 1,jx 0 2,jx 1 2,jx 2 2,jx 3 2,jm 5 3,jt 4,jt 5,jm 6 6])
 (.seq (.seq (.region [jw 8 .mv [.v 1],jw 9 (.len false) [.v 8],jz 10 0])
 (.block 0 (.loop ic110l0)))
 (.seq (.region [jv 5,jv 6,jm 3 0,jm 4 1])
 .ret))))
abbrev rs110:List RC:=[(.v 3),(.v 4)]
theorem fok110 (p:Bool):FnOk Tryz.prog 110 ⟨ic110,vs110,33,rs110,p⟩:=.mk2 Tryz.func110 (by kernel_rfl) (by kernel_rfl) (by kernel_rfl) (by kernel_rfl) (by kernel_rfl)
inductive D {α:Sort 1} (a:α):Type where
 | mk
inductive D1 {α:Type} (a:α):Type where
 | mk
def gK (o:Option Bool) (x y:Prop) (_:D x) (_:D y):Prop:=match o with | none=>False | some false=>x | some true=>y
def pK (o:Option (AV × List AObj)) (K:AV→List AObj→Prop) (_:D1 K):Prop:=match o with | none=>False | some (v,σ)=>K v σ
def cK (o:AV) (x y:Prop) (_:D x) (_:D y):Prop:=match o with | .cv (.bool true)=>x | .cv (.bool false)=>y | _=>False
def ACk (P:Program) (f:FuncId) (args:List AV) (σ:List AObj) (K:AV→List AObj→Prop) (_:D1 K):Prop:=AC P f args σ K
def YCk (P:Program) (l:Nat) (args:List AV) (σ:List AObj) (K:AV→List AObj→Prop) (_:D1 K):Prop:=YC P l args σ K
def SA (P:Program) (fv:AV) (args:List AV) (σ:List AObj) (K:AV→List AObj→Prop) (_:D1 K):Prop:=X0 P fv args σ K
def QeE (P:Program) (as_:List AV) (σ:List AObj) (K:AV→List AObj→Prop) (d:D1 K):Prop:=match as_ with | fv::as_=>SA P fv as_ σ K d | []=>False
def oK (P:Program) (op:IK) (as_:List AV) (σ:List AObj) (K:AV→List AObj→Prop) (d:D1 K):Prop:=match op with | .prim io=>pK (ZQ io as_ σ) K d | .call=>QeE P as_ σ K d
def rK (o:Option AV) (K:AV→Prop) (_:D1 K):Prop:=match o with | none=>False | some v=>K v
def ILk (P:Program) (fx:Fx) (a:IC) (s:St) (Q:Exit→St→Prop) (_:D1 a) (_:D1 Q):Prop:=IL P fx a s Q
def DWk (P:Program) (fx:Fx) (dirs:List (List Nat)) (is:List Ins) (s:St) (Q:Exit→St→Prop) (_:D1 is) (_:D1 Q):Prop:=DW P fx dirs is s Q
def RWk (P:Program) (fx:Fx) (g:Opd) (ps:Array Nat) (assign body:Code) (s:St) (Q:Exit→St→Prop) (_:D1 assign) (_:D1 body) (_:D1 Q):Prop:=RW P fx g ps assign body s Q
theorem gK_t {x y:Prop} {d:D x} {e:D y}:gK (some true) x y d e=y:=Eq.trans rfl rfl
theorem gK_f {x y:Prop} {d:D x} {e:D y}:gK (some false) x y d e=x:=Eq.trans rfl rfl
theorem pK_s {v:AV} {σ:List AObj} {K:AV→List AObj→Prop} {d:D1 K}:pK (some (v,σ)) K d=K v σ:=Eq.trans rfl rfl
theorem cK_t {x y:Prop} {d:D x} {e:D y}:cK (.cv (.bool true)) x y d e=x:=Eq.trans rfl rfl
theorem cK_f {x y:Prop} {d:D x} {e:D y}:cK (.cv (.bool false)) x y d e=y:=Eq.trans rfl rfl
theorem callK_c {P:Program} {fv:AV} {as_:List AV} {σ:List AObj} {K:AV→List AObj→Prop} {d:D1 K}:QeE P (fv::as_) σ K d=SA P fv as_ σ K d:=Eq.trans rfl rfl
theorem oK_p {P:Program} {io:IOp} {as_:List AV} {σ:List AObj} {K:AV→List AObj→Prop} {d:D1 K}:oK P (.prim io) as_ σ K d=pK (ZQ io as_ σ) K d:=Eq.trans rfl rfl
theorem oK_c {P:Program} {as_:List AV} {σ:List AObj} {K:AV→List AObj→Prop} {d:D1 K}:oK P .call as_ σ K d=QeE P as_ σ K d:=Eq.trans rfl rfl
theorem rK_s {v:AV} {K:AV→Prop} {d:D1 K}:rK (some v) K d=K v:=Eq.trans rfl rfl
theorem CallV_fn {P:Program} {f:FuncId} {cap args:List AV} {σ:List AObj} {Q:AV→List AObj→Prop} {d:D1 Q}:SA P (.fn (.func f) cap) args σ Q d=ACk P f (args++cap) σ Q d:=Eq.trans rfl rfl
theorem CallV_bm {P:Program} {f:FuncId} {first args:List AV} {σ:List AObj} {Q:AV→List AObj→Prop} {d:D1 Q}:SA P (.bm f first) args σ Q d=ACk P f (first++args) σ Q d:=Eq.trans rfl rfl
theorem QfJ {P:Program} {l:Nat} {args:List AV} {σ:List AObj} {Q:AV→List AObj→Prop} {d:D1 Q}:SA P (.yld l) args σ Q d=YCk P l args σ Q d:=Eq.trans rfl rfl
def RS (P:Program):(is:List Ins)→List AV→List AV→List AObj→(K:List AV→List AV→List AObj→Prop)→D1 is→D1 K→Prop
 | [],vals,ρ,σ,K,_,_=>K vals ρ σ
 | i::is,vals,ρ,σ,K,_,_=>gK (gdOk ρ i.gd) (RS P is (setD i.dst vals (.tup [])) (ρ++[.tup []]) σ K .mk .mk) (oK P i.op (i.args.map (WY vals ρ)) σ (fun v σ'=>RS P is (setD i.dst vals v) (ρ++[v]) σ' K .mk .mk) .mk) .mk .mk
theorem RS_n {P:Program} {vals ρ:List AV} {σ:List AObj} {K:List AV→List AV→List AObj→Prop} {d:D1 ([]:List Ins)} {e:D1 K}:RS P [] vals ρ σ K d e=K vals ρ σ:=Eq.trans rfl rfl
theorem RS_c {P:Program} {i:Ins} {is:List Ins} {vals ρ:List AV} {σ:List AObj} {K:List AV→List AV→List AObj→Prop} {d:D1 (i::is)} {e:D1 K}:RS P (i::is) vals ρ σ K d e =
  gK (gdOk ρ i.gd) (RS P is (setD i.dst vals (.tup [])) (ρ++[.tup []]) σ K .mk .mk) (oK P i.op (i.args.map (WY vals ρ)) σ (fun v σ'=>RS P is (setD i.dst vals v) (ρ++[v]) σ' K .mk .mk) .mk) .mk .mk:=Eq.trans rfl rfl
theorem T2 {P:Program}:∀ (is:List Ins) (vals ρ:List AV) (σ:List AObj) (K:List AV→List AV→List AObj→Prop) (d:D1 is) (e:D1 K),RS P is vals ρ σ K d e→RG P is vals ρ σ K
 | [],_,_,_,_,_,_,h=>h
 | i :: is,vals,ρ,σ,K,_,_,h=>by
  simp only[RS] at h;simp only[RG];unfold gK at h;split at h
  ·exact h.elim
  ·rename_i hg;simp only[hg];exact T2 is _ _ _ _ _ _ h
  ·rename_i hg;simp only[hg];unfold oK at h;split at h
   ·rename_i io hop;unfold pK at h;split at h
    ·exact h.elim
    ·rename_i v σ' hs;simp only[hop,hs];exact T2 is _ _ _ _ _ _ h
   ·rename_i hop;unfold QeE at h;split at h
    ·rename_i fv as_ ha;simp only[hop,ha];exact X0.mono h fun r τ hr=>T2 is _ _ _ _ _ _ hr
    ·exact h.elim
def kK (P:Program) (kp:Bool) (as_:List AV) (σ:List AObj) (K:AV→List AObj→Prop) (_:D1 K):Prop :=
 match kp,as_ with
 | true,fv::as_=>∃ v,X0 P fv as_ σ (fun v' τ'=>v'=v∧τ'=σ)∧QR σ.length v=true∧K v σ
 | false,fv::as_=>∃ v τ,X0 P fv as_ σ (fun v' τ'=>v'=v∧τ'=τ)∧HM σ v τ∧K v τ
 | _,[]=>False
def oX (P:Program) (kp:Bool) (op:IK) (as_:List AV) (σ:List AObj) (K:AV→List AObj→Prop) (d:D1 K):Prop:=match op with | .prim io=>pK (ZQ io as_ σ) K d | .call=>kK P kp as_ σ K d
theorem oX_p {P:Program} {kp:Bool} {io:IOp} {as_:List AV} {σ:List AObj} {K:AV→List AObj→Prop} {d:D1 K}:oX P kp (.prim io) as_ σ K d=pK (ZQ io as_ σ) K d:=Eq.trans rfl rfl
theorem oX_c {P:Program} {kp:Bool} {as_:List AV} {σ:List AObj} {K:AV→List AObj→Prop} {d:D1 K}:oX P kp .call as_ σ K d=kK P kp as_ σ K d:=Eq.trans rfl rfl
theorem YE {P:Program} {fv v:AV} {as_:List AV} {σ:List AObj} {K:AV→List AObj→Prop} {d:D1 K} (h:X0 P fv as_ σ fun v' τ'=>v'=v∧τ'=σ) (hl:QR 0 v=true) (hk:K v σ):kK P true (fv::as_) σ K d:=⟨v,h,Y8 (QF _) v hl,hk⟩
theorem MS {P:Program} {fv v:AV} {as_:List AV} {σ τ:List AObj} {K:AV→List AObj→Prop} {d:D1 K} (h:X0 P fv as_ σ fun v' τ'=>v'=v∧τ'=τ) (hl:HM σ v τ) (hk:K v τ):kK P false (fv::as_) σ K d:=⟨v,τ,h,hl,hk⟩
def RSx (P:Program) (kp:List Nat) (xs:List (Nat × Nat)):Nat→(is:List Ins)→List PlT→List (List AObj)→List AV→List AV→List AObj→(K:List AV→List AV→List AObj→Prop)→D1 is→D1 K→Prop
 | _,[],pl,hs,vals,ρ,σ,K,_,_=>xAll xs pl (hs++[σ])∧K vals ρ σ
 | j,i::is,pl,hs,vals,ρ,σ,K,_,_ =>
  gK (gdOk ρ i.gd) (RSx P kp xs (j+1) is (pl++[.no]) (hs++[σ]) (setD i.dst vals (.tup [])) (ρ++[.tup []]) σ K .mk .mk)
   (oX P (kp.contains j) i.op (i.args.map (WY vals ρ)) σ (fun v σ'=>RSx P kp xs (j+1) is (pl++[plOf i (i.args.map (WY vals ρ)) σ]) (hs++[σ]) (setD i.dst vals v) (ρ++[v]) σ' K .mk .mk) .mk) .mk .mk
theorem RSx_n {P:Program} {kp:List Nat} {xs:List (Nat × Nat)} {j:Nat} {pl:List PlT} {hs:List (List AObj)} {vals ρ:List AV} {σ:List AObj} {K:List AV→List AV→List AObj→Prop} {d:D1 ([]:List Ins)} {e:D1 K}:RSx P kp xs j [] pl hs vals ρ σ K d e=(xAll xs pl (hs++[σ])∧K vals ρ σ):=Eq.trans rfl rfl
theorem RSx_c {P:Program} {kp:List Nat} {xs:List (Nat × Nat)} {j:Nat} {pl:List PlT} {hs:List (List AObj)} {i:Ins} {is:List Ins} {vals ρ:List AV} {σ:List AObj} {K:List AV→List AV→List AObj→Prop} {d:D1 (i::is)} {e:D1 K}:RSx P kp xs j (i::is) pl hs vals ρ σ K d e =
  gK (gdOk ρ i.gd) (RSx P kp xs (j+1) is (pl++[.no]) (hs++[σ]) (setD i.dst vals (.tup [])) (ρ++[.tup []]) σ K .mk .mk)
   (oX P (kp.contains j) i.op (i.args.map (WY vals ρ)) σ (fun v σ'=>RSx P kp xs (j+1) is (pl++[plOf i (i.args.map (WY vals ρ)) σ]) (hs++[σ]) (setD i.dst vals v) (ρ++[v]) σ' K .mk .mk) .mk) .mk .mk:=Eq.trans rfl rfl
theorem EV {P:Program} {kp:List Nat} {xs:List (Nat × Nat)}:∀ (is:List Ins) (j:Nat) (pl:List PlT) (hs:List (List AObj)) (vals ρ:List AV) (σ:List AObj) (K:List AV→List AV→List AObj→Prop) (d:D1 is) (e:D1 K),RSx P kp xs j is pl hs vals ρ σ K d e→RPx P kp xs j is pl hs vals ρ σ K
 | [],_,_,_,_,_,_,_,_,_,h=>h
 | i :: is,j,pl,hs,vals,ρ,σ,K,_,_,h=>by
  simp only[RSx] at h;simp only[RPx];unfold gK at h;split at h
  ·exact h.elim
  ·rename_i hg;try simp only[hg]
   exact EV is _ _ _ _ _ _ _ _ _ h
  ·rename_i hg
   try simp only[hg]
   unfold oX at h;split at h
   ·rename_i io hop;unfold pK at h;split at h
    ·exact h.elim
    ·rename_i v σ' hs';simp only[hop,hs'];exact EV is _ _ _ _ _ _ _ _ _ h
   ·rename_i hop;have hpl:∀ as_,plOf i as_ σ=.no:=fun as_=>by simp[plOf,hop]
    unfold kK at h;split at h
    ·rename_i fv as_ hkp ha;simp only[hop,ha,hkp,if_true];obtain ⟨v,g1,g2,g3⟩:=h;refine ⟨v,g1,g2,?_⟩;have g3:=EV is _ _ _ _ _ _ _ _ _ g3
     rwa [hpl] at g3
    ·rename_i fv as_ hkp ha;simp only[hop,ha,hkp,if_false,QT];obtain ⟨v,τ,g1,g2,g3⟩:=h;refine ⟨v,τ,g1,g2,?_⟩;have g3:=EV is _ _ _ _ _ _ _ _ _ g3
     rwa [hpl] at g3
    ·exact h.elim
def IS (P:Program) (fx:Fx):(ic:IC)→St→(Q:Exit→St→Prop)→D1 ic→D1 Q→Prop
 | .skip,s,Q,_,_=>Q .normal s
 | .label _,s,Q,_,_=>Q .normal s
 | .exit i,s,Q,_,_=>Q (.exit i) s
 | .ret,s,Q,_,_=>Q .ret s
 | .seq a b,s,Q,_,_=>IS P fx a s (fun e s'=>match e with | .normal=>IS P fx b s' Q .mk .mk | e=>Q e s') .mk .mk
 | .block i a,s,Q,_,_=>IS P fx a s (fun e s'=>match e with | .exit i'=>if i'=i then Q .normal s' else Q (.exit i') s' | e=>Q e s') .mk .mk
 | .cond i a b,s,Q,_,_=>cK (s.vals.getD i .undef) (IS P fx a s Q .mk .mk) (IS P fx b s Q .mk .mk) .mk .mk
 | .loop a,s,Q,_,_=>ILk P fx a s Q .mk .mk
 | .scope a,s,Q,_,_=>IS P fx a s (fun e s'=>match e with | .goto _=>False | e=>Q e s') .mk .mk
 | .region is,s,Q,_,_=>RS P is s.vals [] s.heap (fun vals _ σ=>Q .normal ⟨vals,σ⟩) .mk .mk
 | .draw dirs is _,s,Q,_,_=>DWk P fx dirs is s Q .mk .mk
 | .rangef g ps assign body _ _,s,Q,_,_=>RWk P fx g ps assign body s Q .mk .mk .mk
section
variable {P:Program} {fx:Fx} {s:St} {Q:Exit→St→Prop} {e:D1 Q}
theorem IS_skip {d:D1 IC.skip}:IS P fx .skip s Q d e=Q .normal s:=Eq.trans rfl rfl
theorem IS_label {l:Nat} {d:D1 (IC.label l)}:IS P fx (.label l) s Q d e=Q .normal s:=Eq.trans rfl rfl
theorem IS_exit {i:Nat} {d:D1 (IC.exit i)}:IS P fx (.exit i) s Q d e=Q (.exit i) s:=Eq.trans rfl rfl
theorem IS_ret {d:D1 IC.ret}:IS P fx .ret s Q d e=Q .ret s:=Eq.trans rfl rfl
def kSeq (P:Program) (fx:Fx) (b:IC) (Q:Exit→St→Prop):Exit→St→Prop:=fun e s'=>match e with | .normal=>IS P fx b s' Q .mk .mk | e=>Q e s'
def Qal (i:Nat) (Q:Exit→St→Prop):Exit→St→Prop:=fun e s'=>match e with | .exit i'=>if i'=i then Q .normal s' else Q (.exit i') s' | e=>Q e s'
def Qak (Q:Exit→St→Prop):Exit→St→Prop:=fun e s'=>match e with | .goto _=>False | e=>Q e s'
def kReg (Q:Exit→St→Prop):List AV→List AV→List AObj→Prop:=fun vals _ σ=>Q .normal ⟨vals,σ⟩
theorem kSeq_n {b:IC}:kSeq P fx b Q .normal s=IS P fx b s Q .mk .mk:=Eq.trans rfl rfl
theorem kSeq_x {b:IC} {i:Nat}:kSeq P fx b Q (.exit i) s=Q (.exit i) s:=Eq.trans rfl rfl
theorem kSeq_r {b:IC}:kSeq P fx b Q .ret s=Q .ret s:=Eq.trans rfl rfl
theorem kBlock_n {i:Nat}:Qal i Q .normal s=Q .normal s:=Eq.trans rfl rfl
theorem kBlock_x {i i':Nat}:Qal i Q (.exit i') s=if i'=i then Q .normal s else Q (.exit i') s:=Eq.trans rfl rfl
theorem kBlock_r {i:Nat}:Qal i Q .ret s=Q .ret s:=Eq.trans rfl rfl
theorem kScope_n:Qak Q .normal s=Q .normal s:=Eq.trans rfl rfl
theorem kScope_x {i':Nat}:Qak Q (.exit i') s=Q (.exit i') s:=Eq.trans rfl rfl
theorem kScope_r:Qak Q .ret s=Q .ret s:=Eq.trans rfl rfl
theorem kReg_n {vals ρ:List AV} {σ:List AObj}:kReg Q vals ρ σ=Q .normal ⟨vals,σ⟩:=Eq.trans rfl rfl
theorem IS_seq {a b:IC} {d:D1 (IC.seq a b)}:IS P fx (.seq a b) s Q d e=IS P fx a s (kSeq P fx b Q) .mk .mk:=Eq.trans rfl rfl
theorem IS_block {i:Nat} {a:IC} {d:D1 (IC.block i a)}:IS P fx (.block i a) s Q d e=IS P fx a s (Qal i Q) .mk .mk:=Eq.trans rfl rfl
theorem IS_cond {i:Nat} {a b:IC} {d:D1 (IC.cond i a b)}:IS P fx (.cond i a b) s Q d e=cK (s.vals.getD i .undef) (IS P fx a s Q .mk .mk) (IS P fx b s Q .mk .mk) .mk .mk:=Eq.trans rfl rfl
theorem IS_loop {a:IC} {d:D1 (IC.loop a)}:IS P fx (.loop a) s Q d e=ILk P fx a s Q .mk .mk:=Eq.trans rfl rfl
theorem IS_scope {a:IC} {d:D1 (IC.scope a)}:IS P fx (.scope a) s Q d e=IS P fx a s (Qak Q) .mk .mk:=Eq.trans rfl rfl
theorem QfG {is:List Ins} {d:D1 (IC.region is)}:IS P fx (.region is) s Q d e=RS P is s.vals [] s.heap (kReg Q) .mk .mk:=Eq.trans rfl rfl
theorem IS_draw {dirs:List (List Nat)} {is:List Ins} {pds:List (List Nat)} {d:D1 (IC.draw dirs is pds)}:IS P fx (.draw dirs is pds) s Q d e=DWk P fx dirs is s Q .mk .mk:=Eq.trans rfl rfl
theorem IS_dr {dirs:List (List Nat)} {is:List Ins} {d:D1 (IC.dr dirs is)}:IS P fx (.dr dirs is) s Q d e=DWk P fx dirs is s Q .mk .mk:=Eq.trans rfl rfl
theorem QfH {g:Opd} {ps:Array Nat} {assign body:Code} {ia ib:IC} {d:D1 (IC.rangef g ps assign body ia ib)}:IS P fx (.rangef g ps assign body ia ib) s Q d e=RWk P fx g ps assign body s Q .mk .mk .mk:=Eq.trans rfl rfl
end
theorem BC {P:Program} {fx:Fx}:∀ (ic:IC) (s:St) (Q Q':Exit→St→Prop),(∀ e s,Q e s→Q' e s)→IW P fx ic s Q→IW P fx ic s Q':=by
 intro ic
 induction ic with
 | skip=>intro s Q Q' hq h;exact hq _ _ h
 | label _=>intro s Q Q' hq h;exact hq _ _ h
 | exit _=>intro s Q Q' hq h;exact hq _ _ h
 | ret=>intro s Q Q' hq h;exact hq _ _ h
 | seq a b iha ihb =>
  intro s Q Q' hq h;refine iha s _ _ ?_ h;intro e s' h';cases e with
  | normal=>exact ihb s' Q Q' hq h'
  | _=>exact hq _ _ h'
 | block i a iha =>
  intro s Q Q' hq h;refine iha s _ _ ?_ h;intro e s' h';cases e with
  | exit i' =>
   simp only at h' ⊢;by_cases hi:i'=i
   ·rw[if_pos hi] at h' ⊢;exact hq _ _ h'
   ·rw[if_neg hi] at h' ⊢;exact hq _ _ h'
  | _=>exact hq _ _ h'
 | cond i a b iha ihb =>
  intro s Q Q' hq h;obtain ⟨t,h1,h2⟩:=h;refine ⟨t,h1,?_⟩;cases t with
  | true=>exact iha s Q Q' hq h2
  | false=>exact ihb s Q Q' hq h2
 | loop a _=>intro s Q Q' hq h;exact fun c hc=>(h c hc).mono hq
 | scope a iha =>
  intro s Q Q' hq h;refine iha s _ _ ?_ h;intro e s' h';cases e with
  | goto l=>exact h'
  | _=>exact hq _ _ h'
 | region is =>
  intro s Q Q' hq h;have key:∀ (is:List Ins) (vals ρ:List AV) (σ:List AObj) (K K':List AV→List AV→List AObj→Prop),(∀ a b c,K a b c→K' a b c)→RG P is vals ρ σ K→RG P is vals ρ σ K':=by
   intro is
   induction is with
   | nil=>intro vals ρ σ K K' hk h;exact hk _ _ _ h
   | cons i is ih =>
    intro vals ρ σ K K' hk h;simp only[RG] at h ⊢;split at h
    ·exact h
    ·rename_i hg;exact ih _ _ _ _ _ hk h
    ·rename_i hg;split at h
     ·rename_i hop;split at h
      ·rename_i hs;exact ih _ _ _ _ _ hk h
      ·exact h
     ·rename_i hop ha;exact h.mono fun r τ hr=>ih _ _ _ _ _ hk hr
     ·exact h
  exact key is _ _ _ _ _ (fun a b c h=>hq _ _ h) h
 | draw dirs is pds=>intro s Q Q' hq h;exact fun id ops h1 h2=>(h id ops h1 h2).mono hq
 | rangef g ps assign body ia ib _ _ =>
  intro s Q Q' hq h;obtain ⟨gf,cap,h1,h2,h3,h4⟩:=h;refine ⟨gf,cap,h1,h2,h3,h4.mono ?_⟩;rintro r σ' ⟨r2,g1,g2,g3⟩;refine ⟨r2,g1,g2,?_⟩;cases hp:r2.pending with
  | none=>rw[hp] at g3;exact hq _ _ g3
  | some c=>rw[hp] at g3;exact W.mono g3 hq
theorem VT {P:Program} {fx:Fx}:∀ (ic:IC) (s:St) (Q:Exit→St→Prop) (d:D1 ic) (e:D1 Q),IS P fx ic s Q d e→IW P fx ic s Q:=by
 intro ic
 induction ic with
 | skip=>intro s Q _ _ h;exact h
 | label _=>intro s Q _ _ h;exact h
 | exit _=>intro s Q _ _ h;exact h
 | ret=>intro s Q _ _ h;exact h
 | seq a b iha ihb =>
  intro s Q _ _ h;refine BC a s _ _ ?_ (iha s _ _ _ h);intro e s' h';cases e with
  | normal=>exact ihb s' Q _ _ h'
  | _=>exact h'
 | block i a iha=>intro s Q _ _ h;exact iha s _ _ _ h
 | cond i a b iha ihb =>
  intro s Q _ _ h;simp only[IS] at h;unfold cK at h;split at h
  ·rename_i hv;exact ⟨true,hv,iha s Q _ _ h⟩
  ·rename_i hv;exact ⟨false,hv,ihb s Q _ _ h⟩
  ·exact h.elim
 | loop a _=>intro s Q _ _ h;exact h
 | scope a iha=>intro s Q _ _ h;exact iha s _ _ _ h
 | region is=>intro s Q _ _ h;exact T2 is _ _ _ _ _ _ h
 | draw dirs is pds=>intro s Q _ _ h;exact h
 | rangef g ps assign body ia ib _ _=>intro s Q _ _ h;exact h
def kEnd (res:List RC) (Q:AV→List AObj→Prop):Exit→St→Prop:=fun e s'=>match e with
 | .normal | .ret=>rK (RL s'.vals s'.heap res) (fun r=>Q r s'.heap) .mk
 | _=>False
theorem kEnd_n {res:List RC} {Q:AV→List AObj→Prop} {s:St}:kEnd res Q .normal s=rK (RL s.vals s.heap res) (fun r=>Q r s.heap) .mk:=Eq.trans rfl rfl
theorem kEnd_r {res:List RC} {Q:AV→List AObj→Prop} {s:St}:kEnd res Q .ret s=rK (RL s.vals s.heap res) (fun r=>Q r s.heap) .mk:=Eq.trans rfl rfl
theorem ZF {P:Program} {f:FuncId} {ic:IC} {vars:List Nat} {N:Nat} {res:List RC} {p:Bool} {args:List AV} {σ:List AObj} {Q:AV→List AObj→Prop} (hf:FnOk P f ⟨ic,vars,N,res,p⟩) (hargs:args.length≤N)
  (h:IS P ⟨vars,N,none,σ.length⟩ ic ⟨Y5 vars args,σ⟩ (kEnd res Q) .mk .mk):AC P f args σ Q:=by
 obtain ⟨fn,c,h1,h2,h3,h4,h5,h6⟩:=hf.ok
 dsimp only at h4 h5 h6
 subst h4;have hr:∀ vals heap,UB P vars vals heap fn.results.toList=RL vals heap res:=fun vals heap=>BY h6
 refine AC_IW vars h1 h2 h3 hargs h5 (BC ic _ _ _ ?_ (VT ic _ _ _ _ h));intro e s' h';have key:rK (RL s'.vals s'.heap res) (fun r=>Q r s'.heap) .mk→∃ r,UB P vars s'.vals s'.heap fn.results.toList=some r∧Q r s'.heap:=by
  intro h';unfold rK at h';split at h'
  ·exact h'.elim
  ·rename_i v hv;exact ⟨v,by rw[hr];exact hv,h'⟩
 cases e with
 | normal=>exact key h'
 | ret=>exact key h'
 | _=>exact h'
theorem DW_s {P:Program} {fx:Fx} {s:St} {Q:Exit→St→Prop} {dirs:List (List Nat)} {is:List Ins} (kp:List Nat) (xs:List (Nat × Nat)) (hmix:P.follows .mixedOrders=true) (hord:RQ dirs is (Qbd dirs []) kp xs=true) (hvl:s.vals.length=fx.vars.length)
  (h:RSx P kp xs 0 is [] [] s.vals [] s.heap (kReg Q) .mk .mk):DW P fx dirs is s Q:=DW_ordx kp xs hmix hord hvl (EV _ _ _ _ _ _ _ _ _ _ h)
def kUn (P:Program) (fx:Fx) (a:IC) (Q:Exit→St→Prop):Exit→St→Prop:=fun e s'=>match e with | .normal=>IL P fx a s' Q | e=>Q e s'
theorem kUn_n {P:Program} {fx:Fx} {a:IC} {Q:Exit→St→Prop} {s:St}:kUn P fx a Q .normal s=ILk P fx a s Q .mk .mk:=Eq.trans rfl rfl
theorem kUn_x {P:Program} {fx:Fx} {a:IC} {Q:Exit→St→Prop} {s:St} {i:Nat}:kUn P fx a Q (.exit i) s=Q (.exit i) s:=Eq.trans rfl rfl
theorem kUn_r {P:Program} {fx:Fx} {a:IC} {Q:Exit→St→Prop} {s:St}:kUn P fx a Q .ret s=Q .ret s:=Eq.trans rfl rfl
theorem J1 {P:Program} {fx:Fx} {a:IC} {s:St} {Q:Exit→St→Prop} (h:IS P fx a s (kUn P fx a Q) .mk .mk):IL P fx a s Q:=QfI (VT _ _ _ _ _ h)
def kFor (fx:Fx) (c:Prop) (S:St→Prop) (Q:Exit→St→Prop):Exit→St→Prop:=fun e s'=>match e with | .normal=>c∧∃ s'',Weak fx s' s''∧S s'' | e=>Q e s'
theorem kFor_x {fx:Fx} {c:Prop} {S:St→Prop} {Q:Exit→St→Prop} {i:Nat} {s:St}:kFor fx c S Q (.exit i) s=Q (.exit i) s:=Eq.trans rfl rfl
theorem kFor_r {fx:Fx} {c:Prop} {S:St→Prop} {Q:Exit→St→Prop} {s:St}:kFor fx c S Q .ret s=Q .ret s:=Eq.trans rfl rfl
theorem ZL {fx:Fx} {c:Prop} {S:St→Prop} {Q:Exit→St→Prop} {s:St} (hc:c) (h:S s):kFor fx c S Q .normal s:=⟨hc,s,Weak.refl _ _,h⟩
theorem AS {fx:Fx} {c:Prop} {S:St→Prop} {Q:Exit→St→Prop} {s s':St} (hc:c) (hw:Weak fx s s') (h:S s'):kFor fx c S Q .normal s:=⟨hc,s',hw,h⟩
theorem ZW {P:Program} {fx:Fx} {a:IC} {Q:Exit→St→Prop} (n:Nat) (S:Nat→St→Prop)
  (h:∀ i s,i≤n→S i s→IS P fx a s (kFor fx (i<n) (S (i+1)) Q) .mk .mk) (i:Nat) (hi:i≤n) {s:St} (hs:S i s):IL P fx a s Q:=by
 intro c hc;have key:∀ (k i:Nat) (s:St),n-i=k→i≤n→S i s→WL P fx c s Q:=by
  intro k
  induction k with
  | zero =>
   intro i s hk hi hs;refine FG ((Y6 c a s _ hc (VT _ _ _ _ _ (h i s hi hs))).mono ?_);intro e s' hq;cases e with
   | normal=>exact absurd hq.1 (by omega)
   | _=>exact hq
  | succ k ih =>
   intro i s hk hi hs;refine FG ((Y6 c a s _ hc (VT _ _ _ _ _ (h i s hi hs))).mono ?_);intro e s' hq;cases e with
   | normal =>
    obtain ⟨h1,s'',h2,h3⟩:=hq;exact (ih (i+1) s'' (by omega) h1 h3).weak h2
   | _=>exact hq
 exact key (n-i) i s rfl hi hs
abbrev ints (zs:List Int):AV:=.cv (.rsl (zs.map (.int .i64)) zs.length)
theorem J5 {kd:IntKind} {zs:List Int} {n:Nat} {k:Nat} (h:k<n) (σ:List AObj):VP 1 [.cv (.rsl (zs.map (.int kd)) n),.cv (.int .i64 k)] σ=some (.cv (.rp (zs.map (.int kd)) k),σ):=by
 simp[VP,h]
theorem J4 {kd:IntKind} {zs:List Int} {k:Nat} (h:k<zs.length):(zs.map (CV.int kd))[k]? = some (.int kd (zs.getD k 0)):=by
 simp[List.getD,h]
theorem ZC {n:Int} (h:-9223372036854775808≤n∧n≤9223372036854775807):IntKind.i64.wrap n=n:=by
 simp[IntKind.wrap,IntKind.bits,IntKind.signed,Int.bmod];omega
theorem AC.run {P:Program} {f:FuncId} {args:List AV} {v:AV} {σ τ:List AObj} {K:AV→List AObj→Prop} (h:AC P f args σ fun r τ'=>r=v∧τ'=τ) (hk:K v τ):AC P f args σ K:=h.mono fun r τ ⟨h1,h2⟩=>by rw[h1,h2];exact hk
theorem X0.run {P:Program} {fv:AV} {args:List AV} {v:AV} {σ τ:List AObj} {K:AV→List AObj→Prop} (h:X0 P fv args σ fun r τ'=>r=v∧τ'=τ) (hk:K v τ):X0 P fv args σ K:=h.mono fun r τ ⟨h1,h2⟩=>by rw[h1,h2];exact hk
theorem P2 {p:CV→Prop} {σ:List AObj} (hp:∀ z,p (.int .i64 z)):∀ zs:List Int,HL p σ (zs.map AV.i) (zs.map (.int .i64))
 | []=>.nil
 | z::zs=>.cons (.c _ (hp z)) (P2 hp zs)
theorem TN {p:CV→Prop} (hp:∀ z,p (.int .i64 z)) {σ:List AObj} {zs:List Int} {l:Nat} (hr:rowOf σ l=some (zs.map AV.i)):FrzV p σ (.sl l 0 zs.length 1) (ints zs):=by
 refine .c (.sl l 0 zs.length 1 _ _ hr (by simp) ?_);have:((zs.map AV.i).drop 0).take (zs.length*1)=zs.map AV.i:=by rw[YO];exact Q5 (by simp)
 rw[this];exact P2 hp zs
theorem U4 {p:CV→Prop} (hp:∀ z,p (.int .i64 z)) {σ:List AObj} {zs:List Int} {l n:Nat} (hn:n=zs.length) (hr:rowOf σ l=some (zs.map AV.i)):FrzV p σ (.sl l 0 n 1) (ints zs):=by subst hn;exact TN hp hr
theorem W9 {l off n k:Nat} (h:k<n) (σ:List AObj):VP 1 [.sl l off n 1,.cv (.int .i64 k)] σ=some (.ptr l (off+k),σ):=by
 simp[VP,h]
theorem slc_addr {l off n c k:Nat} (h:k<n) (σ:List AObj):VP 1 [.slc l off n c 1,.cv (.int .i64 k)] σ=some (.ptr l (off+k),σ):=by
 simp[VP,h]
theorem V1 {zs:List Int} {k:Nat} (h:k<zs.length):(zs.map AV.i)[k]? = some (.i (zs[k]?.getD 0)):=by simp[h]
theorem GC {zs:List Int} {k:Nat} {o:Int}:(zs.map AV.i).set k (.cv (.int .i64 o))=(zs.set k o).map AV.i:=List.map_set.symm
theorem RY {p:CV→Prop} {σ:List AObj}:FrzV p σ (.cv .nils) (ints []):=.c .nl
theorem HE {cs:List AV} {σ:List AObj}:rowOf (AObj.cells cs::σ) 0=some cs:=rfl
theorem MK {o:AObj} {σ:List AObj} {n:Nat}:rowOf (o::σ) (n+1)=rowOf σ n:=rfl
theorem Qc8 {cs:List AV} {n:Nat}:setRange cs n []=cs:=rfl
theorem BQ {cs:List AV} {n:Nat} {v:AV} {vs:List AV}:setRange cs n (v::vs)=setRange (cs.set n v) (n+1) vs:=rfl
def SB (σ:List AObj) (v:AV) (zs:List Int):Prop:=(v=.cv .nils∧zs=[])∨∃ l,v=.sl l 0 zs.length 1∧rowOf σ l=some (zs.map AV.i)
theorem FU {σ:List AObj} {l:Nat} {cs:List AV} (h:rowOf σ l=some cs) (x:AObj):rowOf (σ++[x]) l=some cs:=by
 have h:=WO h;unfold rowOf;rw[QE (QH.1 h).1,h]
theorem XH (σ:List AObj) (cs:List AV):rowOf (σ++[.cells cs]) σ.length=some cs:=by simp[rowOf]
theorem SB.nil (σ:List AObj):SB σ (.cv .nils) []:=.inl ⟨rfl,rfl⟩
theorem QdK {σ:List AObj} {v:AV} {zs:List Int} (z:Int) (h:SB σ v zs) (hl:zs.length<2 ^ 40) :
  ∃ (v':AV) (σ':List AObj),ZX 1 8 [v,.sl σ.length 0 1 1] (σ++[AObj.cells [.i z]])=some (v',σ')∧SB σ' v' (zs++[z]):=by
 have hsrc:Z9 (σ++[AObj.cells [.i z]]) 1 (.sl σ.length 0 1 1)=some [.i z]:=by simp[Z9,rowOf]
 rcases h with ⟨rfl,rfl⟩ | ⟨l,rfl,hr⟩
 ·refine ⟨.sl (σ++[AObj.cells [.i z]]).length 0 1 1,(σ++[AObj.cells [.i z]])++[AObj.cells [.i z]],?_,.inr ⟨_,rfl,?_⟩⟩
  ·simp only[ZX,hsrc,lenF,Option.bind_some];rfl
  ·rw[XH];rfl
 ·have hr':=FU hr (AObj.cells [.i z]);refine ⟨.sl (σ++[AObj.cells [.i z]]).length 0 (zs.length+1) 1,(σ++[AObj.cells [.i z]]).set l AObj.dead++[AObj.cells (zs.map AV.i++[.i z])],?_,.inr ⟨(σ++[AObj.cells [.i z]]).length,by simp,?_⟩⟩
  ·simp only[ZX,hr',hsrc,lenF,Option.bind_some];have hp:(2:Nat) ^ 40=1099511627776:=by decide
   have hp2:(2:Nat) ^ 44=17592186044416:=by decide
   have hc:(True∧zs.length*1≤(zs.map AV.i).length∧1*1=[AV.i z].length∧(zs.length+1)*8≤2 ^ 44∧zs.length+1≤2 ^ 44∧[AV.i z].all AV.isSc=true):=by refine ⟨trivial,by simp,rfl,by omega,by omega,rfl⟩
   rw[if_pos hc,W3,Q5 (by simp)]
  ·have:(σ++[AObj.cells [.i z]]).length=((σ++[AObj.cells [.i z]]).set l AObj.dead).length:=by simp
   rw[this,XH];simp
def G9 (b:Nat) (σ:List AObj) (v:AV) (zs:List Int):Prop:=b≤σ.length∧((v=.cv .nils∧zs=[])∨∃ l,b≤l∧v=.sl l 0 zs.length 1∧rowOf σ l=some (zs.map AV.i))
theorem G9.acc {b:Nat} {σ:List AObj} {v:AV} {zs:List Int} (h:G9 b σ v zs):SB σ v zs:=h.2.imp id fun ⟨l,_,h1,h2⟩=>⟨l,h1,h2⟩
theorem G9.nil {b:Nat} {σ:List AObj} (h:b≤σ.length):G9 b σ (.cv .nils) []:=⟨h,.inl ⟨rfl,rfl⟩⟩
theorem QX {σ:List AObj} {l l':Nat} (h:l≠l') (x:AObj):rowOf (σ.set l x) l'=rowOf σ l':=by unfold rowOf;rw[QU h]
theorem W0 {σ:List AObj} {l:Nat} {cs cs':List AV} (h:rowOf σ l=some cs):rowOf (σ.set l (AObj.cells cs')) l=some cs':=by
 have h:=(QH.1 (WO h)).1;unfold rowOf;rw[Z2 h]
theorem acc_frz {p:CV→Prop} (hp:∀ z,p (.int .i64 z)) {σ:List AObj} {v:AV} {zs:List Int} (h:SB σ v zs):FrzV p σ v (ints zs):=by
 rcases h with ⟨rfl,rfl⟩ | ⟨l,rfl,hr⟩
 ·exact RY
 ·exact TN hp hr
theorem bTF:(true == false)=false:=rfl
theorem bFT:(false == true)=false:=rfl
theorem bTT:(true == true)=true:=rfl
theorem bFF:(false == false)=true:=rfl
def frzA:=And.intro (And.intro (And.intro (@W3) (@Nat.one_mul)) (And.intro (@YO.{0}) (@List.take_succ_cons.{0}))) (And.intro (And.intro (@List.take_zero.{0}) (And.intro (@Q0.{0,0}) (@WS.{0,0}))) (And.intro (@List.cons_append.{0}) (And.intro (@List.nil_append.{0}) (@ZU.{0}))))
def ev0:=And.intro (And.intro (And.intro (And.intro (@IS_skip) (And.intro (@IS_label) (@IS_exit))) (And.intro (@IS_ret) (And.intro (@IS_seq) (@IS_block)))) (And.intro (And.intro (@IS_cond) (And.intro (@IS_loop) (@IS_scope))) (And.intro (@QfG) (And.intro (And.intro (@IS_draw) (@IS_dr)) (@QfH))))) (And.intro (And.intro (And.intro (@kSeq_n) (And.intro (@kSeq_x) (@kSeq_r))) (And.intro (@kBlock_n) (And.intro (@kBlock_x) (@kBlock_r)))) (And.intro (And.intro (@kScope_n) (And.intro (@kScope_x) (@kScope_r))) (And.intro (@kReg_n) (And.intro (@kEnd_n) (@kEnd_r)))))
def ev1:=And.intro (And.intro (And.intro (And.intro (@kUn_n) (And.intro (@kUn_x) (@kUn_r))) (And.intro (@kFor_x) (And.intro (@kFor_r) (@RS_n)))) (And.intro (And.intro (@RS_c) (And.intro (@RSx_n) (@RSx_c))) (And.intro (@gdOk.eq_1) (And.intro (@gdOk.eq_2) (@gK_t))))) (And.intro (And.intro (And.intro (@gK_f) (And.intro (@pK_s) (@cK_t))) (And.intro (@cK_f) (And.intro (@callK_c) (@oK_p)))) (And.intro (And.intro (@oK_c) (And.intro (@oX_p) (@oX_c))) (And.intro (@rK_s) (And.intro (@QfJ) (@plOf.eq_1)))))
def ev2:=And.intro (And.intro (And.intro (And.intro (@YX.eq_1) (And.intro (@YX.eq_2) (@xOne.eq_1))) (And.intro (@xOne.eq_2) (And.intro (@O4.eq_1) (@O4.eq_2)))) (And.intro (And.intro (@kindOf.eq_1) (And.intro (@kindOf.eq_2) (@kindOf.eq_3))) (And.intro (@kindOf.eq_4) (And.intro (@kindOf.eq_5) (@kindOf.eq_6))))) (And.intro (And.intro (And.intro (@kindOf.eq_7) (And.intro (@kindOf.eq_8) (@kindOf.eq_9))) (And.intro (@kindOf.eq_10) (And.intro (@kindOf.eq_11) (@kindOf.eq_12)))) (And.intro (And.intro (@kindOf.eq_13) (And.intro (@kindOf.eq_14) (@kindOf.eq_15))) (And.intro (@kindOf.eq_16) (And.intro (@kindOf.eq_17) (@kindOf.eq_18)))))
def ev3:=And.intro (And.intro (And.intro (And.intro (@kindOf.eq_19) (And.intro (@kindOf.eq_20) (@kindOf.eq_21))) (And.intro (@kindOf.eq_22) (And.intro (@kindOf.eq_23) (@kindOf.eq_24)))) (And.intro (And.intro (@kindOf.eq_25) (And.intro (@kindOf.eq_26) (@kindOf.eq_27))) (And.intro (@JJ.eq_1) (And.intro (@JJ.eq_2) (@JJ.eq_3))))) (And.intro (And.intro (And.intro (@JJ.eq_4) (And.intro (@YH.{0,0}) (@List.flatMap_nil.{0,0}))) (And.intro (@Q0.{0,0}) (And.intro (@WS.{0,0}) (@WY.eq_1)))) (And.intro (And.intro (@WY.eq_2) (And.intro (@WY.eq_3) (@ZQ.eq_1))) (And.intro (@ZQ.eq_2) (And.intro (@ZQ.eq_3) (@ZQ.eq_4)))))
def ev4:=And.intro (And.intro (And.intro (And.intro (@ZQ.eq_5) (And.intro (@ZQ.eq_6) (@ZQ.eq_7))) (And.intro (@ZQ.eq_8) (And.intro (@ZQ.eq_9) (@ZQ.eq_10)))) (And.intro (And.intro (@ZQ.eq_11) (And.intro (@ZQ.eq_12) (@ZQ.eq_13))) (And.intro (@ZQ.eq_14) (And.intro (@ZQ.eq_15) (@ZQ.eq_16))))) (And.intro (And.intro (And.intro (@ZQ.eq_17) (And.intro (@ZQ.eq_18) (@ZQ.eq_19))) (And.intro (@ZQ.eq_20) (And.intro (@ZQ.eq_21) (@ZQ.eq_22)))) (And.intro (And.intro (@ZQ.eq_23) (And.intro (@ZQ.eq_24) (@ZQ.eq_25))) (And.intro (@ZQ.eq_26) (And.intro (@ZQ.eq_27) (@ZQ.eq_28)))))
def ev5:=And.intro (And.intro (And.intro (And.intro (@ZQ.eq_29) (And.intro (@ZQ.eq_30) (@ZQ.eq_31))) (And.intro (@ZQ.eq_32) (And.intro (@ZQ.eq_33) (@ZQ.eq_34)))) (And.intro (And.intro (@ZQ.eq_35) (And.intro (@ZQ.eq_36) (@f_mv.eq_1))) (And.intro (@f_mv.eq_2) (And.intro (@P4.eq_1) (@P4.eq_2))))) (And.intro (And.intro (And.intro (@CN.eq_1) (And.intro (@CN.eq_2) (@OJ.eq_1))) (And.intro (And.intro (@OJ.eq_2) (@OJ.eq_3)) (And.intro (@P5.eq_1) (@P5.eq_2)))) (And.intro (And.intro (@UO.eq_1) (And.intro (@UO.eq_2) (@WI.eq_1))) (And.intro (@WI.eq_2) (And.intro (@DL.eq_1) (@V4.eq_1)))))
def ev6:=And.intro (And.intro (And.intro (And.intro (@KZ.eq_1) (And.intro (@KZ.eq_2) (@KZ.eq_3))) (And.intro (@YF.eq_1) (And.intro (@YF.eq_2) (@YF.eq_3)))) (And.intro (And.intro (@UM.eq_1) (And.intro (@UM.eq_2) (@G4.eq_1))) (And.intro (@G4.eq_2) (And.intro (@G4.eq_3) (@G4.eq_4))))) (And.intro (And.intro (And.intro (@NI.eq_1) (And.intro (@NJ.eq_1) (@RZ.eq_1))) (And.intro (@RZ.eq_2) (And.intro (@RZ.eq_3) (@RZ.eq_4)))) (And.intro (And.intro (@RZ.eq_5) (And.intro (@DK.eq_1) (@DK.eq_2))) (And.intro (@DK.eq_3) (And.intro (@OH.eq_1) (@OH.eq_2)))))
def ev7:=And.intro (And.intro (And.intro (And.intro (@OH.eq_3) (And.intro (@U6.eq_1) (@U6.eq_2))) (And.intro (@DJ.eq_1) (And.intro (@DJ.eq_2) (@GT.eq_1)))) (And.intro (And.intro (And.intro (@GT.eq_2) (@GT.eq_3)) (And.intro (@binF.eq_1) (@binF.eq_2))) (And.intro (@binF.eq_3) (And.intro (@binF.eq_4) (@binF.eq_5))))) (And.intro (And.intro (And.intro (@binF.eq_6) (And.intro (@binF.eq_7) (@binF.eq_8))) (And.intro (@binF.eq_9) (And.intro (@binF.eq_10) (@RV.eq_1)))) (And.intro (And.intro (@RV.eq_2) (And.intro (@RV.eq_3) (@binI.eq_1))) (And.intro (@binI.eq_2) (And.intro (@binI.eq_3) (@binI.eq_4)))))
def ev8:=And.intro (And.intro (And.intro (And.intro (@binI.eq_5) (And.intro (@binI.eq_6) (@binI.eq_7))) (And.intro (@binI.eq_8) (And.intro (@binI.eq_9) (@binI.eq_10)))) (And.intro (And.intro (@binI.eq_11) (And.intro (@binI.eq_12) (@binI.eq_13))) (And.intro (@binI.eq_14) (And.intro (@binI.eq_15) (@binI.eq_16))))) (And.intro (And.intro (And.intro (@K8.eq_1) (And.intro (@K8.eq_2) (@K8.eq_3))) (And.intro (@setD.eq_1) (And.intro (@setD.eq_2) (@Y5.eq_1)))) (And.intro (And.intro (@cellsOf.eq_1) (And.intro (@cellsOf.eq_2) (@HW.eq_1))) (And.intro (@HW.eq_2) (And.intro (@HW.eq_3) (@Qc8)))))
def ev9:=And.intro (And.intro (And.intro (And.intro (@BQ) (And.intro (@HE) (@MK))) (And.intro (@AV.isUndef.eq_1) (And.intro (@AV.isUndef.eq_2) (@AV.isSc.eq_1)))) (And.intro (And.intro (@AV.isSc.eq_2) (And.intro (@AV.isSc.eq_3) (@AV.isSc.eq_4))) (And.intro (@CallV_fn) (And.intro (@CallV_bm) (@RL.eq_1))))) (And.intro (And.intro (And.intro (@RL.eq_2) (And.intro (@resE.eq_1) (@resE.eq_2))) (And.intro (@resE.eq_3) (And.intro (@mapO.eq_1) (@mapO.eq_2)))) (And.intro (And.intro (@WA.{0}) (And.intro (@List.set_cons_zero.{0}) (@List.set_cons_succ.{0}))) (And.intro (@List.getElem?_cons_zero.{0}) (And.intro (@List.getElem?_cons_succ.{0}) (@List.nil_append.{0})))))
def ev10:=And.intro (And.intro (And.intro (And.intro (@List.cons_append.{0}) (And.intro (@ZU.{0}) (@Option.getD_some.{0}))) (And.intro (@List.getElem?_nil.{0}) (And.intro (@Option.getD_none.{0}) (@Option.map_some.{0,0})))) (And.intro (And.intro (@Option.bind_some.{0,0}) (And.intro (@QT) (@List.length_cons.{0}))) (And.intro (@List.length_nil.{0}) (And.intro (@List.take_succ_cons.{0}) (@List.take_zero.{0}))))) (And.intro (And.intro (And.intro (@YO.{0}) (And.intro (@List.drop_succ_cons.{0}) (@XI))) (And.intro (@WH) (And.intro (@Bool.false_and) (@UA)))) (And.intro (And.intro (@US) (And.intro (@Bool.or_true) (@Y3))) (And.intro (@Bool.or_false) (And.intro (@Y2) (@ZY)))))
def ev11:=And.intro (And.intro (And.intro (And.intro (@Bool.not_not) (And.intro (@beq_self_eq_true.{0}) (@List.all_cons.{0}))) (And.intro (@List.all_nil.{0}) (And.intro (@ZV) (@Nat.add_zero)))) (And.intro (And.intro (@AV.cv.injEq) (And.intro (@CV.bool.injEq) (@CV.int.injEq))) (And.intro (@exists_eq_left'.{1}) (And.intro (@exists_eq_left.{1}) (@decide_true))))) (And.intro (And.intro (And.intro (@decide_false) (And.intro (@true_and) (@and_true))) (And.intro (@and_self) (And.intro (@Int.toNat_natCast) (@Go.Exit.exit.injEq)))) (And.intro (And.intro (@J5) (And.intro (@J4) (@W9))) (And.intro (@V1) (And.intro (@GC) (@ZK.{0,0})))))
def ev12:=And.intro (And.intro (And.intro (@WE.{0}) (And.intro (@W3) (@beq_true))) (And.intro (And.intro (@Option.some.injEq.{0}) (@bne_self_eq_false.{0})) (And.intro (@List.contains_cons.{0}) (@List.contains_nil.{0})))) (And.intro (And.intro (@xAll.eq_1) (And.intro (@xAll.eq_2) (@ZC))) (And.intro (And.intro (@bTF) (@bFT)) (And.intro (@bTT) (@bFF))))
def ev13:=And.intro (And.intro (And.intro (@ZQ.eq_37) (@ZQ.eq_38)) (And.intro (@ZQ.eq_39) (@ZQ.eq_41))) (And.intro (And.intro (@kindOf.eq_28) (@F6.eq_1)) (And.intro (@OI.eq_1) (@kindOf.eq_27)))
def ev14:=And.intro (And.intro (And.intro (@ZQ.eq_42) (@ZQ.eq_43)) (And.intro (And.intro (@ZQ.eq_44) (@ZQ.eq_45)) (@kindOf.eq_29))) (And.intro (And.intro (@kindOf.eq_30) (And.intro (@RZ.eq_6) (@slc_addr))) (And.intro (@NZ.eq_1) (And.intro (@JJ.eq_5) (And.intro (@binF.eq_11) (@binF.eq_12)))))
def evj:=And.intro (And.intro (And.intro (And.intro (@jS.eq_1) (And.intro (@jB.eq_1) (@jn.eq_1))) (And.intro (@jq.eq_1) (And.intro (@jw.eq_1) (@jg.eq_1)))) (And.intro (And.intro (@jk.eq_1) (And.intro (@jd.eq_1) (@jf.eq_1))) (And.intro (@jv.eq_1) (And.intro (@jt.eq_1) (@jl.eq_1))))) (And.intro (And.intro (And.intro (@jL.eq_1) (And.intro (@je.eq_1) (@jc.eq_1))) (And.intro (@ja.eq_1) (And.intro (@jF.eq_1) (@jG.eq_1)))) (And.intro (And.intro (@jx.eq_1) (And.intro (@jN.eq_1) (@jm.eq_1))) (And.intro (And.intro (@jz.eq_1) (@jb.eq_1)) (And.intro (@jh.eq_1) (@ji.eq_1)))))
def evA:=And.intro (And.intro (And.intro (And.intro ev14 evj) (ev13)) (And.intro (And.intro (And.intro (ev0) (And.intro (ev1) (ev2))) (And.intro (ev3) (And.intro (ev4) (ev5)))) (And.intro (And.intro (ev6) (And.intro (ev7) (ev8))) (And.intro (And.intro (ev9) (ev10)) (And.intro (ev11) (ev12)))))) (And.intro @if_true.{1} (And.intro @if_false.{1} @QaK))
theorem frz {P:Prop} (h:P:=by (try dsimp only);repeat (first | exact trivial | rfl | exact RY | (apply TN (fun _=>trivial);first | rfl | (simp[rowOf];done)) | constructor | simp only[frzA])):P:=h
def inB (n lo hi:Int):Bool:=decide (n≥lo)&&decide (n≤hi)
theorem VB {n lo hi:Int}:inB n lo hi=true↔lo≤n∧n≤hi:=by simp[inB]
def outF (lo hi:Int) (zs:List Int):Bool:=zs.any fun z=>decide (z<lo)||decide (z>hi)
theorem FW (lo hi z:Int):outF lo hi [z] = !inB z lo hi:=by
 simp only[outF,inB,List.any_cons,List.any_nil,Bool.or_false];by_cases h1:z<lo <;> by_cases h2:z>hi <;> simp[h1,h2] <;> omega
theorem PW {lo hi:Int} {zs:List Int}:outF lo hi zs=false↔∀ j,j<zs.length→inB (zs[j]?.getD 0) lo hi=true:=by
 simp only[outF,W6,inB,QD,decide_eq_true_eq,WR,not_or];constructor
 ·intro h j hj;have:=h zs[j] (Q2 hj);simp[hj];omega
 ·intro h x hx;obtain ⟨j,hj,rfl⟩:=WN.1 hx;have:=h j hj;simp[hj] at this;omega
def idxN (p:Nat→Bool) (n:Nat):Int:=match (List.range n).find? p with | some i=>i | none=>-1
theorem EK {p:Nat→Bool} {n i:Nat} (h:i<n) (hall:∀ j,j<i→p j=false) (hp:p i=true):idxN p n=i:=by
 have:(List.range n).find? p=some i:=by rw[List.find?_range_eq_some];exact ⟨hp,ZI.2 h,fun j hj=>by rw[hall j hj];rfl⟩
 simp[idxN,this]
theorem EL {p:Nat→Bool} {n:Nat} (hall:∀ j,j<n→p j=false):idxN p n = -1:=by
 have:(List.range n).find? p=none:=by rw[List.find?_eq_none];intro x hx;rw[hall x (by simpa using hx)];simp
 simp[idxN,this]
def anyN (p:Nat→Bool) (n:Nat):Bool:=(List.range n).any p
theorem OA (p:Nat→Bool) (n:Nat):decide (idxN p n≥0)=anyN p n:=by
 unfold idxN anyN;cases h:(List.range n).find? p with
 | none =>
  rw[List.find?_eq_none] at h;have:(List.range n).any p=false:=by rw[W6];exact h
  rw[this];simp
 | some i =>
  have h1:=List.find?_some h;have h2:=List.mem_of_find?_eq_some h;have:(List.range n).any p=true:=ZZ.2 ⟨i,h2,h1⟩;rw[this];simp
theorem QfC (p:Nat→Bool) (n:Nat):anyN p (n+1)=(anyN p n||p n):=by simp[anyN,WM]
theorem F8 {p:Nat→Bool} {n:Nat}:anyN p n=false↔∀ i,i<n→p i=false:=by
 unfold anyN;rw[W6];simp
theorem U8 {p:Nat→Bool} {n:Nat}:anyN p n=true↔∃ i,i<n∧p i=true:=by
 unfold anyN;rw[ZZ];simp
section
variable {α:Type} [Inhabited α] {f:α→List CV} {e:Nat}
theorem UG (hf:∀ x,(f x).length=e):∀ xs:List α,(xs.flatMap f).length=xs.length*e
 | []=>by simp
 | x::xs=>by simp[UG hf xs,hf,XJ];omega
theorem A3 (hf:∀ x,(f x).length=e):∀ (xs:List α) (k:Nat),(xs.flatMap f).take (k*e)=(xs.take k).flatMap f
 | [],k=>by simp
 | x::xs,0=>by simp
 | x::xs,k+1=>by have h:=A3 hf xs k;rw[YH,List.take_succ_cons,YH,XJ,List.take_append,hf,Nat.add_sub_cancel,h];rw[Q5 (by rw[hf];omega)]
theorem A5 (hf:∀ x,(f x).length=e):∀ (xs:List α) (k:Nat),(xs.flatMap f).drop (k*e)=(xs.drop k).flatMap f
 | [],k=>by simp
 | x::xs,0=>by simp
 | x::xs,k+1=>by have h:=A5 hf xs k;rw[YH,List.drop_succ_cons,XJ,List.drop_append,hf,Nat.add_sub_cancel,h];rw[List.drop_of_length_le (by rw[hf];omega),List.nil_append]
theorem G3 (hf:∀ x,(f x).length=e) {xs:List α} {k:Nat} (hk:k<xs.length):((xs.flatMap f).drop (k*e)).take e=f xs[k]! := by
 rw[A5 hf];have:xs.drop k=xs[k]! :: xs.drop (k+1):=by rw[List.drop_eq_getElem_cons hk];simp[hk]
 rw[this,YH,List.take_append,hf,Nat.sub_self,List.take_zero,ZU,Q5 (by rw[hf];omega)]
theorem flat_get (hf:∀ x,(f x).length=e) {xs:List α} {k:Nat} (hk:k<xs.length) {j:Nat} (hj:j<e):(xs.flatMap f)[k*e+j]? = (f xs[k]!)[j]? := by
 rw[← G3 hf hk,Z7,if_pos hj,X4]
end
theorem XP {e n k:Nat} {cs:List CV} (h:k<n) (σ:List AObj):VP e [.cv (.rsl cs n),.cv (.int .i64 k)] σ=some (.cv (.rp cs (k*e)),σ):=by
 simp[VP,h]
theorem Qc7 {e n k:Nat} {cs:List CV} (h:k≤n) (hl:cs.length=n*e) (σ:List AObj):VG e false true [.cv (.rsl cs n),.cv (.int .i64 k)] σ=some (.cv (.rsl (cs.take (k*e)) k),σ):=by
 simp[VG,bnds,bnd,h,hl]
theorem MP {n:Nat} (h:n<2 ^ 40) (σ:List AObj):XB 1 8 [.i 0] [.i n,.i n] σ=some (.sl σ.length 0 n 1,σ++[.cells ((List.replicate n (0:Int)).map AV.i)]):=by
 have e:(2:Int) ^ 46=70368744177664:=by decide
 have e2:(2:Nat) ^ 40=1099511627776:=by decide
 have h1:0≤(n:Int)∧True∧(n:Int)*(8:Nat)≤2 ^ 46∧(n:Int)≤2 ^ 46∧[AV.i 0].length=1:=by refine ⟨by omega,trivial,by omega,by omega,rfl⟩
 simp only[XB];rw[if_pos h1];simp[YW]
theorem BP {l n w:Nat} (h:w<n) (σ:List AObj):VG 1 true false [.sl l 0 n 1,.cv (.int .i64 w)] σ=some (.sl l w (n-w) 1,σ):=by
 have h2:¬ (w=n∧0<w):=by omega
 simp[VG,bnds,bnd,Nat.le_of_lt h,h2]
theorem Qb1 {l n w:Nat} (h:w≤n) (σ:List AObj):VG 1 false true [.sl l 0 n 1,.cv (.int .i64 w)] σ=some (.sl l 0 w 1,σ):=by
 have h2:¬ (0=w∧0<0):=by omega
 simp[VG,bnds,bnd,h]
theorem WW (σ J:List AObj):rowOf (σ++J) σ.length=rowOf J 0:=by
 unfold rowOf;rw[QS (QG _),Nat.sub_self]
theorem X9 (σ J:List AObj) (k:Nat):rowOf (σ++J) (σ.length+k)=rowOf J k:=by
 unfold rowOf;rw[QS (by omega),X6]
theorem VW (σ J:List AObj) (v:AObj):(σ++J).set σ.length v=σ++J.set 0 v:=by
 rw[List.set_append_right _ _ (QG _),Nat.sub_self]
theorem EZ (σ J:List AObj) (k:Nat) (v:AObj):(σ++J).set (σ.length+k) v=σ++J.set k v:=by
 rw[List.set_append_right _ _ (by omega),X6]
theorem Qau (σ J:List AObj):(σ++J)[σ.length]? = J[0]? := by rw[QS (QG _),Nat.sub_self]
theorem CH (σ J:List AObj) (k:Nat):(σ++J)[σ.length+k]? = J[k]? := by rw[QS (by omega),X6]
theorem get_nz (σ:List AObj):σ[σ.length]? = none:=QN (QG _)
theorem get_ns (σ:List AObj) (k:Nat):σ[σ.length+k]? = none:=QN (by omega)
theorem ZH {σ:List AObj} {l:Nat} {cs:List AV} (h:rowOf σ l=some cs) (J:List AObj):rowOf (σ++J) l=some cs:=by
 have h:=WO h;unfold rowOf;rw[QE (QH.1 h).1,h]
theorem Qdq {σ:List AObj} {l:Nat} {cs:List AV} (h:rowOf σ l=some cs) (J:List AObj):(σ++J)[l]? = some (.cells cs):=by
 have h:=WO h;rw[QE (QH.1 h).1,h]
theorem str_eq (x y:ByteArray):(x.toList == y.toList)=decide (x=y):=by
 rw[Q8];simp;constructor
 ·intro h;rw[Lib.toList_data,Lib.toList_data] at h;cases x;cases y;simp only at h;congr;exact Array.toList_inj.1 h
 ·rintro rfl;rfl
theorem Q6 {n:Nat} (h:n+1<2 ^ 63):IntKind.i64.wrap ((n:Int)+1)=((n+1:Nat):Int):=by rw[ZC (by omega)];rfl
theorem c88 (z lo hi:Int) (σ:List AObj):AC Tryz.prog 174 [.i z,.cv (.rp [.int .i64 lo] 0),.cv (.rp [.int .i64 hi] 0)] σ fun r τ=>r=.b (decide (z<lo)||decide (z>hi))∧τ=σ:=by
 refine ZF (fok174 true) (QC rfl) ?_;by_cases h:z<lo <;> simp only[ic174,h,evA,simprocAttr]
def idxF (p:Int→Bool) (zs:List Int):Int:=match zs.findIdx? p with | some i=>i | none=>-1
theorem AW {p:Int→Bool} {zs:List Int} {i:Nat} (h:i<zs.length) (hall:∀ j,j<i→p (zs[j]?.getD 0)=false) (hp:p (zs[i]?.getD 0)=true):idxF p zs=i:=by
 have:zs.findIdx? p=some i:=by rw[List.findIdx?_eq_some_iff_getElem];refine ⟨h,by simpa[h] using hp,fun j hj=>?_⟩;have:=hall j hj;simpa[show j<zs.length by omega] using this
 simp[idxF,this]
theorem AX {p:Int→Bool} {zs:List Int} (hall:∀ j,j<zs.length→p (zs[j]?.getD 0)=false):idxF p zs = -1:=by
 have:zs.findIdx? p=none:=by rw[List.findIdx?_eq_none_iff];intro x hx;obtain ⟨j,hj,rfl⟩:=WN.1 hx;have:=hall j hj;simpa[hj] using this
 simp[idxF,this]
theorem Qdl (p:Int→Bool) (zs:List Int):decide (idxF p zs≥0)=zs.any p:=by
 unfold idxF;cases h:zs.findIdx? p with
 | none =>
  rw[List.findIdx?_eq_none_iff] at h;simpa using h
 | some i =>
  rw[List.findIdx?_eq_some_iff_getElem] at h;obtain ⟨hi,hp,_⟩:=h;have:zs.any p=true:=ZZ.2 ⟨zs[i],Q2 hi,hp⟩;rw[this];simp
theorem c111 (zs:List Int) (fv:AV) (p:Int→Bool) (hz:zs.length<2 ^ 63) (hf:∀ z σ,X0 Tryz.prog fv [.i z] σ fun r τ=>r=.b (p z)∧τ=σ) (σ:List AObj) :
  AC Tryz.prog 152 [ints zs,fv] σ fun r τ=>r=.i (idxF p zs)∧τ=σ:=by
 refine ZF (fok152 true) (QC rfl) ?_;simp only[ic152,evA,simprocAttr];refine ZW zs.length (fun i s=>(∀ j,j<i→p (zs[j]?.getD 0)=false)∧∃ v3 v6 v7,s=⟨[ints zs,fv,.i 0,v3,.i zs.length,.i i,v6,v7],σ⟩) ?_ 0 (QF _) ⟨by omega,_,_,_,rfl⟩;rintro i s hi ⟨hall,v3,v6,v7,rfl⟩;by_cases h:i<zs.length
 ·simp only[ic152l0,QJ,h,evA,simprocAttr];refine (hf _ _).run ?_;cases hp:p (zs[i]?.getD 0)
  ·simp only[evA,simprocAttr];refine ZL (by first | trivial | omega) ⟨fun j hj=>?_,_,_,_,by rw[ZC (by omega)];rfl⟩;rcases QQ.1 hj with hj | rfl
   ·exact hall j hj
   ·exact hp
  ·simp only[evA,simprocAttr];exact (AW h hall hp).symm
 ·simp only[ic152l0,QJ,h,evA,simprocAttr];have:i=zs.length:=by omega
  subst this;exact (AX hall).symm
theorem c87 (zs:List Int) (fv:AV) (p:Int→Bool) (hz:zs.length<2 ^ 63) (hf:∀ z σ,X0 Tryz.prog fv [.i z] σ fun r τ=>r=.b (p z)∧τ=σ):PC Tryz.prog 117 [ints zs,fv] (.b (zs.any p)):=by
 refine ⟨ZF (fok117 true) (QC rfl) ?_,rfl⟩;simp only[ic117,evA,simprocAttr];refine (c111 zs fv p hz hf _).run ?_;simp only[evA,simprocAttr,Qdl];exact frz
theorem c56 (lo hi:Int) (zs:List Int) (hz:zs.length<2 ^ 63):PC Tryz.prog 156 [.i lo,.i hi,ints zs] (.b (outF lo hi zs)):=by
 refine ⟨ZF (fok156 true) (QC rfl) ?_,rfl⟩;simp only[ic156,evA,simprocAttr];refine (c87 zs (.fn (.func 174) [.cv (.rp [.int .i64 lo] 0),.cv (.rp [.int .i64 hi] 0)]) (fun z=>decide (z<lo)||decide (z>hi)) hz (fun z σ=>c88 z lo hi σ)).call frz ?_;exact frz
theorem c59 (n lo hi:Int):PC Tryz.prog 140 [.i n,.i lo,.i hi] (.b (decide (n≥lo)&&decide (n≤hi))):=by
 refine ⟨ZF (fok140 true) (QC rfl) ?_,rfl⟩;by_cases h:n≥lo <;> simp only[ic140,h,evA,simprocAttr] <;> exact frz
def AK (y:Int):Bool:=(y.tmod 400 == 0)||((y.tmod 4 == 0)&&(y.tmod 100 != 0))
def XY (y m:Int):Int:=if m=4∨m=6∨m=9∨m=11 then 30 else if m≠2 then 31 else if AK y then 29 else 28
theorem hmix:Tryz.prog.follows .mixedOrders=true:=Checked.mixed Tryz.checked
def begF:Nat→Int
 | 0=>0
 | k+1=>begF k+337+XY (2000+(k:Int)) 2
theorem U0 (y m:Int):28≤XY y m∧XY y m≤31:=by
 unfold XY;split
 ·omega
 ·split
  ·omega
  ·split <;> omega
def sumL (y:Int):Nat→Int
 | 0=>0
 | k+1=>sumL y k+XY y ((k:Int)+1)
theorem BJ (y:Int):∀ k,0≤sumL y k∧sumL y k≤31*(k:Int)
 | 0=>by simp[sumL]
 | k+1=>by have:=BJ y k;have:=U0 y ((k:Int)+1);unfold sumL;omega
theorem inD_iff {n lo hi:Int}:(decide (n≥lo)&&decide (n≤hi))=inB n lo hi:=by
 rw[Q8,VB];simp
structure UW (D:Int) (j k:Nat):Prop where
 k12:k<12
 lo:begF j+sumL (2000+(j:Int)) k≤D
 hi:D<begF j+sumL (2000+(j:Int)) (k+1)
 top:D≤40000
theorem sumL_12 (y:Int):sumL y 12=337+XY y 2:=by
 simp[sumL,XY];omega
theorem OQ (j:Nat):begF (j+1)=begF j+sumL (2000+(j:Int)) 12:=by rw[sumL_12,begF];omega
theorem SX (y:Int):∀ {a b:Nat},a≤b→sumL y a≤sumL y b:=by
 intro a b h
 induction h with
 | refl=>exact Int.le_refl _
 | step h ih=>have:=U0 y (((‹Nat› : Nat):Int)+1);simp only[sumL];omega
theorem QbH:∀ j:Nat,365*(j:Int)≤begF j∧begF j≤366*(j:Int)
 | 0=>by simp[begF]
 | j+1=>by
  have:=QbH j;have h2:28≤XY (2000+(j:Int)) 2∧XY (2000+(j:Int)) 2≤29:=by simp only[XY];simp;split <;> omega
  unfold begF;omega
theorem NM {a b:Nat} (h:a≤b):begF a≤begF b:=by
 induction h with
 | refl=>exact Int.le_refl _
 | step h ih=>have:=U0 (2000+((‹Nat› : Nat):Int)) 2;simp only[begF];omega
theorem UW.year {D:Int} {j k:Nat} (h:UW D j k):begF j≤D∧D<begF (j+1)∧j≤110:=by
 have h1:=BJ (2000+(j:Int)) k;have h2:=SX (2000+(j:Int)) (show k+1≤12 from h.k12);have h3:=OQ j;have h4:=QbH j;have:=h.lo;have:=h.hi;have:=h.top;omega
abbrev dOf (D:Int) (j k:Nat):Int:=D-begF j-sumL (2000+(j:Int)) k+1
theorem UW.dd {D:Int} {j k:Nat} (h:UW D j k):1≤dOf D j k∧dOf D j k≤XY (2000+(j:Int)) ((k:Int)+1):=by
 have h1:=h.lo;have h2:=h.hi;rw[sumL] at h2;unfold dOf;omega
section
variable {m m2:LM} {X X2:Nat→Prop} {w:World} {g:Nat→Nat}
mutual
theorem VRel.shift (hm:∀ l b,m l=some b→m2 (g l)=some b) (ho:∀ b,Own m2 X2 b→Own m X b):∀ (a:AV) (v:Value),VRel m X w a v→VRel m2 X2 w (AM.ren g a) v
 | .cv c,v,h=>by simp only[AM.ren,VRel] at h ⊢;exact CV.rep_less ho c v h
 | .ptr l off,v,h=>by simp only[AM.ren,VRel] at h ⊢;obtain ⟨b,h1,h2⟩:=h;exact ⟨b,hm l b h1,h2⟩
 | .sl l off len esz,v,h=>by simp only[AM.ren,VRel] at h ⊢;obtain ⟨b,cap,h1,h2⟩:=h;exact ⟨b,cap,hm l b h1,h2⟩
 | .map l,v,h=>by simp only[AM.ren,VRel] at h ⊢;obtain ⟨b,h1,h2⟩:=h;exact ⟨b,hm l b h1,h2⟩
 | .fn f cs,v,h=>by simp only[AM.ren,VRel] at h ⊢;obtain ⟨vs,h1,h2⟩:=h;exact ⟨vs,h1,QK.shift hm ho cs vs h2⟩
 | .bm f cs,v,h=>by simp only[AM.ren,VRel] at h ⊢;obtain ⟨vs,h1,h2⟩:=h;exact ⟨vs,h1,QK.shift hm ho cs vs h2⟩
 | .yld l,v,h=>by simp only[AM.ren,VRel] at h ⊢;obtain ⟨b,h1,h2⟩:=h;exact ⟨b,hm l b h1,h2⟩
 | .agg cs,v,h=>by simp only[AM.ren,VRel] at h ⊢;obtain ⟨vs,h1,h2⟩:=h;exact ⟨vs,h1,QK.shift hm ho cs vs h2⟩
 | .tup cs,v,h=>by simp only[AM.ren,VRel] at h ⊢;obtain ⟨vs,h1,h2⟩:=h;exact ⟨vs,h1,QK.shift hm ho cs vs h2⟩
 | .undef,v,_=>by simp[AM.ren,VRel]
 | .slc l off len cap esz,v,h=>by simp only[AM.ren,VRel] at h ⊢;obtain ⟨b,h1,h2⟩:=h;exact ⟨b,hm l b h1,h2⟩
theorem QK.shift (hm:∀ l b,m l=some b→m2 (g l)=some b) (ho:∀ b,Own m2 X2 b→Own m X b):∀ (as_:List AV) (vs:List Value),QK m X w as_ vs→QK m2 X2 w (AM.rens g as_) vs
 | [],[],_=>by simp[AM.rens,QK]
 | a::as_,v::vs,h=>by simp only[AM.rens,QK] at h ⊢;exact ⟨VRel.shift hm ho a v h.1,QK.shift hm ho as_ vs h.2⟩
 | [],_::_,h=>by simp[QK] at h
 | _::_,[],h=>by simp[QK] at h
end
theorem ORel.shift (hm:∀ l b,m l=some b→m2 (g l)=some b) (ho:∀ b,Own m2 X2 b→Own m X b) {b:Nat} {o:AObj} (h:ORel m X w (some b) o):ORel m2 X2 w (some b) (renO g o):=by
 cases o with
 | dead=>trivial
 | cells cs =>
  simp only[ORel,renO] at h ⊢;obtain ⟨c,e,h1,h2,h3⟩:=h;exact ⟨c,e,h1,by rw[UY];exact h2,by rw[UY];exact QK.shift hm ho _ _ h3⟩
 | map es =>
  simp only[ORel,renO] at h ⊢;obtain ⟨ces,clock,h1,h2,h3,h4,h5⟩:=h;refine ⟨ces,clock,h1,h2,h3,by simpa using h4,fun i k a hi=>?_⟩;rw[ZR,QA] at hi;obtain ⟨⟨k0,a0⟩,hi,he⟩:=hi;simp only[Prod.mk.injEq] at he;obtain ⟨rfl,rfl⟩:=he;obtain ⟨e,g1,g2,g3⟩:=h5 i k0 a0 hi;exact ⟨e,g1,VRel.shift hm ho _ _ g2,VRel.shift hm ho _ _ g3⟩
 | siter s p=>simpa only[ORel,renO] using h
 | loop r =>
  simp only[ORel,renO] at h ⊢;obtain ⟨tmps,d,fi,h1,h2,h3,h4⟩:=h;refine ⟨tmps,d,fi,h1,fun i t hi=>?_,h3,by rw[UY];exact h4⟩;have:=VRel.shift hm ho _ _ (h2 i t hi)
  rwa [← O3] at this
end
abbrev sh (n:Nat):Nat→Nat:=fun l=>l+n
theorem AC.frame {P:Program} {f:FuncId} {args:List AV} {Q:AV→List AObj→Prop} (hcl:QO 0 args=true) (h:AC P f args [] Q) (σ:List AObj) :
  AC P f args σ fun r τ=>∃ r0 τ0,Q r0 τ0∧r=ren (sh σ.length) r0∧τ=σ++τ0.map (renO (sh σ.length)):=by
 refine ⟨h.1,fun m X w cargs ha hh=>?_⟩;have hown:∀ b,Own nom (Own m X) b↔Own m X b:=fun b=>⟨fun h=>h.elim id (fun ⟨l,hl⟩=>by cases hl),.inl⟩
 have ha0:QK nom (Own m X) w args cargs:=QK.less (k:=0) (fun l hl=>absurd hl (W5 _)) (fun b hb=>(hown b).1 hb) args cargs hcl ha;have hlt:∀ b,Own m X b→b<w.heap.size:=fun b hb=>by
  rcases hb with hb | ⟨l,hl⟩
  ·exact hh.xb b hb
  ·exact (hh.dom l b hl).2
 have hh0:HRel nom (Own m X) [] w:=⟨hlt,fun l b hl=>(by cases hl),fun l b o hl=>(by cases hl),fun l l' b o hl=>(by cases hl),fun l o ho=>(by simp at ho),hh.gl.less fun b hb=>(hown b).1 hb⟩;refine (h.2 nom (Own m X) w cargs ha0 hh0).mono ?_;rintro e w' ⟨c,r,τ0,m',rfl,hQ,hv,hh',hst,_⟩;have hnew:∀ l b,m' l=some b→w.heap.size≤b:=fun l b hl=>by
  rcases hst.new l b hl with ⟨l',hl'⟩ | hge
  ·cases hl'
  ·exact hge
 have hsame:∀ b,b<w.heap.size→w'.heap[b]? = w.heap[b]? := fun b hb=>hst.fr b hb (.inr fun l hl=>by cases hl)
 let n:=σ.length
 let m2:LM:=fun l=>if l<n then m l else m' (l-n)
 have m2lo:∀ l,l<n→m2 l=m l:=fun l hl=>by simp only[m2];rw[if_pos hl]
 have m2hi:∀ l,m2 (l+n)=m' l:=fun l=>by simp only[m2];rw[if_neg (by omega),Nat.add_sub_cancel]
 have m2s:∀ l b,m2 l=some b→(l<n∧m l=some b)∨(n≤l∧m' (l-n)=some b):=fun l b hl=>by
  rcases ZB l n with h | h
  ·exact .inl ⟨h,by rw[← m2lo l h];exact hl⟩
  ·exact .inr ⟨h,by rw[← m2hi,Nat.sub_add_cancel h];exact hl⟩
 have how:∀ b,Own m2 X b→Own m' (Own m X) b:=by
  rintro b (hx | ⟨l,hl⟩)
  ·exact .inl (.inl hx)
  ·rcases m2s l b hl with ⟨_,h⟩ | ⟨_,h⟩
   ·exact .inl (.inr ⟨l,h⟩)
   ·exact .inr ⟨_,h⟩
 have hmap:∀ l b,m' l=some b→m2 (sh n l)=some b:=fun l b hl=>by rw[← hl];exact m2hi l
 have hlo:∀ (l:Nat) (o:AObj),l<n→(σ++τ0.map (renO (sh n)))[l]? = some o→σ[l]? = some o:=fun l o hl ho=>by rwa [QE hl] at ho
 have hhi:∀ (l:Nat) (o:AObj),n≤l→(σ++τ0.map (renO (sh n)))[l]? = some o→∃ o0,τ0[l-n]? = some o0∧o=renO (sh n) o0:=fun l o hl ho=>by rw[QS hl,ZR,QA] at ho;obtain ⟨o0,h1,h2⟩:=ho;exact ⟨o0,h1,h2.symm⟩
 have live0:∀ o:AObj,(renO (sh n) o).live→o.live:=fun o h=>by cases o <;> simp_all [renO,AObj.live]
 refine ⟨c,ren (sh n) r,σ++τ0.map (renO (sh n)),m2,rfl,⟨r,τ0,hQ,rfl,rfl⟩,VRel.shift hmap how r c hv,⟨?_,?_,?_,?_,?_,hh'.gl.less how⟩,?_,by simp⟩
 ·exact fun b hb=>hh'.xb b (.inl hb)
 ·intro l b hl;rcases m2s l b hl with ⟨h1,h2⟩ | ⟨h1,h2⟩
  ·have:=hh.dom l b h2;exact ⟨by simp;omega,Z6 this.2 hst.size⟩
  ·have:=hh'.dom _ b h2;exact ⟨by simp;omega,this.2⟩
 ·intro l b o hl ho hv hx;rcases m2s l b hl with ⟨h1,h2⟩ | ⟨h1,h2⟩
  ·exact hh.own l b o h2 (hlo l o h1 ho) hv hx
  ·obtain ⟨o0,g1,rfl⟩:=hhi l o h1 ho;exact hh'.own _ b o0 h2 g1 (live0 o0 hv) (.inl hx)
 ·intro l l' b o' hl hl' ho' hv;rcases m2s l b hl with ⟨h1,h2⟩ | ⟨h1,h2⟩ <;> rcases m2s l' b hl' with ⟨h3,h4⟩ | ⟨h3,h4⟩
  ·exact hh.inj l l' b o' h2 h4 (hlo l' o' h3 ho') hv
  ·omega
  ·have:=hnew _ b h2;have:=(hh.dom l' b h4).2;omega
  ·obtain ⟨o0,g1,rfl⟩:=hhi l' o' h3 ho';have:=hh'.inj _ _ b o0 h2 h4 g1 (live0 o0 hv);omega
 ·intro l o ho;rcases ZB l n with h1 | h1
  ·have ho:=hlo l o h1 ho;rw[m2lo l h1];have hor:=hh.obj l o ho;cases hml:m l with
   | none=>rw[hml] at hor;cases o <;> simp[ORel] at hor ⊢
   | some b =>
    rw[hml] at hor;have hm:Mono m X w m2 X w':=by
     refine ⟨fun l b hl=>?_,fun b hb hc=>⟨hsame b hc.lt,?_⟩,fun b c e hb=>⟨c,?_,rfl⟩⟩
     ·rw[m2lo l (hh.dom l b hl).1];exact hl
     ·rintro (hx | ⟨l,hl⟩)
      ·exact hb (.inl hx)
      ·rcases m2s l b hl with ⟨_,h⟩ | ⟨_,h⟩
       ·exact hb (.inr ⟨l,h⟩)
       ·have:=hnew _ b h;have:=hc.lt;omega
     ·rw[hsame b ((Q3.1 hb).1),hb]
    exact ORel.mono hm (hsame b (hh.dom l b hml).2) hor
  ·obtain ⟨o0,g1,rfl⟩:=hhi l o h1 ho;have hor:=hh'.obj _ o0 g1;have e:m2 l=m' (l-n):=by rw[← m2hi,Nat.sub_add_cancel h1]
   rw[e];cases hml:m' (l-n) with
   | none=>rw[hml] at hor;cases o0 <;> simp[ORel,renO] at hor ⊢
   | some b=>rw[hml] at hor;exact ORel.shift hmap how hor
 ·refine ⟨fun l hl=>m2lo l hl,fun l b hl=>?_,hst.size,fun b hb _=>hsame b hb,hst.shp,hst.os,hst.tape,hst.output,hst.drawn⟩;rcases m2s l b hl with ⟨_,h⟩ | ⟨_,h⟩
  ·exact .inl ⟨l,h⟩
  ·exact .inr (hnew _ b h)
theorem AC.cut {P:Program} {f:FuncId} {args:List AV} {σ σ2:List AObj} {v:AV} (h:AC P f args σ fun r τ=>r=v∧∃ junk,τ=σ2++junk) (hl:σ2.length=σ.length) (hv:QR σ.length v=true)
  (ho:∀ (l:Nat) (o:AObj),σ2[l]? = some o→σ[l]? = some o∨Z3 σ.length o=true):AC P f args σ fun r τ=>r=v∧τ=σ2:=by
 refine h.tidy ?_;rintro r τ ⟨rfl,junk,rfl⟩;refine ⟨id,r,σ2,⟨fun _ _=>rfl,fun _ _ h _=>h,by omega,(PU (g:=id) (k:=σ.length) (fun _ _=>rfl) r hv).symm,by rw[hl];exact hv,fun l o hlo=>?_⟩,rfl,rfl⟩;have hlt:l<σ2.length:=(QH.1 hlo).1;have hin:(σ2++junk)[l]? = some o:=by rw[QE hlt];exact hlo
 rcases ho l o hlo with h1 | h1
 ·exact .inl ⟨by omega,h1,hin⟩
 ·refine .inr ⟨by rw[hl];exact h1,?_⟩;rw[E1 (g:=id) (k:=σ.length) (fun _ _=>rfl) h1];exact hin
def atF (gl:List Nat) (N:Nat) (l:Nat):Nat:=if l<gl.length then gl.getD l 0 else N+(l-gl.length)
def putL (σ:List AObj):List Nat→List AObj→List AObj
 | l::ls,o::os=>putL (σ.set l o) ls os
 | [],os=>σ++os
 | _::_,[]=>σ
def AtOk (σ:List AObj) (g:Nat→Nat) (n:Nat):List Nat→List AObj→Prop
 | l::ls,o::os=>(o.live∧Z3 n o=true∧σ[l]? = some (renO g o))∧AtOk σ g n ls os
 | [],[]=>True
 | _,_=>False
theorem AtOk.get {σ:List AObj} {g:Nat→Nat} {n:Nat}:∀ {ls:List Nat} {os:List AObj},AtOk σ g n ls os→ls.length=os.length∧∀ (k:Nat) (o:AObj),os[k]? = some o→o.live∧Z3 n o=true∧σ[ls.getD k 0]? = some (renO g o)
 | [],[],_=>⟨rfl,fun k o h=>by simp at h⟩
 | l::ls,o::os,h=>by
  obtain ⟨h1,h2⟩:=h;obtain ⟨h3,h4⟩:=h2.get;refine ⟨by simp[h3],fun k o' hk=>?_⟩;cases k with
  | zero=>simp at hk;subst hk;simpa using h1
  | succ k=>simpa using h4 k o' (by simpa using hk)
 | [],_::_,h=>h.elim
 | _::_,[],h=>h.elim
theorem Qbb:∀ (gl:List Nat) (os σ:List AObj),gl.Nodup→(∀ l∈gl,l<σ.length)→gl.length≤os.length →
  (putL σ gl os).length=σ.length+(os.length-gl.length)∧(∀ (k l:Nat),gl[k]? = some l→(putL σ gl os)[l]? = os[k]?)∧(∀ (l:Nat),l<σ.length→l∉gl→(putL σ gl os)[l]? = σ[l]?)∧∀ (j:Nat),(putL σ gl os)[σ.length+j]? = os[gl.length+j]?
 | [],os,σ,_,_,_=>by
  refine ⟨by simp[putL],fun k l h=>by simp at h,fun l hl _=>?_,fun j=>?_⟩
  ·simp only[putL];rw[QE hl]
  ·simp only[putL];rw[QS (by omega)];simp
 | g::gl,[],σ,_,_,h=>by simp at h
 | g::gl,o::os,σ,hnd,hlt,hle=>by
  have hn:=WQ.1 hnd;obtain ⟨h1,h2,h3,h4⟩:=Qbb gl os (σ.set g o) hn.2 (fun l hl=>by simpa using hlt l (by simp[hl])) (by simpa using hle);simp only[putL];simp only[WE] at h1 h3 h4;have hg:=hlt g (by simp);refine ⟨by rw[h1];simp,fun k l hk=>?_,fun l hl hm=>?_,fun j=>?_⟩
  ·cases k with
   | zero =>
    simp at hk;subst hk;rw[h3 g hg hn.1,Z2 hg];rfl
   | succ k=>rw[h2 k l (by simpa using hk)];rfl
  ·simp only[ZD,not_or] at hm;rw[h3 l hl hm.2,QU (fun h=>hm.1 h.symm)]
  ·rw[h4 j,show (g::gl).length+j=(gl.length+j)+1 by simp;omega];rfl
theorem E7 {g:Nat→Nat} {o:AObj} (h:(renO g o).live):o.live:=by cases o <;> simp_all [renO,AObj.live]
theorem AC.at {P:Program} {f:FuncId} {args:List AV} {σ0 σ:List AObj} {Q:AV→List AObj→Prop} (gl:List Nat) (h:AC P f args σ0 Q) (hnd:gl.Nodup) (hcl:QO σ0.length args=true)
  (hobj:AtOk σ (atF gl σ.length) σ0.length gl σ0) :
  AC P f (rens (atF gl σ.length) args) σ fun r τ=>∃ r0 τ0,Q r0 τ0∧σ0.length≤τ0.length∧r=ren (atF gl σ.length) r0∧τ=putL σ gl (τ0.map (renO (atF gl σ.length))):=by
 refine ⟨h.1,fun m X w cargs ha hh=>?_⟩;obtain ⟨hlen,hget⟩:=hobj.get;generalize hn0:σ0.length=n0 at *
 let N:=σ.length
 obtain ⟨g,hg⟩:∃ g,g=atF gl N:=⟨_,rfl⟩;rw[← hg] at ha hget ⊢;have glo:∀ l,l<n0→g l=gl.getD l 0:=fun l hl=>by rw[hg];unfold atF;rw[if_pos (by omega)]
 have ghi:∀ j,g (n0+j)=N+j:=fun j=>by rw[hg];unfold atF;rw[if_neg (by omega)];omega
 have gmem:∀ l,l<n0→gl[l]? = some (g l):=fun l hl=>by rw[glo l hl];simp[List.getD,show l<gl.length by omega]
 have hsome:∀ l,l<n0→∃ o,σ0[l]? = some o:=fun l hl=>⟨σ0[l],by simp⟩
 have glt:∀ l,l<n0→g l<N:=fun l hl=>by obtain ⟨o,ho⟩:=hsome l hl;have:=(hget l o ho).2.2;rw[← glo l hl] at this;exact (QH.1 this).1
 have gobj:∀ (l:Nat) o,σ0[l]? = some o→l<n0∧o.live∧Z3 n0 o=true∧σ[g l]? = some (renO g o):=fun l o ho=>by
  have hl:l<n0:=by rw[← hn0];exact (QH.1 ho).1
  have:=hget l o ho;rw[← glo l hl] at this;exact ⟨hl,this⟩
 have glive:∀ l,l<n0→∃ o,σ[g l]? = some o∧o.live:=fun l hl=>by obtain ⟨o,ho⟩:=hsome l hl;have:=gobj l o ho;exact ⟨_,this.2.2.2,EI this.2.1⟩
 have ginj:∀ a b,a<n0→b<n0→g a=g b→a=b:=fun a b ha hb he=>by have h1:=gmem a ha;have h2:=gmem b hb;rw[← he] at h2;exact (List.getElem?_inj (by omega) hnd).1 (h1.trans h2.symm)
 have hone:∀ l l' b o o',m l=some b→m l'=some b→σ[l]? = some o→σ[l']? = some o'→o.live→o'.live→l=l':=fun l l' b o o' h1 h2 h3 h4 h5 h6=>by have:=hh.inj l l' b o' h1 h2 h4 h6;have:=hh.inj l' l b o h2 h1 h3 h5;omega
 let m0:LM:=fun l=>if l<n0 then m (g l) else none
 have m0lo:∀ l,l<n0→m0 l=m (g l):=fun l hl=>by simp only[m0];rw[if_pos hl]
 have m0s:∀ l b,m0 l=some b→l<n0∧m (g l)=some b:=fun l b hl=>by
  simp only[m0] at hl;split at hl
  ·rename_i h;exact ⟨h,hl⟩
  ·cases hl
 let X':Nat→Prop:=fun b=>Own m X b∧∀ l,l<n0→m (g l)≠some b
 have hown:∀ b,Own m X b→Own m0 X' b:=fun b hb=>by
  by_cases hx:∃ l,l<n0∧m (g l)=some b
  ·obtain ⟨l,h1,h2⟩:=hx;exact .inr ⟨l,by rw[m0lo l h1];exact h2⟩
  ·exact .inl ⟨hb,fun l h1 h2=>hx ⟨l,h1,h2⟩⟩
 have hown':∀ b,Own m0 X' b→Own m0 (Own m X) b:=fun b hb=>hb.elim (fun h=>.inl h.1) .inr
 have hown2:∀ b,Own m0 (Own m X) b→Own m (Own m X) b:=fun b hb=>hb.elim .inl (fun ⟨l,hl⟩=>.inr ⟨_,(m0s l b hl).2⟩)
 have hown3:∀ b,Own m (Own m X) b→Own m X b:=fun b hb=>hb.elim id .inr
 have hlt:∀ b,Own m X b→b<w.heap.size:=fun b hb=>by
  rcases hb with hb | ⟨l,hl⟩
  ·exact hh.xb b hb
  ·exact (hh.dom l b hl).2
 have ha0:QK m0 X' w args cargs:=by have hk:=QK.locs (n:=N) (fun l b hl=>(hh.dom l b hl).1) _ _ ha;have h1:QK m (Own m X) w (rens g args) cargs:=QK.less (k:=N) (fun _ _=>rfl) (fun b hb=>hown3 b hb) _ _ hk ha;have h2:QK m0 (Own m X) w args cargs:=QK.ren (k:=n0) (g:=g) (fun l hl=>m0lo l hl) (fun b hb=>hown2 b hb) _ _ hcl h1;exact QK.less (k:=n0) (fun _ _=>rfl) hown' _ _ hcl h2
 have hh0:HRel m0 X' σ0 w:=by
  refine ⟨fun b hb=>hlt b hb.1,fun l b hl=>?_,fun l b o hl ho hv hx=>?_,fun l l' b o' hl hl' ho' hv=>?_,fun l o ho=>?_,hh.gl.less fun b hb=>hown3 b (hown2 b (hown' b hb))⟩
  ·obtain ⟨h1,h2⟩:=m0s l b hl;exact ⟨by rw[hn0];exact h1,(hh.dom _ b h2).2⟩
  ·obtain ⟨h1,h2⟩:=m0s l b hl;exact hx.2 l h1 h2
  ·obtain ⟨h1,h2⟩:=m0s l b hl;obtain ⟨h1',h2'⟩:=m0s l' b hl';obtain ⟨o1,e1,e2⟩:=glive l h1;obtain ⟨o2,e3,e4⟩:=glive l' h1';have:=ginj l l' h1 h1' (hone _ _ b o1 o2 h2 h2' e1 e3 e2 e4);omega
  ·obtain ⟨h1,h2,h3,h4⟩:=gobj l o ho;rw[m0lo l h1];have hor:=hh.obj _ _ h4;cases hml:m (g l) with
   | none=>rw[hml] at hor;cases o <;> simp[ORel,renO] at hor ⊢
   | some b =>
    rw[hml] at hor;have hk:Z3 N (renO g o)=true:=hh.closed _ _ h4;have h1:ORel m (Own m X) w (some b) (renO g o):=ORel.less (k:=N) (fun _ _=>rfl) (fun b hb=>hown3 b hb) hk hor;have h2:ORel m0 (Own m X) w (some b) o:=ORel.ren (k:=n0) (g:=g) (fun l hl=>m0lo l hl) (fun b hb=>hown2 b hb) h3 h1;exact ORel.less (k:=n0) (fun _ _=>rfl) hown' h3 h2
 refine (h.2 m0 X' w cargs ha0 hh0).mono ?_;rintro e w' ⟨c,r0,τ0,m',rfl,hQ,hv,hh',hst,hle⟩;rw[hn0] at hst hle
 let m2:LM:=fun l=>if l<N then m l else m' (n0+(l-N))
 have m2lo:∀ l,l<N→m2 l=m l:=fun l hl=>by simp only[m2];rw[if_pos hl]
 have m2hi:∀ j,m2 (N+j)=m' (n0+j):=fun j=>by simp only[m2];rw[if_neg (by omega),X6]
 have mk:∀ l,l<n0→m' l=m (g l):=fun l hl=>by rw[hst.keep l hl,m0lo l hl]
 have m2s:∀ l b,m2 l=some b→(l<N∧m l=some b)∨(∃ j,l=N+j∧m' (n0+j)=some b):=fun l b hl=>by
  rcases ZB l N with h | h
  ·exact .inl ⟨h,by rw[← m2lo l h];exact hl⟩
  ·refine .inr ⟨l-N,by omega,?_⟩;rw[← m2hi,show N+(l-N)=l by omega];exact hl
 have hnew:∀ l b,m' l=some b→(∃ l0,l0<n0∧m (g l0)=some b)∨w.heap.size≤b:=fun l b hl=>by
  rcases hst.new l b hl with ⟨l',hl'⟩ | hge
  ·exact .inl ⟨l',m0s l' b hl'⟩
  ·exact .inr hge
 have hsame:∀ b,b<w.heap.size→(∀ l,l<n0→m (g l)≠some b)→w'.heap[b]? = w.heap[b]? := fun b hb hno=>hst.fr b hb (.inr fun l hl=>by obtain ⟨h1,h2⟩:=m0s l b hl;exact hno l h1 h2)
 have hmap:∀ l b,m' l=some b→m2 (g l)=some b:=fun l b hl=>by
  rcases ZB l n0 with h | h
  ·rw[m2lo _ (glt l h),← mk l h];exact hl
  ·obtain ⟨j,rfl⟩:∃ j,l=n0+j:=⟨l-n0,by omega⟩;rw[ghi,m2hi];exact hl
 have hX':∀ b,Own m X b→Own m' X' b:=fun b hb=>by
  rcases hown b hb with h | ⟨l,hl⟩
  ·exact .inl h
  ·obtain ⟨h1,h2⟩:=m0s l b hl;exact .inr ⟨l,by rw[mk l h1];exact h2⟩
 have how:∀ b,Own m2 X b→Own m' X' b:=by
  rintro b (hx | ⟨l,hl⟩)
  ·exact hX' b (.inl hx)
  ·rcases m2s l b hl with ⟨_,h⟩ | ⟨j,_,h⟩
   ·exact hX' b (.inr ⟨l,h⟩)
   ·exact .inr ⟨_,h⟩
 have hXg:∀ b,X b→∀ l,l<n0→m (g l)≠some b:=fun b hx l hl he=>by obtain ⟨o,h1,h2⟩:=glive l hl;exact hh.own _ b o he h1 h2 hx
 obtain ⟨pl,p1,p2,p3⟩:=Qbb gl (τ0.map (renO g)) σ hnd (fun l hl=>by obtain ⟨k,hk,rfl⟩:=WN.1 hl;have h1:=glt k (by omega);rw[glo k (by omega)] at h1;simpa[List.getD,hk] using h1) (by rw[ZK];omega)
 generalize hτ:putL σ gl (τ0.map (renO g))=τ at *;have τlen:τ.length=N+(τ0.length-n0):=by rw[pl,ZK,hlen]
 have τim:∀ l,l<n0→τ[g l]? = (τ0[l]?).map (renO g):=fun l hl=>by rw[p1 l _ (gmem l hl),ZR]
 have τhi:∀ j,τ[N+j]? = (τ0[n0+j]?).map (renO g):=fun j=>by rw[p3 j,ZR,hlen]
 have cls:∀ (l:Nat) o,τ[l]? = some o→(l<N∧(∀ k,k<n0→g k≠l)∧σ[l]? = some o)∨(∃ k o0,k<n0∧l=g k∧τ0[k]? = some o0∧o=renO g o0)∨(∃ j o0,l=N+j∧τ0[n0+j]? = some o0∧o=renO g o0):=fun l o ho=>by
  rcases ZB l N with h | h
  ·by_cases hk:∃ k,k<n0∧l=g k
   ·obtain ⟨k,h1,rfl⟩:=hk;rw[τim k h1,QA] at ho;obtain ⟨o0,h2,h3⟩:=ho;exact .inr (.inl ⟨k,o0,h1,rfl,h2,h3.symm⟩)
   ·have hno:∀ k,k<n0→g k≠l:=fun k h1 h2=>hk ⟨k,h1,h2.symm⟩
    refine .inl ⟨h,hno,?_⟩;rw[← p2 l h (fun hm=>?_)]
    ·exact ho
    ·obtain ⟨k,hk1,hk2⟩:=WN.1 hm;refine hno k (by omega) ?_;rw[glo k (by omega)];simp[List.getD,hk1,hk2]
  ·obtain ⟨j,rfl⟩:∃ j,l=N+j:=⟨l-N,by omega⟩;rw[τhi j,QA] at ho;obtain ⟨o0,h2,h3⟩:=ho;exact .inr (.inr ⟨j,o0,rfl,h2,h3.symm⟩)
 refine ⟨c,ren g r0,τ,m2,rfl,⟨r0,τ0,hQ,hle,rfl,hτ.symm⟩,VRel.shift hmap how r0 c hv,⟨?_,?_,?_,?_,?_,hh'.gl.less how⟩,?_,by rw[τlen];exact Nat.le_add_right _ _⟩
 ·exact fun b hb=>Z6 (hh.xb b hb) hst.size
 ·intro l b hl;rcases m2s l b hl with ⟨h1,h2⟩ | ⟨j,rfl,h2⟩
  ·exact ⟨by rw[τlen];omega,Z6 (hh.dom l b h2).2 hst.size⟩
  ·have:=hh'.dom _ b h2;exact ⟨by rw[τlen];omega,this.2⟩
 ·intro l b o hl ho hv hx;rcases cls l o ho with ⟨h1,_,h2⟩ | ⟨k,o0,h1,rfl,h2,h3⟩ | ⟨j,o0,rfl,h2,rfl⟩
  ·rw[m2lo l h1] at hl;exact hh.own l b o hl h2 hv hx
  ·rw[m2lo _ (glt k h1)] at hl;exact hXg b hx k h1 hl
  ·rw[m2hi] at hl;exact hh'.own _ b o0 hl h2 (E7 hv) ⟨.inl hx,hXg b hx⟩
 ·intro l l' b o' hl hl' ho' hv;rcases cls l' o' ho' with ⟨h1,h1n,h2⟩ | ⟨k,o0,h1,rfl,h2,h3⟩ | ⟨j,o0,rfl,h2,rfl⟩
  ·rw[m2lo l' h1] at hl';rcases m2s l b hl with ⟨g1,g2⟩ | ⟨j,rfl,g2⟩
   ·exact hh.inj l l' b o' g2 hl' h2 hv
   ·exfalso;rcases hnew _ b g2 with ⟨l0,q1,q2⟩ | hge
    ·obtain ⟨o1,e1,e2⟩:=glive l0 q1;exact h1n l0 q1 (hone _ _ b o1 o' q2 hl' e1 h2 e2 hv)
    ·have:=(hh.dom l' b hl').2;omega
  ·rw[m2lo _ (glt k h1)] at hl';obtain ⟨o1,e1,e2⟩:=glive k h1;rcases m2s l b hl with ⟨g1,g2⟩ | ⟨j,rfl,g2⟩
   ·exact hh.inj l (g k) b o1 g2 hl' e1 e2
   ·exfalso;have hk:m' k=some b:=by rw[mk k h1];exact hl'
    have:=hh'.inj (n0+j) k b o0 g2 hk h2 (E7 (by rw[← h3];exact hv));omega
  ·rw[m2hi] at hl';rcases m2s l b hl with ⟨g1,g2⟩ | ⟨j',rfl,g2⟩
   ·omega
   ·have:=hh'.inj (n0+j') (n0+j) b o0 g2 hl' h2 (E7 hv);omega
 ·intro l o ho;rcases cls l o ho with ⟨h1,h1n,h2⟩ | ⟨k,o0,h1,rfl,h2,rfl⟩ | ⟨j,o0,rfl,h2,rfl⟩
  ·rw [m2lo l h1];have hor:=hh.obj l o h2;by_cases hlv:o.live
   ·cases hml:m l with
    | none=>rw[hml] at hor;cases o <;> simp[ORel] at hor ⊢
    | some b =>
     rw[hml] at hor;have hbs:=(hh.dom l b hml).2;have hno:∀ l0,l0<n0→m (g l0)≠some b:=fun l0 q1 q2=>by obtain ⟨o1,e1,e2⟩:=glive l0 q1;exact h1n l0 q1 (hone _ _ b o1 o q2 hml e1 h2 e2 hlv)
     have hm:Mono m X w m2 X w':=by
      refine ⟨fun l b hl=>?_,fun b hb hc=>⟨hsame b hc.lt (fun l0 _ q2=>hb (.inr ⟨_,q2⟩)),?_⟩,hst.shp⟩
      ·rw[m2lo l (hh.dom l b hl).1];exact hl
      ·rintro (hx | ⟨l,hl⟩)
       ·exact hb (.inl hx)
       ·rcases m2s l b hl with ⟨_,h⟩ | ⟨j,_,h⟩
        ·exact hb (.inr ⟨l,h⟩)
        ·rcases hnew _ b h with ⟨l0,q1,q2⟩ | hge
         ·exact hb (.inr ⟨_,q2⟩)
         ·have:=hc.lt;omega
     exact ORel.mono hm (hsame b hbs hno) hor
   ·cases o <;> simp[AObj.live,ORel] at hlv ⊢
  ·have hor:=hh'.obj k o0 h2;rw[m2lo _ (glt k h1),← mk k h1];cases hml:m' k with
   | none=>rw[hml] at hor;cases o0 <;> simp[ORel,renO] at hor ⊢
   | some b=>rw[hml] at hor;exact ORel.shift hmap how hor
  ·have hor:=hh'.obj _ o0 h2;rw[m2hi];cases hml:m' (n0+j) with
   | none=>rw[hml] at hor;cases o0 <;> simp[ORel,renO] at hor ⊢
   | some b=>rw[hml] at hor;exact ORel.shift hmap how hor
 ·refine ⟨fun l hl=>m2lo l hl,fun l b hl=>?_,hst.size,fun b hb hx=>hsame b hb fun l0 q1 q2=>?_,hst.shp,hst.os,hst.tape,hst.output,hst.drawn⟩
  ·rcases m2s l b hl with ⟨_,h⟩ | ⟨j,_,h⟩
   ·exact .inl ⟨l,h⟩
   ·rcases hnew _ b h with ⟨l0,q1,q2⟩ | hge
    ·exact .inl ⟨_,q2⟩
    ·exact .inr hge
  ·rcases hx with hx | hx
   ·exact hXg b hx l0 q1 q2
   ·exact hx _ q2
section
variable {P:Program}
theorem tidy_cut {σ σ2:List AObj} {v r:AV} {τ:List AObj} (hl:σ2.length=σ.length) (hv:QR σ.length v=true) (ho:∀ (l:Nat) (o:AObj),σ2[l]? = some o→σ[l]? = some o∨Z3 σ.length o=true)
  (h:r=v∧∃ junk,τ=σ2++junk):∃ g r2 σ3,Tidy σ.length σ r τ g r2 σ3∧(r2=v∧σ3=σ2):=by
 obtain ⟨rfl,junk,rfl⟩:=h;refine ⟨id,r,σ2,⟨fun _ _=>rfl,fun _ _ h _=>h,by omega,(PU (g:=id) (k:=σ.length) (fun _ _=>rfl) r hv).symm,by rw[hl];exact hv,fun l o hlo=>?_⟩,rfl,rfl⟩;have hlt:l<σ2.length:=(QH.1 hlo).1;have hin:(σ2++junk)[l]? = some o:=by rw[QE hlt];exact hlo
 rcases ho l o hlo with h1 | h1
 ·exact .inl ⟨by omega,h1,hin⟩
 ·refine .inr ⟨by rw[hl];exact h1,?_⟩;rw[E1 (g:=id) (k:=σ.length) (fun _ _=>rfl) h1];exact hin
def kRnd (l:Nat) (Q:AV→List AObj→Prop):Exit→St→Prop:=fun e s2=>match e with
 | .panic _ | .outgrown=>False
 | e=>∃ r2,s2.heap[l]? = some (.loop r2)∧Q (.b (GQ e).isNone) (setLoop s2.heap l r2 (if (GQ e).isNone then .ready else .done) (GQ e))
theorem P0 {l:Nat} {Q:AV→List AObj→Prop} {s:St}:kRnd l Q .normal s = ∃ r2,s.heap[l]? = some (.loop r2)∧Q (.b true) (setLoop s.heap l r2 .ready none):=Eq.trans rfl rfl
theorem kRnd_x {l i:Nat} {Q:AV→List AObj→Prop} {s:St}:kRnd l Q (.exit i) s = ∃ r2,s.heap[l]? = some (.loop r2)∧Q (.b false) (setLoop s.heap l r2 .done (some (.exit i))):=Eq.trans rfl rfl
theorem kRnd_r {l:Nat} {Q:AV→List AObj→Prop} {s:St}:kRnd l Q .ret s = ∃ r2,s.heap[l]? = some (.loop r2)∧Q (.b false) (setLoop s.heap l r2 .done (some .ret)):=Eq.trans rfl rfl
def kAsg (P:Program) (fx:Fx) (l:Nat) (ib:IC) (Q:AV→List AObj→Prop):Exit→St→Prop:=fun e s1=>match e with
 | .normal=>∃ r1,s1.heap[l]? = some (.loop r1)∧r1.state=.ready∧IS P fx ib ⟨s1.vals,setLoop s1.heap l r1 .busy r1.pending⟩ (kRnd l Q) .mk .mk
 | _=>False
theorem Qam {fx:Fx} {l:Nat} {ib:IC} {Q:AV→List AObj→Prop} {s:St}:kAsg P fx l ib Q .normal s = ∃ r1,s.heap[l]? = some (.loop r1)∧r1.state=.ready∧IS P fx ib ⟨s.vals,setLoop s.heap l r1 .busy r1.pending⟩ (kRnd l Q) .mk .mk:=Eq.trans rfl rfl
theorem QeH {l:Nat} {σ:List AObj} {r:XC} {args:List AV} {Q:AV→List AObj→Prop} (ia ib:IC) (hl:σ[l]? = some (.loop r)) (hst:r.state=.ready) (hargs:args.length=r.params.length)
  (hvp:(decide r.vars.Nodup&&r.params.all fun t=>r.vars.contains t&&decide (t<r.ntmps))=true)
  (hca:QL P r.vars r.ntmps r.assign=some ia) (hcb:QL P r.vars r.ntmps r.body=some ib)
  (h:IS P ⟨r.vars,r.ntmps,some l,σ.length⟩ ia ⟨JM r.vars r.params args r.vals,σ⟩ (kAsg P ⟨r.vars,r.ntmps,some l,σ.length⟩ l ib Q) .mk .mk):YC P l args σ Q:=by
 simp only[QD,decide_eq_true_eq,Q1,XS] at hvp;refine N5 hl hst hargs hvp.1 (fun t ht=>(hvp.2 t ht).1) (fun t ht=>(hvp.2 t ht).2) ?_;refine Y6 _ ia _ _ hca (BC ia _ _ _ ?_ (VT _ _ _ _ _ h));intro e s1 h1;cases e with
 | normal =>
  obtain ⟨r1,g1,g2,g3⟩:=h1;refine ⟨r1,g1,g2,?_⟩;refine Y6 _ ib _ _ hcb (BC ib _ _ _ ?_ (VT _ _ _ _ _ g3));intro e s2 h2;cases e <;> exact h2
 | _=>exact h1
theorem RW_s {fx:Fx} {s:St} {Q:Exit→St→Prop} {g:Opd} {ps:Array Nat} {assign body:Code} {gf:FuncId} {cap:List AV} (hg:WY s.vals [] g=.fn (.func gf) cap) (hvl:s.vals.length≤fx.vars.length) (hr0:∀ l0,fx.r=some l0→∃ r0,s.heap[l0]? = some (.loop r0))
  (h:AC P gf (.yld s.heap.length::cap) (s.heap++[.loop (VJ fx s.vals ps assign body)]) fun _ σ'=>U9 P fx s.vals s.heap.length Q σ'):RW P fx g ps assign body s Q:=⟨gf,cap,hg,hvl,hr0,h⟩
end
def Subs:List AV→List AV→Prop
 | [],[]=>True
 | a::as_,b::bs=>sub1 a b∧Subs as_ bs
 | _,_=>False
theorem Subs.get:∀ {as_ bs:List AV},Subs as_ bs→∀ i,sub1 (as_.getD i .undef) (bs.getD i .undef)
 | [],[],_,i=>.inl rfl
 | a::as_,b::bs,h,0=>h.1
 | a::as_,b::bs,h,i+1=>by simpa using Subs.get h.2 i
 | [],_::_,h,_=>h.elim
 | _::_,[],h,_=>h.elim
theorem Weak.cut {fx:Fx} {vals vals':List AV} {τ J:List AObj} (hv:Subs vals vals') (hk:fx.n0≤τ.length) (hl:QO τ.length vals'=true) (ho:∀ o∈τ,Z3 τ.length o=true):Weak fx ⟨vals,τ++J⟩ ⟨vals',τ⟩:=by
 have:=Weak.drop (fx:=fx) (s:=⟨vals,τ++J⟩) (vals':=vals') (k:=τ.length) hv.get hk hl (fun o h=>ho o (by simpa using h)) (by simp);simpa using this
theorem GH {σ τ:List AObj} {v:AV} (hl:τ.length=σ.length) (hv:QR τ.length v=true) (ho:∀ (l:Nat) o,τ[l]? = some o→σ[l]?≠some o→Z3 τ.length o=true):HM σ v τ :=
 ⟨hv,by omega,fun l o h1 h2=>⟨ho l o h1 h2,fun h=>by have:=(QH.1 h1).1;omega⟩⟩
section
variable {P:Program}
theorem AC.cut0 {f:FuncId} {args:List AV} {σ:List AObj} {v:AV} (h:AC P f args σ fun r τ=>r=v∧∃ junk,τ=σ++junk) (hv:QR σ.length v=true):AC P f args σ fun r τ=>r=v∧τ=σ :=
 h.cut rfl hv fun l o h=>.inl h
theorem AC.cutF {f:FuncId} {args:List AV} {σ:List AObj} {v:AV} (h:AC P f args σ fun r τ=>r=v∧∃ junk,τ=σ++junk) (hv:QR 0 v=true):AC P f args σ fun r τ=>r=v∧τ=σ :=
 h.cut0 (Y8 (QF _) v hv)
end
def clip (k:Nat):List AV→List AV
 | []=>[]
 | a::as_=>(if QR k a=true then a else .undef)::clip k as_
theorem QaF (k:Nat):∀ vals:List AV,Subs vals (clip k vals)
 | []=>trivial
 | a::as_=>⟨by by_cases h:QR k a=true <;> simp[sub1,h],QaF k as_⟩
theorem Qdz (k:Nat):∀ vals:List AV,QO k (clip k vals)=true
 | []=>rfl
 | a::as_=>by
  simp only[clip,QO,QD];refine ⟨?_,Qdz k as_⟩;by_cases h:QR k a=true
  ·rw[if_pos h];exact h
  ·rw[if_neg h];rfl
theorem W1 {fx:Fx} {c:Prop} {S:St→Prop} {Q:Exit→St→Prop} {vals:List AV} {heap:List AObj} (τ J:List AObj) (hh:heap=τ++J) (hc:c) (hn:fx.n0≤τ.length) (ho:∀ o∈τ,Z3 τ.length o=true)
  (h:S ⟨clip τ.length vals,τ⟩):kFor fx c S Q .normal ⟨vals,heap⟩:=by
 subst hh;exact AS hc (Weak.cut (QaF _ _) hn (Qdz _ _) ho) h
theorem HRel.forget {m:LM} {X:Nat→Prop} {σ J:List AObj} {w:World} (h:HRel m X (σ++J) w):HRel m X (List.replicate σ.length .dead++J) w:=by
 have hl:(List.replicate σ.length AObj.dead++J).length=(σ++J).length:=by simp
 have hg:∀ (l:Nat) o,(List.replicate σ.length AObj.dead++J)[l]? = some o→o=.dead∨(σ++J)[l]? = some o:=fun l o ho=>by
  by_cases hlt:l<σ.length
  ·rw[QE (by simpa using hlt)] at ho;have:=QZ ho;rw[List.mem_replicate] at this;exact .inl this.2
  ·rw[QS (by simp;omega)] at ho;rw[QS (by omega)];exact .inr (by simpa using ho)
 have hlv:∀ (l:Nat) o,(List.replicate σ.length AObj.dead++J)[l]? = some o→o.live→(σ++J)[l]? = some o:=fun l o ho hv=>by
  rcases hg l o ho with rfl | h
  ·exact hv.elim
  ·exact h
 refine ⟨h.xb,fun l b hb=>by rw[hl];exact h.dom l b hb,fun l b o hb ho hv=>h.own l b o hb (hlv l o ho hv) hv,fun l l' b o' hb hb' ho' hv=>h.inj l l' b o' hb hb' (hlv l' o' ho' hv) hv,fun l o ho=>?_,h.gl⟩;rcases hg l o ho with rfl | h2
 ·cases m l <;> simp[ORel]
 ·exact h.obj l o h2
theorem UW.le {D E:Int} {j k j2 k2:Nat} (h:UW D j k) (h2:UW E j2 k2) (hle:D≤E):j≤j2:=by
 have:=h.year;have:=h2.year;rcases ZB j2 j with hl | hg
 ·have:=NM (show j2+1≤j from hl);omega
 ·exact hg
end Go.Proofs.YtgkidpolomhghaaGreatDoor.AM
namespace Go.Proofs.YtgkidpolomhghaaGreatDoor.AM
open Go Go.Shelf
def S0:Go.Shelf.Ren:=⟨fun | 6=>148 | 15=>170 | 14=>169 | 28=>191 | 29=>192 | 20=>183 | 21=>184 | 22=>185 | 23=>186 | 24=>187 | 25=>188 | 26=>189 | 27=>190 | 46=>197 | 47=>198 | 48=>199 | 49=>200 | 50=>201 | 57=>202 | n=>n,fun | 22=>100 | 24=>176 | 25=>226 | 3=>3 | 39=>149 | 0=>0 | 53=>201 | 55=>203 | 4=>4 | 46=>256 | 45=>255 | 50=>260 | 5=>5 | 9=>9 | 66=>264 | 70=>268 | 76=>270 | 77=>271 | n=>n,fun | n=>n⟩
theorem sortL:Go.Proofs.SlLaysF0.n6 Tryz.prog S0:={
 mixed:=by kernel_rfl
 f6:=⟨Tryz.f148.name,by decide,Tryz.func148.trans (congrArg some (by kernel_rfl))⟩
 f14:=⟨Tryz.f169.name,by decide,Tryz.func169.trans (congrArg some (by kernel_rfl))⟩
 f15:=Tryz.func170.trans (congrArg some (by kernel_rfl))
 f20:=⟨Tryz.f183.name,by decide,Tryz.func183.trans (congrArg some (by kernel_rfl))⟩
 f21:=⟨Tryz.f184.name,by decide,Tryz.func184.trans (congrArg some (by kernel_rfl))⟩
 f22:=⟨Tryz.f185.name,by decide,Tryz.func185.trans (congrArg some (by kernel_rfl))⟩
 f23:=⟨Tryz.f186.name,by decide,Tryz.func186.trans (congrArg some (by kernel_rfl))⟩
 f24:=⟨Tryz.f187.name,by decide,Tryz.func187.trans (congrArg some (by kernel_rfl))⟩
 f25:=⟨Tryz.f188.name,by decide,Tryz.func188.trans (congrArg some (by kernel_rfl))⟩
 f26:=⟨Tryz.f189.name,by decide,Tryz.func189.trans (congrArg some (by kernel_rfl))⟩
 f27:=⟨Tryz.f190.name,by decide,Tryz.func190.trans (congrArg some (by kernel_rfl))⟩
 f28:=Tryz.func191.trans (congrArg some (by kernel_rfl))
 f29:=Tryz.func192.trans (congrArg some (by kernel_rfl))
 f46:=⟨Tryz.f197.name,by decide,Tryz.func197.trans (congrArg some (by kernel_rfl))⟩
 f47:=Tryz.func198.trans (congrArg some (by kernel_rfl))
 f48:=Tryz.func199.trans (congrArg some (by kernel_rfl))
 f49:=⟨Tryz.f200.name,by decide,Tryz.func200.trans (congrArg some (by kernel_rfl))⟩
 f50:=⟨Tryz.f201.name,by decide,Tryz.func201.trans (congrArg some (by kernel_rfl))⟩
 f57:=⟨Tryz.f202.name,by decide,Tryz.func202.trans (congrArg some (by kernel_rfl))⟩
 t0:=Tryz.underlying0
 a0:=Tryz.isAgg0
 z0:=Tryz.sizeOf0
 v0:=Tryz.zeroValue0
 t3:=Tryz.underlying3
 a3:=Tryz.isAgg3
 z3:=Tryz.sizeOf3
 v3:=Tryz.zeroValue3
 t4:=Tryz.underlying4
 a4:=Tryz.isAgg4
 z4:=Tryz.sizeOf4
 v4:=Tryz.zeroValue4
 t5:=Tryz.underlying5
 a5:=Tryz.isAgg5
 z5:=Tryz.sizeOf5
 v5:=Tryz.zeroValue5
 t9:=Tryz.underlying9
 a9:=Tryz.isAgg9
 z9:=Tryz.sizeOf9
 v9:=Tryz.zeroValue9
 t22:=Tryz.underlying100
 a22:=Tryz.isAgg100
 z22:=Tryz.sizeOf100
 v22:=Tryz.zeroValue100
 t25:=Tryz.underlying226
 a25:=Tryz.isAgg226
 z25:=Tryz.sizeOf226
 v25:=Tryz.zeroValue226
 t39:=Tryz.underlying149
 a39:=Tryz.isAgg149
 z39:=Tryz.sizeOf149
 v39:=Tryz.zeroValue149
 t45:=Tryz.underlying255
 a45:=Tryz.isAgg255
 z45:=Tryz.sizeOf255
 v45:=Tryz.zeroValue255
 t46:=Tryz.underlying256
 a46:=Tryz.isAgg256
 z46:=Tryz.sizeOf256
 v46:=Tryz.zeroValue256
 t50:=Tryz.underlying260
 a50:=Tryz.isAgg260
 z50:=Tryz.sizeOf260
 v50:=Tryz.zeroValue260
 t53:=Tryz.underlying201
 a53:=Tryz.isAgg201
 z53:=Tryz.sizeOf201
 v53:=Tryz.zeroValue201
 t55:=Tryz.underlying203
 a55:=Tryz.isAgg203
 z55:=Tryz.sizeOf203
 v55:=Tryz.zeroValue203
 t66:=Tryz.underlying264
 a66:=Tryz.isAgg264
 z66:=Tryz.sizeOf264
 v66:=Tryz.zeroValue264
 t70:=Tryz.underlying268
 a70:=Tryz.isAgg268
 z70:=Tryz.sizeOf268
 v70:=Tryz.zeroValue268
 t76:=Tryz.underlying270
 a76:=Tryz.isAgg270
 z76:=Tryz.sizeOf270
 v76:=Tryz.zeroValue270
 t77:=Tryz.underlying271
 a77:=Tryz.isAgg271
 z77:=Tryz.sizeOf271
 v77:=Tryz.zeroValue271 }
end Go.Proofs.YtgkidpolomhghaaGreatDoor.AM
namespace Go.Proofs.YtgkidpolomhghaaGreatDoor.AM
variable [Dr]
open Go
theorem TB {α:Type} {xs ys zs vs:List α} (h:vs.length≤ys.length):setRange (xs++ys++zs) xs.length vs=xs++vs++ys.drop vs.length++zs:=by
 rw[KG _ _ _ (by simp;omega),QW xs ys zs,List.take_left' rfl];rw[List.drop_append,List.drop_of_length_le (by omega),List.nil_append,X6,List.drop_append_of_le_length h];simp
theorem S2 (cs:List CV):(cs.map AV.cv).all AV.isSc=true:=by simp[AV.isSc]
theorem Qa3 (zs:List Int):(zs.map AV.i).all AV.isSc=true:=by simp[AV.isSc]
def AccS (e:Nat) (σ:List AObj) (v:AV) (n:Nat) (cs:List CV):Prop:=(v=.cv .nils∧n=0∧cs=[])∨∃ l,v=.sl l 0 n e∧cs.length=n*e∧rowOf σ l=some (cs.map .cv)
theorem AccS.nil (e:Nat) (σ:List AObj):AccS e σ (.cv .nils) 0 []:=.inl ⟨rfl,rfl,rfl⟩
theorem QcM {e by_ n:Nat} {σ:List AObj} {v:AV} {cs x:List CV} (h:AccS e σ v n cs) (hx:x.length=e) (hb:(n+1)*by_≤2 ^ 44) (hn:n+1≤2 ^ 44) :
  ∃ (v':AV) (σ':List AObj),ZX e by_ [v,.sl σ.length 0 1 e] (σ++[AObj.cells (x.map .cv)])=some (v',σ')∧AccS e σ' v' (n+1) (cs++x):=by
 have hsrc:Z9 (σ++[AObj.cells (x.map .cv)]) e (.sl σ.length 0 1 e)=some (x.map .cv):=by
  have h1:0+1*e≤(x.map AV.cv).length:=by simp[hx]
  simp only[Z9,if_true,XH,Option.bind_some];rw[if_pos h1,YO,Q5 (by simp[hx])]
 rcases h with ⟨rfl,rfl,rfl⟩ | ⟨l,rfl,hl,hr⟩
 ·refine ⟨.sl (σ++[AObj.cells (x.map .cv)]).length 0 1 e,(σ++[AObj.cells (x.map .cv)])++[AObj.cells (x.map .cv)],?_,.inr ⟨_,rfl,by simp[hx],by rw[XH];simp⟩⟩;have h1:1*e=(x.map AV.cv).length∧1*by_≤2 ^ 44∧1≤2 ^ 44∧(x.map AV.cv).all AV.isSc=true:=⟨by simp[hx],by omega,by omega,S2 x⟩;simp only[ZX,hsrc,lenF,Option.bind_some];rw[if_neg (by omega),if_pos h1]
 ·have hr':=FU hr (AObj.cells (x.map .cv));refine ⟨.sl (σ++[AObj.cells (x.map .cv)]).length 0 (n+1) e,(σ++[AObj.cells (x.map .cv)]).set l AObj.dead++[AObj.cells (cs.map .cv++x.map .cv)],?_,.inr ⟨(σ++[AObj.cells (x.map .cv)]).length,rfl,by rw[QM,hl,hx,XJ],?_⟩⟩
  ·have h1:True∧n*e≤(cs.map AV.cv).length∧1*e=(x.map AV.cv).length∧(n+1)*by_≤2 ^ 44∧n+1≤2 ^ 44∧(x.map AV.cv).all AV.isSc=true:=⟨trivial,by simp[hl],by simp[hx],hb,hn,S2 x⟩;simp only[ZX,hr',hsrc,lenF,Option.bind_some];rw[if_pos h1,Q5 (by simp[hl])]
  ·have:(σ++[AObj.cells (x.map .cv)]).length=((σ++[AObj.cells (x.map .cv)]).set l AObj.dead).length:=by simp
   rw[this,XH,ZS]
theorem TP {p:CV→Prop} {σ:List AObj}:∀ {cs:List CV},(∀ c∈cs,p c)→HL p σ (cs.map .cv) cs
 | [],_=>.nil
 | c::cs,h=>.cons (.c _ (h c (by simp))) (TP fun c' hc=>h c' (by simp[hc]))
theorem GI {p:CV→Prop} {e n:Nat} {σ:List AObj} {v:AV} {cs:List CV} (h:AccS e σ v n cs) (hp:∀ c∈cs,p c):FrzV p σ v (.cv (.rsl cs n)):=by
 rcases h with ⟨rfl,rfl,rfl⟩ | ⟨l,rfl,hl,hr⟩
 ·exact .c .nl
 ·refine .c (.sl l 0 n e _ _ hr (by simp[hl]) ?_);rw[YO,Q5 (by simp[hl])];exact TP hp
theorem sl_frz {p:CV→Prop} {l n e:Nat} {σ:List AObj} {cs:List CV} {rest:List AV} (hr:rowOf σ l=some (cs.map .cv++rest)) (hl:cs.length=n*e) (hp:∀ c∈cs,p c):FrzV p σ (.sl l 0 n e) (.cv (.rsl cs n)):=by
 refine .c (.sl l 0 n e _ _ hr (by simp[hl]) ?_);rw[YO,List.take_left' (by simp[hl])];exact TP hp
end Go.Proofs.YtgkidpolomhghaaGreatDoor.AM
namespace Go.Proofs.YtgkidpolomhghaaGreatDoor.Pl
def cmpN (x y:Int):Int:=if x<y then -1 else if x>y then 1 else 0
def cmpR (a b:Int × Int):Int:=if cmpN a.1 b.1≠0 then cmpN a.1 b.1 else cmpN a.2 b.2
def leR (a b:Int × Int):Bool:=decide (a.1<b.1)||(decide (a.1=b.1)&&decide (a.2≤b.2))
theorem LP {a b:Int × Int}:cmpR a b<0↔(a.1<b.1∨(a.1=b.1∧a.2<b.2)):=by
 obtain ⟨a1,a2⟩:=a;obtain ⟨b1,b2⟩:=b;simp only[cmpR,cmpN];by_cases h1:a1<b1
 ·simp[h1]
 ·by_cases h2:b1<a1
  ·simp[h1,h2];omega
  ·have:a1=b1:=by omega
   subst this;by_cases h3:a2<b2
   ·simp[h3]
   ·by_cases h4:b2<a2
    ·simp[h3,h4]
    ·simp[h3,h4]
theorem cmpR_not {a b:Int × Int}:¬ cmpR b a<0↔leR a b=true:=by
 rw[LP];obtain ⟨a1,a2⟩:=a;obtain ⟨b1,b2⟩:=b;simp[leR];omega
theorem Qah {a b:Int × Int} (h:leR a b=true) (k:leR b a=true):a=b:=by
 obtain ⟨a1,a2⟩:=a;obtain ⟨b1,b2⟩:=b;simp[leR] at h k;have h1:a1=b1:=by omega
 have h2:a2=b2:=by omega
 rw[h1,h2]
theorem Qem (a b c:Int × Int) (h:leR a b=true) (k:leR b c=true):leR a c=true:=by
 obtain ⟨a1,a2⟩:=a;obtain ⟨b1,b2⟩:=b;obtain ⟨c1,c2⟩:=c;simp[leR] at h k ⊢;omega
theorem Qen (a b:Int × Int):(leR a b||leR b a)=true:=by
 obtain ⟨a1,a2⟩:=a;obtain ⟨b1,b2⟩:=b;simp[leR];omega
theorem swoR {α:Type} (f:α→Int × Int):Go.Sort.SWO fun x y=>decide (cmpR (f x) (f y)<0):=by
 refine ⟨fun x=>?_,fun x y z h k=>?_,fun x y z h k=>?_⟩
 ·exact decide_eq_false (by rw[LP];omega)
 ·have h:=of_decide_eq_true h;have k:=of_decide_eq_true k;rw[LP] at h k;exact decide_eq_true (by rw[LP];omega)
 ·have h:=of_decide_eq_false h;have k:=of_decide_eq_false k;rw[LP] at h k;exact decide_eq_false (by rw[LP];omega)
def V2 (l:List (Int × Int)):List (Int × Int):=l.mergeSort leR
theorem H0 (l:List (Int × Int)):(V2 l).Perm l:=List.mergeSort_perm l leR
theorem GY (l:List (Int × Int)):(V2 l).Pairwise fun a b=>leR a b=true:=List.pairwise_mergeSort Qem Qen l
theorem EF {l m:List (Int × Int)} (h:m.Perm l) (hs:m.Pairwise fun a b=>leR a b=true):m=V2 l :=
 List.Perm.eq_of_pairwise (le:=fun a b=>leR a b=true) (fun a b _ _ h k=>Qah h k) hs (GY l) (h.trans (H0 l).symm)
theorem NR {l m:List (Int × Int)} (h:m.Perm l):V2 m=V2 l:=EF ((H0 m).trans h) (GY m)
theorem EE (l:List (Int × Int)):(V2 l).length=l.length:=(H0 l).length_eq
theorem VM {l:List (Int × Int)} {a:Int × Int}:a∈V2 l↔a∈l:=(H0 l).mem_iff
end Go.Proofs.YtgkidpolomhghaaGreatDoor.Pl
namespace Go.Proofs.YtgkidpolomhghaaGreatDoor.AM
variable [Dr]
open Go
def Turn1 (k:Nat) (σ:List AObj) (a b:AV):Prop:=(a=b∧QR k b=true)∨FrzV anyC σ a b
inductive D2 (k:Nat) (σ:List AObj):List AV→List AV→Prop
 | nil:D2 k σ [] []
 | cons {a b:AV} {as_ bs:List AV}:Turn1 k σ a b→D2 k σ as_ bs→D2 k σ (a::as_) (b::bs)
theorem D2.len {k:Nat} {σ:List AObj} {as_ bs:List AV} (h:D2 k σ as_ bs):as_.length=bs.length:=by
 induction h with
 | nil=>rfl
 | cons _ _ ih=>simp[ih]
theorem D2.get {k:Nat} {σ:List AObj} {as_ bs:List AV} (h:D2 k σ as_ bs):∀ i,Turn1 k σ (as_.getD i .undef) (bs.getD i .undef):=by
 induction h with
 | nil=>intro i;exact .inl ⟨by simp[List.getD],by simp[List.getD,QR]⟩
 | cons h _ ih =>
  intro i;cases i with
  | zero=>simpa[List.getD] using h
  | succ i=>simpa[List.getD] using ih i
theorem Weak.turn {fx:Fx} {vals vals2:List AV} {τ τ2 J:List AObj} (h0:fx.n0=0) (hlen:τ2.length=τ.length)
  (hv:D2 τ.length (List.replicate τ.length .dead++J) vals vals2)
  (ho:∀ (l:Nat) (o2:AObj),τ2[l]? = some o2→∃ o,τ[l]? = some o∧o.live∧((o2=o∧Z3 τ.length o=true)∨∃ as_ bs,o=.cells as_∧o2=.cells bs∧D2 τ.length (List.replicate τ.length .dead++J) as_ bs)) :
  Weak fx ⟨vals,τ++J⟩ ⟨vals2,τ2⟩:=by
 intro m X en ac w hs;have hh:=hs.heap
 let m2:LM:=fun l=>if l<τ.length then m l else none
 have hm2:∀ l,l<τ.length→m2 l=m l:=fun l hl=>by simp only[m2];rw[if_pos hl]
 have hm2s:∀ l b,m2 l=some b→l<τ.length∧m l=some b:=fun l b hl=>by
  simp only[m2] at hl;split at hl
  ·rename_i h;exact ⟨h,hl⟩
  ·cases hl
 have how:∀ b,Own m2 X b→Own m X b:=by
  rintro b (hx | ⟨l,hl⟩)
  ·exact .inl hx
  ·exact .inr ⟨l,(hm2s l b hl).2⟩
 have hin:∀ (l:Nat) o,τ[l]? = some o→(τ++J)[l]? = some o:=fun l o hlo=>by rw[QE (QH.1 hlo).1];exact hlo
 have hlv:∀ l,l<τ.length→∃ o,(τ++J)[l]? = some o∧o.live:=fun l hl=>by obtain ⟨o,h1,h2,_⟩:=ho l _ (QI (by omega));exact ⟨o,hin l o h1,h2⟩
 have hnot:∀ (l b:Nat) (o:AObj),m l=some b→(List.replicate τ.length AObj.dead++J)[l]? = some o→o.live→¬ Own m2 X b:=by
  intro l b o hb hlo hlive hown;have hge:τ.length≤l:=by
   rcases ZB l τ.length with hlt | hge
   ·rw[QE (by simpa using hlt)] at hlo;have:=QZ hlo;rw[List.mem_replicate] at this;rw[this.2] at hlive;exact hlive.elim
   ·exact hge
  have hlo':(τ++J)[l]? = some o:=by rw[QS (by simpa using hge)] at hlo;rw[QS hge];simpa using hlo
  rcases hown with hx | ⟨l2,h2⟩
  ·exact hh.own l b o hb hlo' hlive hx
  ·obtain ⟨h3,h4⟩:=hm2s l2 b h2;obtain ⟨o2,h6,h7⟩:=hlv l2 h3;have:=hh.inj l l2 b _ hb h4 h6 h7;omega
 have one:∀ {a b:AV},Turn1 τ.length (List.replicate τ.length .dead++J) a b→∀ v,VRel m X w a v→VRel m2 X w b v:=by
  rintro a b (⟨rfl,h⟩ | h) v hv
  ·exact VRel.less hm2 how a v h hv
  ·exact RX (HRel.forget hh) (fun c v _ h=>CV.rep_less how c v h) hnot h v hv
 have many:∀ {as_ bs:List AV},D2 τ.length (List.replicate τ.length .dead++J) as_ bs→∀ vs,QK m X w as_ vs→QK m2 X w bs vs:=by
  intro as_ bs h
  induction h with
  | nil=>intro vs hv;rw[QK.nil' hv];simp[QK]
  | cons h1 _ ih =>
   intro vs hv;obtain ⟨v,us,rfl,g1,g2⟩:=hv.cons;exact ⟨one h1 v g1,ih us g2⟩
 refine ⟨m2,⟨hs.size,?_,?_,⟨hh.xb,?_,?_,?_,?_,hh.gl.less how⟩,by rw[h0];exact QF _,hs.entry⟩,?_⟩
 ·intro i t hi;exact one (hv.get i) _ (hs.vars i t hi)
 ·obtain ⟨bs,h1,h2,h3⟩:=hs.defs;exact ⟨bs,h1,h2,fun b hb=>let ⟨g1,g2,g3,g4⟩:=h3 b hb;⟨g1,g2,g3,fun hx=>g4 (how b hx)⟩⟩
 ·intro l b hl;obtain ⟨h1,h2⟩:=hm2s l b hl;exact ⟨by show l<τ2.length;omega,(hh.dom l b h2).2⟩
 ·intro l b o hl hlo hv;obtain ⟨h1,h2⟩:=hm2s l b hl;obtain ⟨o',h3,h4⟩:=hlv l h1;exact hh.own l b o' h2 h3 h4
 ·intro l l' b o' hl hl' hlo hv;obtain ⟨h1,h2⟩:=hm2s l b hl;obtain ⟨h1',h2'⟩:=hm2s l' b hl';obtain ⟨o2,h3,h4⟩:=hlv l' h1';exact hh.inj l l' b o2 h2 h2' h3 h4
 ·intro l o2 hlo;obtain ⟨o,h1,h2,h3⟩:=ho l o2 hlo;have hlt:l<τ.length:=(QH.1 h1).1;have hob:=hh.obj l o (hin l o h1);rw[hm2 l hlt];rcases h3 with ⟨rfl,hc⟩ | ⟨as_,bs,rfl,rfl,ht⟩
  ·refine ORel.ren (g:=id) hm2 how hc ?_;rw[E1 (g:=id) (k:=τ.length) (fun _ _=>rfl) hc];exact hob
  ·cases hm:m l with
   | none=>rw[hm] at hob;exact hob.elim
   | some b =>
    rw[hm] at hob;obtain ⟨c,e,g1,g2,g3⟩:=hob;refine ⟨c,e,g1,by rw[← ht.len];exact g2,?_⟩;rw[← ht.len];exact many ht _ g3
 ·rw[h0];exact ⟨fun l hl=>absurd hl (W5 _),fun l b hl=>.inl ⟨l,(hm2s l b hl).2⟩,QG _,fun _ _ _=>rfl,fun b c e hb=>⟨c,hb,rfl⟩,rfl,rfl,rfl,fun _=>QG _⟩
end Go.Proofs.YtgkidpolomhghaaGreatDoor.AM

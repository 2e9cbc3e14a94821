/- Parts of the proof, joined: TrF3 to TrC9. -/
import Derived.Test.YtogjcmnopidfpaaGreatZ16
set_option linter.unusedVariables false
set_option linter.unusedSimpArgs false
set_option linter.unusedSectionVars false
namespace Go.Proofs.YtogjcmnopidfpaaGreat.AM
variable [Dr]
open Go Pl
def stpO (t:Twn) (cl:List Int) (i:Nat):List Stp:=if (i:Int)∈cl then [] else ((i:Int),false)::if (t.st[i]!).bo then [((i:Int),true)] else []
def stpI (t:Twn) (cl:List Int) (i:Nat):List Stp:=(List.range i).flatMap (stpO t cl)
abbrev stpL (t:Twn) (cl:List Int):List Stp:=stpI t cl t.st.length
theorem stpI_succ (t:Twn) (cl:List Int) (i:Nat):stpI t cl (i+1)=stpI t cl i++stpO t cl i:=by
 unfold stpI;rw[WM,List.flatMap_append];simp
theorem stpL_mem {t:Twn} {cl:List Int} {x:Stp}:x∈stpL t cl↔∃ i:Nat,i<t.st.length∧x∈stpO t cl i:=by
 simp[stpL,stpI]
theorem stpL_bnd {t:Twn} {cl:List Int} {x:Stp} (h:x∈stpL t cl):0≤x.1∧x.1<t.st.length:=by
 obtain ⟨i,hi,hx⟩:=stpL_mem.1 h
 unfold stpO at hx
 split at hx
 ·cases hx
 ·rcases ZD.1 hx with rfl | hx
  ·simp;omega
  ·split at hx
   ·simp only[WZ] at hx;subst hx;simp;omega
   ·cases hx
theorem stpO_len (t:Twn) (cl:List Int) (i:Nat):(stpO t cl i).length≤2:=by
 unfold stpO
 split
 ·simp
 ·split <;> simp
theorem stpI_len (t:Twn) (cl:List Int):∀ i,(stpI t cl i).length≤2*i
 | 0=>by simp[stpI]
 | i+1=>by
  have h1:=stpO_len t cl i
  have h2:=stpI_len t cl i
  rw[stpI_succ,QM];omega
theorem stpI_pre (t:Twn) (cl:List Int) (i:Nat):∀ k,stpI t cl i <+: stpI t cl (i+k)
 | 0=>List.prefix_refl _
 | k+1=>(stpI_pre t cl i k).trans (by rw[show i+(k+1)=(i+k)+1 by omega,stpI_succ];exact List.prefix_append _ _)
theorem stpI_all (t:Twn) (cl:List Int) {i:Nat} (h:i<t.st.length):stpI t cl i++stpO t cl i <+: stpL t cl:=by
 rw[← stpI_succ]
 have:=stpI_pre t cl (i+1) (t.st.length-(i+1))
 rwa [show i+1+(t.st.length-(i+1))=t.st.length by omega] at this
theorem f25 (σ:List AObj) (jp:Nat):AC Tryz.prog 25 [.ptr jp 0] σ fun r τ=>r=.fn (.func 55) [.ptr σ.length 0]∧τ=σ++[.cells [.ptr jp 0]]:=by
 refine ZF (fok25 true) (QC rfl) ?_
 simp only[ic25,WI,cellsOf,QW,List.cons_append,List.nil_append,QM,evA,simprocAttr]
theorem mem_any {cl:List Int} {x:Int}:(cl.any fun z=>x == z)=decide (x∈cl):=by
 rw[Q8];simp
set_option maxHeartbeats 2000000 in
theorem f55 {t:Twn} (hlen:t.st.length<2 ^ 62) {k:Tsk} (hcl:k.cl.length<2 ^ 62) {iv mv:AV} {l box jp:Nat} {σ:List AObj} (Inv:Nat→List AV→List Stp→List AObj→Prop) (Stop:List AObj→Prop)
  (hjob:∀ p cs d τ,Inv p cs d τ→rowOf τ box=some [.ptr jp 0]∧rowOf τ jp=some (jobX t k iv mv)∧rowOf τ p=some cs)
  (hgrow:∀ p cs d τ cs',Inv p cs d τ→Inv τ.length cs' d (τ++[AObj.cells cs']))
  (hy:∀ p cs d x τ,d++[x] <+: stpL t k.cl→Inv p cs d τ→YC Tryz.prog l [stpA x] τ fun r τ'=>(r=.b true∧Inv p cs (d++[x]) τ')∨(r=.b false∧Stop τ'))
  (h0:∃ p cs,Inv p cs [] σ):AC Tryz.prog 55 [.yld l,.ptr box 0] σ fun r τ=>(∃ p cs,Inv p cs (stpL t k.cl) τ)∨Stop τ:=by
 refine ZF (fok55 true) (QC rfl) ?_
 obtain ⟨p0,cs0,h0⟩:=h0
 obtain ⟨hb0,hj0,_⟩:=hjob _ _ [] σ h0
 simp only[ic55,hb0,hj0,evA,simprocAttr,QW,QM,WW,X9,VW,EZ,Qau,CH,get_nz,get_ns]
 refine ZW t.st.length (fun i s=>∃ v2 v3 v7 v8 v9 τ p cs,Inv p cs (stpI t k.cl i) τ∧s=⟨[.yld l,.ptr box 0,v2,v3,.cv (sttR t.st),.i t.st.length,.i i,v7,v8,v9],τ⟩) ?_ 0 (QF _) ⟨_,_,_,_,_,_,_,_,h0,rfl⟩
 rintro i s hi ⟨v2,v3,v7,v8,v9,τ,p,cs,hI,rfl⟩
 by_cases h:i<t.st.length
 ·have hI1:=hgrow _ _ _ _ [.i (t.st[i]!).fr,.i (t.st[i]!).to,.i (t.st[i]!).me,.i (t.st[i]!).lo,.i (t.st[i]!).hi,.b (t.st[i]!).bo,ints (t.st[i]!).sh] hI
  obtain ⟨hb,hj,hp⟩:=hjob _ _ _ _ hI1
  have hd:=(o118t k.cl (i:Int) (by omega))
  rw[mem_any] at hd
  have hall:=stpI_all t k.cl h
  simp only[ic55l0,QJ,h,ia_stt h,stt_ld h,hb,hj,evA,simprocAttr,QW,QM,WW,X9,VW,EZ,Qau,CH,get_nz,get_ns]
  refine hd.call frz ?_
  have esucc:=stpI_succ t k.cl i
  have wr:=Q6 (show i+1<2 ^ 63 by omega)
  by_cases hc:(i:Int)∈k.cl
  ·have eo:stpO t k.cl i=[]:=by unfold stpO;rw[if_pos hc]
   rw[eo,ZU] at esucc
   rw[← esucc] at hI1
   simp only[hc,wr,evA,simprocAttr,QW,QM,WW,X9,VW,EZ,Qau,CH,get_nz,get_ns]
   exact ZL trivial ⟨_,_,_,_,_,_,_,_,hI1,rfl⟩
  have eo:stpO t k.cl i=((i:Int),false)::if (t.st[i]!).bo then [((i:Int),true)] else []:=by unfold stpO;rw[if_neg hc]
  simp only[hc,evA,simprocAttr,QW,QM,WW,X9,VW,EZ,Qau,CH,get_nz,get_ns]
  refine (hy _ _ _ ((i:Int),false) _ (List.IsPrefix.trans (by rw[eo];exact ⟨_,by rw[QW];rfl⟩) hall) hI1).mono ?_
  rintro r τ1 (⟨rfl,hI2⟩ | ⟨rfl,hs⟩)
  rotate_left
  ·simp only[evA,simprocAttr,QW,QM,WW,X9,VW,EZ,Qau,CH,get_nz,get_ns]
   exact .inr hs
  obtain ⟨hb2,hj2,hp2⟩:=hjob _ _ _ _ hI2
  by_cases hbo:(t.st[i]!).bo=true
  ·rw[if_pos hbo] at eo
   rw[hbo] at hp2 hI2
   simp only[hb2,hj2,hp2,evA,simprocAttr,QW,QM,WW,X9,VW,EZ,Qau,CH,get_nz,get_ns]
   refine (hy _ _ _ ((i:Int),true) _ (by rw[QW];rw[eo] at hall;exact hall) hI2).mono ?_
   rintro r τ2 (⟨rfl,hI3⟩ | ⟨rfl,hs⟩)
   ·have e3:stpI t k.cl i++[((i:Int),false)]++[((i:Int),true)]=stpI t k.cl (i+1):=by rw[esucc,eo];simp
    rw[e3] at hI3
    simp only[wr,evA,simprocAttr,QW,QM,WW,X9,VW,EZ,Qau,CH,get_nz,get_ns]
    exact ZL trivial ⟨_,_,_,_,_,_,_,_,hI3,rfl⟩
   ·simp only[evA,simprocAttr,QW,QM,WW,X9,VW,EZ,Qau,CH,get_nz,get_ns]
    exact .inr hs
  ·have hbf:(t.st[i]!).bo=false:=by simpa using hbo
   rw[if_neg hbo] at eo
   rw[hbf] at hp2 hI2
   have e3:stpI t k.cl i++[((i:Int),false)]=stpI t k.cl (i+1):=by rw[esucc,eo]
   rw[e3] at hI2
   simp only[hb2,hj2,hp2,wr,evA,simprocAttr,QW,QM,WW,X9,VW,EZ,Qau,CH,get_nz,get_ns]
   exact ZL trivial ⟨_,_,_,_,_,_,_,_,hI2,rfl⟩
 ·have e:i=t.st.length:=by omega
  subst e
  simp only[ic55l0,QJ,h,evA,simprocAttr,QW,QM,WW,X9,VW,EZ,Qau,CH,get_nz,get_ns]
  exact .inl ⟨_,_,hI⟩
def ia23:IC:=(.region [jw 9 (.alloc [(.cv (.int .i64 0)),(.cv (.bool false))]) [],jq (.store 2) [.v 9,.v 17]])
def ib23:IC:=(.block 2 (.seq (.region [jN 4 6,jN 2 9,jk 26 [.t 0,.t 1],jt 2,jx 0 3,jx 1 3,jt 4,jm 10 5])
 (.dr [[],[0],[1],[2],[],[],[5],[6],[7],[],[8,9],[10],[],[12],[11,13],[3,4,0,1,2,3,4,5,6,7,8,9,10,11,12,13,14],[15,14,14,0,1,2,3,4,5,6,7,8,9,10,11,12,13,14]] [jL 8,jc 0,jG 9 1,jl 2,jv 10,jL 8,jc 5,jG 9 6,jl 7,jv 10,ja 1 8 9,jl 10,jN 2 9,jq (.bslice 2 1 [(.cv (.int .i64 0)),(.cv (.bool false))] [(0,2)]) [.t 12],jq (.append 2 16) [.t 11,.t 13],ja 1 3 4,jq (.store 1) [.t 15,.t 14]])))
theorem ca23:QL Tryz.prog vs23 94 (nav [1,1,1,1,0,1,0,2] (Tryz.f23.body.getD .skip))=some ia23:=by kernel_rfl
theorem cb23:QL Tryz.prog vs23 94 (nav [1,1,1,1,0,1,0,3] (Tryz.f23.body.getD .skip))=some ib23:=by kernel_rfl
theorem Qd8 {n:Nat} (h:n<2 ^ 40) (σ:List AObj):XB 1 24 [.cv .nils] [.i n,.i n] σ=some (.sl σ.length 0 n 1,σ++[.cells (List.replicate n (.cv .nils))]):=by
 have e:(2:Int) ^ 46=70368744177664:=by decide
 have e2:(2:Nat) ^ 40=1099511627776:=by decide
 have h1:0≤(n:Int)∧True∧(n:Int)*(24:Nat)≤2 ^ 46∧(n:Int)≤2 ^ 46∧[AV.cv .nils].length=1:=by
  refine ⟨by omega,trivial,by omega,by omega,rfl⟩
 simp only[XB]
 rw[if_pos h1]
 simp[YW]
structure BegOk (t:Twn) (k:Tsk):Prop where
 op:opnE t [k.fr,k.to]=0
 ti:inB k.ti 0 ((t.tm.length:Int)-1)=true
 sh:inB k.sh 0 (2 ^ t.sh.length-1)=true
 cl:k.cl.length≤40
 cb:outF 0 ((t.st.length:Int)-1) k.cl=false
abbrev tskX (k:Tsk):List AV:=[.i k.fr,.i k.to,.i k.sh,.i k.ti,ints k.cl]
theorem p64:∀ n,n<7→1≤(2:Int) ^ n∧(2:Int) ^ n≤64:=by decide
theorem BegOk.tw {t:Twn} {k:Tsk} (h:BegOk t k):twnE t=0:=(opnE_ok h.op).1
theorem BegOk.pls {t:Twn} {k:Tsk} (h:BegOk t k):(0≤k.fr∧k.fr<t.pl.length)∧0≤k.to∧k.to<t.pl.length:=by
 have h1:=(opnE_ok h.op).2
 rw[outF_two,X8] at h1
 obtain ⟨h1,h2⟩:=h1
 have h3:=VB.1 (by simpa using h1)
 have h4:=VB.1 (by simpa using h2)
 omega
theorem BegOk.ends {t:Twn} {k:Tsk} (h:BegOk t k) {x:Stp} (hx:0≤x.1∧x.1<t.st.length):(0≤(ends t x).1∧(ends t x).1<t.pl.length)∧(0≤(ends t x).2∧(ends t x).2<t.pl.length):=by
 have h1:=sttE_ok ((twnE_ok h.tw).2.2.2.2 x.1.toNat (by omega))
 obtain ⟨h1,h2,_⟩:=h1
 unfold AM.ends
 split
 ·exact ⟨h2,h1⟩
 ·exact ⟨h1,h2⟩
def intoL (t:Twn) (l:List Stp) (p:Nat):List Stp:=l.filter fun x=>decide ((ends t x).2=(p:Int))
structure Accs (t:Twn) (l:List Stp) (E:List Nat) (H:List AObj) (ivs:List AV):Prop where
 len:ivs.length=t.pl.length
 acc:∀ p,p<t.pl.length→AccE E 2 H (ivs[p]?.getD .undef) (intoL t l p).length ((intoL t l p).flatMap stpC)
 dis:∀ p q,p<t.pl.length→q<t.pl.length→p≠q→∀ x∈locs1 (ivs[p]?.getD .undef),x∉locs1 (ivs[q]?.getD .undef)
theorem AccE.own {E:List Nat} {e:Nat} {H H2:List AObj} {v:AV} {n:Nat} {cs:List CV} (h:AccE E e H v n cs) (hk:∀ x∈locs1 v,H2[x]? = H[x]?):AccE E e H2 v n cs :=
 h.imp id fun ⟨l,h1,h2,h3,h4⟩=>⟨l,h1,h2,h3,by unfold rowOf at h4 ⊢;rw[hk l (by rw[h2];simp[locs1])];exact h4⟩
theorem AccE.more {E F:List Nat} {e:Nat} {H:List AObj} {v:AV} {n:Nat} {cs:List CV} (h:AccE E e H v n cs) (hd:∀ x∈locs1 v,x∉F):AccE (E++F) e H v n cs :=
 h.imp id fun ⟨l,h1,h2,h3,h4⟩=>⟨l,fun hx=>(YV.1 hx).elim h1 (hd l (by rw[h2];simp[locs1])),h2,h3,h4⟩
theorem AccE.notin {E:List Nat} {e:Nat} {H:List AObj} {v:AV} {n:Nat} {cs:List CV} (h:AccE E e H v n cs):∀ x∈locs1 v,x∉E:=by
 rcases h with ⟨rfl,_⟩ | ⟨l,h1,rfl,_⟩
 ·simp[locs1]
 ·intro x hx;simp only[locs1,WZ] at hx;subst hx;exact h1
theorem Accs.keep {t:Twn} {l:List Stp} {E:List Nat} {H H2:List AObj} {ivs:List AV} (h:Accs t l E H ivs) (hr:∀ x,x<H.length→x∉E→H2[x]? = H[x]?):Accs t l E H2 ivs :=
 ⟨h.len,fun p hp=>(h.acc p hp).keep hr,h.dis⟩
theorem intoL_push (t:Twn) (l:List Stp) (x:Stp) (p:Nat):intoL t (l++[x]) p=intoL t l p++if (ends t x).2=(p:Int) then [x] else []:=by
 unfold intoL
 rw[List.filter_append]
 by_cases h:(ends t x).2=(p:Int) <;> simp[h]
theorem Accs.push {t:Twn} {l:List Stp} {E:List Nat} {H:List AObj} {ivs:List AV} (hA:Accs t l E H ivs) (hE:∀ x∈E,x<H.length) {x:Stp} {p:Nat} (hp:p<t.pl.length) (hx:(ends t x).2=(p:Int)) (hl:l.length<2 ^ 38) :
  ∃ v' H',ZX 2 16 [ivs[p]?.getD .undef,.sl H.length 0 1 2] (H++[AObj.cells [.i x.1,.b x.2]])=some (v',H')∧(∀ i∈E,H'[i]? = H[i]?)∧H'.length=H.length+2∧v'.isUndef=false∧Accs t (l++[x]) E H' (ivs.set p v'):=by
 have hp2:(2:Nat) ^ 38=274877906944:=by decide
 have hlen:=hA.len
 let F:List Nat:=(List.range ivs.length).flatMap fun q=>if q=p then [] else locs1 (ivs[q]?.getD .undef)
 have hF:∀ y,y∈F↔∃ q,q<ivs.length∧q≠p∧y∈locs1 (ivs[q]?.getD .undef):=by
  intro y
  simp only[F,YM,ZI]
  constructor
  ·rintro ⟨q,hq,hy⟩
   split at hy
   ·cases hy
   ·exact ⟨q,hq,by assumption,hy⟩
  ·rintro ⟨q,hq,hne,hy⟩
   exact ⟨q,hq,by rw[if_neg hne];exact hy⟩
 have hv:=(hA.acc p hp).more (F:=F) (fun y hy hyF=>by
  obtain ⟨q,hq,hne,hy2⟩:=(hF y).1 hyF
  exact hA.dis p q hp (by omega) (Ne.symm hne) y hy hy2)
 have hEF:∀ y∈E++F,y<H.length:=fun y hy=>(YV.1 hy).elim (hE y) fun hy=>by
  obtain ⟨q,hq,hne,hy2⟩:=(hF y).1 hy
  exact locs_lt (hA.acc q (by omega)) y hy2
 have hil:(intoL t l p).length≤l.length:=HC _ _
 obtain ⟨v',H',h1,h2,h3,h4,h5⟩:=accE_append (by_:=16) (x:=stpC x) hEF hv rfl (by omega) (by omega)
 refine ⟨v',H',h1,fun i hi=>h3 i (by simp[hi]),h4,h5,⟨by simp[hlen],fun q hq=>?_,fun a b ha hb hab y hy hyb=>?_⟩⟩
 ·rw[ZO]
  by_cases hqp:p=q
  ·subst hqp
   rw[if_pos rfl,if_pos (by omega),intoL_push,if_pos hx]
   simp only[QM,List.length_cons,List.length_nil,List.flatMap_append,YH,List.flatMap_nil,ZU,Option.getD_some]
   exact h2.less fun y hy=>.inl (by simp[hy])
  ·rw[if_neg hqp,intoL_push,if_neg (by omega),ZU]
   exact (hA.acc q hq).own fun y hy=>h3 y (YV.2 (.inr ((hF y).2 ⟨q,by omega,Ne.symm hqp,hy⟩)))
 ·rw[ZO] at hy hyb
  by_cases hpa:p=a
  ·subst hpa
   rw[if_pos rfl,if_pos (by omega)] at hy
   rw[if_neg hab] at hyb
   exact h2.notin y hy (YV.2 (.inr ((hF y).2 ⟨b,by omega,Ne.symm hab,hyb⟩)))
  ·rw[if_neg hpa] at hy
   by_cases hpb:p=b
   ·subst hpb
    rw[if_pos rfl,if_pos (by omega)] at hyb
    exact h2.notin y hyb (YV.2 (.inr ((hF y).2 ⟨a,by omega,Ne.symm hpa,hy⟩)))
   ·rw[if_neg hpb] at hyb
    exact hA.dis a b ha hb hab y hy hyb
theorem Accs.new (t:Twn) (E:List Nat) (H:List AObj):Accs t [] E H (List.replicate t.pl.length (.cv .nils)):=by
 refine ⟨by simp,fun p hp=>?_,fun p q hp hq _ x hx=>?_⟩
 ·rw[YN,if_pos hp];exact AccE.nil _ _ _
 ·rw[YN,if_pos hp] at hx;simp[locs1] at hx
abbrev bgH (t:Twn) (k:Tsk) (n:Nat) (ivs:List AV) (o:AObj) (T:List AObj):List AObj :=
 AObj.cells [.cv (strR t.pl),.cv (strR t.sh),.cv (strR t.tm),.cv (sttR t.st)]::AObj.cells [.i k.fr,.i k.to,.i k.sh,.i k.ti,ints k.cl]::AObj.cells [.i k.fr,.i k.to]::AObj.cells [.cv (strR t.pl),.cv (strR t.sh),.cv (strR t.tm),.cv (sttR t.st)] ::
  AObj.cells [.i k.ti]::AObj.cells [.i k.sh]::AObj.cells ivs::AObj.map []::AObj.cells (jobX t k (.sl (n+6) 0 t.pl.length 1) (.map (n+7)))::AObj.cells [.ptr (n+8) 0]::AObj.cells [.ptr (n+8) 0]::o::T
abbrev bgV (t:Twn) (k:Tsk) (n:Nat):List AV:=[twnA t,tskA k,.ptr n 0,.ptr (n+1) 0,.cv .nilp,.cv (.int .i64 0),.ptr (n+3) 0,.i (opnE t [k.fr,k.to]),.ptr (n+9) 0,.undef,.undef,.b false,.b false,.b false,.b false,.b false,.fn (.func 55) [.ptr (n+10) 0],.undef]
structure JobAt (t:Twn) (k:Tsk) (τ:List AObj) (jp pi pm:Nat) (ivs:List AV):Prop where
 job:rowOf τ jp=some (jobX t k (.sl pi 0 t.pl.length 1) (.map pm))
 map:mapOf τ pm=some []
 row:rowOf τ pi=some ivs
 acc:Accs t (stpL t k.cl) [] τ ivs
theorem ia_sl {l off len e esz k:Nat} (h:k<len) (σ:List AObj):VP esz [.sl l off len e,.cv (.int .i64 k)] σ=some (.ptr l (off+k*esz),σ):=by
 have h1:(0:Int)≤k∧(k:Int)<len:=by omega
 simp only[VP,h1,if_true,Int.toNat_natCast,and_self]
structure BgI (t:Twn) (k:Tsk) (σ:List AObj) (o:AObj) (p:Nat) (cs:List AV) (d:List Stp) (H:List AObj) (ivs:List AV) (T:List AObj):Prop where
 heap:H=σ++bgH t k σ.length ivs o T
 acc:Accs t d (List.range (σ.length+12)++[p]) H ivs
 row:rowOf H p=some cs
 ne:p≠σ.length+6
theorem bg_get (t:Twn) (k:Tsk) (σ:List AObj) (n:Nat) (ivs:List AV) (o:AObj) (T:List AObj) {x:Nat} (hx:σ.length+12≤x):(σ++bgH t k n ivs o T)[x]? = T[x-(σ.length+12)]? := by
 obtain ⟨j,rfl⟩:∃ j,x=σ.length+12+j:=⟨x-(σ.length+12),by omega⟩
 rw[show σ.length+12+j=σ.length+(12+j) by omega,QS (by omega),show σ.length+(12+j)-σ.length=j+12 by omega,show σ.length+(12+j)-(σ.length+12)=j by omega]
 rfl
theorem bg_same (t:Twn) (k:Tsk) (σ:List AObj) (n:Nat) (ivs ivs2:List AV) (o o2:AObj) (T:List AObj) {x:Nat} (h1:x≠σ.length+6) (h2:x≠σ.length+11):(σ++bgH t k n ivs o T)[x]? = (σ++bgH t k n ivs2 o2 T)[x]? := by
 by_cases hx:x<σ.length
 ·rw[QE hx,QE hx]
 ·obtain ⟨j,rfl⟩:∃ j,x=σ.length+j:=⟨x-σ.length,by omega⟩
  rw[QS (by omega),QS (by omega),show σ.length+j-σ.length=j by omega]
  match j,h1,h2 with
  | 0,_,_=>rfl
  | 1,_,_=>rfl
  | 2,_,_=>rfl
  | 3,_,_=>rfl
  | 4,_,_=>rfl
  | 5,_,_=>rfl
  | 6,h1,_=>exact absurd rfl h1
  | 7,_,_=>rfl
  | 8,_,_=>rfl
  | 9,_,_=>rfl
  | 10,_,_=>rfl
  | 11,_,h2=>exact absurd rfl h2
  | j+12,_,_=>rfl
theorem bg_pre (t:Twn) (k:Tsk) (σ:List AObj) (n:Nat) (ivs:List AV) (o:AObj) (T H':List AObj) (hl:σ.length+12≤H'.length) (h:∀ i,i<σ.length+12→H'[i]? = (σ++bgH t k n ivs o T)[i]?):∃ T',H'=σ++bgH t k n ivs o T':=by
 refine ⟨H'.drop (σ.length+12),?_⟩
 apply Z1
 intro i
 by_cases hi:i<σ.length+12
 ·rw[h i hi]
  by_cases hx:i<σ.length
  ·rw[QE hx,QE hx]
  ·obtain ⟨j,rfl⟩:∃ j,i=σ.length+j:=⟨i-σ.length,by omega⟩
   rw[QS (by omega),QS (by omega),show σ.length+j-σ.length=j by omega]
   match j,hi with
   | 0,_=>rfl
   | 1,_=>rfl
   | 2,_=>rfl
   | 3,_=>rfl
   | 4,_=>rfl
   | 5,_=>rfl
   | 6,_=>rfl
   | 7,_=>rfl
   | 8,_=>rfl
   | 9,_=>rfl
   | 10,_=>rfl
   | 11,_=>rfl
   | j+12,hi=>omega
 ·rw[bg_get _ _ _ _ _ _ _ (by omega),X4]
  congr 1;omega
set_option maxHeartbeats 2000000 in
theorem bg_round (t:Twn) (ht:TSz t) (k:Tsk) (hB:BegOk t k) (σ:List AObj) {R:XC} (hR:IA Tryz.prog vs23 94 [70] (bgV t k σ.length) ia23 ib23 R) (p:Nat) (cs:List AV) (d:List Stp) (x:Stp) (H ivs T)
  (hx:x∈stpL t k.cl) (hI:BgI t k σ (.loop R) p cs d H ivs T) (hd:d.length<2 ^ 38):YC Tryz.prog (σ.length+11) [stpA x] H fun r τ=>r=.b true∧∃ ivs T,BgI t k σ (.loop R) p cs (d++[x]) τ ivs T:=by
 obtain ⟨hH,hacc,hrow,hne⟩:=hI
 subst hH
 have x70:vs23.idxOf? 70=some 17:=by decide
 have hxb:=stpL_bnd hx
 have hte:=hB.ends hxb
 have htl:=(twnE_ok hB.tw).2.2.2.1
 obtain ⟨q,hq⟩:∃ q:Nat,(AM.ends t x).2=(q:Int):=⟨(AM.ends t x).2.toNat,by omega⟩
 have hql:q<t.pl.length:=by omega
 have hpl:p<(σ++bgH t k σ.length ivs (AObj.loop R) T).length:=(QH.1 (WO hrow)).1
 have hp11:p≠σ.length+11:=by
  rintro rfl
  rw[X9] at hrow
  cases hrow
 have hacc2:Accs t d (List.range (σ.length+12)++[p]) (σ++bgH t k σ.length ivs (AObj.loop (KB R)) (T++[AObj.cells [.i x.1,.b x.2]])) ivs:=hacc.keep fun y hy hn=>by
  have hy12:σ.length+12≤y:=by
   refine Nat.le_of_not_lt fun h=>hn ?_
   simp only[YV,ZI];exact .inl h
  rw[bg_get _ _ _ _ _ _ _ hy12,bg_get _ _ _ _ _ _ _ hy12,QE (by simp at hy;omega)]
 obtain ⟨v',H',h1,h2,h3,h4,h5⟩:=hacc2.push (x:=x) (p:=q) (fun y hy=>by
  rcases YV.1 hy with hy | hy
  ·simp only[ZI] at hy;simp;omega
  ·simp only[WZ] at hy;subst hy;simp at hpl ⊢;omega) hql hq hd
 obtain ⟨T',rfl⟩:=bg_pre _ _ _ _ _ _ _ H' (by simp at h3;omega) fun i hi=>h2 i (by simp;omega)
 have hiv:ivs[q]? = some (ivs[q]?.getD .undef):=by
  rw[QI (by rw[hacc.len];exact hql)];rfl
 have hnu:=(hacc.acc q hql).nu
 generalize hw:ivs[q]?.getD .undef=w at *
 refine YC_g hR (by simp only[QW,QM,WW,X9,VW,EZ,Qau,CH,get_nz,get_ns];rfl) rfl (by decide) ?_
 simp only[ia23,JM,x70,evA,simprocAttr,QW,QM,WW,X9,VW,EZ,Qau,CH,get_nz,get_ns]
 refine Qan hR (by simp only[QW,QM,WW,X9,VW,EZ,Qau,CH,get_nz,get_ns];rfl) ?_
 simp only[ib23,evA,simprocAttr,QW,QM,WW,X9,VW,EZ,Qau,CH,get_nz,get_ns]
 refine (t26 t x hxb.1 hxb.2 (by omega)).call frz ?_
 simp only[hq,evA,simprocAttr,QW,QM,WW,X9,VW,EZ,Qau,CH,get_nz,get_ns]
 refine DW_s [] [(0,13),(0,14),(3,13),(3,14),(5,13),(8,13),(11,13)] hmix (by kernel_rfl) rfl ?_
 simp only[QW,QM,WW,X9,VW,EZ,Qau,CH,get_nz,get_ns,List.cons_append,List.length_cons,List.length_nil,List.nil_append,ZV] at h1
 have hv':(ivs.set q v')[q]?.getD AV.undef=v':=by rw[ZO,if_pos rfl,if_pos (by rw[hacc.len];exact hql)];rfl
 have hnv:=(h5.acc q hql).nu
 rw[hv'] at hnv
 have hql2:q+1≤ivs.length:=by rw[hacc.len];omega
 have hall:[v'].all AV.isSc=true:=by simp[hnv.2.1]
 have hc1:[v'].length=1:=rfl
 simp only[ia_sl hql,ZV,W3,hiv,hnu.1,h1,hnv.2.2,hql2,hall,hc1,evA,simprocAttr,QW,QM,WW,X9,VW,EZ,Qau,CH,get_nz,get_ns]
 refine RU hR (by simp only[QW,QM,WW,X9,VW,EZ,Qau,CH,get_nz,get_ns];rfl) ⟨rfl,ivs.set q v',T',by simp only[evA,simprocAttr,QW,QM,WW,X9,VW,EZ,Qau,CH,get_nz,get_ns],?_,?_,hne⟩
 ·simp only[evA,simprocAttr,QW,QM,WW,X9,VW,EZ,Qau,CH,get_nz,get_ns]
  refine h5.keep fun y hy hn=>(bg_same _ _ _ _ _ _ _ _ _ ?_ ?_)
  ·rintro rfl;exact hn (by simp)
  ·rintro rfl;exact hn (by simp)
 ·simp only[evA,simprocAttr,QW,QM,WW,X9,VW,EZ,Qau,CH,get_nz,get_ns]
  have e2:=h2 p (by simp)
  unfold rowOf at hrow ⊢
  rw[bg_same t k σ σ.length (ivs.set q v') ivs (.loop R) (.loop (KB R)) T' hne hp11,e2]
  have hpl2:=hpl
  by_cases hp12:p<σ.length+12
  ·have:(σ++bgH t k σ.length ivs (AObj.loop (KB R)) (T++[AObj.cells [.i x.1,.b x.2]]))[p]? = (σ++bgH t k σ.length ivs (AObj.loop R) T)[p]? := by
    rw[bg_same t k σ σ.length ivs ivs (.loop (KB R)) (.loop R) _ hne hp11]
    have:σ++bgH t k σ.length ivs (AObj.loop R) (T++[AObj.cells [.i x.1,.b x.2]])=(σ++bgH t k σ.length ivs (AObj.loop R) T)++[AObj.cells [.i x.1,.b x.2]]:=by simp
    rw[this,QE hpl]
   rw[this];exact hrow
  ·rw[bg_get _ _ _ _ _ _ _ (by omega)] at hrow ⊢
   rw[QE (by simp at hpl;omega)];exact hrow
set_option maxHeartbeats 4000000 in
theorem f23 (t:Twn) (ht:TSz t) (k:Tsk) (hk:k.cl.length<2 ^ 62) (σ:List AObj) :
  AC Tryz.prog 23 [twnA t,tskA k] σ fun r τ=>(∃ e J,e≠0∧r=.tup [.cv .nilp,.i e]∧τ=σ++J)∨(BegOk t k∧∃ jp pi pm ivs J,r=.tup [.ptr jp 0,.i 0]∧JobAt t k τ jp pi pm ivs∧τ=σ++J):=by
 refine ZF (fok23 true) (QC rfl) ?_
 have htm:=ht.tm
 have hp2:(2:Nat) ^ 38=274877906944:=by decide
 have hw1:IntKind.i64.wrap ((t.tm.length:Int)-1)=(t.tm.length:Int)-1:=ZC (by omega)
 simp only[ic23,WI,cellsOf,evA,simprocAttr,QW,QM,WW,X9,VW,EZ,Qau,CH,get_nz,get_ns]
 refine (t49 t ht [k.fr,k.to] (by simp) (p:=σ.length+2) (by rw[X9];rfl)).run ?_
 by_cases h1:opnE t [k.fr,k.to]=0
 rotate_left
 ·have hb:(opnE t [k.fr,k.to] != 0)=true:=bne_t h1
  simp only[hb,evA,simprocAttr,QW,QM,WW,X9,VW,EZ,Qau,CH,get_nz,get_ns]
  exact .inl ⟨_,_,h1,rfl,rfl⟩
 have hb:(opnE t [k.fr,k.to] != 0)=false:=by simpa using h1
 have htw:=twnE_ok (opnE_ok h1).1
 simp only[hb,hw1,evA,simprocAttr,QW,QM,WW,X9,VW,EZ,Qau,CH,get_nz,get_ns]
 refine (o56_50 0 ((t.tm.length:Int)-1) [k.ti] (by simp)).call (.cons (.c (.c _ trivial)) (.cons (.c (.c _ trivial)) (.cons (U4 (zs:=[k.ti]) (fun _=>trivial) rfl (by rw[X9];rfl)) .nil))) ?_
 rw[FW]
 cases h2:inB k.ti 0 ((t.tm.length:Int)-1)
 ·simp only[evA,simprocAttr,QW,QM,WW,X9,VW,EZ,Qau,CH,get_nz,get_ns]
  exact .inl ⟨_,_,by decide,rfl,rfl⟩
 simp only[evA,simprocAttr,QW,QM,WW,X9,VW,EZ,Qau,CH,get_nz,get_ns]
 have hsb:=p64 t.sh.length (by omega)
 have hw2:IntKind.i64.wrap ((2:Int) ^ t.sh.length-1)=2 ^ t.sh.length-1:=ZC (by omega)
 have hw3:IntKind.i64.wrap ((t.st.length:Int)-1)=(t.st.length:Int)-1:=ZC (by omega)
 refine DW_s [1,6] [(0,5),(1,5)] hmix (by kernel_rfl) rfl ?_
 simp only[evA,simprocAttr,QW,QM,WW,X9,VW,EZ,Qau,CH,get_nz,get_ns]
 refine YE ((t51 t (by omega)).call frz ⟨rfl,rfl⟩) rfl ?_
 simp only[hw2,evA,simprocAttr,QW,QM,WW,X9,VW,EZ,Qau,CH,get_nz,get_ns]
 refine YE ((o56_50 0 (2 ^ t.sh.length-1) [k.sh] (by simp)).call (.cons (.c (.c _ trivial)) (.cons (.c (.c _ trivial)) (.cons (U4 (zs:=[k.sh]) (fun _=>trivial) rfl (by rw[X9];rfl)) .nil))) ⟨rfl,rfl⟩) rfl ?_
 rw[FW]
 cases h3:inB k.sh 0 (2 ^ t.sh.length-1)
 ·simp only[evA,simprocAttr,QW,QM,WW,X9,VW,EZ,Qau,CH,get_nz,get_ns]
  exact .inl ⟨_,_,by decide,rfl,rfl⟩
 by_cases h4:(k.cl.length:Int)>40
 ·simp only[h4,evA,simprocAttr,QW,QM,WW,X9,VW,EZ,Qau,CH,get_nz,get_ns]
  exact .inl ⟨_,_,by decide,rfl,rfl⟩
 simp only[h4,hw3,evA,simprocAttr,QW,QM,WW,X9,VW,EZ,Qau,CH,get_nz,get_ns]
 refine (o56_50 0 ((t.st.length:Int)-1) k.cl (by omega)).call frz ?_
 cases h5:outF 0 ((t.st.length:Int)-1) k.cl
 rotate_left
 ·simp only[evA,simprocAttr,QW,QM,WW,X9,VW,EZ,Qau,CH,get_nz,get_ns]
  exact .inl ⟨_,_,by decide,rfl,rfl⟩
 simp only[evA,simprocAttr,QW,QM,WW,X9,VW,EZ,Qau,CH,get_nz,get_ns]
 have hB:BegOk t k:=⟨h1,h2,h3,by omega,h5⟩
 refine DW_s [] [(0,6),(0,7),(0,10),(1,6),(1,7),(1,10),(4,7),(4,10),(6,7),(6,10),(7,6),(7,10),(9,10),(10,6),(10,7),(10,9)] hmix (by kernel_rfl) rfl ?_
 simp only[Qd8 (show t.pl.length<2 ^ 40 by omega),KY,WI,cellsOf,evA,simprocAttr,QW,QM,WW,X9,VW,EZ,Qau,CH,get_nz,get_ns]
 refine (f25 _ _).run ?_
 simp only[evA,simprocAttr,QW,QM,WW,X9,VW,EZ,Qau,CH,get_nz,get_ns]
 refine RW_g ia23 ib23 (gf:=55) (cap:=[.ptr (σ.length+10) 0]) rfl (QC rfl) (fun l h=>by cases h) ca23 cb23 ?_
 intro R hR
 simp only[evA,simprocAttr,QW,QM,WW,X9,VW,EZ,Qau,CH,get_nz,get_ns]
 have hsl:=stpI_len t k.cl t.st.length
 have hlen40:(stpI t k.cl t.st.length).length<2 ^ 38:=by omega
 refine (f55 (t:=t) (by omega) (k:=k) (by omega) (iv:=.sl (σ.length+6) 0 t.pl.length 1) (mv:=.map (σ.length+7)) (jp:=σ.length+8) (fun p cs d τ=>∃ ivs T,BgI t k σ (.loop R) p cs d τ ivs T) (fun _=>False) ?_ ?_ ?_ ?_).mono ?_
 ·rintro p cs d τ ⟨ivs,T,hI⟩
  refine ⟨?_,?_,hI.row⟩
  ·rw[hI.heap,X9];rfl
  ·rw[hI.heap,X9];rfl
 ·rintro p cs d τ cs' ⟨ivs,T,hI⟩
  have hh:=hI.heap
  have hlt:σ.length+12≤τ.length:=by rw[hh];simp
  refine ⟨ivs,T++[AObj.cells cs'],by rw[hh];simp,?_,XH _ _,by omega⟩
  have h1:Accs t d (List.range (σ.length+12)++[p]) (τ++[AObj.cells cs']) ivs:=hI.acc.keep fun x hx _=>QE hx
  refine ⟨h1.len,fun q hq=>?_,h1.dis⟩
  exact ((hI.acc.acc q hq).less (E2₀:=List.range (σ.length+12)++[τ.length]) fun x hx=>by
   rcases YV.1 hx with hx | hx
   ·exact .inl (by simp only[YV];exact .inl hx)
   ·simp only[WZ] at hx;subst hx;exact .inr (QG _)).app _
 ·rintro p cs d x τ hpre ⟨ivs,T,hI⟩
  have hdl:(d++[x]).length≤(stpI t k.cl t.st.length).length:=hpre.length_le
  simp only[QM,List.length_cons,List.length_nil] at hdl
  exact (bg_round t ht k hB σ hR p cs d x τ ivs T (hpre.subset (by simp)) hI (by omega)).mono fun r τ' h=>.inl h
 ·exact ⟨σ.length+10,[.ptr (σ.length+8) 0],_,[],rfl,Accs.new _ _ _,by rw[X9];rfl,by omega⟩
 ·rintro r τ (⟨p,cs,ivs,T,hI⟩ | h)
  rotate_left
  ·exact h.elim
  have hh:=hI.heap
  refine M9 hR (by rw[hh];simp only[QW,QM,WW,X9,VW,EZ,Qau,CH,get_nz,get_ns];rfl) ?_
  have hacc:=hI.acc
  rw[hh] at hacc ⊢
  simp only[evA,simprocAttr,QW,QM,WW,X9,VW,EZ,Qau,CH,get_nz,get_ns]
  refine .inr ⟨hB,_,σ.length+6,σ.length+7,ivs,_,rfl,⟨?_,?_,?_,?_⟩,rfl⟩
  ·rw[X9];rfl
  ·unfold mapOf;rw[CH];rfl
  ·rw[X9];rfl
  ·refine ⟨hacc.len,fun q hq=>?_,hacc.dis⟩
   refine ((hacc.acc q hq).less (E2₀:=[σ.length+11]) (fun x hx=>.inl ?_)).keep (fun x hx hn=>?_) |>.less (by simp)
   ·simp only[WZ] at hx;subst hx;simp
   ·simp only[WZ] at hn
    by_cases h6:x=σ.length+6
    ·subst h6;rw[CH,CH];rfl
    ·exact bg_same t k σ σ.length ivs ivs (.loop (Qby R)) (.loop R) T h6 hn
theorem nodup_bound:∀ (n:Nat) {l:List Nat},l.Nodup→(∀ x∈l,x<n)→l.length≤n
 | 0,l,_,h=>by
  cases l with
  | nil=>exact QG _
  | cons x l=>exact absurd (h x (by simp)) (by omega)
 | n+1,l,hn,h=>by
  by_cases hm:n∈l
  ·have h1:=nodup_bound n (hn.erase n) fun x hx=>by
    have h2:=(hn.mem_erase_iff).1 hx
    have:=h x h2.2
    have:=h2.1
    omega
   have:=List.length_erase_of_mem hm
   omega
  ·have:=nodup_bound n hn fun x hx=>by
    have h2:=h x hx
    have:x≠n:=fun e=>hm (e ▸ hx)
    omega
   omega
def codeK (k:Sd):Nat:=(k.1*64+k.2).toNat
theorem keys_bound {l:List Sd} (hn:l.Nodup) (hk:∀ k∈l,KeyC k):l.length≤1024:=by
 have h:=nodup_bound 1024 (l:=l.map codeK) (by
  unfold List.Nodup
  rw[List.pairwise_map]
  refine hn.imp_of_mem fun {a b} ha hb hne he=>hne ?_
  have h1:=hk a ha
  have h2:=hk b hb
  unfold codeK at he
  obtain ⟨a1,a2⟩:=a;obtain ⟨b1,b2⟩:=b
  unfold KeyC at h1 h2
  simp only at h1 h2 he
  rw[Prod.mk.injEq];omega) (fun x hx=>by
  obtain ⟨k,hk2,rfl⟩:=ZP.1 hx
  have h1:=hk k hk2
  unfold KeyC at h1
  unfold codeK
  omega)
 simpa using h
def leC (a b:Sd):Prop:=a.1<b.1∨a.1=b.1∧a.2≤b.2
instance (a b:Sd):Decidable (leC a b):=by unfold leC;infer_instance
def addC (c:Sd) (w:Int):Sd:=(c.1+w,c.2+1)
theorem leC.trans {a b c:Sd} (h1:leC a b) (h2:leC b c):leC a c:=by unfold leC at *;omega
theorem leC.refl (a:Sd):leC a a:=by unfold leC;omega
theorem leC.tot {a b:Sd} (h:¬ leC a b):leC b a:=by unfold leC at *;omega
theorem leC.add {a b:Sd} (h:leC a b) (w:Int):leC (addC a w) (addC b w):=by unfold leC addC at *;simp only;omega
theorem leC.anti {a b:Sd} (h1:leC a b) (h2:leC b a):a=b:=by
 obtain ⟨a1,a2⟩:=a;obtain ⟨b1,b2⟩:=b
 unfold leC at *;simp only at h1 h2
 rw[Prod.mk.injEq];omega
structure Net where
 e:Sd
 E:Sd→Sd→Int→Prop
 key:∀ b n w,E b n w→KeyC b∧1≤w∧w≤10000
structure CInv (G:Net) (M:CM₀):Prop where
 keys:KeysOk M
 nd:(M.map (·.1)).Nodup
 bnd:∀ k c,getC M k=some c→0≤c.2∧c.2≤c.1∧c.1≤10000*((M.length:Int)-1)
 pos:∀ k c,getC M k=some c→k≠G.e→1≤c.1
 fin:getC M G.e=some (0,0)
 pred:∀ b c,getC M b=some c→b≠G.e→∃ n w c',G.E b n w∧getC M n=some c'∧leC (addC c' w) c
def Clo (M:CM₀) (b n:Sd) (w:Int):Prop:=∀ c',getC M n=some c'→∃ c,getC M b=some c∧leC c (addC c' w)
theorem CInv.len {G:Net} {M:CM₀} (h:CInv G M):M.length≤1024:=by
 have:=keys_bound h.nd fun k hk=>by
  obtain ⟨e,he,rfl⟩:=ZP.1 hk
  exact h.keys e he
 simpa using this
theorem getC_some {M:CM₀} {k:Sd}:(getC M k).isSome=decide (k∈M.map (·.1)):=by
 induction M with
 | nil=>rfl
 | cons e M ih =>
  rw[getC_cons]
  by_cases h:k=e.1
  ·rw[if_pos h];simp[h]
  ·rw[if_neg h,ih];simp[h]
theorem putC_new {M:CM₀} {k v:Sd} (h:getC M k=none):putC M k v=M++[(k,v)]:=by
 induction M with
 | nil=>rfl
 | cons e M ih =>
  rw[getC_cons] at h
  by_cases hk:k=e.1
  ·rw[if_pos hk] at h;cases h
  ·rw[if_neg hk] at h
   rw[putC_cons,if_neg hk,ih h];rfl
theorem putC_keys {M:CM₀} {k v old:Sd} (h:getC M k=some old):(putC M k v).map (·.1)=M.map (·.1):=by
 induction M with
 | nil=>cases h
 | cons e M ih =>
  rw[getC_cons] at h
  rw[putC_cons]
  by_cases hk:k=e.1
  ·rw[if_pos hk];simp[hk]
  ·rw[if_neg hk] at h ⊢
   simp[ih h]
def rkC (c:Sd):Nat:=c.1.toNat*1000000000+c.2.toNat
def sumC:CM₀→Nat
 | []=>0
 | e::M=>rkC e.2+sumC M
def phiC (M:CM₀):Nat:=sumC M+(1024-M.length)*1000000000000000000
theorem sum_put {M:CM₀} {k v old:Sd} (h:getC M k=some old):sumC (putC M k v)+rkC old=sumC M+rkC v:=by
 induction M with
 | nil=>cases h
 | cons e M ih =>
  rw[getC_cons] at h
  rw[putC_cons]
  by_cases hk:k=e.1
  ·rw[if_pos hk] at h ⊢
   cases h
   simp only[sumC];omega
  ·rw[if_neg hk] at h ⊢
   have:=ih h
   simp only[sumC];omega
theorem sum_app (M M2:CM₀):sumC (M++M2)=sumC M+sumC M2:=by
 induction M with
 | nil=>simp[sumC]
 | cons e M ih=>simp only[List.cons_append,sumC,ih];omega
section
variable {G:Net} {M:CM₀} {b n c':Sd} {w:Int}
structure Imp (G:Net) (M:CM₀) (b n c':Sd) (w:Int):Prop where
 e:G.E b n w
 n:getC M n=some c'
 old:∀ old,getC M b=some old→¬ leC old (addC c' w)
theorem Imp.ne (hI:CInv G M) (h:Imp G M b n c' w):b≠n:=by
 rintro rfl
 have hw:=(G.key _ _ _ h.e).2
 exact h.old _ h.n (by unfold leC addC;simp only;omega)
theorem Imp.nend (hI:CInv G M) (h:Imp G M b n c' w):b≠G.e:=by
 rintro rfl
 have hw:=(G.key _ _ _ h.e).2
 have hb:=hI.bnd _ _ h.n
 exact h.old _ hI.fin (by unfold leC addC;simp only;omega)
theorem put_mono (h:Imp G M b n c' w):∀ k c,getC M k=some c→∃ c2,getC (putC M b (addC c' w)) k=some c2∧leC c2 c:=by
 intro k c hc
 rw[getC_put]
 by_cases hk:k=b
 ·subst hk
  rw[if_pos rfl]
  exact ⟨_,rfl,leC.tot (h.old _ hc)⟩
 ·rw[if_neg hk];exact ⟨_,hc,leC.refl _⟩
theorem put_len (M:CM₀) (b v:Sd):(putC M b v).length=M.length∨getC M b=none∧(putC M b v).length=M.length+1:=by
 cases h:getC M b with
 | none=>right;rw[putC_new h];simp
 | some old =>
  left
  have:=congrArg List.length (putC_keys (v:=v) h)
  simpa using this
theorem CInv.put (hI:CInv G M) (h:Imp G M b n c' w):CInv G (putC M b (addC c' w)):=by
 have hne:=h.ne hI
 have hend:=h.nend hI
 have hw:=G.key _ _ _ h.e
 have hcb:=hI.bnd _ _ h.n
 have hlen:=put_len M b (addC c' w)
 refine ⟨hI.keys.put hw.1 _,?_,?_,?_,?_,?_⟩
 ·cases hb:getC M b with
  | none =>
   rw[putC_new hb,ZS]
   refine List.nodup_append.2 ⟨hI.nd,by simp,?_⟩
   intro x hx y hy he
   simp only[Q0,WS,WZ] at hy
   rw[he,hy] at hx
   have:=getC_some (M:=M) (k:=b)
   rw[hb,decide_eq_true hx] at this
   cases this
  | some old=>rw[putC_keys hb];exact hI.nd
 ·intro k c hc
  rw[getC_put] at hc
  by_cases hk:k=b
  ·subst hk
   rw[if_pos rfl] at hc;cases hc
   cases hb:getC M k with
   | none =>
    rcases hlen with hl | ⟨_,hl⟩
    ·rw[putC_new hb] at hl;simp at hl
    ·rw[hl];unfold addC;simp only;omega
   | some old =>
    have h1:=leC.tot (h.old _ hb)
    have h2:=hI.bnd _ _ hb
    unfold leC addC at h1
    simp only at h1
    rcases hlen with hl | ⟨hl,_⟩
    ·rw[hl];unfold addC;simp only;omega
    ·rw[hb] at hl;cases hl
  ·rw[if_neg hk] at hc
   have:=hI.bnd _ _ hc
   rcases hlen with hl | ⟨_,hl⟩ <;> omega
 ·intro k c hc hke
  rw[getC_put] at hc
  by_cases hk:k=b
  ·rw[if_pos hk] at hc;cases hc
   unfold addC;simp only;omega
  ·rw[if_neg hk] at hc;exact hI.pos _ _ hc hke
 ·rw[getC_put,if_neg (Ne.symm hend)];exact hI.fin
 ·intro b2 c2 hc hb2
  rw[getC_put] at hc
  by_cases hk:b2=b
  ·subst hk
   rw[if_pos rfl] at hc;cases hc
   exact ⟨n,w,c',h.e,by rw[getC_put,if_neg (Ne.symm hne)];exact h.n,leC.refl _⟩
  ·rw[if_neg hk] at hc
   obtain ⟨n2,w2,c3,h1,h2,h3⟩:=hI.pred _ _ hc hb2
   obtain ⟨c4,h4,h5⟩:=put_mono h _ _ h2
   exact ⟨n2,w2,c4,h1,h4,(h5.add w2).trans h3⟩
theorem Clo.put (hI:CInv G M) (h:Imp G M b n c' w) {b2 n2:Sd} {w2:Int} (hn:n2≠b) (hc:Clo M b2 n2 w2):Clo (putC M b (addC c' w)) b2 n2 w2:=by
 intro c3 h3
 rw[getC_put,if_neg hn] at h3
 obtain ⟨c4,h4,h5⟩:=hc _ h3
 obtain ⟨c5,h6,h7⟩:=put_mono h _ _ h4
 exact ⟨c5,h6,h7.trans h5⟩
theorem Clo.self (hI:CInv G M) (h:Imp G M b n c' w):Clo (putC M b (addC c' w)) b n w:=by
 intro c3 h3
 rw[getC_put,if_neg (Ne.symm (h.ne hI)),h.n] at h3
 cases h3
 exact ⟨_,by rw[getC_put,if_pos rfl],leC.refl _⟩
theorem phi_put (hI:CInv G M) (h:Imp G M b n c' w):phiC (putC M b (addC c' w))<phiC M:=by
 have hI2:=hI.put h
 have hl2:=hI2.len
 have hcb:=hI2.bnd b (addC c' w) (by rw[getC_put,if_pos rfl])
 unfold phiC
 cases hb:getC M b with
 | none =>
  rw[putC_new hb] at hl2 hcb ⊢
  rw[sum_app]
  simp only[QM,List.length_cons,List.length_nil,sumC] at hl2 hcb ⊢
  generalize addC c' w=v at *
  have hr:rkC v<1000000000000000000:=by unfold rkC;omega
  omega
 | some old =>
  have h1:=sum_put (v:=addC c' w) hb
  have h2:=h.old _ hb
  have hob:=hI.bnd _ _ hb
  have hl:=hI.len
  have hlen:(putC M b (addC c' w)).length=M.length:=by
   have:=congrArg List.length (putC_keys (v:=addC c' w) hb)
   simpa using this
  rw[hlen] at hcb ⊢
  generalize addC c' w=v at *
  have hr:rkC v<rkC old:=by
   unfold rkC
   unfold leC at h2
   omega
  omega
end
structure SInv (G:Net) (M:CM₀) (todo:List Sd):Prop where
 inv:CInv G M
 nd:todo.Nodup
 known:∀ k∈todo,(getC M k).isSome=true
 clo:∀ n,n∉todo→∀ b w,G.E b n w→Clo M b n w
structure NInv (G:Net) (now c0:Sd) (D:Sd→Int→Prop) (M:CM₀) (todo:List Sd):Prop where
 inv:CInv G M
 nd:todo.Nodup
 known:∀ k∈todo,(getC M k).isSome=true
 nin:now∉todo
 nowc:getC M now=some c0
 clo:∀ n,n∉todo→n≠now→∀ b w,G.E b n w→Clo M b n w
 done:∀ b w,D b w→G.E b now w→Clo M b now w
theorem SInv.keys {G:Net} {M:CM₀} {todo:List Sd} (h:SInv G M todo):∀ k∈todo,KeyC k:=fun k hk=>by
 have h1:=h.known k hk
 rw[getC_some,decide_eq_true_eq] at h1
 obtain ⟨e,he,rfl⟩:=ZP.1 h1
 exact h.inv.keys e he
theorem NInv.keys {G:Net} {now c0:Sd} {D:Sd→Int→Prop} {M:CM₀} {todo:List Sd} (h:NInv G now c0 D M todo):∀ k∈todo,KeyC k:=fun k hk=>by
 have h1:=h.known k hk
 rw[getC_some,decide_eq_true_eq] at h1
 obtain ⟨e,he,rfl⟩:=ZP.1 h1
 exact h.inv.keys e he
theorem SInv.pop {G:Net} {M:CM₀} {now:Sd} {todo:List Sd} (h:SInv G M (now::todo)):∃ c0,NInv G now c0 (fun _ _=>False) M todo:=by
 have hk:=h.known now (by simp)
 obtain ⟨c0,hc⟩:=Option.isSome_iff_exists.1 hk
 refine ⟨c0,h.inv,(WQ.1 h.nd).2,fun k hk=>h.known k (by simp[hk]),(WQ.1 h.nd).1,hc,fun n hn hne=>h.clo n (by simp[hn,hne]),fun b w hd=>hd.elim⟩
theorem SInv.perm {G:Net} {M:CM₀} {t t2:List Sd} (h:SInv G M t) (hp:t2.Perm t):SInv G M t2 :=
 ⟨h.inv,hp.nodup_iff.2 h.nd,fun k hk=>h.known k (hp.mem_iff.1 hk),fun n hn=>h.clo n fun hm=>hn (hp.mem_iff.2 hm)⟩
theorem NInv.fin {G:Net} {now c0:Sd} {D:Sd→Int→Prop} {M:CM₀} {todo:List Sd} (h:NInv G now c0 D M todo) (hD:∀ b w,G.E b now w→D b w):SInv G M todo :=
 ⟨h.inv,h.nd,h.known,fun n hn b w he=>by
  by_cases hne:n=now
  ·subst hne;exact h.done b w (hD b w he) he
  ·exact h.clo n hn hne b w he⟩
theorem NInv.more {G:Net} {now c0:Sd} {D D2₀:Sd→Int→Prop} {M:CM₀} {todo:List Sd} (h:NInv G now c0 D M todo) (hD:∀ b w,D2₀ b w→G.E b now w→D b w∨Clo M b now w):NInv G now c0 D2₀ M todo :=
 ⟨h.inv,h.nd,h.known,h.nin,h.nowc,h.clo,fun b w hd he=>(hD b w hd he).elim (fun h1=>h.done b w h1 he) id⟩
def addT (todo:List Sd) (b:Sd):List Sd:=if b∈todo then todo else todo++[b]
theorem NInv.put {G:Net} {now c0:Sd} {D:Sd→Int→Prop} {M:CM₀} {todo:List Sd} (h:NInv G now c0 D M todo) {b:Sd} {w:Int} (hi:Imp G M b now c0 w) :
  NInv G now c0 (fun b2 w2=>D b2 w2∨b2=b∧w2=w) (putC M b (addC c0 w)) (addT todo b)∧2*phiC (putC M b (addC c0 w))+(addT todo b).length<2*phiC M+todo.length:=by
 have hne:=hi.ne h.inv
 have hphi:=phi_put h.inv hi
 have hmem:∀ k,k∈addT todo b↔k∈todo∨k=b:=by
  intro k
  unfold addT
  split
  ·rename_i hb
   exact ⟨.inl,fun h=>h.elim id fun e=>e ▸ hb⟩
  ·simp
 have hlen:(addT todo b).length≤todo.length+1:=by unfold addT;split <;> simp
 refine ⟨⟨h.inv.put hi,?_,?_,?_,?_,?_,?_⟩,by omega⟩
 ·unfold addT
  split
  ·exact h.nd
  ·rename_i hb
   refine List.nodup_append.2 ⟨h.nd,by simp,?_⟩
   intro x hx y hy he
   simp only[WZ] at hy
   subst he;subst hy
   exact hb hx
 ·intro k hk
  rw[getC_put]
  rcases (hmem k).1 hk with hk | hk
  ·by_cases e:k=b
   ·rw[if_pos e];rfl
   ·rw[if_neg e];exact h.known k hk
  ·rw[if_pos hk];rfl
 ·intro hk
  rcases (hmem now).1 hk with hk | hk
  ·exact h.nin hk
  ·exact hne hk.symm
 ·rw[getC_put,if_neg (Ne.symm hne)];exact h.nowc
 ·intro n hn hnn b2 w2 he
  have h1:n∉todo:=fun hm=>hn ((hmem n).2 (.inl hm))
  have h2:n≠b:=fun e=>hn ((hmem n).2 (.inr e))
  exact (h.clo n h1 hnn b2 w2 he).put h.inv hi h2
 ·rintro b2 w2 (hd | ⟨rfl,rfl⟩) he
  ·exact (h.done b2 w2 hd he).put h.inv hi (Ne.symm hne)
  ·exact Clo.self h.inv hi
structure Slv (G:Net) (M:CM₀):Prop where
 inv:CInv G M
 pred:∀ b c,getC M b=some c→b≠G.e→∃ n w c',G.E b n w∧getC M n=some c'∧addC c' w=c
theorem SInv.slv {G:Net} {M:CM₀} (h:SInv G M []):Slv G M:=by
 refine ⟨h.inv,fun b c hc hb=>?_⟩
 obtain ⟨n,w,c',h1,h2,h3⟩:=h.inv.pred b c hc hb
 obtain ⟨c2,h4,h5⟩:=h.clo n (by simp) b w h1 c' h2
 rw[hc] at h4;cases h4
 exact ⟨n,w,c',h1,h2,h3.anti h5⟩
theorem SInv.start {G:Net} (he:KeyC G.e):SInv G [(G.e,(0,0))] [G.e]:=by
 have hg:∀ k c,getC [(G.e,((0,0):Sd))] k=some c→k=G.e∧c=(0,0):=by
  intro k c h
  rw[getC_cons] at h
  split at h
  ·cases h;exact ⟨by assumption,rfl⟩
  ·cases h
 refine ⟨⟨?_,by simp,?_,?_,by rw[getC_cons,if_pos rfl],?_⟩,by simp,?_,?_⟩
 ·intro e h;simp only[WZ] at h;subst h;exact he
 ·intro k c h;rw[(hg k c h).2];simp
 ·intro k c h hne;exact absurd (hg k c h).1 hne
 ·intro k c h hne;exact absurd (hg k c h).1 hne
 ·intro k h;simp only[WZ] at h;subst h;rw[getC_cons,if_pos rfl];rfl
 ·intro n hn b w _ c' hc;exact absurd (hg n c' hc).1 (by simpa using hn)
abbrev sdX (xs:List Sd):List AV:=(xs.flatMap sdC).map .cv
theorem sdX_len (xs:List Sd):(sdX xs).length=xs.length*2:=by rw[ZK];exact UG sdC_len xs
theorem sdX_app (xs ys:List Sd):sdX (xs++ys)=sdX xs++sdX ys:=by simp[sdX]
def TodoV (E:Nat→Prop) (H:List AObj) (v:AV) (todo:List Sd):Prop :=
 ∃ l pre post,¬ E l∧rowOf H l=some (pre++(sdX todo++post))∧QO 0 pre=true∧QO 0 post=true ∧
  ((∃ cap,v=.slc l pre.length todo.length cap 2∧todo.length≤cap∧pre.length+cap*2≤(pre++(sdX todo++post)).length)∨(pre=[]∧post=[]∧v=.sl l 0 todo.length 2))
theorem TodoV.nu {E:Nat→Prop} {H:List AObj} {v:AV} {todo:List Sd} (h:TodoV E H v todo):v.isUndef=false:=by
 obtain ⟨l,pre,post,_,_,_,_,⟨cap,rfl,_⟩ | ⟨_,_,rfl⟩⟩:=h <;> rfl
theorem TodoV.len {E:Nat→Prop} {H:List AObj} {v:AV} {todo:List Sd} (h:TodoV E H v todo) (σ:List AObj):RZ false [v] σ=some (.i todo.length,σ):=by
 obtain ⟨l,pre,post,_,_,_,_,⟨cap,rfl,_⟩ | ⟨_,_,rfl⟩⟩:=h <;> rfl
theorem TodoV.keep {E:Nat→Prop} {H H2:List AObj} {v:AV} {todo:List Sd} (h:TodoV E H v todo) (hk:∀ x,x<H.length→¬ E x→H2[x]? = H[x]?):TodoV E H2 v todo:=by
 obtain ⟨l,pre,post,h1,h2,h3,h4,h5⟩:=h
 refine ⟨l,pre,post,h1,?_,h3,h4,h5⟩
 have hl:=(QH.1 (WO h2)).1
 unfold rowOf at h2 ⊢
 rw[hk l hl h1];exact h2
theorem TodoV.frz {E:Nat→Prop} {H:List AObj} {v:AV} {todo:List Sd} {p:CV→Prop} (h:TodoV E H v todo) (hp:∀ c,p (.int .i64 c)):FrzV p H v (.cv (sdR todo)):=by
 obtain ⟨l,pre,post,h1,h2,h3,h4,h5⟩:=h
 have hpc:∀ c∈todo.flatMap sdC,p c:=by
  intro c hc
  obtain ⟨s,hs,hc⟩:=YM.1 hc
  simp only[sdC,ZD,WK,or_false] at hc
  rcases hc with rfl | rfl <;> exact hp _
 have e:((pre++(sdX todo++post)).drop pre.length).take (todo.length*2)=sdX todo:=by
  rw[List.drop_left' rfl,List.take_left' (sdX_len todo)]
 rcases h5 with ⟨cap,rfl,h6,h7⟩ | ⟨rfl,rfl,rfl⟩
 ·refine .c (.slc l pre.length todo.length cap 2 _ _ h2 (by rw[QM,QM,sdX_len];omega) ?_)
  rw[e];exact TP hpc
 ·refine .c (.sl l 0 todo.length 2 _ _ h2 (by rw[QM,QM,sdX_len];omega) ?_)
  have e':((([]:List AV)++(sdX todo++[])).drop 0).take (todo.length*2)=sdX todo:=e
  rw[e'];exact TP hpc
set_option maxHeartbeats 1000000 in
theorem TodoV.push {E:Nat→Prop} {H:List AObj} {v:AV} {todo:List Sd} (h:TodoV E H v todo) (hE:∀ x,E x→x<H.length) (hl:todo.length≤1024) (x:Sd) :
  ∃ v' H',ZX 2 16 [v,.sl H.length 0 1 2] (H++[AObj.cells [.i x.1,.i x.2]])=some (v',H')∧v'.isUndef=false∧TodoV E H' v' (todo++[x])∧(∀ i,E i→H'[i]? = H[i]?)∧H.length≤H'.length:=by
 have hp2:(2:Nat) ^ 44=17592186044416:=by decide
 have hsrc:Z9 (H++[AObj.cells [.i x.1,.i x.2]]) 2 (.sl H.length 0 1 2)=some [.i x.1,.i x.2]:=by
  simp only[Z9,if_true,XH,Option.bind_some];rfl
 obtain ⟨l,pre,post,h1,h2,h3,h4,h5⟩:=h
 have hlt:=(QH.1 (WO h2)).1
 have hr:=ZH h2 [AObj.cells [.i x.1,.i x.2]]
 have hsl:=sdX_len todo
 have hsx:sdX (todo++[x])=sdX todo++[.i x.1,.i x.2]:=sdX_app todo [x]
 have hnl:¬ E (H++[AObj.cells [AV.i x.1,AV.i x.2]]).length:=fun he=>by have:=hE _ he;simp at this;omega
 rcases h5 with ⟨cap,rfl,h6,h7⟩ | ⟨rfl,rfl,rfl⟩
 ·rw[QM,QM,hsl] at h7
  by_cases hc:todo.length+1≤cap
  ·have hset:setRange (pre++(sdX todo++post)) (pre.length+todo.length*2) [.i x.1,.i x.2]=pre++(sdX (todo++[x])++post.drop 2):=by
    have h8:=TB (xs:=pre++sdX todo) (ys:=post) (zs:=[]) (vs:=[AV.i x.1,AV.i x.2]) (by show 2≤post.length;omega)
    rw[ZU,ZU,QM,hsl] at h8
    rw[← QW,h8,hsx]
    simp
   refine ⟨.slc l pre.length (todo.length+1) cap 2,(H++[AObj.cells [.i x.1,.i x.2]]).set l (.cells (pre++(sdX (todo++[x])++post.drop 2))),?_,rfl,⟨l,pre,post.drop 2,h1,?_,h3,?_,.inl ⟨cap,by simp,by simpa using hc,?_⟩⟩,fun i hi=>?_,by simp⟩
   ·have hcd:True∧pre.length+(todo.length+1)*2≤(pre++(sdX todo++post)).length∧1*2=[AV.i x.1,AV.i x.2].length∧[AV.i x.1,AV.i x.2].all AV.isSc=true:=⟨trivial,by rw[QM,QM,hsl];omega,rfl,rfl⟩
    simp only[ZX,hr,hsrc,lenF,Option.bind_some]
    rw[if_pos hc,if_pos hcd,hset]
   ·unfold rowOf;rw[Z2 (by simp;omega)]
   ·exact JV h4
   ·rw[QM,QM,sdX_len,List.length_drop];simp;omega
   ·rw[QU (fun e:l=i=>h1 (by rw[e];exact hi)),QE (hE i hi)]
  ·refine ⟨.sl (H++[AObj.cells [.i x.1,.i x.2]]).length 0 (todo.length+1) 2,(H++[AObj.cells [.i x.1,.i x.2]])++[.cells (sdX (todo++[x]))],?_,rfl,⟨_,[],[],hnl,by rw[XH];simp,rfl,rfl,.inr ⟨rfl,rfl,by simp⟩⟩,fun i hi=>?_,by simp⟩
   ·have hcd:True∧pre.length+todo.length*2≤(pre++(sdX todo++post)).length∧1*2=[AV.i x.1,AV.i x.2].length∧(todo.length+1)*16≤2 ^ 44∧todo.length+1≤2 ^ 44∧[AV.i x.1,AV.i x.2].all AV.isSc=true:=⟨trivial,by rw[QM,QM,hsl];omega,rfl,by omega,by omega,rfl⟩
    simp only[ZX,hr,hsrc,lenF,Option.bind_some]
    rw[if_neg hc,if_pos hcd,List.drop_left' rfl,List.take_left' hsl,hsx]
   ·rw[QW,QE (hE i hi)]
 ·refine ⟨.sl (H++[AObj.cells [.i x.1,.i x.2]]).length 0 (todo.length+1) 2,(H++[AObj.cells [.i x.1,.i x.2]]).set l .dead++[.cells (sdX (todo++[x]))],?_,rfl,⟨(H++[AObj.cells [.i x.1,.i x.2]]).length,[],[],hnl,?_,rfl,rfl,.inr ⟨rfl,rfl,by simp⟩⟩,fun i hi=>?_,by simp;omega⟩
  ·have hcd:True∧todo.length*2≤(([]:List AV)++(sdX todo++[])).length∧1*2=[AV.i x.1,AV.i x.2].length∧(todo.length+1)*16≤2 ^ 44∧todo.length+1≤2 ^ 44∧[AV.i x.1,AV.i x.2].all AV.isSc=true:=⟨trivial,by rw[QM,QM,hsl];simp,rfl,by omega,by omega,rfl⟩
   simp only[ZX,hr,hsrc,lenF,Option.bind_some]
   rw[if_pos hcd,hsx]
   simp only[List.nil_append,ZU]
   rw[Q5 (by rw[hsl];exact QG _)]
  ·have:(H++[AObj.cells [AV.i x.1,AV.i x.2]]).length=((H++[AObj.cells [AV.i x.1,AV.i x.2]]).set l AObj.dead).length:=by simp
   rw[this,XH];simp
  ·rw[QE (by simp;have:=hE i hi;omega),QU (fun e:l=i=>h1 (by rw[e];exact hi)),QE (hE i hi)]
theorem swF_bnd {t:Twn} {k:Tsk} (hB:BegOk t k) {x:Stp} (hx:0≤x.1∧x.1<t.st.length):0≤shwF t k.ti x∧shwF t k.ti x<64∧(0≤k.ti∧k.ti<(t.st[x.1.toNat]!).sh.length):=by
 have hk:=twnE_ok hB.tw
 have h3:=sttE_ok (hk.2.2.2.2 x.1.toNat (by omega))
 have h2:=VB.1 hB.ti
 have h4:=h3.2.2.2.2.2.2 k.ti.toNat (by rw[h3.2.2.2.1];omega)
 have h6:=pow6 hk.2.1
 unfold shwF
 refine ⟨h4.1,by omega,by omega,by rw[h3.2.2.2.1];omega⟩
def metF (t:Twn) (x:Stp):Int:=(t.st[x.1.toNat]!).me
theorem metF_bnd {t:Twn} {k:Tsk} (hB:BegOk t k) {x:Stp} (hx:0≤x.1∧x.1<t.st.length):1≤metF t x∧metF t x≤10000 :=
 (sttE_ok ((twnE_ok hB.tw).2.2.2.2 x.1.toNat (by omega))).2.2.2.2.1
theorem BegOk.sh64 {t:Twn} {k:Tsk} (hB:BegOk t k):0≤k.sh∧k.sh<64:=by
 have h1:=VB.1 hB.sh
 have h2:=p64 t.sh.length (by have:=(twnE_ok hB.tw).2.1;omega)
 omega
def netOf {t:Twn} {k:Tsk} (hB:BegOk t k):Net where
 e:=(k.to,0)
 E b n w:=∃ x∈stpL t k.cl,(ends t x).1=b.1∧n=((ends t x).2,subI b.2 (shwF t k.ti x))∧w=metF t x∧(0≤b.2∧b.2≤k.sh)∧subI b.2 k.sh=0
 key b n w:=by
  rintro ⟨x,hx,h1,h2,rfl,h3,h4⟩
  have hxb:=stpL_bnd hx
  have he:=hB.ends hxb
  have hpl:=(twnE_ok hB.tw).1
  have hs:=hB.sh64
  exact ⟨⟨by omega,by omega⟩,metF_bnd hB hxb⟩
theorem netOf_e {t:Twn} {k:Tsk} (hB:BegOk t k):KeyC (netOf hB).e:=by
 have:=hB.pls
 have hpl:=(twnE_ok hB.tw).1
 exact ⟨by show 0≤k.to∧k.to<16;omega,by show (0:Int)≤0∧(0:Int)<64;omega⟩
theorem sub_and {a b:Int} (ha:a<2 ^ 63):andI (subI a b) b=0:=by
 rw[NO]
 intro k ⟨h1,h2⟩
 rw[M8 ha,h2] at h1
 simp at h1
theorem and_wrap {a b:Int} (ha:0≤a∧a<256) (hb:0≤b∧b<256):IntKind.i64.wrap (BitVec.ofInt IntKind.i64.bits a &&& BitVec.ofInt IntKind.i64.bits b).toNat=andI a b:=by
 have e1:(BitVec.ofInt 64 a).toNat=a.toNat:=by rw[BitVec.toNat_ofInt];omega
 have e2:(BitVec.ofInt 64 b).toNat=b.toNat:=by rw[BitVec.toNat_ofInt];omega
 have e3:(BitVec.ofInt IntKind.i64.bits a &&& BitVec.ofInt IntKind.i64.bits b).toNat=a.toNat &&& b.toNat:=by
  show (BitVec.ofInt 64 a &&& BitVec.ofInt 64 b).toNat=_
  rw[BitVec.toNat_and,e1,e2]
 have h1:=andI_lt (a:=a) (b:=b) (m:=8) (by omega)
 have h0:=QbI a b
 rw[e3]
 have:((a.toNat &&& b.toNat:Nat):Int)=andI a b:=rfl
 rw[this,ZC (by omega)]
structure LowH (σ:List AObj) (pm:Nat) (M:CM₀) (H:List AObj):Prop where
 le:σ.length≤H.length
 low:∀ x,x<σ.length→x≠pm→H[x]? = σ[x]?
 map:mapOf H pm=some (memC M)
 pml:pm<σ.length
theorem LowH.row {σ:List AObj} {pm:Nat} {M:CM₀} {H:List AObj} (h:LowH σ pm M H) {q:Nat} {cs:List AV} (hr:rowOf σ q=some cs) (hne:q≠pm):rowOf H q=some cs:=by
 have hl:=(QH.1 (WO hr)).1
 unfold rowOf at hr ⊢
 rw[h.low q hl hne];exact hr
theorem LowH.app {σ:List AObj} {pm:Nat} {M:CM₀} {H:List AObj} (h:LowH σ pm M H) (J:List AObj):LowH σ pm M (H++J) :=
 ⟨by have:=h.le;simp;omega,fun x hx hne=>by rw[QE (by have:=h.le;omega)];exact h.low x hx hne,mapOf_low h.map J,h.pml⟩
structure In0 {t:Twn} {k:Tsk} (hB:BegOk t k) (σ:List AObj) (pm p3 p4 p5 p7:Nat) (now c0:Sd) (x:Stp) (m:Nat) (D:Sd→Int→Prop) (H:List AObj) (v2:AV) (M:CM₀) (todo:List Sd):Prop where
 L:LowH σ pm M H
 r3:rowOf H p3=some [.i now.1,.i now.2]
 r4:rowOf H p4=some [.i c0.1,.i c0.2]
 r5:rowOf H p5=some [.i x.1,.b x.2]
 r7:rowOf H p7=some [.i (c0.1+metF t x),.i (c0.2+1)]
 ge:σ.length≤p3∧σ.length≤p4∧σ.length≤p5∧σ.length≤p7
 T:TodoV (fun i=>i<σ.length∨i=p3∨i=p4∨i=p5∨i=p7) H v2 todo
 N:NInv (netOf hB) now c0 D M todo
 meas:2*phiC M+todo.length≤m
abbrev v24 (jp p1:Nat) (v2:AV) (p3 p4 p5:Nat) (fr:Int) (p7:Nat) (v8 v9 v10 v11 v12 v13 v14 v15 v16:AV) (s:Int) (j:Int) (v19 v20 v21 v22:AV):List AV :=
 [.ptr jp 0,.ptr p1 0,v2,.ptr p3 0,.ptr p4 0,.ptr p5 0,.i fr,.ptr p7 0,v8,v9,v10,v11,v12,v13,v14,v15,v16,.i s,.i j,v19,v20,v21,v22]
def pc24_2_4:IC:=(.seq (.dr [[],[],[1],[2],[3],[4],[0,5],[6],[7],[8],[8],[8],[10,11,8,8],[9,12,8],[8],[14,8],[13,15,8],[8,16],[17,12],[18],[19,18,18],[20],[21,20],[20],[23,20],[22,24,20],[25,20,20],[26],[27,26],[26],[29,26],[28,30,26],[31,26,26],[32],[33,32],[32],[35,32],[34,36,32],[32,37,26],[26,38,20],[20,39,18],[18,40]] [jv 8,jv 0,jc 1,jG 4 2,jG 2 3,jl 4,jq (.bin .andNot .int) [.t 0,.t 5],jq (.bin .neq .int) [.t 6,jn 0],jt 7,jh 8 false 8,jh 8 false 0,jg 8 false (.loadN 2) [.v 5],jf 8 false 27 [.t 10,.t 11],jg 8 false (.bin .andNot .int) [.t 9,.t 12],jg 8 false (.fadd 1) [.v 3],ji 8 false 14,jg 8 false (.bin .neq .int) [.t 13,.t 15],jq .pick [.t 8,jB true,.t 16],jt 17,jh 18 false 11,jg 18 false .mv [.t 19],jg 20 true (.fadd 0) [.v 10],ji 20 true 21,jg 20 true (.fadd 0) [.v 7],ji 20 true 23,jg 20 true (.bin .lss .int) [.t 22,.t 24],jg 20 true .mv [.t 25],jg 26 false (.fadd 0) [.v 10],ji 26 false 27,jg 26 false (.fadd 0) [.v 7],ji 26 false 29,jg 26 false (.bin .eql .int) [.t 28,.t 30],jg 26 false .mv [.t 31],jg 32 true (.fadd 1) [.v 10],ji 32 true 33,jg 32 true (.fadd 1) [.v 7],ji 32 true 35,jg 32 true (.bin .leq .int) [.t 34,.t 36],jg 26 false .pick [.t 32,.t 37,jB false],jg 20 true .pick [.t 26,jB true,.t 38],jg 18 false .pick [.t 20,.t 39,jB false],jw 21 .pick [.t 18,jB true,.t 40]])
 (.cond 21 (.exit 5)
 .skip))
theorem ic24l0_cut:ic24l0=(.seq (.region [jw 19 (.bin .lss .int) [.v 18,.v 17]]) (.seq (.cond 19 .skip
 (.exit 4)) (.seq (.block 5 (.seq (.region [jv 18,jm 8 0]) (.seq (.seq (.dr [[],[0],[],[],[2,3],[1,4],[5]] [jF 1 3,jl 0,jv 0,jN 2 5,jk 27 [.t 2,.t 3],jq (.bin .and .int) [.t 1,.t 4],jw 20 (.bin .neq .int) [.t 5,jn 0]])
 (.cond 20 (.exit 3)
 .skip)) (.seq (.region [jv 6,jv 8,jq (.build [(.cv (.int .i64 0)),(.cv (.int .i64 0))] [(0,1),(1,1)]) [.t 0,.t 1],jw 9 (.alloc [(.cv (.int .i64 0)),(.cv (.int .i64 0))]) [],jq (.store 2) [.v 9,.t 2]]) (.seq (.dr [[],[0],[1],[2],[],[3,4],[5],[6],[6],[],[9,7,0,1,2,3,4,5,6,7,9],[8,10,0,1,2,3,4,5,6,7,8,9,10]] [jv 0,jc 0,jG 10 1,jl 2,jN 2 9,jq (.lookup (true,[(.int .i64),(.int .i64)]) (.agg [(.cv (.int .i64 0)),(.cv (.int .i64 0))]) true) [.t 3,.t 4],jt 5,jx 0 6,jx 1 6,jw 10 (.alloc [(.cv (.int .i64 0)),(.cv (.int .i64 0))]) [],jq (.store 2) [.v 10,.t 7],jm 11 8]) (.seq pc24_2_4 (.seq (.dr [[],[0],[1],[2],[],[],[3,4,5,0,1,2,3,4,5]] [jv 0,jc 0,jG 10 1,jl 2,jN 2 9,jN 2 7,jq (.mapset (true,[(.int .i64),(.int .i64)])) [.t 3,.t 4,.t 5]]) (.seq (.region [jv 2,jN 2 9,jk 54 [.t 0,.t 1],jw 22 .not [.t 2]]) (.cond 22 (.region [jv 2,jN 2 9,jq (.bslice 2 1 [(.cv (.int .i64 0)),(.cv (.int .i64 0))] [(0,2)]) [.t 1],jq (.append 2 16) [.t 0,.t 2],jm 2 3])
 .skip))))))))) (.region [jq (.bin .add .int) [.v 18,jn 1],jm 18 0])))):=rfl
def skB (k:Tsk) (now next o:Sd) (kn:Bool) (j sh:Int):Bool :=
 (subI j k.sh != 0)||((subI j sh != now.2)||(kn&&(decide (o.1<next.1)||((o.1 == next.1)&&decide (o.2≤next.2)))))
set_option maxHeartbeats 4000000 in
theorem p24_c21 {t:Twn} {k:Tsk} (hB:BegOk t k) {jp pm p1 p3 p4 p5 p7 p9 p10 n0:Nat} {iv:AV} {now next o:Sd} {kn:Bool} {x:Stp} {j:Int} (hx:x∈stpL t k.cl) (hj0:0≤j∧j<64)
  {X:List AObj} (hj:rowOf X jp=some (jobX t k iv (.map pm))) (h3:rowOf X p3=some [.i now.1,.i now.2]) (h5:rowOf X p5=some [.i x.1,.b x.2]) (h7:rowOf X p7=some [.i next.1,.i next.2]) (h10:rowOf X p10=some [.i o.1,.i o.2])
  {v2 v12 v13 v14 v15 v16 v19 v20 v21 v22:AV} {fr s18 j18:Int} {K:Exit→St→Prop}
  (hS:skB k now next o kn j (shwF t k.ti x)=true→K (.exit 5) ⟨v24 jp p1 v2 p3 p4 p5 fr p7 (.i j) (.ptr p9 0) (.ptr p10 0) (.b kn) v12 v13 v14 v15 v16 s18 j18 v19 v20 (.b true) v22,X⟩)
  (hG:skB k now next o kn j (shwF t k.ti x)=false→K .normal ⟨v24 jp p1 v2 p3 p4 p5 fr p7 (.i j) (.ptr p9 0) (.ptr p10 0) (.b kn) v12 v13 v14 v15 v16 s18 j18 v19 v20 (.b false) v22,X⟩) :
  IS Tryz.prog ⟨vs24,173,none,n0⟩ pc24_2_4 ⟨v24 jp p1 v2 p3 p4 p5 fr p7 (.i j) (.ptr p9 0) (.ptr p10 0) (.b kn) v12 v13 v14 v15 v16 s18 j18 v19 v20 v21 v22,X⟩ K .mk .mk:=by
 have hs64:=hB.sh64
 have hxb:=stpL_bnd hx
 have hsh:=swF_bnd hB hxb
 have w1:=sub_wrap (a:=j) (b:=k.sh) (by omega) (by omega)
 have w2:=sub_wrap (a:=j) (b:=shwF t k.ti x) (by omega) (by omega)
 have hf27:=f27 t k x hxb hsh.2.2 (iv:=iv) (mv:=.map pm) (σ:=X) (jp:=jp) hj
 unfold skB at hS hG
 simp only[pc24_2_4,evA,simprocAttr,QW,QM,WW,X9,VW,EZ,Qau,CH,get_nz,get_ns]
 refine DW_s [12] [] hmix (by kernel_rfl) rfl ?_
 simp only[hj,w1,evA,simprocAttr,QW,QM,WW,X9,VW,EZ,Qau,CH,get_nz,get_ns]
 cases c1:subI j k.sh != 0
 rotate_left
 ·simp only[evA,simprocAttr,QW,QM,WW,X9,VW,EZ,Qau,CH,get_nz,get_ns]
  exact hS (by rw[c1];rfl)
 rw[c1,Y3] at hS hG
 simp only[h5,evA,simprocAttr,QW,QM,WW,X9,VW,EZ,Qau,CH,get_nz,get_ns]
 refine YE (v:=.i (shwF t k.ti x)) hf27 rfl ?_
 simp only[h3,w2,evA,simprocAttr,QW,QM,WW,X9,VW,EZ,Qau,CH,get_nz,get_ns]
 cases c2:subI j (shwF t k.ti x) != now.2
 rotate_left
 ·simp only[evA,simprocAttr,QW,QM,WW,X9,VW,EZ,Qau,CH,get_nz,get_ns]
  exact hS (by rw[c2];rfl)
 rw[c2,Y3] at hS hG
 cases kn
 ·simp only[evA,simprocAttr,QW,QM,WW,X9,VW,EZ,Qau,CH,get_nz,get_ns]
  exact hG rfl
 rw[XI] at hS hG
 simp only[h7,h10,evA,simprocAttr,QW,QM,WW,X9,VW,EZ,Qau,CH,get_nz,get_ns]
 cases c3:decide (o.1<next.1)
 rotate_left
 ·simp only[evA,simprocAttr,QW,QM,WW,X9,VW,EZ,Qau,CH,get_nz,get_ns]
  exact hS (by rw[c3];rfl)
 rw[c3,Y3] at hS hG
 simp only[h7,h10,evA,simprocAttr,QW,QM,WW,X9,VW,EZ,Qau,CH,get_nz,get_ns]
 cases c4:o.1 == next.1
 ·simp only[evA,simprocAttr,QW,QM,WW,X9,VW,EZ,Qau,CH,get_nz,get_ns]
  exact hG (by rw[c4];rfl)
 rw[c4,XI] at hS hG
 simp only[h7,h10,evA,simprocAttr,QW,QM,WW,X9,VW,EZ,Qau,CH,get_nz,get_ns]
 cases c5:decide (o.2≤next.2)
 ·simp only[evA,simprocAttr,QW,QM,WW,X9,VW,EZ,Qau,CH,get_nz,get_ns]
  exact hG c5
 ·simp only[evA,simprocAttr,QW,QM,WW,X9,VW,EZ,Qau,CH,get_nz,get_ns]
  exact hS c5
def Dj (t:Twn) (k:Tsk) (now:Sd) (x:Stp) (D:Sd→Int→Prop) (j:Int) (b:Sd) (w:Int):Prop :=
 D b w∨(b.1=(ends t x).1∧w=metF t x∧0≤b.2∧b.2<j∧now.2=subI b.2 (shwF t k.ti x)∧subI b.2 k.sh=0)
set_option maxHeartbeats 4000000 in
theorem p24_0 {t:Twn} {k:Tsk} (hB:BegOk t k) {σ:List AObj} {jp pm p1 p3 p4 p5 p7 n0:Nat} {iv:AV} (hj:rowOf σ jp=some (jobX t k iv (.map pm))) (hjm:jp≠pm) {now c0:Sd} {x:Stp} {m:Nat} {D:Sd→Int→Prop}
  (hx:x∈stpL t k.cl) (hto:(ends t x).2=now.1) (hnow:KeyC now) {Q:Exit→St→Prop} {v8 v9 v10 v11 v12 v13 v14 v15 v16 v19 v20 v21 v22:AV} {H:List AObj} {v2:AV} {M:CM₀} {todo:List Sd}
  (hI:In0 hB σ pm p3 p4 p5 p7 now c0 x m D H v2 M todo)
  (hQ:∀ v2 H M todo v8 v9 v10 v11 j v19 v20 v21 v22,In0 hB σ pm p3 p4 p5 p7 now c0 x m (Dj t k now x D (k.sh+1)) H v2 M todo →
   Q (.exit 4) ⟨v24 jp p1 v2 p3 p4 p5 (ends t x).1 p7 v8 v9 v10 v11 v12 v13 v14 v15 v16 (k.sh+1) j v19 v20 v21 v22,H⟩ ∧
   Q (.exit 3) ⟨v24 jp p1 v2 p3 p4 p5 (ends t x).1 p7 v8 v9 v10 v11 v12 v13 v14 v15 v16 (k.sh+1) j v19 v20 v21 v22,H⟩) :
  IL Tryz.prog ⟨vs24,173,none,n0⟩ ic24l0 ⟨v24 jp p1 v2 p3 p4 p5 (ends t x).1 p7 v8 v9 v10 v11 v12 v13 v14 v15 v16 (k.sh+1) 0 v19 v20 v21 v22,H⟩ Q:=by
 obtain ⟨K,hK⟩:∃ K:Nat,k.sh=K:=⟨k.sh.toNat,by have:=hB.sh64;omega⟩
 have hs64:=hB.sh64
 have hxb:=stpL_bnd hx
 have hsh:=swF_bnd hB hxb
 have hmt:=metF_bnd hB hxb
 have hen:=hB.ends hxb
 have hpl:=(twnE_ok hB.tw).1
 have hf27:=fun J hjr=>f27 t k x hxb hsh.2.2 (iv:=iv) (mv:=.map pm) (σ:=J) (jp:=jp) hjr
 refine ZW (K+1) (fun j s=>∃ v2 H M todo v8 v9 v10 v11 v19 v20 v21 v22,In0 hB σ pm p3 p4 p5 p7 now c0 x m (Dj t k now x D j) H v2 M todo ∧
  s=⟨v24 jp p1 v2 p3 p4 p5 (ends t x).1 p7 v8 v9 v10 v11 v12 v13 v14 v15 v16 (k.sh+1) j v19 v20 v21 v22,H⟩) ?_ 0 (QF _) ⟨_,_,M,todo,_,_,_,_,_,_,_,_,?_,rfl⟩
 rotate_left
 ·refine ⟨hI.L,hI.r3,hI.r4,hI.r5,hI.r7,hI.ge,hI.T,hI.N.more fun b w hd _=>?_,hI.meas⟩
  rcases hd with hd | hd
  ·exact .inl hd
  ·exact absurd hd.2.2 (by omega)
 clear hI
 rintro j s hj1 ⟨v2,H,M,todo,v8,v9,v10,v11,v19,v20,v21,v22,hI,rfl⟩
 obtain ⟨hL,h3,h4,h5,h7,hge,hT,hN,hm⟩:=hI
 have hjr:=fun J=>ZH (hL.row hj hjm) J
 have h3J:=fun J=>ZH h3 J
 have h5J:=fun J=>ZH h5 J
 have h7J:=fun J=>ZH h7 J
 have hnu:=hT.nu
 have hnw:0≤now.2∧now.2<64:=hnow.2
 have hand:=and_wrap (a:=now.2) (b:=shwF t k.ti x) (by omega) (by omega)
 by_cases hlt:j<K+1
 rotate_left
 ·have e:j=K+1:=by omega
  subst e
  have hd:decide (((K+1:Nat):Int)<k.sh+1)=false:=decide_eq_false (by omega)
  simp only[ic24l0_cut,hd,evA,simprocAttr,QW,QM,WW,X9,VW,EZ,Qau,CH,get_nz,get_ns]
  have hh:=(hQ v2 H M todo v8 v9 v10 v11 ((K+1:Nat):Int) (.b false) v20 v21 v22 ⟨hL,h3,h4,h5,h7,hge,hT,by rw[hK];exact hN,hm⟩).1
  exact hh
 have hd:decide ((j:Int)<k.sh+1)=true:=decide_eq_true (by omega)
 simp only[ic24l0_cut,hd,evA,simprocAttr,QW,QM,WW,X9,VW,EZ,Qau,CH,get_nz,get_ns]
 refine DW_s [4] [] hmix (by kernel_rfl) rfl ?_
 simp only[h3,h5,evA,simprocAttr,QW,QM,WW,X9,VW,EZ,Qau,CH,get_nz,get_ns]
 refine YE (v:=.i (shwF t k.ti x)) (hf27 H (hL.row hj hjm)) rfl ?_
 by_cases ha:andI now.2 (shwF t k.ti x)=0
 rotate_left
 ·have hab:(andI now.2 (shwF t k.ti x) != 0)=true:=bne_t ha
  simp only[hand,hab,evA,simprocAttr,QW,QM,WW,X9,VW,EZ,Qau,CH,get_nz,get_ns]
  refine (hQ v2 H M todo _ _ _ _ _ _ _ _ _ ⟨hL,h3,h4,h5,h7,hge,hT,hN.more fun b w hd _=>?_,hm⟩).2
  rcases hd with hd | hd
  ·exact .inl (.inl hd)
  ·refine absurd ?_ ha
   rw[hd.2.2.2.2.1]
   exact sub_and (by omega)
 have hab:(andI now.2 (shwF t k.ti x) != 0)=false:=by simpa using ha
 simp only[hand,hab,evA,simprocAttr,QW,QM,WW,X9,VW,EZ,Qau,CH,get_nz,get_ns]
 have hbK:KeyC ((ends t x).1,(j:Int)):=⟨by omega,by omega⟩
 refine DW_s [] [(3,9),(4,9),(5,9)] hmix (by kernel_rfl) rfl ?_
 have hlk:=fun J=>lookC2 hbK hN.inv.keys (mapOf_low hL.map J)
 have gj:=fun J:List AObj=>QE (l₂:=J) (QH.1 (WO (hL.row hj hjm))).1
 have gm:=fun J:List AObj=>QE (l₂:=J) (QH.1 (mapOf_get hL.map)).1
 simp only[hjr,hlk,gj,gm,evA,simprocAttr,QW,QM,WW,X9,VW,EZ,Qau,CH,get_nz,get_ns]
 have hle:=hL.le
 have hIn:∀ {D2₀:Sd→Int→Prop} (J:List AObj),NInv (netOf hB) now c0 D2₀ M todo→In0 hB σ pm p3 p4 p5 p7 now c0 x m D2₀ (H++J) v2 M todo:=fun J hN2 =>
  ⟨hL.app J,h3J J,ZH h4 J,h5J J,h7J J,hge,hT.keep fun y hy _=>QE hy,hN2,hm⟩
 have wr:=Q6 (show j+1<2 ^ 63 by omega)
 generalize hb:((ends t x).1,(j:Int))=b at *
 have hb1:b.1=(ends t x).1:=by rw[← hb]
 have hb2:b.2=j:=by rw[← hb]
 have hbs:∀ b2:Sd,b2.1=(ends t x).1→b2.2=j→b2=b:=fun b2 e1 e2=>by rw[← hb,← e1,← e2]
 have hup:∀ b2 w2,Dj t k now x D ((j+1:Nat):Int) b2 w2→Dj t k now x D j b2 w2∨(b2=b∧w2=metF t x∧now.2=subI j (shwF t k.ti x)∧subI j k.sh=0):=by
  rintro b2 w2 (hd | ⟨e1,e2,e3,e4,e5,e6⟩)
  ·exact .inl (.inl hd)
  ·by_cases hjj:b2.2=j
   ·exact .inr ⟨hbs _ e1 hjj,e2,by rw[← hjj];exact e5,by rw[← hjj];exact e6⟩
   ·exact .inl (.inr ⟨e1,e2,e3,by omega,e5,e6⟩)
 have hcs:∀ o kn,getC M b=(if kn=true then some o else none)→(getC M b).getD (0,0)=o→(getC M b).isSome=kn→True:=fun _ _ _ _ _=>trivial
 refine p24_c21 hB (now:=now) (next:=addC c0 (metF t x)) hx ⟨by omega,by omega⟩ (hjr _) (h3J _) (h5J _) (h7J _) (by rw[X9];rfl) ?_ ?_
 ·intro hsk
  simp only[wr,evA,simprocAttr,QW,QM,WW,X9,VW,EZ,Qau,CH,get_nz,get_ns]
  refine ZL (by first | trivial | omega) ⟨_,_,M,todo,_,_,_,_,_,_,_,_,hIn _ (hN.more fun b2 w2 hd _=>?_),rfl⟩
  rcases hup b2 w2 hd with hd | ⟨rfl,rfl,e5,e6⟩
  ·exact .inl hd
  ·right
   unfold skB at hsk
   rw[e6,← e5] at hsk
   simp only[bne_self_eq_false,Y3,QD,WR,decide_eq_true_eq,beq_iff_eq] at hsk
   intro c' hc'
   rw[hN.nowc] at hc'
   cases hc'
   obtain ⟨o,ho⟩:=Option.isSome_iff_exists.1 hsk.1
   rw[ho] at hsk
   exact ⟨o,ho,hsk.2⟩
 ·intro hsk
  unfold skB at hsk
  simp only[X8] at hsk
  obtain ⟨s1,s2,s3⟩:=hsk
  have s1:subI j k.sh=0:=by simpa using s1
  have s2:subI j (shwF t k.ti x)=now.2:=by simpa using s2
  have himp:Imp (netOf hB) M b now c0 (metF t x):=by
   refine ⟨⟨x,hx,hb1.symm,?_,rfl,by omega,by rw[hb2];exact s1⟩,hN.nowc,fun old ho hle=>?_⟩
   ·rw[hb2,s2,hto]
   ·rw[ho] at s3
    simp only[Option.getD_some,Option.isSome_some,XI,X8,Bool.and_eq_false_iff,decide_eq_false_iff_not,beq_eq_false_iff_ne] at s3
    unfold leC at hle
    omega
  obtain ⟨hN2,hm2⟩:=hN.put himp
  have hpmH:pm<H.length:=(QH.1 (mapOf_get hL.map)).1
  have hpj:=hL.pml
  have hms:∀ J:List AObj,JZ K2 [.map pm,.agg [.i (ends t x).1,.i (j:Int)],.agg [.i (c0.1+metF t x),.i (c0.2+1)]] (H++J)=some (.undef,H.set pm (.map (memC (putC M b (addC c0 (metF t x)))))++J):=fun J=>by
   have h1:=setC hbK hN.inv.keys (addC c0 (metF t x)) (mapOf_low hL.map J)
   rw[YG _ _ hpmH] at h1
   rw[← h1,← hb];rfl
  obtain ⟨H2,hH2⟩:∃ H2,H2=H.set pm (.map (memC (putC M b (addC c0 (metF t x))))):=⟨_,rfl⟩
  rw[← hH2] at hms
  have hl2:H2.length=H.length:=by rw[hH2,WE]
  have g2:∀ y,y≠pm→H2[y]? = H[y]? := fun y hy=>by rw[hH2,QU (Ne.symm hy)]
  have r2:∀ {y cs},rowOf H y=some cs→rowOf H2 y=some cs:=fun {y cs} hr=>by
   have hne:y≠pm:=by
    rintro rfl
    have h1:=mapOf_get hL.map
    rw[WO hr] at h1
    cases h1
   unfold rowOf at hr ⊢
   rw[g2 y hne];exact hr
  generalize hM2:putC M b (addC c0 (metF t x))=M2 at *
  have hL2:LowH σ pm M2 H2:=⟨by omega,fun y hy hne=>by rw[g2 y hne];exact hL.low y hy hne,by unfold mapOf;rw[hH2,Z2 hpmH],hpj⟩
  have hT2:TodoV (fun i=>i<σ.length∨i=p3∨i=p4∨i=p5∨i=p7) H2 v2 todo:=hT.keep fun y _ hy=>g2 y fun e=>hy (.inl (by omega))
  have hT3:∀ J,TodoV (fun i=>i<σ.length∨i=p3∨i=p4∨i=p5∨i=p7) (H2++J) v2 todo:=fun J=>hT2.keep fun y hy _=>QE hy
  refine DW_s [] [] hmix (by kernel_rfl) rfl ?_
  simp only[hjr,h7J,hms,evA,simprocAttr,QW,QM,WW,X9,VW,EZ,Qau,CH,get_nz,get_ns]
  rw[← hl2]
  have hk2:=hN.keys
  have hl24:todo.length≤1024:=keys_bound hN.nd hk2
  simp only[hnu,evA,simprocAttr,QW,QM,WW,X9,VW,EZ,Qau,CH,get_nz,get_ns]
  have hf54:PC Tryz.prog 54 [.cv (sdR todo),.agg [.i (ends t x).1,.i (j:Int)]] (.b (decide (b∈todo))):=by
   have h1:=f54 todo b (by omega) hbK hk2
   rw[← hb] at h1 ⊢;exact h1
  refine hf54.call (.cons ((hT3 _).frz fun _=>trivial) (.cons (.agg (.cons (.c (.c _ trivial)) (.cons (.c (.c _ trivial)) .nil))) .nil)) ?_
  have hN3:NInv (netOf hB) now c0 (Dj t k now x D ((j+1:Nat):Int)) M2 (addT todo b):=hN2.more fun b2 w2 hd _=>by
   rcases hup b2 w2 hd with hd | ⟨e1,e2,_⟩
   ·exact .inl (.inl hd)
   ·exact .inl (.inr ⟨e1,e2⟩)
  by_cases hbt:b∈todo
  ·have e:addT todo b=todo:=by unfold addT;rw[if_pos hbt]
   rw[e] at hN3 hm2
   simp only[hbt,wr,evA,simprocAttr,QW,QM,WW,X9,VW,EZ,Qau,CH,get_nz,get_ns]
   refine ZL (by first | trivial | omega) ⟨_,_,M2,todo,_,_,_,_,_,_,_,_,⟨hL2.app _,ZH (r2 h3) _,ZH (r2 h4) _,ZH (r2 h5) _,ZH (r2 h7) _,hge,hT3 _,hN3,by omega⟩,rfl⟩
  ·have e:addT todo b=todo++[b]:=by unfold addT;rw[if_neg hbt]
   rw[e] at hN3 hm2
   simp only[hbt,evA,simprocAttr,QW,QM,WW,X9,VW,EZ,Qau,CH,get_nz,get_ns]
   have hE:∀ y,(fun i=>i<σ.length∨i=p3∨i=p4∨i=p5∨i=p7) y→y<(H2++[AObj.cells [.i (ends t x).1,.i (j:Int)],AObj.cells [.i ((getC M b).getD (0,0)).1,.i ((getC M b).getD (0,0)).2]]).length:=by
    have hr:∀ {q cs},rowOf H q=some cs→q<H.length:=fun h=>(QH.1 (WO h)).1
    have q3:=hr h3
    have q4:=hr h4
    have q5:=hr h5
    have q7:=hr h7
    intro y hy
    simp only[QM,List.length_cons,List.length_nil]
    rcases hy with hy | rfl | rfl | rfl | rfl <;> omega
   obtain ⟨v',H3₀,a1,a2,a3,a4,a5⟩:=(hT3 [AObj.cells [.i (ends t x).1,.i (j:Int)],AObj.cells [.i ((getC M b).getD (0,0)).1,.i ((getC M b).getD (0,0)).2]]).push hE hl24 b
   rw[← hb] at a1
   simp only[QW,QM,WW,X9,VW,EZ,Qau,CH,get_nz,get_ns,List.cons_append,List.length_cons,List.length_nil,List.nil_append,ZV] at a1 a5
   rw[hb] at a1
   simp only[a1,a2,wr,evA,simprocAttr,QW,QM,WW,X9,VW,EZ,Qau,CH,get_nz,get_ns]
   have k3:∀ {q cs},(q<σ.length∨q=p3∨q=p4∨q=p5∨q=p7)→rowOf H q=some cs→rowOf H3₀ q=some cs:=fun {q cs} hq hr=>by
    have h1:=ZH (r2 hr) [AObj.cells [.i (ends t x).1,.i (j:Int)],AObj.cells [.i ((getC M b).getD (0,0)).1,.i ((getC M b).getD (0,0)).2]]
    unfold rowOf at h1 ⊢
    rw[a4 q hq];exact h1
   have hL3:LowH σ pm M2 H3₀:=by
    have h1:=hL2.app [AObj.cells [.i (ends t x).1,.i (j:Int)],AObj.cells [.i ((getC M b).getD (0,0)).1,.i ((getC M b).getD (0,0)).2]]
    refine ⟨by omega,fun y hy hne=>by rw[a4 y (.inl hy)];exact h1.low y hy hne,?_,hpj⟩
    have h2:=h1.map
    unfold mapOf at h2 ⊢
    rw[a4 pm (.inl hpj)];exact h2
   refine ZL (by first | trivial | omega) ⟨_,_,M2,todo++[b],_,_,_,_,_,_,_,_,⟨hL3,k3 (by simp) h3,k3 (by simp) h4,k3 (by simp) h5,k3 (by simp) h7,hge,a3,hN3,by omega⟩,rfl⟩
theorem TodoV.less {E E2₀:Nat→Prop} {H:List AObj} {v:AV} {todo:List Sd} (h:TodoV E H v todo) (hE:∀ x,E2₀ x→E x∨H.length≤x):TodoV E2₀ H v todo:=by
 obtain ⟨l,pre,post,h1,h2,h3⟩:=h
 refine ⟨l,pre,post,fun h=>(hE l h).elim h1 fun hl=>?_,h2,h3⟩
 have:=(QH.1 (WO h2)).1
 omega
theorem acc_get {E:List Nat} {H:List AObj} {v:AV} {xs:List Stp} (h:AccE E 2 H v xs.length (xs.flatMap stpC)) {i:Nat} (hi:i<xs.length) :
  ∃ l cs,rowOf H l=some cs∧(∀ τ,VP 2 [v,.cv (.int .i64 i)] τ=some (.ptr l (i*2),τ))∧∀ τ,rowOf τ l=some cs→YF 2 [.ptr l (i*2)] τ=some (stpA xs[i]!,τ):=by
 rcases h with ⟨_,h,_⟩ | ⟨l,_,rfl,hl,hr⟩
 ·omega
 ·refine ⟨l,_,hr,fun τ=>by rw[ia_sl hi,ZV],fun τ hτ=>?_⟩
  have h1:i*2+2≤((xs.flatMap stpC).map AV.cv).length:=by rw[ZK,hl];omega
  have h2:=G3 stpC_len hi
  have h3:((((xs.flatMap stpC).map AV.cv).drop (i*2)).take 2)=[.i (xs[i]!).1,.b (xs[i]!).2]:=by
   rw[← List.map_drop,← List.map_take,h2];rfl
  simp only[YF,hτ,Option.bind_some,h1,if_true,h3]
theorem acc_len {E:List Nat} {e n:Nat} {H:List AObj} {v:AV} {cs:List CV} (h:AccE E e H v n cs) (τ:List AObj):RZ false [v] τ=some (.i n,τ):=by
 rcases h with ⟨rfl,rfl,_⟩ | ⟨l,_,rfl,_⟩ <;> rfl
structure In1 {t:Twn} {k:Tsk} (hB:BegOk t k) (σ:List AObj) (pm p3 p4:Nat) (now c0:Sd) (m:Nat) (D:Sd→Int→Prop) (H:List AObj) (v2:AV) (M:CM₀) (todo:List Sd):Prop where
 L:LowH σ pm M H
 r3:rowOf H p3=some [.i now.1,.i now.2]
 r4:rowOf H p4=some [.i c0.1,.i c0.2]
 ge:σ.length≤p3∧σ.length≤p4
 T:TodoV (fun i=>i<σ.length∨i=p3∨i=p4) H v2 todo
 N:NInv (netOf hB) now c0 D M todo
 meas:2*phiC M+todo.length≤m
def Di (t:Twn) (k:Tsk) (now:Sd) (xs:List Stp) (i:Nat) (b:Sd) (w:Int):Prop :=
 ∃ a,a<i∧b.1=(ends t xs[a]!).1∧w=metF t xs[a]!∧0≤b.2∧b.2<k.sh+1∧now.2=subI b.2 (shwF t k.ti xs[a]!)∧subI b.2 k.sh=0
abbrev w24 (jp p1:Nat) (v2:AV) (p3 p4:Nat) (v5 v6 v7 v8 v9 v10 v11 v12 v13:AV) (n i:Nat) (v16 v17 v18 v19 v20 v21 v22:AV):List AV :=
 [.ptr jp 0,.ptr p1 0,v2,.ptr p3 0,.ptr p4 0,v5,v6,v7,v8,v9,v10,v11,v12,v13,.i n,.i i,v16,v17,v18,v19,v20,v21,v22]
set_option maxHeartbeats 4000000 in
theorem p24_1 {t:Twn} {k:Tsk} (hB:BegOk t k) {σ:List AObj} {jp pm p1 p3 p4 n0:Nat} {iv:AV} (hj:rowOf σ jp=some (jobX t k iv (.map pm))) (hpm:mapOf σ pm=some []) {now c0:Sd} {m:Nat} {xs:List Stp}
  (hxs:∀ x∈xs,x∈stpL t k.cl∧(ends t x).2=now.1) (hxl:xs.length<2 ^ 38) (hnow:KeyC now) {Q:Exit→St→Prop} {v13:AV} (hacc:AccE [] 2 σ v13 xs.length (xs.flatMap stpC))
  {v5 v6 v7 v8 v9 v10 v11 v12 v16 v17 v18 v19 v20 v21 v22:AV} {H:List AObj} {v2:AV} {M:CM₀} {todo:List Sd}
  (hI:In1 hB σ pm p3 p4 now c0 m (fun _ _=>False) H v2 M todo)
  (hQ:∀ v2 H M todo v5 v6 v7 v8 v9 v10 v11 v16 v17 v18 v19 v20 v21 v22,In1 hB σ pm p3 p4 now c0 m (Di t k now xs xs.length) H v2 M todo →
   Q (.exit 2) ⟨w24 jp p1 v2 p3 p4 v5 v6 v7 v8 v9 v10 v11 v12 v13 xs.length xs.length v16 v17 v18 v19 v20 v21 v22,H⟩) :
  IL Tryz.prog ⟨vs24,173,none,n0⟩ ic24l1 ⟨w24 jp p1 v2 p3 p4 v5 v6 v7 v8 v9 v10 v11 v12 v13 xs.length 0 v16 v17 v18 v19 v20 v21 v22,H⟩ Q:=by
 have hp2:(2:Nat) ^ 38=274877906944:=by decide
 have hcell:∀ {q cs},rowOf σ q=some cs→q≠pm:=fun {q cs} hr=>by
  rintro rfl
  have h1:=mapOf_get hpm
  rw[WO hr] at h1
  cases h1
 have hs64:=hB.sh64
 have hst:=(twnE_ok hB.tw).2.2.2.1
 refine ZW xs.length (fun i s=>∃ v2 H M todo v5 v6 v7 v8 v9 v10 v11 v16 v17 v18 v19 v20 v21 v22,In1 hB σ pm p3 p4 now c0 m (Di t k now xs i) H v2 M todo ∧
  s=⟨w24 jp p1 v2 p3 p4 v5 v6 v7 v8 v9 v10 v11 v12 v13 xs.length i v16 v17 v18 v19 v20 v21 v22,H⟩) ?_ 0 (QF _) ⟨_,_,M,todo,_,_,_,_,_,_,_,_,_,_,_,_,_,_,?_,rfl⟩
 rotate_left
 ·refine ⟨hI.L,hI.r3,hI.r4,hI.ge,hI.T,hI.N.more fun b w hd _=>?_,hI.meas⟩
  obtain ⟨a,ha,_⟩:=hd
  omega
 clear hI
 rintro i s hi1 ⟨v2,H,M,todo,v5,v6,v7,v8,v9,v10,v11,v16,v17,v18,v19,v20,v21,v22,hI,rfl⟩
 by_cases hlt:i<xs.length
 rotate_left
 ·have e:i=xs.length:=by omega
  subst e
  simp only[ic24l1,QJ,hlt,evA,simprocAttr,QW,QM,WW,X9,VW,EZ,Qau,CH,get_nz,get_ns]
  exact hQ v2 H M todo v5 v6 v7 v8 v9 v10 v11 _ v17 v18 v19 v20 v21 v22 hI
 obtain ⟨hL,h3,h4,hge,hT,hN,hm⟩:=hI
 have hjr:=fun J=>ZH (hL.row hj (hcell hj)) J
 have hx:=hxs xs[i]! (by rw[getElem!_pos xs i hlt];exact Q2 hlt)
 obtain ⟨l,cs,hr,hia,hld⟩:=acc_get hacc hlt
 have hld':=hld H (hL.row hr (hcell hr))
 have hxb:=stpL_bnd hx.1
 have hmt:=metF_bnd hB hxb
 have hcb:=hN.inv.bnd _ _ hN.nowc
 have hml:=hN.inv.len
 have hw1:IntKind.i64.wrap (c0.1+metF t xs[i]!)=c0.1+metF t xs[i]! := ZC (by omega)
 have hw2:IntKind.i64.wrap (c0.2+1)=c0.2+1:=ZC (by omega)
 have hw3:IntKind.i64.wrap (k.sh+1)=k.sh+1:=ZC (by omega)
 have wr:=Q6 (show i+1<2 ^ 63 by omega)
 obtain ⟨sx,hsx⟩:∃ s:Nat,(xs[i]!).1=(s:Int):=⟨(xs[i]!).1.toNat,by omega⟩
 have hsl:sx<t.st.length:=by omega
 have hme:metF t xs[i]! = (t.st[sx]!).me:=by unfold metF;rw[hsx];rfl
 simp only[ic24l1,QJ,hlt,hia,hld',evA,simprocAttr,QW,QM,WW,X9,VW,EZ,Qau,CH,get_nz,get_ns]
 refine DW_s [5] [] hmix (by kernel_rfl) rfl ?_
 simp only[hjr,evA,simprocAttr,QW,QM,WW,X9,VW,EZ,Qau,CH,get_nz,get_ns]
 refine YE ((t26 t xs[i]! hxb.1 hxb.2 (by omega)).call frz ⟨rfl,rfl⟩) rfl ?_
 simp only[evA,simprocAttr,QW,QM,WW,X9,VW,EZ,Qau,CH,get_nz,get_ns]
 have h4J:=fun J=>ZH h4 J
 have gj:=fun J:List AObj=>QE (l₂:=J) (QH.1 (WO (hL.row hj (hcell hj)))).1
 have g4:=fun J:List AObj=>QE (l₂:=J) (QH.1 (WO h4)).1
 have hia2:∀ τ,VP 7 [.cv (sttR t.st),.cv (.int .i64 (xs[i]!).1)] τ=some (.cv (.rp (sttCs t.st) (sx*7)),τ):=fun τ=>by rw[hsx];exact ia_stt hsl τ
 rw[hme] at hw1
 have st2:=stt_2 hsl
 refine DW_s [] [(1,18),(7,18),(9,18),(12,18),(15,18)] hmix (by kernel_rfl) rfl ?_
 simp only[hjr,h4J,gj,g4,hia2,st2,hw1,hw2,hw3,evA,simprocAttr,QW,QM,WW,X9,VW,EZ,Qau,CH,get_nz,get_ns]
 have hle:=hL.le
 have hin:In0 hB σ pm p3 p4 H.length (H.length+1) now c0 xs[i]! m (Di t k now xs i) (H++[AObj.cells [.i (xs[i]!).1,.b (xs[i]!).2],AObj.cells [.cv (.int .i64 (c0.1+(t.st[sx]!).me)),.cv (.int .i64 (c0.2+1))]]) v2 M todo:=by
  refine ⟨hL.app _,ZH h3 _,h4J _,by rw[WW];rfl,by rw[X9,hme];rfl,⟨hge.1,hge.2,hle,by omega⟩,?_,hN,hm⟩
  refine (hT.less fun y hy=>?_).keep fun y hy _=>QE hy
  rcases hy with hy | hy | hy | hy | hy
  ·exact .inl (.inl hy)
  ·exact .inl (.inr (.inl hy))
  ·exact .inl (.inr (.inr hy))
  ·exact .inr (by omega)
  ·exact .inr (by omega)
 refine p24_0 hB (iv:=iv) hj (hcell hj) hx.1 hx.2 hnow hin ?_
 intro v2' H' M' todo' v8' v9' v10' v11' j' v19' v20' v21' v22' hI'
 have h1:In1 hB σ pm p3 p4 now c0 m (Di t k now xs (i+1)) H' v2' M' todo':=by
  refine ⟨hI'.L,hI'.r3,hI'.r4,hge,hI'.T.less fun y hy=>?_,hI'.N.more fun b w hd _=>.inl ?_,hI'.meas⟩
  ·rcases hy with hy | hy | hy
   ·exact .inl (.inl hy)
   ·exact .inl (.inr (.inl hy))
   ·exact .inl (.inr (.inr (.inl hy)))
  ·obtain ⟨a,ha,hd⟩:=hd
   by_cases hai:a=i
   ·subst hai;exact .inr hd
   ·exact .inl ⟨a,by omega,hd⟩
 constructor
 ·simp only[wr,evA,simprocAttr,QW,QM,WW,X9,VW,EZ,Qau,CH,get_nz,get_ns]
  exact ZL trivial ⟨_,_,M',todo',_,_,_,_,_,_,_,_,_,_,_,_,_,_,h1,rfl⟩
 ·simp only[wr,evA,simprocAttr,QW,QM,WW,X9,VW,EZ,Qau,CH,get_nz,get_ns]
  exact ZL trivial ⟨_,_,M',todo',_,_,_,_,_,_,_,_,_,_,_,_,_,_,h1,rfl⟩
end Go.Proofs.YtogjcmnopidfpaaGreat.AM
namespace Go.Proofs.YtogjcmnopidfpaaGreat.AM
variable [Dr]
open Go
section
variable {cmp:AV} {cf:Sk→Sk→Int} {l n:Nat} {τ:List AObj} {pre post:List AV} {xs:List Sk}
set_option maxRecDepth 4000 in
theorem c96 (hc:CmpOk Tryz.prog cmp cf l τ) (hn:xs.length=n) (hn62:n<2 ^ 60) {a b:Nat} (hb:b≤n) (ha:a<2 ^ 60) :
  AC Tryz.prog 96 [.sl l pre.length n 2,.i a,.i b,cmp] (hpS τ l pre post xs) fun r τ'=>r=.tup []∧∃ ys:List Sk,ys.Perm xs∧τ'=hpS τ l pre post ys:=by
 refine ZF (fok96 true) (QC rfl) ?_
 have h60:(2:Nat) ^ 60=1152921504606846976:=by decide
 have hu:=hc.un
 have hl:=hc.lt
 have hw1:IntKind.i64.wrap ((a:Int)+1)=((a+1:Nat):Int):=Q6 (by omega)
 simp only[ic96,hw1,hu,evA,simprocAttr]
 refine ZW (b-(a+1)) (fun i s=>∃ ys v5 v6 v7,ys.Perm xs∧s=⟨[.sl l pre.length n 2,.i a,.i b,cmp,.i ((a+1+i:Nat):Int),v5,v6,v7],hpS τ l pre post ys⟩) ?_ 0 (QF _) ⟨xs,_,_,_,List.Perm.refl _,rfl⟩
 rintro i s hi ⟨ys,v5,v6,v7,hp,rfl⟩
 by_cases h:a+1+i<b
 rotate_left
 ·have d:¬ ((((a+1+i:Nat):Int))<(b:Int)):=by omega
  simp only[ic96l1,d,evA,simprocAttr]
  exact ⟨ys,hp,rfl⟩
 have hws:IntKind.i64.wrap (((a+1+i:Nat):Int)+1)=((a+1+(i+1):Nat):Int):=by rw[ZC (by omega)];omega
 simp only[ic96l1,QJ,h,evA,simprocAttr]
 refine ZW (1+i) (fun t s=>∃ ys v6 v7,ys.Perm xs∧s=⟨[.sl l pre.length n 2,.i a,.i b,cmp,.i ((a+1+i:Nat):Int),.i ((a+1+i-t:Nat):Int),v6,v7],hpS τ l pre post ys⟩) ?_ 0 (QF _) ⟨ys,_,_,hp,rfl⟩
 clear hp ys
 rintro t s ht ⟨ys,v6,v7,hp,rfl⟩
 have hyl:ys.length=n:=by rw[hp.length_eq,hn]
 by_cases h2:t<1+i
 rotate_left
 ·have d:¬ (((a+1+i-t:Nat):Int)>(a:Int)):=by omega
  simp only[ic96l0,evA,simprocAttr]
  refine DW_s [14] [] hmix (by kernel_rfl) rfl ?_
  simp only[d,hws,evA,simprocAttr]
  exact ZL (by first | trivial | omega) ⟨ys,_,_,_,hp,rfl⟩
 have d:((a+1+i-t:Nat):Int)>(a:Int):=by omega
 obtain ⟨j,hj⟩:∃ j,a+1+i-t=j+1:=⟨a+i-t,by omega⟩
 rw[hj] at d ⊢
 have hj1:j+1<n:=by omega
 have hw:IntKind.i64.wrap (((j+1:Nat):Int)-1)=(j:Int):=by rw[ZC (by omega)];omega
 have i1:=fun σ=>sd_ia (l:=l) (o:=pre.length) hj1 σ
 have i0:=fun σ=>sd_ia (l:=l) (o:=pre.length) (show j<n by omega) σ
 have l1:=hp_ld (pre:=pre) (post:=post) (xs:=ys) hl (k:=j+1) (by omega)
 have l0:=hp_ld (pre:=pre) (post:=post) (xs:=ys) hl (k:=j) (by omega)
 have hcall:=hc.hp (pre:=pre) (post:=post) ys ys[j+1]! ys[j]!
 simp only[ic96l0,evA,simprocAttr]
 refine DW_s [14] [] hmix (by kernel_rfl) rfl ?_
 simp only[d,hu,hw,i1,i0,l1,l0,evA,simprocAttr]
 refine YE hcall rfl ?_
 generalize cf ys[j+1]! ys[j]! = c
 by_cases hcn:c<0
 rotate_left
 ·simp only[hcn,hws,evA,simprocAttr]
  exact ZL (by first | trivial | omega) ⟨ys,_,_,_,hp,rfl⟩
 have s1:=hp_st (pre:=pre) (post:=post) (xs:=ys) hl (k:=j+1) (by omega) ys[j]!
 have s2:=hp_st (pre:=pre) (post:=post) (xs:=ys.set (j+1) ys[j]!) hl (k:=j) (by simp;omega) ys[j+1]!
 simp only[hcn,evA,simprocAttr]
 refine DW_s [] [] hmix (by kernel_rfl) rfl ?_
 simp only[hw,i1,i0,l1,l0,s1,s2,evA,simprocAttr]
 have e:a+1+i-(t+1)=j:=by omega
 exact ZL (by first | trivial | omega) ⟨swapL ys (j+1) j,_,_,(swap_perm (by omega) (by omega)).trans hp,by rw[e];rfl⟩
end
section
variable {cmp:AV} {cf:Sk→Sk→Int} {l n:Nat} {τ:List AObj} {pre post:List AV} {xs:List Sk}
set_option maxRecDepth 4000 in
theorem c110 (hc:CmpOk Tryz.prog cmp cf l τ) (hn:xs.length=n) (hn62:n<2 ^ 60) {lo hi first:Nat} (hf:first+hi≤n) (hlo:lo<2 ^ 60) :
  AC Tryz.prog 110 [.sl l pre.length n 2,.i lo,.i hi,.i first,cmp] (hpS τ l pre post xs) fun r τ'=>r=.tup []∧∃ ys:List Sk,ys.Perm xs∧τ'=hpS τ l pre post ys:=by
 refine ZF (fok110 true) (QC rfl) ?_
 have h60:(2:Nat) ^ 60=1152921504606846976:=by decide
 have hu:=hc.un
 have hl:=hc.lt
 simp only[ic110,hu,evA,simprocAttr]
 refine ZW hi (fun i s=>∃ ys root v6 v7 v8 v9,ys.Perm xs∧i≤root∧root<2 ^ 60∧s=⟨[.sl l pre.length n 2,.i lo,.i hi,.i first,cmp,.i (root:Nat),v6,v7,v8,v9],hpS τ l pre post ys⟩) ?_ 0 (QF _) ⟨xs,lo,_,_,_,_,List.Perm.refl _,QF _,hlo,rfl⟩
 rintro i s hi' ⟨ys,root,v6,v7,v8,v9,hp,hir,hrb,rfl⟩
 have hyl:ys.length=n:=by rw[hp.length_eq,hn]
 have hw1:IntKind.i64.wrap (2*(root:Int))=((2*root:Nat):Int):=by rw[ZC (by omega)];omega
 have hw2:IntKind.i64.wrap (((2*root:Nat):Int)+1)=((2*root+1:Nat):Int):=Q6 (by omega)
 obtain ⟨ch,hch⟩:∃ ch,ch=2*root+1:=⟨_,rfl⟩
 rw[← hch] at hw2
 by_cases h:ch<hi
 rotate_left
 ·have d:((ch:Nat):Int)≥(hi:Int):=by omega
  simp only[ic110l0,hw1,hw2,d,evA,simprocAttr]
  exact ⟨ys,hp,rfl⟩
 have d:¬ ((ch:Nat):Int)≥(hi:Int):=by omega
 have hw3:IntKind.i64.wrap ((ch:Int)+1)=((ch+1:Nat):Int):=Q6 (by omega)
 have hwr:IntKind.i64.wrap ((first:Int)+(root:Int))=((first+root:Nat):Int):=by rw[ZC (by omega)];omega
 have hwc:IntKind.i64.wrap ((first:Int)+(ch:Int))=((first+ch:Nat):Int):=by rw[ZC (by omega)];omega
 have hwc1:IntKind.i64.wrap ((first:Int)+((ch+1:Nat):Int))=((first+ch+1:Nat):Int):=by rw[ZC (by omega)];omega
 have hwc2:IntKind.i64.wrap (((first+ch:Nat):Int)+1)=((first+ch+1:Nat):Int):=by rw[ZC (by omega)];omega
 have iR:=fun σ=>sd_ia (l:=l) (o:=pre.length) (show first+root<n by omega) σ
 have lR:=hp_ld (pre:=pre) (post:=post) (xs:=ys) hl (k:=first+root) (by omega)
 simp only[ic110l0,hw1,hw2,d,evA,simprocAttr]
 by_cases h1:ch+1<hi
 ·have d1:((ch+1:Nat):Int)<(hi:Int):=by omega
  have i0:=fun σ=>sd_ia (l:=l) (o:=pre.length) (show first+ch<n by omega) σ
  have i1:=fun σ=>sd_ia (l:=l) (o:=pre.length) (show first+ch+1<n by omega) σ
  have l0:=hp_ld (pre:=pre) (post:=post) (xs:=ys) hl (k:=first+ch) (by omega)
  have l1:=hp_ld (pre:=pre) (post:=post) (xs:=ys) hl (k:=first+ch+1) (by omega)
  refine DW_s [19] [] hmix (by kernel_rfl) rfl ?_
  simp only[hw3,d1,hu,hwc,hwc2,i0,i1,l0,l1,evA,simprocAttr]
  refine YE (hc.hp ys ys[first+ch]! ys[first+ch+1]!) rfl ?_
  generalize cf ys[first+ch]! ys[first+ch+1]! = e1
  by_cases hn1:e1<0
  ·simp only[hn1,hw3,evA,simprocAttr]
   have hwC:IntKind.i64.wrap ((first:Int)+((ch+1:Nat):Int))=((first+(ch+1):Nat):Int):=by rw[ZC (by omega)];omega
   have iC:=fun σ=>sd_ia (l:=l) (o:=pre.length) (show first+(ch+1)<n by omega) σ
   have lC:=hp_ld (pre:=pre) (post:=post) (xs:=ys) hl (k:=first+(ch+1)) (by omega)
   refine DW_s [13] [] hmix (by kernel_rfl) rfl ?_
   simp only[hu,hwr,hwC,iR,iC,lR,lC,evA,simprocAttr]
   refine YE (hc.hp ys ys[first+root]! ys[first+(ch+1)]!) rfl ?_
   generalize cf ys[first+root]! ys[first+(ch+1)]! = e2
   by_cases hn2:e2<0
   rotate_left
   ·simp only[hn2,evA,simprocAttr]
    exact ⟨ys,hp,rfl⟩
   have s1:=hp_st (pre:=pre) (post:=post) (xs:=ys) hl (k:=first+root) (by omega) ys[first+(ch+1)]!
   have s2:=hp_st (pre:=pre) (post:=post) (xs:=ys.set (first+root) ys[first+(ch+1)]!) hl (k:=first+(ch+1)) (by simp;omega) ys[first+root]!
   simp only[hn2,evA,simprocAttr]
   refine DW_s [] [] hmix (by kernel_rfl) rfl ?_
   simp only[hwr,hwC,iR,iC,lR,lC,s1,s2,evA,simprocAttr]
   exact ZL (by first | trivial | omega) ⟨swapL ys (first+root) (first+(ch+1)),ch+1,_,_,_,_,(swap_perm (by omega) (by omega)).trans hp,by omega,by omega,rfl⟩
  ·simp only[hn1,evA,simprocAttr]
   have hwC:IntKind.i64.wrap ((first:Int)+((ch:Nat):Int))=((first+(ch):Nat):Int):=by rw[ZC (by omega)];omega
   have iC:=fun σ=>sd_ia (l:=l) (o:=pre.length) (show first+(ch)<n by omega) σ
   have lC:=hp_ld (pre:=pre) (post:=post) (xs:=ys) hl (k:=first+(ch)) (by omega)
   refine DW_s [13] [] hmix (by kernel_rfl) rfl ?_
   simp only[hu,hwr,hwC,iR,iC,lR,lC,evA,simprocAttr]
   refine YE (hc.hp ys ys[first+root]! ys[first+(ch)]!) rfl ?_
   generalize cf ys[first+root]! ys[first+(ch)]! = e2
   by_cases hn2:e2<0
   rotate_left
   ·simp only[hn2,evA,simprocAttr]
    exact ⟨ys,hp,rfl⟩
   have s1:=hp_st (pre:=pre) (post:=post) (xs:=ys) hl (k:=first+root) (by omega) ys[first+(ch)]!
   have s2:=hp_st (pre:=pre) (post:=post) (xs:=ys.set (first+root) ys[first+(ch)]!) hl (k:=first+(ch)) (by simp;omega) ys[first+root]!
   simp only[hn2,evA,simprocAttr]
   refine DW_s [] [] hmix (by kernel_rfl) rfl ?_
   simp only[hwr,hwC,iR,iC,lR,lC,s1,s2,evA,simprocAttr]
   exact ZL (by first | trivial | omega) ⟨swapL ys (first+root) (first+(ch)),ch,_,_,_,_,(swap_perm (by omega) (by omega)).trans hp,by omega,by omega,rfl⟩
 ·have d1:¬ ((ch+1:Nat):Int)<(hi:Int):=by omega
  refine DW_s [19] [] hmix (by kernel_rfl) rfl ?_
  simp only[hw3,d1,evA,simprocAttr]
  have hwC:IntKind.i64.wrap ((first:Int)+((ch:Nat):Int))=((first+(ch):Nat):Int):=by rw[ZC (by omega)];omega
  have iC:=fun σ=>sd_ia (l:=l) (o:=pre.length) (show first+(ch)<n by omega) σ
  have lC:=hp_ld (pre:=pre) (post:=post) (xs:=ys) hl (k:=first+(ch)) (by omega)
  refine DW_s [13] [] hmix (by kernel_rfl) rfl ?_
  simp only[hu,hwr,hwC,iR,iC,lR,lC,evA,simprocAttr]
  refine YE (hc.hp ys ys[first+root]! ys[first+(ch)]!) rfl ?_
  generalize cf ys[first+root]! ys[first+(ch)]! = e2
  by_cases hn2:e2<0
  rotate_left
  ·simp only[hn2,evA,simprocAttr]
   exact ⟨ys,hp,rfl⟩
  have s1:=hp_st (pre:=pre) (post:=post) (xs:=ys) hl (k:=first+root) (by omega) ys[first+(ch)]!
  have s2:=hp_st (pre:=pre) (post:=post) (xs:=ys.set (first+root) ys[first+(ch)]!) hl (k:=first+(ch)) (by simp;omega) ys[first+root]!
  simp only[hn2,evA,simprocAttr]
  refine DW_s [] [] hmix (by kernel_rfl) rfl ?_
  simp only[hwr,hwC,iR,iC,lR,lC,s1,s2,evA,simprocAttr]
  exact ZL (by first | trivial | omega) ⟨swapL ys (first+root) (first+(ch)),ch,_,_,_,_,(swap_perm (by omega) (by omega)).trans hp,by omega,by omega,rfl⟩
set_option maxRecDepth 4000 in
theorem c97 (hc:CmpOk Tryz.prog cmp cf l τ) (hn:xs.length=n) (hn62:n<2 ^ 60) {a b:Nat} (hab:a≤b) (hb:b≤n) :
  AC Tryz.prog 97 [.sl l pre.length n 2,.i a,.i b,cmp] (hpS τ l pre post xs) fun r τ'=>r=.tup []∧∃ ys:List Sk,ys.Perm xs∧τ'=hpS τ l pre post ys:=by
 refine ZF (fok97 true) (QC rfl) ?_
 have h60:(2:Nat) ^ 60=1152921504606846976:=by decide
 have hu:=hc.un
 have hl:=hc.lt
 obtain ⟨m,hm⟩:∃ m,m=b-a:=⟨_,rfl⟩
 have hw1:IntKind.i64.wrap ((b:Int)-(a:Int))=(m:Int):=by rw[ZC (by omega)];omega
 have hw2:IntKind.i64.wrap ((m:Int)-1)=(m:Int)-1:=ZC (by omega)
 obtain ⟨K,hK,hKm⟩:∃ K:Nat,((m:Int)-1).tdiv 2=(K:Int)∧K≤m:=by
  rcases XF m with e | e
  ·subst e;exact ⟨0,rfl,QG _⟩
  ·refine ⟨(m-1) / 2,?_,by omega⟩
   have:(m:Int)-1=((m-1:Nat):Int):=by omega
   rw[this];rfl
 have hwK:IntKind.i64.wrap (K:Int)=(K:Int):=ZC (by omega)
 simp only[ic97,hw1,hw2,hK,hwK,hu,evA,simprocAttr]
 refine ZW (K+1) (fun t s=>∃ ys v9,ys.Perm xs∧s=⟨[.sl l pre.length n 2,.i a,.i b,cmp,.i a,.i 0,.i m,.i ((K:Int)-t),.undef,v9,.undef],hpS τ l pre post ys⟩) ?_ 0 (QF _) ⟨xs,.undef,List.Perm.refl _,by simp⟩
 rintro t s ht ⟨ys,v9,hp,rfl⟩
 have hyl:ys.length=n:=by rw[hp.length_eq,hn]
 by_cases h:t<K+1
 ·have e:(K:Int)-(t:Int)=((K-t:Nat):Int):=by omega
  have d:((K-t:Nat):Int)≥0:=by omega
  have hws:IntKind.i64.wrap (((K-t:Nat):Int)-1)=(K:Int)-((t+1:Nat):Int):=by rw[ZC (by omega)];omega
  simp only[ic97l1,e,d,hu,evA,simprocAttr]
  refine (c110 hc hyl hn62 (lo:=K-t) (hi:=m) (first:=a) (by omega) (by omega)).mono ?_
  rintro r τ' ⟨rfl,zs,hz,rfl⟩
  simp only[hws,evA,simprocAttr]
  exact ZL (by first | trivial | omega) ⟨zs,_,hz.trans hp,rfl⟩
 have e:(K:Int)-(t:Int) = -1:=by omega
 simp only[ic97l1,e,hw2,evA,simprocAttr]
 clear h e ht
 refine ZW m (fun t s=>∃ ys v9 v10,ys.Perm xs∧s=⟨[.sl l pre.length n 2,.i a,.i b,cmp,.i a,.i 0,.i m,.i (-1),.i ((m:Int)-1-t),v9,v10],hpS τ l pre post ys⟩) ?_ 0 (QF _) ⟨ys,.b false,.undef,hp,by simp⟩
 clear hp hyl ys
 rintro t s ht ⟨ys,v9,v10,hp,rfl⟩
 have hyl:ys.length=n:=by rw[hp.length_eq,hn]
 by_cases h:t<m
 rotate_left
 ·have e:(m:Int)-1-(t:Int) = -1:=by omega
  simp only[ic97l0,e,evA,simprocAttr]
  exact ⟨ys,hp,rfl⟩
 obtain ⟨j,hj⟩:∃ j,j=m-1-t:=⟨_,rfl⟩
 have e:(m:Int)-1-(t:Int)=(j:Int):=by omega
 have d:(j:Int)≥0:=by omega
 have hwj:IntKind.i64.wrap ((a:Int)+(j:Int))=((a+j:Nat):Int):=by rw[ZC (by omega)];omega
 have hws:IntKind.i64.wrap ((j:Int)-1)=(m:Int)-1-((t+1:Nat):Int):=by rw[ZC (by omega)];omega
 have iA:=fun σ=>sd_ia (l:=l) (o:=pre.length) (show a<n by omega) σ
 have iJ:=fun σ=>sd_ia (l:=l) (o:=pre.length) (show a+j<n by omega) σ
 have lA:=hp_ld (pre:=pre) (post:=post) (xs:=ys) hl (k:=a) (by omega)
 have lJ:=hp_ld (pre:=pre) (post:=post) (xs:=ys) hl (k:=a+j) (by omega)
 have s1:=hp_st (pre:=pre) (post:=post) (xs:=ys) hl (k:=a) (by omega) ys[a+j]!
 have s2:=hp_st (pre:=pre) (post:=post) (xs:=ys.set a ys[a+j]!) hl (k:=a+j) (by simp;omega) ys[a]!
 simp only[ic97l0,e,d,evA,simprocAttr]
 refine DW_s [] [] hmix (by kernel_rfl) rfl ?_
 simp only[hu,hwj,iA,iJ,lA,lJ,s1,s2,evA,simprocAttr]
 have hpl:((ys.set a ys[a+j]!).set (a+j) ys[a]!).Perm xs:=(swap_perm (i:=a) (j:=a+j) (by omega) (by omega)).trans hp
 refine (c110 hc (xs:=(ys.set a ys[a+j]!).set (a+j) ys[a]!) (by simp;omega) hn62 (lo:=0) (hi:=j) (first:=a) (by omega) (by omega)).mono ?_
 rintro r τ' ⟨rfl,zs,hz,rfl⟩
 simp only[hws,evA,simprocAttr]
 exact ZL (by first | trivial | omega) ⟨zs,_,_,hz.trans hpl,rfl⟩
end
section
variable {cmp:AV} {cf:Sk→Sk→Int} {l n:Nat} {τ:List AObj} {pre post:List AV} {xs:List Sk}
set_option maxRecDepth 4000 in
theorem c100 (hc:CmpOk Tryz.prog cmp cf l τ) (hn:xs.length=n) (hn62:n<2 ^ 60) {a b:Nat} (hab:a≤b) (hb:b≤n) :
  AC Tryz.prog 100 [.sl l pre.length n 2,.i a,.i b,cmp] (hpS τ l pre post xs) fun r τ'=>r=.tup []∧∃ ys:List Sk,ys.Perm xs∧τ'=hpS τ l pre post ys:=by
 refine ZF (fok100 true) (QC rfl) ?_
 have h60:(2:Nat) ^ 60=1152921504606846976:=by decide
 have hu:=hc.un
 have hl:=hc.lt
 have hw1:IntKind.i64.wrap ((b:Int)-1)=(b:Int)-1:=ZC (by omega)
 simp only[ic100,hw1,hu,evA,simprocAttr]
 refine ZW (b-a) (fun t s=>∃ ys v6,ys.Perm xs∧(a+t≤b)∧s=⟨[.sl l pre.length n 2,.i a,.i b,cmp,.i ((a+t:Nat):Int),.i ((b:Int)-1-t),v6],hpS τ l pre post ys⟩) ?_ 0 (QF _) ⟨xs,.undef,List.Perm.refl _,by omega,by simp⟩
 rintro t s ht ⟨ys,v6,hp,hat,rfl⟩
 have hyl:ys.length=n:=by rw[hp.length_eq,hn]
 by_cases h:((a+t:Nat):Int)<(b:Int)-1-t
 rotate_left
 ·simp only[ic100l0,h,evA,simprocAttr]
  exact ⟨ys,hp,rfl⟩
 obtain ⟨j,hj⟩:∃ j,j=b-1-t:=⟨_,rfl⟩
 have e:(b:Int)-1-(t:Int)=(j:Int):=by omega
 rw[e] at h
 have hws:IntKind.i64.wrap (((a+t:Nat):Int)+1)=((a+(t+1):Nat):Int):=by rw[ZC (by omega)];omega
 have hwj:IntKind.i64.wrap ((j:Int)-1)=(b:Int)-1-((t+1:Nat):Int):=by rw[ZC (by omega)];omega
 have iA:=fun σ=>sd_ia (l:=l) (o:=pre.length) (show (a+t)<n by omega) σ
 have lA:=hp_ld (pre:=pre) (post:=post) (xs:=ys) hl (k:=a+t) (by omega)
 have iB:=fun σ=>sd_ia (l:=l) (o:=pre.length) (show (j)<n by omega) σ
 have lB:=hp_ld (pre:=pre) (post:=post) (xs:=ys) hl (k:=j) (by omega)
 have s1:=hp_st (pre:=pre) (post:=post) (xs:=ys) hl (k:=a+t) (by omega) ys[j]!
 have s2:=hp_st (pre:=pre) (post:=post) (xs:=ys.set (a+t) ys[j]!) hl (k:=j) (by rw[WE];omega) ys[a+t]!
 have hsp:(ys.set (a+t) ys[j]! |>.set (j) ys[a+t]!).Perm ys:=swap_perm (by omega) (by omega)
 simp only[ic100l0,e,h,evA,simprocAttr]
 refine DW_s [] [] hmix (by kernel_rfl) rfl ?_
 simp only[iA,iB,lA,lB,s1,s2,hws,hwj,evA,simprocAttr]
 exact ZL (by first | trivial | omega) ⟨_,_,hsp.trans hp,by omega,rfl⟩
set_option maxRecDepth 4000 in
theorem up102 (hc:CmpOk Tryz.prog cmp cf l τ) {ys:List Sk} (hn:ys.length=n) (hn62:n<2 ^ 60) {a b p i j:Nat} (hi:a<i) (hj:j<n) (ha:a<n) (h0:a≤j) {n0:Nat} {Q:Exit→St→Prop} {d1:D1 ic102l1} {d2:D1 Q} {w0 w10 w9:AV}
  (hend:∀ (i':Nat) (w:AV),i≤i'→(i'=i∨i'≤j+1)→Q (.exit 2) ⟨[.sl l pre.length n 2,.i a,.i b,.i p,cmp,.i 0,.i ((i':Nat):Int),.i ((j:Nat):Int),w,w9,w10],hpS τ l pre post ys⟩) :
  ILk Tryz.prog { vars:=vs102,N:=90,r:=none,n0:=n0 } ic102l1 ⟨[.sl l pre.length n 2,.i a,.i b,.i p,cmp,.i 0,.i ((i:Nat):Int),.i ((j:Nat):Int),w0,w9,w10],hpS τ l pre post ys⟩ Q d1 d2:=by
 have h60:(2:Nat) ^ 60=1152921504606846976:=by decide
 have hu:=hc.un
 have hl:=hc.lt
 refine ZW (j+1-i) (fun u s=>∃ w,u≤j+1-i∧s=⟨[.sl l pre.length n 2,.i a,.i b,.i p,cmp,.i 0,.i ((i+u:Nat):Int),.i ((j:Nat):Int),w,w9,w10],hpS τ l pre post ys⟩) ?_ 0 (QF _) ⟨w0,QF _,rfl⟩
 rintro u s hu1 ⟨w,hu2,rfl⟩
 by_cases h:(((i+u:Nat):Int)≤((j:Nat):Int))
 rotate_left
 ·simp only[ic102l1,evA,simprocAttr]
  refine DW_s [13] [] hmix (by kernel_rfl) rfl ?_
  simp only[h,evA,simprocAttr]
  exact hend _ _ (by omega) (by omega)
 have hws:IntKind.i64.wrap (((i+u:Nat):Int)+1)=((i+(u+1):Nat):Int):=by rw[ZC (by omega)];omega
 have iA:=fun σ=>sd_ia (l:=l) (o:=pre.length) (show (a)<n by omega) σ
 have lA:=hp_ld (pre:=pre) (post:=post) (xs:=ys) hl (k:=a) (by omega)
 have iC:=fun σ=>sd_ia (l:=l) (o:=pre.length) (show (i+u)<n by omega) σ
 have lC:=hp_ld (pre:=pre) (post:=post) (xs:=ys) hl (k:=i+u) (by omega)
 simp only[ic102l1,evA,simprocAttr]
 refine DW_s [13] [] hmix (by kernel_rfl) rfl ?_
 simp only[h,hu,iA,iC,lA,lC,evA,simprocAttr]
 refine YE (hc.hp ys ys[a]! ys[i+u]!) rfl ?_
 generalize cf ys[a]! ys[i+u]! = e
 by_cases hcn:e<0
 ·simp only[hcn,hws,evA,simprocAttr]
  exact hend _ _ (by omega) (by omega)
 ·simp only[hcn,hws,evA,simprocAttr]
  exact ZL (by first | trivial | omega) ⟨_,by omega,rfl⟩
set_option maxRecDepth 4000 in
theorem dn102 (hc:CmpOk Tryz.prog cmp cf l τ) {ys:List Sk} (hn:ys.length=n) (hn62:n<2 ^ 60) {a b p i j:Nat} (hi:a<i) (hj:j<n) (ha:a<n) (h0:a≤j) {n0:Nat} {Q:Exit→St→Prop} {d1:D1 ic102l0} {d2:D1 Q} {w0 w10 w8:AV}
  (hend:∀ (j':Nat) (w:AV),j'≤j→(j'=j∨i≤j'+1)→Q (.exit 4) ⟨[.sl l pre.length n 2,.i a,.i b,.i p,cmp,.i 0,.i ((i:Nat):Int),.i ((j':Nat):Int),w8,w,w10],hpS τ l pre post ys⟩) :
  ILk Tryz.prog { vars:=vs102,N:=90,r:=none,n0:=n0 } ic102l0 ⟨[.sl l pre.length n 2,.i a,.i b,.i p,cmp,.i 0,.i ((i:Nat):Int),.i ((j:Nat):Int),w8,w0,w10],hpS τ l pre post ys⟩ Q d1 d2:=by
 have h60:(2:Nat) ^ 60=1152921504606846976:=by decide
 have hu:=hc.un
 have hl:=hc.lt
 refine ZW (j+1-i) (fun u s=>∃ w,u≤j+1-i∧s=⟨[.sl l pre.length n 2,.i a,.i b,.i p,cmp,.i 0,.i ((i:Nat):Int),.i ((j-u:Nat):Int),w8,w,w10],hpS τ l pre post ys⟩) ?_ 0 (QF _) ⟨w0,QF _,rfl⟩
 rintro u s hu1 ⟨w,hu2,rfl⟩
 by_cases h:(((i:Nat):Int)≤((j-u:Nat):Int))
 rotate_left
 ·simp only[ic102l0,evA,simprocAttr]
  refine DW_s [13] [] hmix (by kernel_rfl) rfl ?_
  simp only[h,evA,simprocAttr]
  exact hend _ _ (by omega) (by omega)
 have hws:IntKind.i64.wrap (((j-u:Nat):Int)-1)=((j-(u+1):Nat):Int):=by rw[ZC (by omega)];omega
 have iA:=fun σ=>sd_ia (l:=l) (o:=pre.length) (show (a)<n by omega) σ
 have lA:=hp_ld (pre:=pre) (post:=post) (xs:=ys) hl (k:=a) (by omega)
 have iC:=fun σ=>sd_ia (l:=l) (o:=pre.length) (show (j-u)<n by omega) σ
 have lC:=hp_ld (pre:=pre) (post:=post) (xs:=ys) hl (k:=j-u) (by omega)
 simp only[ic102l0,evA,simprocAttr]
 refine DW_s [13] [] hmix (by kernel_rfl) rfl ?_
 simp only[h,hu,iA,iC,lA,lC,evA,simprocAttr]
 refine YE (hc.hp ys ys[a]! ys[j-u]!) rfl ?_
 generalize cf ys[a]! ys[j-u]! = e
 by_cases hcn:e<0
 ·simp only[hcn,hws,evA,simprocAttr]
  exact ZL (by first | trivial | omega) ⟨_,by omega,rfl⟩
 ·simp only[hcn,hws,evA,simprocAttr]
  exact hend _ _ (by omega) (by omega)
set_option maxRecDepth 4000 in
theorem up103a (hc:CmpOk Tryz.prog cmp cf l τ) {ys:List Sk} (hn:ys.length=n) (hn62:n<2 ^ 60) {a b p i j:Nat} (hi:a<i) (hj:j<n) (ha:a<n) (h0:a≤j) {n0:Nat} {Q:Exit→St→Prop} {d1:D1 ic103l4} {d2:D1 Q} {w0 w10 w11 w12 w13 w14:AV}
  (hend:∀ (i':Nat) (w:AV),i≤i'→(i'=i∨i'≤j+1)→Q (.exit 0) ⟨[.sl l pre.length n 2,.i a,.i b,.i p,cmp,.i 0,.b false,.i ((i':Nat):Int),.i ((j:Nat):Int),w,w10,w11,w12,w13,w14],hpS τ l pre post ys⟩) :
  ILk Tryz.prog { vars:=vs103,N:=178,r:=none,n0:=n0 } ic103l4 ⟨[.sl l pre.length n 2,.i a,.i b,.i p,cmp,.i 0,.b false,.i ((i:Nat):Int),.i ((j:Nat):Int),w0,w10,w11,w12,w13,w14],hpS τ l pre post ys⟩ Q d1 d2:=by
 have h60:(2:Nat) ^ 60=1152921504606846976:=by decide
 have hu:=hc.un
 have hl:=hc.lt
 refine ZW (j+1-i) (fun u s=>∃ w,u≤j+1-i∧s=⟨[.sl l pre.length n 2,.i a,.i b,.i p,cmp,.i 0,.b false,.i ((i+u:Nat):Int),.i ((j:Nat):Int),w,w10,w11,w12,w13,w14],hpS τ l pre post ys⟩) ?_ 0 (QF _) ⟨w0,QF _,rfl⟩
 rintro u s hu1 ⟨w,hu2,rfl⟩
 by_cases h:(((i+u:Nat):Int)≤((j:Nat):Int))
 rotate_left
 ·simp only[ic103l4,evA,simprocAttr]
  refine DW_s [13] [] hmix (by kernel_rfl) rfl ?_
  simp only[h,evA,simprocAttr]
  exact hend _ _ (by omega) (by omega)
 have hws:IntKind.i64.wrap (((i+u:Nat):Int)+1)=((i+(u+1):Nat):Int):=by rw[ZC (by omega)];omega
 have iA:=fun σ=>sd_ia (l:=l) (o:=pre.length) (show (a)<n by omega) σ
 have lA:=hp_ld (pre:=pre) (post:=post) (xs:=ys) hl (k:=a) (by omega)
 have iC:=fun σ=>sd_ia (l:=l) (o:=pre.length) (show (i+u)<n by omega) σ
 have lC:=hp_ld (pre:=pre) (post:=post) (xs:=ys) hl (k:=i+u) (by omega)
 simp only[ic103l4,evA,simprocAttr]
 refine DW_s [13] [] hmix (by kernel_rfl) rfl ?_
 simp only[h,hu,iA,iC,lA,lC,evA,simprocAttr]
 refine YE (hc.hp ys ys[i+u]! ys[a]!) rfl ?_
 generalize cf ys[i+u]! ys[a]! = e
 by_cases hcn:e<0
 ·simp only[hcn,hws,evA,simprocAttr]
  exact ZL (by first | trivial | omega) ⟨_,by omega,rfl⟩
 ·simp only[hcn,hws,evA,simprocAttr]
  exact hend _ _ (by omega) (by omega)
set_option maxRecDepth 4000 in
theorem dn103a (hc:CmpOk Tryz.prog cmp cf l τ) {ys:List Sk} (hn:ys.length=n) (hn62:n<2 ^ 60) {a b p i j:Nat} (hi:a<i) (hj:j<n) (ha:a<n) (h0:a≤j) {n0:Nat} {Q:Exit→St→Prop} {d1:D1 ic103l3} {d2:D1 Q} {w0 w11 w12 w13 w14 w9:AV}
  (hend:∀ (j':Nat) (w:AV),j'≤j→(j'=j∨i≤j'+1)→Q (.exit 2) ⟨[.sl l pre.length n 2,.i a,.i b,.i p,cmp,.i 0,.b false,.i ((i:Nat):Int),.i ((j':Nat):Int),w9,w,w11,w12,w13,w14],hpS τ l pre post ys⟩) :
  ILk Tryz.prog { vars:=vs103,N:=178,r:=none,n0:=n0 } ic103l3 ⟨[.sl l pre.length n 2,.i a,.i b,.i p,cmp,.i 0,.b false,.i ((i:Nat):Int),.i ((j:Nat):Int),w9,w0,w11,w12,w13,w14],hpS τ l pre post ys⟩ Q d1 d2:=by
 have h60:(2:Nat) ^ 60=1152921504606846976:=by decide
 have hu:=hc.un
 have hl:=hc.lt
 refine ZW (j+1-i) (fun u s=>∃ w,u≤j+1-i∧s=⟨[.sl l pre.length n 2,.i a,.i b,.i p,cmp,.i 0,.b false,.i ((i:Nat):Int),.i ((j-u:Nat):Int),w9,w,w11,w12,w13,w14],hpS τ l pre post ys⟩) ?_ 0 (QF _) ⟨w0,QF _,rfl⟩
 rintro u s hu1 ⟨w,hu2,rfl⟩
 by_cases h:(((i:Nat):Int)≤((j-u:Nat):Int))
 rotate_left
 ·simp only[ic103l3,evA,simprocAttr]
  refine DW_s [13] [] hmix (by kernel_rfl) rfl ?_
  simp only[h,evA,simprocAttr]
  exact hend _ _ (by omega) (by omega)
 have hws:IntKind.i64.wrap (((j-u:Nat):Int)-1)=((j-(u+1):Nat):Int):=by rw[ZC (by omega)];omega
 have iA:=fun σ=>sd_ia (l:=l) (o:=pre.length) (show (a)<n by omega) σ
 have lA:=hp_ld (pre:=pre) (post:=post) (xs:=ys) hl (k:=a) (by omega)
 have iC:=fun σ=>sd_ia (l:=l) (o:=pre.length) (show (j-u)<n by omega) σ
 have lC:=hp_ld (pre:=pre) (post:=post) (xs:=ys) hl (k:=j-u) (by omega)
 simp only[ic103l3,evA,simprocAttr]
 refine DW_s [13] [] hmix (by kernel_rfl) rfl ?_
 simp only[h,hu,iA,iC,lA,lC,evA,simprocAttr]
 refine YE (hc.hp ys ys[j-u]! ys[a]!) rfl ?_
 generalize cf ys[j-u]! ys[a]! = e
 by_cases hcn:e<0
 ·simp only[hcn,hws,evA,simprocAttr]
  exact hend _ _ (by omega) (by omega)
 ·simp only[hcn,hws,evA,simprocAttr]
  exact ZL (by first | trivial | omega) ⟨_,by omega,rfl⟩
set_option maxRecDepth 4000 in
theorem up103b (hc:CmpOk Tryz.prog cmp cf l τ) {ys:List Sk} (hn:ys.length=n) (hn62:n<2 ^ 60) {a b p i j:Nat} (hi:a<i) (hj:j<n) (ha:a<n) (h0:a≤j) {n0:Nat} {Q:Exit→St→Prop} {d1:D1 ic103l1} {d2:D1 Q} {w0 w10 w11 w13 w14 w9:AV}
  (hend:∀ (i':Nat) (w:AV),i≤i'→(i'=i∨i'≤j+1)→Q (.exit 6) ⟨[.sl l pre.length n 2,.i a,.i b,.i p,cmp,.i 0,.b false,.i ((i':Nat):Int),.i ((j:Nat):Int),w9,w10,w11,w,w13,w14],hpS τ l pre post ys⟩) :
  ILk Tryz.prog { vars:=vs103,N:=178,r:=none,n0:=n0 } ic103l1 ⟨[.sl l pre.length n 2,.i a,.i b,.i p,cmp,.i 0,.b false,.i ((i:Nat):Int),.i ((j:Nat):Int),w9,w10,w11,w0,w13,w14],hpS τ l pre post ys⟩ Q d1 d2:=by
 have h60:(2:Nat) ^ 60=1152921504606846976:=by decide
 have hu:=hc.un
 have hl:=hc.lt
 refine ZW (j+1-i) (fun u s=>∃ w,u≤j+1-i∧s=⟨[.sl l pre.length n 2,.i a,.i b,.i p,cmp,.i 0,.b false,.i ((i+u:Nat):Int),.i ((j:Nat):Int),w9,w10,w11,w,w13,w14],hpS τ l pre post ys⟩) ?_ 0 (QF _) ⟨w0,QF _,rfl⟩
 rintro u s hu1 ⟨w,hu2,rfl⟩
 by_cases h:(((i+u:Nat):Int)≤((j:Nat):Int))
 rotate_left
 ·simp only[ic103l1,evA,simprocAttr]
  refine DW_s [13] [] hmix (by kernel_rfl) rfl ?_
  simp only[h,evA,simprocAttr]
  exact hend _ _ (by omega) (by omega)
 have hws:IntKind.i64.wrap (((i+u:Nat):Int)+1)=((i+(u+1):Nat):Int):=by rw[ZC (by omega)];omega
 have iA:=fun σ=>sd_ia (l:=l) (o:=pre.length) (show (a)<n by omega) σ
 have lA:=hp_ld (pre:=pre) (post:=post) (xs:=ys) hl (k:=a) (by omega)
 have iC:=fun σ=>sd_ia (l:=l) (o:=pre.length) (show (i+u)<n by omega) σ
 have lC:=hp_ld (pre:=pre) (post:=post) (xs:=ys) hl (k:=i+u) (by omega)
 simp only[ic103l1,evA,simprocAttr]
 refine DW_s [13] [] hmix (by kernel_rfl) rfl ?_
 simp only[h,hu,iA,iC,lA,lC,evA,simprocAttr]
 refine YE (hc.hp ys ys[i+u]! ys[a]!) rfl ?_
 generalize cf ys[i+u]! ys[a]! = e
 by_cases hcn:e<0
 ·simp only[hcn,hws,evA,simprocAttr]
  exact ZL (by first | trivial | omega) ⟨_,by omega,rfl⟩
 ·simp only[hcn,hws,evA,simprocAttr]
  exact hend _ _ (by omega) (by omega)
set_option maxRecDepth 4000 in
theorem dn103b (hc:CmpOk Tryz.prog cmp cf l τ) {ys:List Sk} (hn:ys.length=n) (hn62:n<2 ^ 60) {a b p i j:Nat} (hi:a<i) (hj:j<n) (ha:a<n) (h0:a≤j) {n0:Nat} {Q:Exit→St→Prop} {d1:D1 ic103l0} {d2:D1 Q} {w0 w10 w11 w12 w14 w9:AV}
  (hend:∀ (j':Nat) (w:AV),j'≤j→(j'=j∨i≤j'+1)→Q (.exit 8) ⟨[.sl l pre.length n 2,.i a,.i b,.i p,cmp,.i 0,.b false,.i ((i:Nat):Int),.i ((j':Nat):Int),w9,w10,w11,w12,w,w14],hpS τ l pre post ys⟩) :
  ILk Tryz.prog { vars:=vs103,N:=178,r:=none,n0:=n0 } ic103l0 ⟨[.sl l pre.length n 2,.i a,.i b,.i p,cmp,.i 0,.b false,.i ((i:Nat):Int),.i ((j:Nat):Int),w9,w10,w11,w12,w0,w14],hpS τ l pre post ys⟩ Q d1 d2:=by
 have h60:(2:Nat) ^ 60=1152921504606846976:=by decide
 have hu:=hc.un
 have hl:=hc.lt
 refine ZW (j+1-i) (fun u s=>∃ w,u≤j+1-i∧s=⟨[.sl l pre.length n 2,.i a,.i b,.i p,cmp,.i 0,.b false,.i ((i:Nat):Int),.i ((j-u:Nat):Int),w9,w10,w11,w12,w,w14],hpS τ l pre post ys⟩) ?_ 0 (QF _) ⟨w0,QF _,rfl⟩
 rintro u s hu1 ⟨w,hu2,rfl⟩
 by_cases h:(((i:Nat):Int)≤((j-u:Nat):Int))
 rotate_left
 ·simp only[ic103l0,evA,simprocAttr]
  refine DW_s [13] [] hmix (by kernel_rfl) rfl ?_
  simp only[h,evA,simprocAttr]
  exact hend _ _ (by omega) (by omega)
 have hws:IntKind.i64.wrap (((j-u:Nat):Int)-1)=((j-(u+1):Nat):Int):=by rw[ZC (by omega)];omega
 have iA:=fun σ=>sd_ia (l:=l) (o:=pre.length) (show (a)<n by omega) σ
 have lA:=hp_ld (pre:=pre) (post:=post) (xs:=ys) hl (k:=a) (by omega)
 have iC:=fun σ=>sd_ia (l:=l) (o:=pre.length) (show (j-u)<n by omega) σ
 have lC:=hp_ld (pre:=pre) (post:=post) (xs:=ys) hl (k:=j-u) (by omega)
 simp only[ic103l0,evA,simprocAttr]
 refine DW_s [13] [] hmix (by kernel_rfl) rfl ?_
 simp only[h,hu,iA,iC,lA,lC,evA,simprocAttr]
 refine YE (hc.hp ys ys[j-u]! ys[a]!) rfl ?_
 generalize cf ys[j-u]! ys[a]! = e
 by_cases hcn:e<0
 ·simp only[hcn,hws,evA,simprocAttr]
  exact hend _ _ (by omega) (by omega)
 ·simp only[hcn,hws,evA,simprocAttr]
  exact ZL (by first | trivial | omega) ⟨_,by omega,rfl⟩
set_option maxRecDepth 4000 in
theorem c102 (hc:CmpOk Tryz.prog cmp cf l τ) (hn:xs.length=n) (hn62:n<2 ^ 60) {a b p:Nat} (hab:a<b) (hb:b≤n) (hp1:a≤p) (hp2:p<b) :
  AC Tryz.prog 102 [.sl l pre.length n 2,.i a,.i b,.i p,cmp] (hpS τ l pre post xs) fun r τ'=>∃ m:Nat,r=.i m∧(a<m∧m≤b)∧∃ ys:List Sk,ys.Perm xs∧τ'=hpS τ l pre post ys:=by
 refine ZF (fok102 true) (QC rfl) ?_
 have h60:(2:Nat) ^ 60=1152921504606846976:=by decide
 have hu:=hc.un
 have hl:=hc.lt
 have hw1:IntKind.i64.wrap ((a:Int)+1)=((a+1:Nat):Int):=Q6 (by omega)
 have hw2:IntKind.i64.wrap ((b:Int)-1)=((b-1:Nat):Int):=by rw[ZC (by omega)];omega
 have iA:=fun σ=>sd_ia (l:=l) (o:=pre.length) (show (a)<n by omega) σ
 have lA:=hp_ld (pre:=pre) (post:=post) (xs:=xs) hl (k:=a) (by omega)
 have iP:=fun σ=>sd_ia (l:=l) (o:=pre.length) (show (p)<n by omega) σ
 have lP:=hp_ld (pre:=pre) (post:=post) (xs:=xs) hl (k:=p) (by omega)
 have s1:=hp_st (pre:=pre) (post:=post) (xs:=xs) hl (k:=a) (by omega) xs[p]!
 have s2:=hp_st (pre:=pre) (post:=post) (xs:=xs.set (a) xs[p]!) hl (k:=p) (by rw[WE];omega) xs[a]!
 have hsp:(xs.set (a) xs[p]! |>.set (p) xs[a]!).Perm xs:=swap_perm (by omega) (by omega)
 simp only[ic102,hu,evA,simprocAttr]
 refine DW_s [] [] hmix (by kernel_rfl) rfl ?_
 simp only[iA,iP,lA,lP,s1,s2,hw1,hw2,evA,simprocAttr]
 have hl0:=hsp
 generalize (xs.set a xs[p]!).set p xs[a]! = zs at hl0 ⊢
 clear s1 s2 hsp lA lP iP iA
 refine ZW (b-a) (fun t s=>∃ ys v8 v9 v10,∃ i j:Nat,ys.Perm xs∧(a+1+t≤i∧i≤j+2∧a≤j∧j+1≤b∧i≤b)∧s=⟨[.sl l pre.length n 2,.i a,.i b,.i p,cmp,.i 0,.i (i:Nat),.i (j:Nat),v8,v9,v10],hpS τ l pre post ys⟩) ?_ 0 (QF _) ⟨zs,_,_,_,a+1,b-1,hl0,by omega,rfl⟩
 clear hl0 zs
 rintro t s ht ⟨ys,v8,v9,v10,i,j,hp,hiv,rfl⟩
 have hyl:ys.length=n:=by rw[hp.length_eq,hn]
 simp only[ic102l2,evA,simprocAttr]
 refine up102 hc hyl hn62 (by omega) (by omega) (by omega) (by omega) fun i' w8 h1 h2=>?_
 simp only[evA,simprocAttr]
 refine dn102 hc hyl hn62 (by omega) (by omega) (by omega) (by omega) fun j' w9 h3 h4=>?_
 by_cases h:((i':Nat):Int)>((j':Nat):Int)
 ·simp only[h,evA,simprocAttr]
  exact ⟨i',rfl,by omega,ys,hp,rfl⟩
 have hwi:IntKind.i64.wrap (((i':Nat):Int)+1)=((i'+1:Nat):Int):=Q6 (by omega)
 have hwj:IntKind.i64.wrap (((j':Nat):Int)-1)=((j'-1:Nat):Int):=by rw[ZC (by omega)];omega
 have iI:=fun σ=>sd_ia (l:=l) (o:=pre.length) (show (i')<n by omega) σ
 have lI:=hp_ld (pre:=pre) (post:=post) (xs:=ys) hl (k:=i') (by omega)
 have iJ:=fun σ=>sd_ia (l:=l) (o:=pre.length) (show (j')<n by omega) σ
 have lJ:=hp_ld (pre:=pre) (post:=post) (xs:=ys) hl (k:=j') (by omega)
 have s1:=hp_st (pre:=pre) (post:=post) (xs:=ys) hl (k:=i') (by omega) ys[j']!
 have s2:=hp_st (pre:=pre) (post:=post) (xs:=ys.set (i') ys[j']!) hl (k:=j') (by rw[WE];omega) ys[i']!
 have hsp:(ys.set (i') ys[j']! |>.set (j') ys[i']!).Perm ys:=swap_perm (by omega) (by omega)
 simp only[h,evA,simprocAttr]
 refine DW_s [] [] hmix (by kernel_rfl) rfl ?_
 simp only[iI,iJ,lI,lJ,s1,s2,hwi,hwj,evA,simprocAttr]
 exact ZL (by first | trivial | omega) ⟨_,_,_,_,i'+1,j'-1,hsp.trans hp,by omega,rfl⟩
set_option maxRecDepth 4000 in
theorem c103 (hc:CmpOk Tryz.prog cmp cf l τ) (hn:xs.length=n) (hn62:n<2 ^ 60) {a b p:Nat} (hab:a<b) (hb:b≤n) (hp1:a≤p) (hp2:p<b) :
  AC Tryz.prog 103 [.sl l pre.length n 2,.i a,.i b,.i p,cmp] (hpS τ l pre post xs) fun r τ'=>∃ (m:Nat) (q:Bool),r=.tup [.i m,.b q]∧(a≤m∧m<b)∧∃ ys:List Sk,ys.Perm xs∧τ'=hpS τ l pre post ys:=by
 refine ZF (fok103 true) (QC rfl) ?_
 have h60:(2:Nat) ^ 60=1152921504606846976:=by decide
 have hu:=hc.un
 have hl:=hc.lt
 have hw1:IntKind.i64.wrap ((a:Int)+1)=((a+1:Nat):Int):=Q6 (by omega)
 have hw2:IntKind.i64.wrap ((b:Int)-1)=((b-1:Nat):Int):=by rw[ZC (by omega)];omega
 have iA:=fun σ=>sd_ia (l:=l) (o:=pre.length) (show (a)<n by omega) σ
 have lA:=hp_ld (pre:=pre) (post:=post) (xs:=xs) hl (k:=a) (by omega)
 have iP:=fun σ=>sd_ia (l:=l) (o:=pre.length) (show (p)<n by omega) σ
 have lP:=hp_ld (pre:=pre) (post:=post) (xs:=xs) hl (k:=p) (by omega)
 have s1:=hp_st (pre:=pre) (post:=post) (xs:=xs) hl (k:=a) (by omega) xs[p]!
 have s2:=hp_st (pre:=pre) (post:=post) (xs:=xs.set (a) xs[p]!) hl (k:=p) (by rw[WE];omega) xs[a]!
 have hsp:(xs.set (a) xs[p]! |>.set (p) xs[a]!).Perm xs:=swap_perm (by omega) (by omega)
 simp only[ic103,hu,evA,simprocAttr]
 refine DW_s [] [] hmix (by kernel_rfl) rfl ?_
 simp only[iA,iP,lA,lP,s1,s2,hw1,hw2,evA,simprocAttr]
 have hp:=hsp
 have hyl:((xs.set a xs[p]!).set p xs[a]!).length=n:=by rw[hp.length_eq,hn]
 generalize (xs.set a xs[p]!).set p xs[a]! = ys at hp hyl ⊢
 clear s1 s2 hsp lA lP iP iA
 refine up103a (i:=a+1) (j:=b-1) hc hyl hn62 (by omega) (by omega) (by omega) (by omega) fun i' w9 h1 h2=>?_
 simp only[evA,simprocAttr]
 refine dn103a (i:=i') (j:=b-1) hc hyl hn62 (by omega) (by omega) (by omega) (by omega) fun j' w10 h3 h4=>?_
 have iJ:=fun σ=>sd_ia (l:=l) (o:=pre.length) (show (j')<n by omega) σ
 have lJ:=hp_ld (pre:=pre) (post:=post) (xs:=ys) hl (k:=j') (by omega)
 have iA:=fun σ=>sd_ia (l:=l) (o:=pre.length) (show (a)<n by omega) σ
 have lA:=hp_ld (pre:=pre) (post:=post) (xs:=ys) hl (k:=a) (by omega)
 by_cases h:((i':Nat):Int)>((j':Nat):Int)
 ·have s1:=hp_st (pre:=pre) (post:=post) (xs:=ys) hl (k:=j') (by omega) ys[a]!
  have s2:=hp_st (pre:=pre) (post:=post) (xs:=ys.set (j') ys[a]!) hl (k:=a) (by rw[WE];omega) ys[j']!
  have hsp:(ys.set (j') ys[a]! |>.set (a) ys[j']!).Perm ys:=swap_perm (by omega) (by omega)
  simp only[h,evA,simprocAttr]
  refine DW_s [] [] hmix (by kernel_rfl) rfl ?_
  simp only[iA,iJ,lA,lJ,s1,s2,evA,simprocAttr]
  exact ⟨j',true,rfl,by omega,_,hsp.trans hp,rfl⟩
 have hwi:IntKind.i64.wrap (((i':Nat):Int)+1)=((i'+1:Nat):Int):=Q6 (by omega)
 have hwj:IntKind.i64.wrap (((j':Nat):Int)-1)=((j'-1:Nat):Int):=by rw[ZC (by omega)];omega
 have iI:=fun σ=>sd_ia (l:=l) (o:=pre.length) (show (i')<n by omega) σ
 have lI:=hp_ld (pre:=pre) (post:=post) (xs:=ys) hl (k:=i') (by omega)
 have s1:=hp_st (pre:=pre) (post:=post) (xs:=ys) hl (k:=i') (by omega) ys[j']!
 have s2:=hp_st (pre:=pre) (post:=post) (xs:=ys.set (i') ys[j']!) hl (k:=j') (by rw[WE];omega) ys[i']!
 have hsp:(ys.set (i') ys[j']! |>.set (j') ys[i']!).Perm ys:=swap_perm (by omega) (by omega)
 simp only[h,evA,simprocAttr]
 refine DW_s [] [] hmix (by kernel_rfl) rfl ?_
 simp only[iI,iJ,lI,lJ,s1,s2,hwi,hwj,evA,simprocAttr]
 have hl0:=hsp.trans hp
 generalize (ys.set i' ys[j']!).set j' ys[i']! = zs at hl0 ⊢
 clear s1 s2 hsp lI lJ lA iI iJ iA hyl hp
 refine ZW (b-a) (fun t s=>∃ ys v9 v10 v11 v12 v13 v14,∃ i j:Nat,ys.Perm xs∧(a+1+t≤i∧i≤j+2∧a≤j∧j+1≤b∧i≤b)∧s=⟨[.sl l pre.length n 2,.i a,.i b,.i p,cmp,.i 0,.b false,.i (i:Nat),.i (j:Nat),v9,v10,v11,v12,v13,v14],hpS τ l pre post ys⟩) ?_ 0 (QF _) ⟨zs,_,_,_,_,_,_,i'+1,j'-1,hl0,by omega,rfl⟩
 clear hl0 zs h1 h2 h3 h4 h hwi hwj
 rintro t s ht ⟨ys,v9,v10,v11,v12,v13,v14,i,j,hp,hiv,rfl⟩
 have hyl:ys.length=n:=by rw[hp.length_eq,hn]
 simp only[ic103l2,evA,simprocAttr]
 refine up103b hc hyl hn62 (by omega) (by omega) (by omega) (by omega) fun i' w12 h1 h2=>?_
 simp only[evA,simprocAttr]
 refine dn103b hc hyl hn62 (by omega) (by omega) (by omega) (by omega) fun j' w13 h3 h4=>?_
 have iJ:=fun σ=>sd_ia (l:=l) (o:=pre.length) (show (j')<n by omega) σ
 have lJ:=hp_ld (pre:=pre) (post:=post) (xs:=ys) hl (k:=j') (by omega)
 have iA:=fun σ=>sd_ia (l:=l) (o:=pre.length) (show (a)<n by omega) σ
 have lA:=hp_ld (pre:=pre) (post:=post) (xs:=ys) hl (k:=a) (by omega)
 by_cases h:((i':Nat):Int)>((j':Nat):Int)
 ·have s1:=hp_st (pre:=pre) (post:=post) (xs:=ys) hl (k:=j') (by omega) ys[a]!
  have s2:=hp_st (pre:=pre) (post:=post) (xs:=ys.set (j') ys[a]!) hl (k:=a) (by rw[WE];omega) ys[j']!
  have hsp:(ys.set (j') ys[a]! |>.set (a) ys[j']!).Perm ys:=swap_perm (by omega) (by omega)
  simp only[h,evA,simprocAttr]
  refine DW_s [] [] hmix (by kernel_rfl) rfl ?_
  simp only[iA,iJ,lA,lJ,s1,s2,evA,simprocAttr]
  exact ⟨j',false,rfl,by omega,_,hsp.trans hp,rfl⟩
 have hwi:IntKind.i64.wrap (((i':Nat):Int)+1)=((i'+1:Nat):Int):=Q6 (by omega)
 have hwj:IntKind.i64.wrap (((j':Nat):Int)-1)=((j'-1:Nat):Int):=by rw[ZC (by omega)];omega
 have iI:=fun σ=>sd_ia (l:=l) (o:=pre.length) (show (i')<n by omega) σ
 have lI:=hp_ld (pre:=pre) (post:=post) (xs:=ys) hl (k:=i') (by omega)
 have s1:=hp_st (pre:=pre) (post:=post) (xs:=ys) hl (k:=i') (by omega) ys[j']!
 have s2:=hp_st (pre:=pre) (post:=post) (xs:=ys.set (i') ys[j']!) hl (k:=j') (by rw[WE];omega) ys[i']!
 have hsp:(ys.set (i') ys[j']! |>.set (j') ys[i']!).Perm ys:=swap_perm (by omega) (by omega)
 simp only[h,evA,simprocAttr]
 refine DW_s [] [] hmix (by kernel_rfl) rfl ?_
 simp only[iI,iJ,lI,lJ,s1,s2,hwi,hwj,evA,simprocAttr]
 exact ZL (by first | trivial | omega) ⟨_,_,_,_,_,_,_,i'+1,j'-1,hsp.trans hp,by omega,rfl⟩
end
theorem AC.cutG {P:Program} {f:FuncId} {args:List AV} {σ:List AObj} {Q:AV→List AObj→Prop}
  (h:AC P f args σ fun r τ=>∃ σ2 J,τ=σ2++J∧σ2.length=σ.length∧QR 0 r=true∧(∀ (l:Nat) (o:AObj),σ2[l]? = some o→σ[l]? = some o∨Z3 σ.length o=true)∧Q r σ2):AC P f args σ Q:=by
 refine h.tidy ?_
 rintro r τ ⟨σ2,junk,rfl,hl,hv,ho,hQ⟩
 have hv':=Y8 (QF σ.length) r hv
 refine ⟨id,r,σ2,⟨fun _ _=>rfl,fun _ _ h _=>h,by omega,(PU (g:=id) (k:=σ.length) (fun _ _=>rfl) r hv').symm,by rw[hl];exact hv',fun l o hlo=>?_⟩,hQ⟩
 have hlt:l<σ2.length:=(QH.1 hlo).1
 have hin:(σ2++junk)[l]? = some o:=by rw[QE hlt];exact hlo
 rcases ho l o hlo with h1 | h1
 ·exact .inl ⟨by omega,h1,hin⟩
 ·refine .inr ⟨by rw[hl];exact h1,?_⟩
  rw[E1 (g:=id) (k:=σ.length) (fun _ _=>rfl) h1];exact hin
section
variable {cmp:AV} {cf:Sk→Sk→Int} {l n:Nat} {τ:List AObj} {pre post:List AV} {xs:List Sk}
theorem hpS_obj (hp:QO 0 pre=true) (hq:QO 0 post=true) (ys:List Sk):∀ (k:Nat) (o:AObj),(hpS τ l pre post ys)[k]? = some o→(hpS τ l pre post xs)[k]? = some o∨Z3 (hpS τ l pre post xs).length o=true:=by
 intro k o h
 unfold hpS at h ⊢
 by_cases e:l=k
 ·subst e
  rw[ZO] at h
  split at h
  ·split at h
   ·cases h
    refine .inr ?_
    simp only[Z3]
    have hx:QO 0 (skX ys)=true:=by
     rw[Z8];intro v hv;obtain ⟨z,_,rfl⟩:=ZP.1 hv;rfl
    exact YL (QF _) (VN hp (VN hx hq))
   ·cases h
  ·rename_i hne;exact absurd rfl hne
 ·rw[QU e] at h ⊢
  exact .inl h
abbrev hpB (τ:List AObj) (l:Nat) (pre post:List AV) (xs:List Sk) (z:Int):List AObj:=hpS (τ++[.cells [.i z]]) l pre post xs
theorem hpB_row (hl:l<τ.length) (z:Int):rowOf (hpB τ l pre post xs z) τ.length=some [.i z]:=by
 unfold hpB;rw[← hpS_push hl]
 have:=XH (hpS τ l pre post xs) [.i z]
 rwa [hpS_len] at this
theorem hpB_set (hl:l<τ.length) (z z':Int):(hpB τ l pre post xs z).set τ.length (.cells [.i z'])=hpB τ l pre post xs z':=by
 unfold hpB;rw[← hpS_push hl,← hpS_push hl,List.set_append_right _ _ (by rw[hpS_len];exact QG _),hpS_len,Nat.sub_self];rfl
set_option maxRecDepth 4000 in
theorem c116 (hc:CmpOk Tryz.prog cmp cf l τ) (hn:xs.length=n) (hn62:n<2 ^ 60) {a b:Nat} (ha:a<n) (hb:b<n) (z:Int) :
  AC Tryz.prog 116 [.sl l pre.length n 2,.i a,.i b,.ptr τ.length 0,cmp] (hpB τ l pre post xs z) fun r τ'=>∃ (x y:Nat) (z':Int),r=.tup [.i x,.i y]∧((x=a∧y=b)∨(x=b∧y=a))∧τ'=hpB τ l pre post xs z':=by
 refine ZF (fok116 true) (QC rfl) ?_
 have hu:=hc.un
 have hl:=hc.lt
 have hc2:=hc.push [.cells [.i z]]
 have iA:=fun σ=>sd_ia (l:=l) (o:=pre.length) ha σ
 have iB:=fun σ=>sd_ia (l:=l) (o:=pre.length) hb σ
 have lA:=hp_ld (τ:=τ++[.cells [.i z]]) (pre:=pre) (post:=post) (xs:=xs) hc2.lt (k:=a) (by omega)
 have lB:=hp_ld (τ:=τ++[.cells [.i z]]) (pre:=pre) (post:=post) (xs:=xs) hc2.lt (k:=b) (by omega)
 have hr:=hpB_row (pre:=pre) (post:=post) (xs:=xs) hl z
 simp only[ic116,hu,evA,simprocAttr]
 refine DW_s [9] [] hmix (by kernel_rfl) rfl ?_
 simp only[hu,iA,iB,lA,lB,evA,simprocAttr]
 refine YE (hc2.hp xs xs[b]! xs[a]!) rfl ?_
 generalize cf xs[b]! xs[a]! = e
 by_cases hcn:e<0
 ·have hs:=fun z'=>hpB_set (pre:=pre) (post:=post) (xs:=xs) hl z z'
  simp only[hcn,hr,hs,evA,simprocAttr]
  exact ⟨b,a,_,rfl,.inr ⟨rfl,rfl⟩,rfl⟩
 ·simp only[hcn,evA,simprocAttr]
  exact ⟨a,b,_,rfl,.inl ⟨rfl,rfl⟩,rfl⟩
set_option maxRecDepth 4000 in
theorem c114 (hc:CmpOk Tryz.prog cmp cf l τ) (hn:xs.length=n) (hn62:n<2 ^ 60) {a b c:Nat} (ha:a<n) (hb:b<n) (hc':c<n) (z:Int) :
  AC Tryz.prog 114 [.sl l pre.length n 2,.i a,.i b,.i c,.ptr τ.length 0,cmp] (hpB τ l pre post xs z) fun r τ'=>∃ (x:Nat) (z':Int),r=.i x∧(x=a∨x=b∨x=c)∧τ'=hpB τ l pre post xs z':=by
 refine ZF (fok114 true) (QC rfl) ?_
 have hu:=hc.un
 simp only[ic114,hu,evA,simprocAttr]
 refine (c116 hc hn hn62 ha hb z).mono ?_
 rintro r τ' ⟨a1,b1,z1,rfl,h1,rfl⟩
 simp only[hu,evA,simprocAttr]
 refine (c116 hc hn hn62 (a:=b1) (b:=c) (by omega) hc' z1).mono ?_
 rintro r τ' ⟨b2,c2,z2,rfl,h2,rfl⟩
 simp only[hu,evA,simprocAttr]
 refine (c116 hc hn hn62 (a:=a1) (b:=b2) (by omega) (by omega) z2).mono ?_
 rintro r τ' ⟨a3,b3,z3,rfl,h3,rfl⟩
 simp only[hu,evA,simprocAttr]
 exact ⟨b3,z3,rfl,by omega,rfl⟩
set_option maxRecDepth 4000 in
theorem c113 (hc:CmpOk Tryz.prog cmp cf l τ) (hn:xs.length=n) (hn62:n<2 ^ 60) {a:Nat} (ha:1≤a) (hb:a+1<n) (z:Int) :
  AC Tryz.prog 113 [.sl l pre.length n 2,.i a,.ptr τ.length 0,cmp] (hpB τ l pre post xs z) fun r τ'=>∃ (x:Nat) (z':Int),r=.i x∧(a≤x+1∧x≤a+1)∧τ'=hpB τ l pre post xs z':=by
 refine ZF (fok113 true) (QC rfl) ?_
 have h60:(2:Nat) ^ 60=1152921504606846976:=by decide
 have hu:=hc.un
 have hw1:IntKind.i64.wrap ((a:Int)+1)=((a+1:Nat):Int):=Q6 (by omega)
 have hw2:IntKind.i64.wrap ((a:Int)-1)=((a-1:Nat):Int):=by rw[ZC (by omega)];omega
 simp only[ic113,hu,hw1,hw2,evA,simprocAttr]
 refine (c114 hc hn hn62 (a:=a-1) (b:=a) (c:=a+1) (by omega) (by omega) hb z).mono ?_
 rintro r τ' ⟨x,z1,rfl,h1,rfl⟩
 simp only[hu,evA,simprocAttr]
 exact ⟨x,z1,rfl,by omega,rfl⟩
set_option maxHeartbeats 1000000 in
set_option maxRecDepth 4000 in
theorem c99 (hc:CmpOk Tryz.prog cmp cf l τ) (hpp:QO 0 pre=true) (hpq:QO 0 post=true) (hn:xs.length=n) (hn62:n<2 ^ 60) {a b:Nat} (hab:a<b) (hb:b≤n) :
  AC Tryz.prog 99 [.sl l pre.length n 2,.i a,.i b,cmp] (hpS τ l pre post xs) fun r τ'=>∃ (p h:Nat),r=.tup [.i p,.i h]∧(a≤p∧p<b)∧τ'=hpS τ l pre post xs:=by
 refine AC.cutG ?_
 refine ZF (fok99 true) (QC rfl) ?_
 have h60:(2:Nat) ^ 60=1152921504606846976:=by decide
 have hu:=hc.un
 have hl:=hc.lt
 obtain ⟨m,hm⟩:∃ m,m=b-a:=⟨_,rfl⟩
 obtain ⟨q,hq⟩:∃ q,q=m / 4:=⟨_,rfl⟩
 have hw1:IntKind.i64.wrap ((b:Int)-(a:Int))=(m:Int):=by rw[ZC (by omega)];omega
 have hd:(m:Int).tdiv 4=(q:Int):=by rw[hq];rfl
 have hwq:IntKind.i64.wrap (q:Int)=(q:Int):=ZC (by omega)
 have m1:IntKind.i64.wrap ((q:Int)*1)=(q:Int):=by rw[Int.mul_one];exact hwq
 have m2:IntKind.i64.wrap ((q:Int)*2)=((2*q:Nat):Int):=by rw[ZC (by omega)];omega
 have m3:IntKind.i64.wrap ((q:Int)*3)=((3*q:Nat):Int):=by rw[ZC (by omega)];omega
 have a1:IntKind.i64.wrap ((a:Int)+(q:Int))=((a+q:Nat):Int):=by rw[ZC (by omega)];omega
 have a2:IntKind.i64.wrap ((a:Int)+((2*q:Nat):Int))=((a+2*q:Nat):Int):=by rw[ZC (by omega)];omega
 have a3:IntKind.i64.wrap ((a:Int)+((3*q:Nat):Int))=((a+3*q:Nat):Int):=by rw[ZC (by omega)];omega
 have fin:∀ (p h:Nat) (J:List AObj),a≤p∧p<b→∃ σ2 J',hpS τ l pre post xs++J=σ2++J'∧σ2.length=τ.length∧QR 0 (.tup [.i p,.i h])=true∧(∀ (k:Nat) (o:AObj),σ2[k]? = some o→(hpS τ l pre post xs)[k]? = some o∨Z3 τ.length o=true)∧∃ (p' h':Nat),AV.tup [.i p,.i h]=.tup [.i p',.i h']∧(a≤p'∧p'<b)∧σ2=hpS τ l pre post xs :=
  fun p h J hh=>⟨_,J,rfl,hpS_len,rfl,fun k o ho=>.inl ho,p,h,rfl,hh,rfl⟩
 have hbox:hpS τ l pre post xs++[.cells [.i 0]]=hpB τ l pre post xs 0:=hpS_push hl _
 have hpl:(hpS τ l pre post xs).length=τ.length:=hpS_len
 simp only[ic99,hu,hw1,hd,hwq,m1,m2,m3,a1,a2,a3,hbox,hpl,evA,simprocAttr]
 by_cases h8:(m:Int)≥8
 rotate_left
 ·simp only[h8,evA,simprocAttr]
  have hr:=hpB_row (pre:=pre) (post:=post) (xs:=xs) hl 0
  have hb':hpB τ l pre post xs 0=hpS τ l pre post xs++[.cells [.i 0]]:=(hpS_push hl _).symm
  have e0:((0:Int) == 0)=true:=rfl
  simp only[hr,e0,evA,simprocAttr]
  rw[hb'];exact fin (a+2*q) 1 _ (by omega)
 by_cases h50:(m:Int)≥50
 rotate_left
 ·simp only[h8,h50,hu,evA,simprocAttr]
  refine (c114 hc hn hn62 (a:=a+q) (b:=a+2*q) (c:=a+3*q) (by omega) (by omega) (by omega) 0).mono ?_
  rintro r τ' ⟨p,z,rfl,hp,rfl⟩
  simp only[evA,simprocAttr]
  have hr:=hpB_row (pre:=pre) (post:=post) (xs:=xs) hl z
  have hb':hpB τ l pre post xs (z)=hpS τ l pre post xs++[.cells [.i (z)]]:=(hpS_push hl _).symm
  by_cases z0:(z:Int)=0
  ·have e0:((z:Int) == 0)=true:=by simp[z0]
   simp only[hr,e0,evA,simprocAttr]
   rw[hb'];exact fin (p) 1 _ (by omega)
  have e0:((z:Int) == 0)=false:=beq_f z0
  by_cases z12:(z:Int)=12
  ·have e12:((z:Int) == 12)=true:=by simp[z12]
   simp only[hr,e0,e12,evA,simprocAttr]
   rw[hb'];exact fin (p) 2 _ (by omega)
  have e12:((z:Int) == 12)=false:=beq_f z12
  simp only[hr,e0,e12,evA,simprocAttr]
  rw[hb'];exact fin (p) 0 _ (by omega)
 simp only[h8,h50,hu,evA,simprocAttr]
 refine (c113 hc hn hn62 (a:=a+q) (by omega) (by omega) 0).mono ?_
 rintro r τ' ⟨p1,z1,rfl,hp1,rfl⟩
 simp only[hu,evA,simprocAttr]
 refine (c113 hc hn hn62 (a:=a+2*q) (by omega) (by omega) z1).mono ?_
 rintro r τ' ⟨p2,z2,rfl,hp2,rfl⟩
 simp only[hu,evA,simprocAttr]
 refine (c113 hc hn hn62 (a:=a+3*q) (by omega) (by omega) z2).mono ?_
 rintro r τ' ⟨p3,z3,rfl,hp3,rfl⟩
 simp only[hu,evA,simprocAttr]
 refine (c114 hc hn hn62 (a:=p1) (b:=p2) (c:=p3) (by omega) (by omega) (by omega) z3).mono ?_
 rintro r τ' ⟨p,z,rfl,hp,rfl⟩
 simp only[evA,simprocAttr]
 have hr:=hpB_row (pre:=pre) (post:=post) (xs:=xs) hl z
 have hb':hpB τ l pre post xs (z)=hpS τ l pre post xs++[.cells [.i (z)]]:=(hpS_push hl _).symm
 by_cases z0:(z:Int)=0
 ·have e0:((z:Int) == 0)=true:=by simp[z0]
  simp only[hr,e0,evA,simprocAttr]
  rw[hb'];exact fin (p) 1 _ (by omega)
 have e0:((z:Int) == 0)=false:=beq_f z0
 by_cases z12:(z:Int)=12
 ·have e12:((z:Int) == 12)=true:=by simp[z12]
  simp only[hr,e0,e12,evA,simprocAttr]
  rw[hb'];exact fin (p) 2 _ (by omega)
 have e12:((z:Int) == 12)=false:=beq_f z12
 simp only[hr,e0,e12,evA,simprocAttr]
 rw[hb'];exact fin (p) 0 _ (by omega)
end
section
variable {cmp:AV} {cf:Sk→Sk→Int} {l n:Nat} {τ:List AObj} {pre post:List AV} {xs:List Sk}
set_option maxRecDepth 4000 in
theorem up101 (hc:CmpOk Tryz.prog cmp cf l τ) {ys:List Sk} (hn:ys.length=n) (hn62:n<2 ^ 60) {a b i:Nat} (hi:a<i) (hib:i≤b) (hb:b≤n) {n0:Nat} {Q:Exit→St→Prop} {d1:D1 ic101l2} {d2:D1 Q} {w0 w4 w6 w7 w8 w9 w11 w12 w13 w14 w15 w16 w17 w18:AV}
  (hend:∀ (i':Nat) (w:AV),i≤i'→i'≤b→Q (.exit 2) ⟨[.sl l pre.length n 2,.i a,.i b,cmp,w4,.i ((i':Nat):Int),w6,w7,w8,w9,w,w11,w12,w13,w14,w15,w16,w17,w18],hpS τ l pre post ys⟩) :
  ILk Tryz.prog { vars:=vs101,N:=141,r:=none,n0:=n0 } ic101l2 ⟨[.sl l pre.length n 2,.i a,.i b,cmp,w4,.i ((i:Nat):Int),w6,w7,w8,w9,w0,w11,w12,w13,w14,w15,w16,w17,w18],hpS τ l pre post ys⟩ Q d1 d2:=by
 have h60:(2:Nat) ^ 60=1152921504606846976:=by decide
 have hu:=hc.un
 have hl:=hc.lt
 refine ZW (b-i) (fun u s=>∃ w,u≤b-i∧s=⟨[.sl l pre.length n 2,.i a,.i b,cmp,w4,.i ((i+u:Nat):Int),w6,w7,w8,w9,w,w11,w12,w13,w14,w15,w16,w17,w18],hpS τ l pre post ys⟩) ?_ 0 (QF _) ⟨w0,QF _,rfl⟩
 rintro u s hu1 ⟨w,hu2,rfl⟩
 by_cases h:(((i+u:Nat):Int)<(b:Int))
 rotate_left
 ·simp only[ic101l2,evA,simprocAttr]
  refine DW_s [14] [] hmix (by kernel_rfl) rfl ?_
  simp only[h,evA,simprocAttr]
  exact hend _ _ (by omega) (by omega)
 have hws:IntKind.i64.wrap (((i+u:Nat):Int)+1)=((i+(u+1):Nat):Int):=by rw[ZC (by omega)];omega
 have hwp:IntKind.i64.wrap (((i+u:Nat):Int)-1)=((i+u-1:Nat):Int):=by rw[ZC (by omega)];omega
 have iA:=fun σ=>sd_ia (l:=l) (o:=pre.length) (show (i+u-1)<n by omega) σ
 have lA:=hp_ld (pre:=pre) (post:=post) (xs:=ys) hl (k:=i+u-1) (by omega)
 have iC:=fun σ=>sd_ia (l:=l) (o:=pre.length) (show (i+u)<n by omega) σ
 have lC:=hp_ld (pre:=pre) (post:=post) (xs:=ys) hl (k:=i+u) (by omega)
 simp only[ic101l2,evA,simprocAttr]
 refine DW_s [14] [] hmix (by kernel_rfl) rfl ?_
 simp only[h,hu,hwp,iA,iC,lA,lC,evA,simprocAttr]
 refine YE (hc.hp ys ys[i+u]! ys[i+u-1]!) rfl ?_
 generalize cf ys[i+u]! ys[i+u-1]! = e
 by_cases hcn:e<0
 ·simp only[hcn,hws,evA,simprocAttr]
  exact hend _ _ (by omega) (by omega)
 ·simp only[hcn,hws,evA,simprocAttr]
  exact ZL (by first | trivial | omega) ⟨_,by omega,rfl⟩
set_option maxRecDepth 4000 in
theorem dn101 (hc:CmpOk Tryz.prog cmp cf l τ) {ys:List Sk} (hn:ys.length=n) (hn62:n<2 ^ 60) {a b i:Nat} (hin:i<n) {n0:Nat} {Q:Exit→St→Prop} {d1:D1 ic101l1} {d2:D1 Q} {w4 w5 w6 w8 w9 w10 w11 w12 w13 w14 w15 w16 w17 w18:AV}
  (hend:∀ (zs:List Sk) (w7 w14 w15:AV),zs.Perm ys→Q (.exit 4) ⟨[.sl l pre.length n 2,.i a,.i b,cmp,w4,w5,w6,w7,w8,w9,w10,w11,w12,w13,w14,w15,w16,w17,w18],hpS τ l pre post zs⟩) :
  ILk Tryz.prog { vars:=vs101,N:=141,r:=none,n0:=n0 } ic101l1 ⟨[.sl l pre.length n 2,.i a,.i b,cmp,w4,w5,w6,.i ((i:Nat):Int),w8,w9,w10,w11,w12,w13,w14,w15,w16,w17,w18],hpS τ l pre post ys⟩ Q d1 d2:=by
 have h60:(2:Nat) ^ 60=1152921504606846976:=by decide
 have hu:=hc.un
 have hl:=hc.lt
 refine ZW i (fun u s=>∃ zs w14 w15,zs.Perm ys∧u≤i∧s=⟨[.sl l pre.length n 2,.i a,.i b,cmp,w4,w5,w6,.i ((i-u:Nat):Int),w8,w9,w10,w11,w12,w13,w14,w15,w16,w17,w18],hpS τ l pre post zs⟩) ?_ 0 (QF _) ⟨ys,w14,w15,List.Perm.refl _,QF _,rfl⟩
 rintro u s hu1 ⟨zs,v14,v15,hp,hu2,rfl⟩
 have hzl:zs.length=n:=by rw[hp.length_eq,hn]
 obtain ⟨j,hj⟩:∃ j,j=i-u:=⟨_,rfl⟩
 rw[← hj]
 by_cases h:(((j:Nat):Int)≥1)
 rotate_left
 ·simp only[ic101l1,h,evA,simprocAttr]
  exact hend _ _ _ _ hp
 have hws:IntKind.i64.wrap (((j:Nat):Int)-1)=((j-1:Nat):Int):=by rw[ZC (by omega)];omega
 have iA:=fun σ=>sd_ia (l:=l) (o:=pre.length) (show (j-1)<n by omega) σ
 have lA:=hp_ld (pre:=pre) (post:=post) (xs:=zs) hl (k:=j-1) (by omega)
 have iC:=fun σ=>sd_ia (l:=l) (o:=pre.length) (show (j)<n by omega) σ
 have lC:=hp_ld (pre:=pre) (post:=post) (xs:=zs) hl (k:=j) (by omega)
 simp only[ic101l1,h,evA,simprocAttr]
 refine DW_s [10] [] hmix (by kernel_rfl) rfl ?_
 simp only[hu,hws,iA,iC,lA,lC,evA,simprocAttr]
 refine YE (hc.hp zs zs[j]! zs[j-1]!) rfl ?_
 generalize cf zs[j]! zs[j-1]! = e
 by_cases hcn:e<0
 rotate_left
 ·simp only[hcn,hws,evA,simprocAttr]
  exact hend _ _ _ _ hp
 have s1:=hp_st (pre:=pre) (post:=post) (xs:=zs) hl (k:=j) (by omega) zs[j-1]!
 have s2:=hp_st (pre:=pre) (post:=post) (xs:=zs.set (j) zs[j-1]!) hl (k:=j-1) (by rw[WE];omega) zs[j]!
 have hsp:(zs.set (j) zs[j-1]! |>.set (j-1) zs[j]!).Perm zs:=swap_perm (by omega) (by omega)
 simp only[hcn,evA,simprocAttr]
 refine DW_s [] [] hmix (by kernel_rfl) rfl ?_
 simp only[hws,iA,iC,lA,lC,s1,s2,evA,simprocAttr]
 exact ZL (by first | trivial | omega) ⟨_,_,_,hsp.trans hp,by omega,by rw[show i-(u+1)=j-1 by omega]⟩
set_option maxRecDepth 4000 in
theorem on101 (hc:CmpOk Tryz.prog cmp cf l τ) {ys:List Sk} (hn:ys.length=n) (hn62:n<2 ^ 60) {a b i:Nat} (hi:1≤i) (hb:b≤n) (hib:i≤b) {n0:Nat} {Q:Exit→St→Prop} {d1:D1 ic101l0} {d2:D1 Q} {w4 w5 w6 w7 w9 w10 w11 w12 w13 w14 w15 w16 w17 w18:AV}
  (hend:∀ (zs:List Sk) (w8 w17 w18:AV),zs.Perm ys→Q (.exit 6) ⟨[.sl l pre.length n 2,.i a,.i b,cmp,w4,w5,w6,w7,w8,w9,w10,w11,w12,w13,w14,w15,w16,w17,w18],hpS τ l pre post zs⟩) :
  ILk Tryz.prog { vars:=vs101,N:=141,r:=none,n0:=n0 } ic101l0 ⟨[.sl l pre.length n 2,.i a,.i b,cmp,w4,w5,w6,w7,.i ((i:Nat):Int),w9,w10,w11,w12,w13,w14,w15,w16,w17,w18],hpS τ l pre post ys⟩ Q d1 d2:=by
 have h60:(2:Nat) ^ 60=1152921504606846976:=by decide
 have hu:=hc.un
 have hl:=hc.lt
 refine ZW (b-i) (fun u s=>∃ zs w17 w18,zs.Perm ys∧u≤b-i∧s=⟨[.sl l pre.length n 2,.i a,.i b,cmp,w4,w5,w6,w7,.i ((i+u:Nat):Int),w9,w10,w11,w12,w13,w14,w15,w16,w17,w18],hpS τ l pre post zs⟩) ?_ 0 (QF _) ⟨ys,w17,w18,List.Perm.refl _,QF _,rfl⟩
 rintro u s hu1 ⟨zs,v17,v18,hp,hu2,rfl⟩
 have hzl:zs.length=n:=by rw[hp.length_eq,hn]
 obtain ⟨j,hj⟩:∃ j,j=i+u:=⟨_,rfl⟩
 rw[← hj]
 by_cases h:(((j:Nat):Int)<(b:Int))
 rotate_left
 ·simp only[ic101l0,h,evA,simprocAttr]
  exact hend _ _ _ _ hp
 have hws:IntKind.i64.wrap (((j:Nat):Int)+1)=((j+1:Nat):Int):=by rw[ZC (by omega)];omega
 have hwp:IntKind.i64.wrap (((j:Nat):Int)-1)=((j-1:Nat):Int):=by rw[ZC (by omega)];omega
 have iA:=fun σ=>sd_ia (l:=l) (o:=pre.length) (show (j-1)<n by omega) σ
 have lA:=hp_ld (pre:=pre) (post:=post) (xs:=zs) hl (k:=j-1) (by omega)
 have iC:=fun σ=>sd_ia (l:=l) (o:=pre.length) (show (j)<n by omega) σ
 have lC:=hp_ld (pre:=pre) (post:=post) (xs:=zs) hl (k:=j) (by omega)
 simp only[ic101l0,h,evA,simprocAttr]
 refine DW_s [10] [] hmix (by kernel_rfl) rfl ?_
 simp only[hu,hws,hwp,iA,iC,lA,lC,evA,simprocAttr]
 refine YE (hc.hp zs zs[j]! zs[j-1]!) rfl ?_
 generalize cf zs[j]! zs[j-1]! = e
 by_cases hcn:e<0
 rotate_left
 ·simp only[hcn,hws,evA,simprocAttr]
  exact hend _ _ _ _ hp
 have s1:=hp_st (pre:=pre) (post:=post) (xs:=zs) hl (k:=j) (by omega) zs[j-1]!
 have s2:=hp_st (pre:=pre) (post:=post) (xs:=zs.set (j) zs[j-1]!) hl (k:=j-1) (by rw[WE];omega) zs[j]!
 have hsp:(zs.set (j) zs[j-1]! |>.set (j-1) zs[j]!).Perm zs:=swap_perm (by omega) (by omega)
 simp only[hcn,evA,simprocAttr]
 refine DW_s [] [] hmix (by kernel_rfl) rfl ?_
 simp only[hws,hwp,iA,iC,lA,lC,s1,s2,evA,simprocAttr]
 exact ZL (by first | trivial | omega) ⟨_,_,_,hsp.trans hp,by omega,by rw[show i+(u+1)=j+1 by omega]⟩
set_option maxRecDepth 4000 in
theorem c101 (hc:CmpOk Tryz.prog cmp cf l τ) (hn:xs.length=n) (hn62:n<2 ^ 60) {a b:Nat} (hab:a<b) (hb:b≤n) :
  AC Tryz.prog 101 [.sl l pre.length n 2,.i a,.i b,cmp] (hpS τ l pre post xs) fun r τ'=>∃ q:Bool,r=.b q∧∃ ys:List Sk,ys.Perm xs∧τ'=hpS τ l pre post ys:=by
 refine ZF (fok101 true) (QC rfl) ?_
 have h60:(2:Nat) ^ 60=1152921504606846976:=by decide
 have hu:=hc.un
 have hl:=hc.lt
 have hw1:IntKind.i64.wrap ((a:Int)+1)=((a+1:Nat):Int):=Q6 (by omega)
 have hwba:IntKind.i64.wrap ((b:Int)-(a:Int))=((b-a:Nat):Int):=by rw[ZC (by omega)];omega
 simp only[ic101,hw1,hu,evA,simprocAttr]
 refine ZW 5 (fun t s=>∃ ys,∃ i:Nat,∃ v7 v8 v9 v10 v11 v12 v13 v14 v15 v16 v17 v18,ys.Perm xs∧(a<i∧i≤b)∧s=⟨[.sl l pre.length n 2,.i a,.i b,cmp,.b false,.i (i:Nat),.i ((t:Nat):Int),v7,v8,v9,v10,v11,v12,v13,v14,v15,v16,v17,v18],hpS τ l pre post ys⟩) ?_ 0 (QF _) ⟨xs,a+1,_,_,_,_,_,_,_,_,_,_,_,_,List.Perm.refl _,by omega,rfl⟩
 rintro t s ht ⟨ys,i,v7,v8,v9,v10,v11,v12,v13,v14,v15,v16,v17,v18,hp,hiv,rfl⟩
 have hyl:ys.length=n:=by rw[hp.length_eq,hn]
 by_cases h:((t:Nat):Int)<5
 rotate_left
 ·simp only[ic101l3,h,evA,simprocAttr]
  exact ⟨ys,hp,rfl⟩
 have hwt:IntKind.i64.wrap ((t:Int)+1)=((t+1:Nat):Int):=Q6 (by omega)
 simp only[ic101l3,h,evA,simprocAttr]
 refine up101 hc hyl hn62 (by omega) (by omega) hb fun i' w10 h1 h2=>?_
 by_cases he:i'=b
 ·subst he
  simp only[decide_true,beq_self_eq_true,evA,simprocAttr]
  exact ⟨ys,hp,rfl⟩
 have heb:(((i':Nat):Int) == (b:Int))=false:=beq_f (by omega)
 by_cases h50:((b-a:Nat):Int)<50
 ·simp only[heb,h50,hwba,evA,simprocAttr]
  exact ⟨ys,hp,rfl⟩
 have hw1':IntKind.i64.wrap ((i':Int)+1)=((i'+1:Nat):Int):=Q6 (by omega)
 have hwp:IntKind.i64.wrap ((i':Int)-1)=((i'-1:Nat):Int):=by rw[ZC (by omega)];omega
 have hwia:IntKind.i64.wrap ((i':Int)-(a:Int))=((i'-a:Nat):Int):=by rw[ZC (by omega)];omega
 have hwbi:IntKind.i64.wrap ((b:Int)-(i':Int))=((b-i':Nat):Int):=by rw[ZC (by omega)];omega
 have iA:=fun σ=>sd_ia (l:=l) (o:=pre.length) (show (i'-1)<n by omega) σ
 have lA:=hp_ld (pre:=pre) (post:=post) (xs:=ys) hl (k:=i'-1) (by omega)
 have iC:=fun σ=>sd_ia (l:=l) (o:=pre.length) (show (i')<n by omega) σ
 have lC:=hp_ld (pre:=pre) (post:=post) (xs:=ys) hl (k:=i') (by omega)
 have s1:=hp_st (pre:=pre) (post:=post) (xs:=ys) hl (k:=i') (by omega) ys[i'-1]!
 have s2:=hp_st (pre:=pre) (post:=post) (xs:=ys.set (i') ys[i'-1]!) hl (k:=i'-1) (by rw[WE];omega) ys[i']!
 have hsp:(ys.set (i') ys[i'-1]! |>.set (i'-1) ys[i']!).Perm ys:=swap_perm (by omega) (by omega)
 simp only[heb,h50,hwba,evA,simprocAttr]
 refine DW_s [] [] hmix (by kernel_rfl) rfl ?_
 simp only[hwp,iA,iC,lA,lC,s1,s2,hwia,evA,simprocAttr]
 have hp2:=hsp.trans hp
 generalize (ys.set i' ys[i'-1]!).set (i'-1) ys[i']! = zs at hp2 ⊢
 clear s1 s2 hsp lA lC iA iC hp hyl ys
 have hzl:zs.length=n:=by rw[hp2.length_eq,hn]
 by_cases g1:((i'-a:Nat):Int)≥2
 ·simp only[g1,hwp,evA,simprocAttr]
  refine dn101 hc hzl hn62 (by omega) fun ws u7 u14 u15 hp3=>?_
  have hwl:ws.length=n:=by rw[hp3.length_eq,hzl]
  simp only[hwbi,evA,simprocAttr]
  by_cases g2:((b-i':Nat):Int)≥2
  ·simp only[g2,hw1',evA,simprocAttr]
   refine on101 hc hwl hn62 (by omega) hb (by omega) fun us u8 u17 u18 hp4=>?_
   simp only[hwt,evA,simprocAttr]
   exact ZL (by first | trivial | omega) ⟨_,i',_,_,_,_,_,_,_,_,_,_,_,_,(hp4.trans hp3).trans hp2,by omega,rfl⟩
  ·simp only[g2,hwt,evA,simprocAttr]
   exact ZL (by first | trivial | omega) ⟨_,i',_,_,_,_,_,_,_,_,_,_,_,_,hp3.trans hp2,by omega,rfl⟩
 ·simp only[g1,hwbi,evA,simprocAttr]
  by_cases g2:((b-i':Nat):Int)≥2
  ·simp only[g2,hw1',evA,simprocAttr]
   refine on101 hc hzl hn62 (by omega) hb (by omega) fun us u8 u17 u18 hp4=>?_
   simp only[hwt,evA,simprocAttr]
   exact ZL (by first | trivial | omega) ⟨_,i',_,_,_,_,_,_,_,_,_,_,_,_,hp4.trans hp2,by omega,rfl⟩
  ·simp only[g2,hwt,evA,simprocAttr]
   exact ZL (by first | trivial | omega) ⟨_,i',_,_,_,_,_,_,_,_,_,_,_,_,hp2,by omega,rfl⟩
end
def tabLen:List (Nat × FE) :=
 [(75,⟨ic75,vs75,8,rs75,true⟩),
 (105,⟨ic105,vs105,25,rs105,true⟩),
 (111,⟨ic111,vs111,7,rs111,true⟩)]
theorem tabLen_ok:TOk Tryz.prog tabLen:=⟨fok75 _,fok105 _,fok111 _,trivial⟩
def TLen:Tb:=⟨tget tabLen,[]⟩
theorem TLen_ok:TbOk Tryz.prog TLen:=⟨fun _ _ h=>TOk.get tabLen_ok _ _ h,trivial⟩
theorem wrapU {n:Nat} (h:n<2 ^ 64):IntKind.u64.wrap (n:Int)=(n:Int):=by
 unfold IntKind.wrap
 simp[IntKind.bits,IntKind.signed]
 omega
def okU (r:Option (Bool × AV × List AObj)) (m:Int):Bool:=match r with | some (true,.cv (.int .u64 x),[])=>x == m | _=>false
def okI (r:Option (Bool × AV × List AObj)) (m:Int):Bool:=match r with | some (true,.cv (.int .i64 x),[])=>x == m | _=>false
theorem okU_eq {r:Option (Bool × AV × List AObj)} {m:Int} (h:okU r m=true):r=some (true,.cv (.int .u64 m),[]):=by
 unfold okU at h;split at h
 ·rw[eq_of_beq h]
 ·cases h
theorem okI_eq {r:Option (Bool × AV × List AObj)} {m:Int} (h:okI r m=true):r=some (true,.cv (.int .i64 m),[]):=by
 unfold okI at h;split at h
 ·rw[eq_of_beq h]
 ·cases h
def bitLen (n:Nat):Nat:=if n=0 then 0 else Nat.log2 n+1
def okLen (n:Nat):Bool:=okI (JL TLen (UI TLen 1000 10) 1000 [] 75 [.cv (.int .u64 (n:Int))] []) ((bitLen n:Nat):Int)&&okU (JL TLen (UI TLen 1000 10) 1000 [] 111 [.i (n:Int)] []) ((2 ^ bitLen n:Nat):Int)
theorem okLen0:(List.range' 0 205).all okLen=true:=by kernel_rfl
theorem okLen1:(List.range' 205 205).all okLen=true:=by kernel_rfl
theorem okLen2:(List.range' 410 205).all okLen=true:=by kernel_rfl
theorem okLen3:(List.range' 615 205).all okLen=true:=by kernel_rfl
theorem okLen4:(List.range' 820 205).all okLen=true:=by kernel_rfl
theorem okLen_all {n:Nat} (hn:n≤1024):okLen n=true:=by
 have h:∀ k,(List.range' k 205).all okLen=true→k≤n→n<k+205→okLen n=true:=fun k h h1 h2=>Q1.1 h n (List.mem_range'_1.2 ⟨h1,h2⟩)
 by_cases h0:n<205
 ·exact h 0 okLen0 (by omega) (by omega)
 by_cases h1:n<410
 ·exact h 205 okLen1 (by omega) (by omega)
 by_cases h2:n<615
 ·exact h 410 okLen2 (by omega) (by omega)
 by_cases h3:n<820
 ·exact h 615 okLen3 (by omega) (by omega)
 exact h 820 okLen4 (by omega) (by omega)
theorem c75 {n:Nat} (hn:n≤1024) (σ:List AObj):AC Tryz.prog 75 [.cv (.int .u64 (n:Int))] σ fun r τ=>r=.i ((bitLen n:Nat):Int)∧τ=σ:=by
 have h:=okLen_all hn
 unfold okLen at h
 rw[QD] at h
 exact AC_run hmix TLen_ok 1000 10 (okI_eq h.1) rfl σ
theorem c111 {n:Nat} (hn:n≤1024) (σ:List AObj):AC Tryz.prog 111 [.i (n:Int)] σ fun r τ=>r=.cv (.int .u64 ((2 ^ bitLen n:Nat):Int))∧τ=σ:=by
 have h:=okLen_all hn
 unfold okLen at h
 rw[QD] at h
 exact AC_run hmix TLen_ok 1000 10 (okU_eq h.2) rfl σ
theorem bitLen_pow {n:Nat} (hn:0<n) (h:n≤1024):n<2 ^ bitLen n∧2 ^ bitLen n≤2*n∧2 ^ bitLen n≤2048:=by
 have h1:2 ^ Nat.log2 n≤n:=Nat.log2_self_le (by omega)
 have h2:n<2 ^ (Nat.log2 n+1):=Nat.lt_log2_self
 have e:bitLen n=Nat.log2 n+1:=by unfold bitLen;rw[if_neg (by omega)]
 rw[e,Nat.pow_succ] at *
 omega
theorem and_le (x:Int) {m:Nat} (hm:m<2 ^ 64):∃ z:Nat,z≤m∧binI .and .u64 x (m:Int)=some (.cv (.int .u64 (z:Int))):=by
 refine ⟨(BitVec.ofInt 64 x &&& BitVec.ofInt 64 (m:Int)).toNat,?_,?_⟩
 ·rw[BitVec.toNat_and]
  refine YR Nat.and_le_right ?_
  rw[BitVec.toNat_ofInt]
  omega
 ·have:(BitVec.ofInt 64 x &&& BitVec.ofInt 64 (m:Int)).toNat<2 ^ 64:=BitVec.isLt _
  exact congrArg (fun z=>some (AV.cv (.int .u64 z))) (wrapU this)
section
variable {cmp:AV} {cf:Sk→Sk→Int} {l n:Nat} {τ:List AObj} {pre post:List AV} {xs:List Sk}
abbrev hpU (τ:List AObj) (l:Nat) (pre post:List AV) (xs:List Sk) (z:Int):List AObj:=hpS (τ++[.cells [.cv (.int .u64 z)]]) l pre post xs
theorem hpU_row (hl:l<τ.length) (z:Int):rowOf (hpU τ l pre post xs z) τ.length=some [.cv (.int .u64 z)]:=by
 unfold hpU;rw[← hpS_push hl]
 have:=XH (hpS τ l pre post xs) [.cv (.int .u64 z)]
 rwa [hpS_len] at this
theorem hpU_set (hl:l<τ.length) (z z':Int):(hpU τ l pre post xs z).set τ.length (.cells [.cv (.int .u64 z')])=hpU τ l pre post xs z':=by
 unfold hpU;rw[← hpS_push hl,← hpS_push hl,List.set_append_right _ _ (by rw[hpS_len];exact QG _),hpS_len,Nat.sub_self];rfl
set_option maxRecDepth 4000 in
theorem c112 (hl:l<τ.length) (z:Int) :
  AC Tryz.prog 112 [.ptr τ.length 0] (hpU τ l pre post xs z) fun r τ'=>∃ z':Int,r=.cv (.int .u64 z')∧τ'=hpU τ l pre post xs z':=by
 refine ZF (fok112 true) (QC rfl) ?_
 have hr:=fun z=>hpU_row (pre:=pre) (post:=post) (xs:=xs) hl z
 have hs:=fun z z'=>hpU_set (pre:=pre) (post:=post) (xs:=xs) hl z z'
 obtain ⟨f1,hf1⟩:∃ f:Int→Int,∀ x,VK .shl .u64 x 13=some (.cv (.int .u64 (f x))):=⟨fun x=>_,fun x=>rfl⟩
 obtain ⟨f2,hf2⟩:∃ f:Int→Int,∀ x,VK .shr .u64 x 7=some (.cv (.int .u64 (f x))):=⟨fun x=>_,fun x=>rfl⟩
 obtain ⟨f3,hf3⟩:∃ f:Int→Int,∀ x,VK .shl .u64 x 17=some (.cv (.int .u64 (f x))):=⟨fun x=>_,fun x=>rfl⟩
 obtain ⟨g,hg⟩:∃ g:Int→Int→Int,∀ x y,binI .xor .u64 x y=some (.cv (.int .u64 (g x y))):=⟨fun x y=>_,fun x y=>rfl⟩
 simp only[ic112,evA,simprocAttr]
 refine DW_s [] [] hmix (by kernel_rfl) rfl ?_
 simp only[hr,hs,hf1,hg,evA,simprocAttr]
 generalize g z (f1 z)=y
 refine DW_s [] [] hmix (by kernel_rfl) rfl ?_
 simp only[hr,hs,hf2,hg,evA,simprocAttr]
 generalize g y (f2 y)=y2
 refine DW_s [] [] hmix (by kernel_rfl) rfl ?_
 simp only[hr,hs,hf3,hg,evA,simprocAttr]
set_option maxHeartbeats 1000000 in
set_option maxRecDepth 4000 in
theorem c98 (hc:CmpOk Tryz.prog cmp cf l τ) (hpp:QO 0 pre=true) (hpq:QO 0 post=true) (hn:xs.length=n) (hn62:n≤1024) {a b:Nat} (hab:a<b) (hb:b≤n) :
  AC Tryz.prog 98 [.sl l pre.length n 2,.i a,.i b,cmp] (hpS τ l pre post xs) fun r τ'=>r=.tup []∧∃ ys:List Sk,ys.Perm xs∧τ'=hpS τ l pre post ys:=by
 refine AC.cutG ?_
 refine ZF (fok98 true) (QC rfl) ?_
 have hu:=hc.un
 have hl:=hc.lt
 obtain ⟨m,hm⟩:∃ m,m=b-a:=⟨_,rfl⟩
 obtain ⟨q,hq⟩:∃ q,q=m / 4:=⟨_,rfl⟩
 have hw1:IntKind.i64.wrap ((b:Int)-(a:Int))=(m:Int):=by rw[ZC (by omega)];omega
 have hd:(m:Int).tdiv 4=(q:Int):=by rw[hq];rfl
 have hwq:IntKind.i64.wrap (q:Int)=(q:Int):=ZC (by omega)
 have m2:IntKind.i64.wrap ((q:Int)*2)=((2*q:Nat):Int):=by rw[ZC (by omega)];omega
 have a2:IntKind.i64.wrap ((a:Int)+((2*q:Nat):Int))=((a+2*q:Nat):Int):=by rw[ZC (by omega)];omega
 have fin:∀ (ys:List Sk) (J:List AObj),ys.Perm xs→∃ σ2 J',hpS τ l pre post ys++J=σ2++J'∧σ2.length=(hpS τ l pre post xs).length∧QR 0 (.tup [])=true∧(∀ (k:Nat) (o:AObj),σ2[k]? = some o→(hpS τ l pre post xs)[k]? = some o∨Z3 (hpS τ l pre post xs).length o=true)∧AV.tup []=.tup []∧∃ ys:List Sk,ys.Perm xs∧σ2=hpS τ l pre post ys :=
  fun ys J hh=>⟨_,J,rfl,by rw[hpS_len,hpS_len],rfl,hpS_obj hpp hpq ys,rfl,ys,hh,rfl⟩
 by_cases h8:(m:Int)≥8
 rotate_left
 ·simp only[ic98,hu,hw1,h8,evA,simprocAttr]
  have:=fin xs [] (List.Perm.refl _)
  simpa using this
 have a2m:IntKind.i64.wrap (((a+2*q:Nat):Int)-1)=((a+2*q-1:Nat):Int):=by rw[ZC (by omega)];omega
 have a2p:IntKind.i64.wrap (((a+2*q:Nat):Int)+1)=((a+2*q+1:Nat):Int):=by rw[ZC (by omega)];omega
 have hum:IntKind.u64.wrap (m:Int)=(m:Int):=wrapU (by omega)
 have hpl:(hpS τ l pre post xs).length=τ.length:=hpS_len
 have hbox:∀ z:Int,hpS τ l pre post xs++[.cells [.cv (.int .u64 z)]]=hpU τ l pre post xs z:=fun z=>hpS_push hl _
 have hr:=fun (ys:List Sk) z=>hpU_row (pre:=pre) (post:=post) (xs:=ys) hl z
 have hs:=fun (ys:List Sk) z z'=>hpU_set (pre:=pre) (post:=post) (xs:=ys) hl z z'
 simp only[ic98,hu,hw1,h8,hum,hbox,hpl,hr,hs,evA,simprocAttr]
 refine (c111 (n:=m) (by omega) _).run ?_
 obtain ⟨hP1,hP2,hP3⟩:=bitLen_pow (n:=m) (by omega) (by omega)
 generalize 2 ^ bitLen m=M at hP1 hP2 hP3 ⊢
 simp only[hd,hwq,m2,a2,a2m,evA,simprocAttr]
 have hl2:l<(τ++[AObj.cells [.cv (.int .u64 (m:Int))]]).length:=by simp;omega
 refine ZW 3 (fun t s=>∃ ys,∃ z:Int,∃ v8 v10 v11,ys.Perm xs∧s=⟨[.sl l pre.length n 2,.i a,.i b,cmp,.i (m:Int),.ptr τ.length 0,.cv (.int .u64 (M:Int)),.i ((a+2*q-1+t:Nat):Int),v8,.b true,v10,v11],hpU τ l pre post ys z⟩) ?_ 0 (QF _) ⟨xs,(m:Int),_,_,_,List.Perm.refl _,rfl⟩
 rintro t s ht ⟨ys,z,v8,v10,v11,hp,rfl⟩
 have hyl:ys.length=n:=by rw[hp.length_eq,hn]
 by_cases h:((a+2*q-1+t:Nat):Int)≤((a+2*q+1:Nat):Int)
 rotate_left
 ·simp only[ic98l0,hd,hwq,m2,a2,a2p,h,evA,simprocAttr]
  have hb':hpU τ l pre post ys z=hpS τ l pre post ys++[.cells [.cv (.int .u64 z)]]:=(hpS_push hl _).symm
  rw[hb']
  have:=fin ys [.cells [.cv (.int .u64 z)]] hp
  simpa[hpS_len] using this
 have hMw:IntKind.u64.wrap ((M:Int)-1)=((M-1:Nat):Int):=by
  have:(M:Int)-1=((M-1:Nat):Int):=by omega
  rw[this];exact wrapU (by omega)
 have hws:IntKind.i64.wrap (((a+2*q-1+t:Nat):Int)+1)=((a+2*q-1+(t+1):Nat):Int):=by rw[ZC (by omega)];omega
 simp only[ic98l0,hd,hwq,m2,a2,a2p,h,evA,simprocAttr]
 refine (c112 hl z).mono ?_
 rintro r τ' ⟨z1,rfl,rfl⟩
 obtain ⟨w,hw,hwe⟩:=and_le z1 (m:=M-1) (by omega)
 have hwi:IntKind.i64.wrap (w:Int)=(w:Int):=ZC (by omega)
 simp only[hMw,hwe,hwi,evA,simprocAttr]
 have hl2:l<(τ++[AObj.cells [AV.cv (CV.int IntKind.u64 z1)]]).length:=by simp;omega
 have iA:=fun σ=>sd_ia (l:=l) (o:=pre.length) (show (a+2*q-1+t)<n by omega) σ
 have lA:=hp_ld (pre:=pre) (post:=post) (xs:=ys) hl2 (k:=a+2*q-1+t) (by omega)
 by_cases g:(w:Int)≥(m:Int)
 ·have hwm:IntKind.i64.wrap ((w:Int)-(m:Int))=((w-m:Nat):Int):=by rw[ZC (by omega)];omega
  have hwa:IntKind.i64.wrap ((a:Int)+((w-m:Nat):Int))=((a+(w-m):Nat):Int):=by rw[ZC (by omega)];omega
  have iC:=fun σ=>sd_ia (l:=l) (o:=pre.length) (show (a+(w-m))<n by omega) σ
  have lC:=hp_ld (pre:=pre) (post:=post) (xs:=ys) hl2 (k:=a+(w-m)) (by omega)
  have s1:=hp_st (pre:=pre) (post:=post) (xs:=ys) hl2 (k:=a+2*q-1+t) (by omega) ys[a+(w-m)]!
  have s2:=hp_st (pre:=pre) (post:=post) (xs:=ys.set (a+2*q-1+t) ys[a+(w-m)]!) hl2 (k:=a+(w-m)) (by rw[WE];omega) ys[a+2*q-1+t]!
  have hsp:(ys.set (a+2*q-1+t) ys[a+(w-m)]! |>.set (a+(w-m)) ys[a+2*q-1+t]!).Perm ys:=swap_perm (by omega) (by omega)
  simp only[g,hwm,evA,simprocAttr]
  refine DW_s [] [] hmix (by kernel_rfl) rfl ?_
  simp only[hwa,iA,iC,lA,lC,s1,s2,hws,evA,simprocAttr]
  exact ZL (by first | trivial | omega) ⟨_,z1,_,_,_,hsp.trans hp,rfl⟩
 ·have hwa:IntKind.i64.wrap ((a:Int)+(w:Int))=((a+w:Nat):Int):=by rw[ZC (by omega)];omega
  have iC:=fun σ=>sd_ia (l:=l) (o:=pre.length) (show (a+w)<n by omega) σ
  have lC:=hp_ld (pre:=pre) (post:=post) (xs:=ys) hl2 (k:=a+w) (by omega)
  have s1:=hp_st (pre:=pre) (post:=post) (xs:=ys) hl2 (k:=a+2*q-1+t) (by omega) ys[a+w]!
  have s2:=hp_st (pre:=pre) (post:=post) (xs:=ys.set (a+2*q-1+t) ys[a+w]!) hl2 (k:=a+w) (by rw[WE];omega) ys[a+2*q-1+t]!
  have hsp:(ys.set (a+2*q-1+t) ys[a+w]! |>.set (a+w) ys[a+2*q-1+t]!).Perm ys:=swap_perm (by omega) (by omega)
  simp only[g,evA,simprocAttr]
  refine DW_s [] [] hmix (by kernel_rfl) rfl ?_
  simp only[hwa,iA,iC,lA,lC,s1,s2,hws,evA,simprocAttr]
  exact ZL (by first | trivial | omega) ⟨_,z1,_,_,_,hsp.trans hp,rfl⟩
end
def p74_3:IC:=(.seq (.region [jv 5,jw 18 .not [.t 0]])
 (.cond 18 (.seq (.region [jv 0,jv 1,jv 2,jv 4,jk 98 [.t 0,.t 1,.t 2,.t 3]])
 (.region [jv 3,jq (.bin .sub .int) [.t 0,jn 1],jm 3 1]))
 .skip))
def p74_5:IC:=(.seq (.region [jv 9,jw 19 (.bin .eql .int) [.t 0,jn 2]])
 (.cond 19 (.seq (.region [jv 0,jv 1,jv 2,jv 4,jk 100 [.t 0,.t 1,.t 2,.t 3]])
 (.seq (.region [jv 2,jq (.bin .sub .int) [.t 0,jn 1],jv 8,jv 1,jq (.bin .sub .int) [.t 2,.t 3],jq (.bin .sub .int) [.t 1,.t 4],jm 8 5])
 (.region [jz 9 1])))
 .skip))
def p74_6:IC:=(.seq (.region [jv 5,jt 0,jh 1 true 6,jq .pick [.t 1,.t 2,jB false],jt 3,jh 4 true 9,jg 4 true (.bin .eql .int) [.t 5,jn 1],jw 20 .pick [.t 4,.t 6,jB false]])
 (.cond 20 (.seq (.region [jv 0,jv 1,jv 2,jv 4,jd 21 101 [.t 0,.t 1,.t 2,.t 3]])
 (.cond 21 .ret
 .skip))
 .skip))
theorem ic74l0_cut:ic74l0=(.block 1 (.seq (.region [jv 2,jv 1,jq (.bin .sub .int) [.t 0,.t 1],jm 7 2]) (.seq (.seq (.region [jv 7,jw 16 (.bin .leq .int) [.t 0,jn 12]])
 (.cond 16 (.seq (.region [jv 0,jv 1,jv 2,jv 4,jk 96 [.t 0,.t 1,.t 2,.t 3]])
 .ret)
 .skip)) (.seq (.seq (.region [jv 3,jw 17 (.bin .eql .int) [.t 0,jn 0]])
 (.cond 17 (.seq (.region [jv 0,jv 1,jv 2,jv 4,jk 97 [.t 0,.t 1,.t 2,.t 3]])
 .ret)
 .skip)) (.seq p74_3 (.seq (.region [jv 0,jv 1,jv 2,jv 4,jk 99 [.t 0,.t 1,.t 2,.t 3],jt 4,jx 0 5,jx 1 5,jm 8 6,jm 9 7]) (.seq p74_5 (.seq p74_6 (.seq (.seq (.dr [[],[0],[1],[2],[2],[2],[5,2],[4,6,2],[7,2],[2],[2],[9,10,2],[11,2],[3,8,12,2,2],[13,2],[14,2],[2,15]] [jv 1,jq (.bin .gtr .int) [.t 0,jn 0],jt 1,jh 2 true 4,jh 2 true 0,jh 2 true 1,jg 2 true (.bin .sub .int) [.t 5,jn 1],jg 2 true (.iaS 2) [.t 4,.t 6],jg 2 true (.loadN 2) [.t 7],jh 2 true 0,jh 2 true 8,jg 2 true (.iaS 2) [.t 9,.t 10],jg 2 true (.loadN 2) [.t 11],⟨none,(.some (2,true)),.call,[(.t 3),(.t 8),(.t 12)]⟩,jg 2 true (.bin .lss .int) [.t 13,jn 0],jg 2 true .not [.t 14],jw 22 .pick [.t 2,.t 15,jB false]])
 (.cond 22 (.seq (.region [jv 0,jv 1,jv 2,jv 8,jv 4,jk 102 [.t 0,.t 1,.t 2,.t 3,.t 4],jm 10 5])
 (.seq (.region [jv 10,jm 1 0])
 (.exit 1)))
 .skip)) (.seq (.region [jv 0,jv 1,jv 2,jv 8,jv 4,jk 103 [.t 0,.t 1,.t 2,.t 3,.t 4],jt 5,jx 0 6,jx 1 6,jm 11 7,jm 12 8]) (.seq (.region [jv 12,jm 6 0]) (.seq (.region [jv 11,jv 1,jq (.bin .sub .int) [.t 0,.t 1],jv 2,jv 11,jq (.bin .sub .int) [.t 3,.t 4],jm 13 2,jm 14 5]) (.seq (.region [jv 7,jq (.bin .quo .int) [.t 0,jn 8],jm 15 1]) (.seq (.region [jv 13,jv 14,jw 23 (.bin .lss .int) [.t 0,.t 1]]) (.cond 23 (.seq (.region [jv 13,jv 15,jq (.bin .geq .int) [.t 0,.t 1],jm 5 2])
 (.seq (.region [jv 0,jv 1,jv 11,jv 3,jv 4,jk 74 [.t 0,.t 1,.t 2,.t 3,.t 4]])
 (.region [jv 11,jq (.bin .add .int) [.t 0,jn 1],jm 1 1])))
 (.seq (.region [jv 14,jv 15,jq (.bin .geq .int) [.t 0,.t 1],jm 5 2])
 (.seq (.region [jv 0,jv 11,jq (.bin .add .int) [.t 1,jn 1],jv 2,jv 3,jv 4,jk 74 [.t 0,.t 2,.t 3,.t 4,.t 5]])
 (.region [jv 11,jm 2 0])))))))))))))))))):=rfl
section
variable {cmp:AV} {cf:Sk→Sk→Int} {l n:Nat} {τ:List AObj} {pre post:List AV} {xs:List Sk}
set_option maxRecDepth 4000 in
theorem p74_3_ok (hc:CmpOk Tryz.prog cmp cf l τ) (hpp:QO 0 pre=true) (hpq:QO 0 post=true) (hn:xs.length=n) (hn62:n≤1024) {a b lim:Nat} (hab:a<b) (hb:b≤n) (h0:0<lim) (h1:lim<2 ^ 60) {wb wp:Bool} {n0:Nat} {Q:Exit→St→Prop} {w7 w8 w9 w10 w11 w12 w13 w14 w15 w16 w17 w18 w19 w20 w21 w22 w23:AV}
  (h:∀ (ys:List Sk) (lim':Nat) (w18:AV),ys.Perm xs→lim'≤lim→Q .normal ⟨[.sl l pre.length n 2,.i (a:Nat),.i (b:Nat),.i (lim':Nat),cmp,.b wb,.b wp,w7,w8,w9,w10,w11,w12,w13,w14,w15,w16,w17,w18,w19,w20,w21,w22,w23],hpS τ l pre post ys⟩) :
  IS Tryz.prog { vars:=vs74,N:=148,r:=none,n0:=n0 } p74_3 ⟨[.sl l pre.length n 2,.i (a:Nat),.i (b:Nat),.i (lim:Nat),cmp,.b wb,.b wp,w7,w8,w9,w10,w11,w12,w13,w14,w15,w16,w17,w18,w19,w20,w21,w22,w23],hpS τ l pre post xs⟩ Q .mk .mk:=by
 have h60:(2:Nat) ^ 60=1152921504606846976:=by decide
 have hu:=hc.un
 have hw:IntKind.i64.wrap ((lim:Int)-1)=((lim-1:Nat):Int):=by rw[ZC (by omega)];omega
 cases wb
 ·simp only[p74_3,hu,evA,simprocAttr]
  refine (c98 hc hpp hpq hn hn62 hab hb).mono ?_
  rintro r τ' ⟨rfl,ys,hp,rfl⟩
  simp only[hw,evA,simprocAttr]
  exact h _ _ _ hp (by omega)
 ·simp only[p74_3,evA,simprocAttr]
  exact h _ _ _ (List.Perm.refl _) (QG _)
set_option maxRecDepth 4000 in
theorem p74_5_ok (hc:CmpOk Tryz.prog cmp cf l τ) (hn:xs.length=n) (hn62:n≤1024) {a b p g:Nat} (hab:a<b) (hb:b≤n) (hp1:a≤p) (hp2:p<b) {n0:Nat} {Q:Exit→St→Prop} {w3 w5 w6 w7 w10 w11 w12 w13 w14 w15 w16 w17 w18 w19 w20 w21 w22 w23:AV}
  (h:∀ (ys:List Sk) (p' g':Nat) (w19:AV),ys.Perm xs→a≤p'→p'<b→Q .normal ⟨[.sl l pre.length n 2,.i (a:Nat),.i (b:Nat),w3,cmp,w5,w6,w7,.i (p':Nat),.i (g':Nat),w10,w11,w12,w13,w14,w15,w16,w17,w18,w19,w20,w21,w22,w23],hpS τ l pre post ys⟩) :
  IS Tryz.prog { vars:=vs74,N:=148,r:=none,n0:=n0 } p74_5 ⟨[.sl l pre.length n 2,.i (a:Nat),.i (b:Nat),w3,cmp,w5,w6,w7,.i (p:Nat),.i (g:Nat),w10,w11,w12,w13,w14,w15,w16,w17,w18,w19,w20,w21,w22,w23],hpS τ l pre post xs⟩ Q .mk .mk:=by
 have hu:=hc.un
 have hw1:IntKind.i64.wrap ((b:Int)-1)=((b-1:Nat):Int):=by rw[ZC (by omega)];omega
 have hw2:IntKind.i64.wrap ((p:Int)-(a:Int))=((p-a:Nat):Int):=by rw[ZC (by omega)];omega
 have hw3:IntKind.i64.wrap (((b-1:Nat):Int)-((p-a:Nat):Int))=((b-1-(p-a):Nat):Int):=by rw[ZC (by omega)];omega
 by_cases hg:(g:Int)=2
 ·have e:((g:Int) == 2)=true:=by simp[hg]
  simp only[p74_5,e,hu,evA,simprocAttr]
  refine (c100 hc hn (by omega) (by omega) hb).mono ?_
  rintro r τ' ⟨rfl,ys,hp,rfl⟩
  simp only[hw1,hw2,hw3,evA,simprocAttr]
  exact h ys (b-1-(p-a)) 1 _ hp (by omega) (by omega)
 ·have e:((g:Int) == 2)=false:=beq_f hg
  simp only[p74_5,e,evA,simprocAttr]
  exact h _ _ _ _ (List.Perm.refl _) hp1 hp2
set_option maxRecDepth 4000 in
theorem p74_6_ok (hc:CmpOk Tryz.prog cmp cf l τ) (hn:xs.length=n) (hn62:n≤1024) {a b g:Nat} (hab:a<b) (hb:b≤n) {wb wp:Bool} {n0:Nat} {Q:Exit→St→Prop} {w3 w7 w8 w10 w11 w12 w13 w14 w15 w16 w17 w18 w19 w20 w21 w22 w23:AV}
  (h:∀ (ys:List Sk) (w20 w21:AV),ys.Perm xs→Q .normal ⟨[.sl l pre.length n 2,.i (a:Nat),.i (b:Nat),w3,cmp,.b wb,.b wp,w7,w8,.i (g:Nat),w10,w11,w12,w13,w14,w15,w16,w17,w18,w19,w20,w21,w22,w23],hpS τ l pre post ys⟩)
  (h':∀ (ys:List Sk) (w20 w21:AV),ys.Perm xs→Q .ret ⟨[.sl l pre.length n 2,.i (a:Nat),.i (b:Nat),w3,cmp,.b wb,.b wp,w7,w8,.i (g:Nat),w10,w11,w12,w13,w14,w15,w16,w17,w18,w19,w20,w21,w22,w23],hpS τ l pre post ys⟩) :
  IS Tryz.prog { vars:=vs74,N:=148,r:=none,n0:=n0 } p74_6 ⟨[.sl l pre.length n 2,.i (a:Nat),.i (b:Nat),w3,cmp,.b wb,.b wp,w7,w8,.i (g:Nat),w10,w11,w12,w13,w14,w15,w16,w17,w18,w19,w20,w21,w22,w23],hpS τ l pre post xs⟩ Q .mk .mk:=by
 have hu:=hc.un
 by_cases hb3:wb=true∧wp=true∧g=1
 ·obtain ⟨rfl,rfl,rfl⟩:=hb3
  simp only[p74_6,hu,Int.natCast_one,beq_self_eq_true,evA,simprocAttr]
  refine (c101 hc hn (by omega) hab hb).mono ?_
  rintro r τ' ⟨q,rfl,ys,hp,rfl⟩
  cases q
  ·simp only[evA,simprocAttr]
   exact h _ _ _ hp
  ·simp only[evA,simprocAttr]
   exact h' _ _ _ hp
 ·have fin:=fun w20=>h xs w20 w21 (List.Perm.refl _)
  cases wb
  ·simp only[p74_6,evA,simprocAttr]
   exact fin _
  cases wp
  ·simp only[p74_6,evA,simprocAttr]
   exact fin _
  have hg:g≠1:=fun e=>hb3 ⟨rfl,rfl,e⟩
  have e:((g:Int) == 1)=false:=beq_f (by omega)
  simp only[p74_6,e,evA,simprocAttr]
  exact fin _
set_option maxHeartbeats 2000000 in
set_option maxRecDepth 4000 in
theorem c74 (hc:CmpOk Tryz.prog cmp cf l τ) (hpp:QO 0 pre=true) (hpq:QO 0 post=true) (hn62:n≤1024):∀ (k:Nat) {a b lim:Nat} {xs:List Sk},b-a≤k→a≤b→b≤n→lim<2 ^ 60→xs.length=n →
  AC Tryz.prog 74 [.sl l pre.length n 2,.i a,.i b,.i lim,cmp] (hpS τ l pre post xs) fun r τ'=>r=.tup []∧∃ ys:List Sk,ys.Perm xs∧τ'=hpS τ l pre post ys:=by
 intro k
 induction k using Nat.strongRecOn with
 | _ k ih =>
 intro a0 b0 lim0 xs hk hab0 hb0 hlim0 hn
 refine ZF (fok74 true) (QC rfl) ?_
 have h60:(2:Nat) ^ 60=1152921504606846976:=by decide
 have hu:=hc.un
 have hl:=hc.lt
 simp only[ic74,hu,evA,simprocAttr]
 refine ZW (b0-a0) (fun t s=>∃ ys,∃ a b lim:Nat,∃ wb wp:Bool,∃ w7 w8 w9 w10 w11 w12 w13 w14 w15 w16 w17 w18 w19 w20 w21 w22 w23,ys.Perm xs∧(a≤b∧b≤n∧lim<2 ^ 60∧b-a+t≤b0-a0)∧s=⟨[.sl l pre.length n 2,.i (a:Nat),.i (b:Nat),.i (lim:Nat),cmp,.b wb,.b wp,w7,w8,w9,w10,w11,w12,w13,w14,w15,w16,w17,w18,w19,w20,w21,w22,w23],hpS τ l pre post ys⟩) ?_ 0 (QF _) ⟨xs,a0,b0,lim0,true,true,_,_,_,_,_,_,_,_,_,_,_,_,_,_,_,_,_,List.Perm.refl _,by omega,rfl⟩
 rintro t s ht ⟨ys,a,b,lim,wb,wp,w7,w8,w9,w10,w11,w12,w13,w14,w15,w16,w17,w18,w19,w20,w21,w22,w23,hp,⟨hab,hb,hlim,hbt⟩,rfl⟩
 have hyl:ys.length=n:=by rw[hp.length_eq,hn]
 have hwl:IntKind.i64.wrap ((b:Int)-(a:Int))=((b-a:Nat):Int):=by rw[ZC (by omega)];omega
 by_cases h12:((b-a:Nat):Int)≤12
 ·simp only[ic74l0_cut,hwl,h12,hu,evA,simprocAttr]
  refine (c96 hc hyl (by omega) hb (by omega)).mono ?_
  rintro r τ' ⟨rfl,zs,hz,rfl⟩
  simp only[evA,simprocAttr]
  exact ⟨zs,hz.trans hp,rfl⟩
 by_cases hl0:lim=0
 ·subst hl0
  simp only[ic74l0_cut,hwl,h12,hu,Int.natCast_zero,beq_self_eq_true,evA,simprocAttr]
  refine (c97 hc hyl (by omega) hab hb).mono ?_
  rintro r τ' ⟨rfl,zs,hz,rfl⟩
  simp only[evA,simprocAttr]
  exact ⟨zs,hz.trans hp,rfl⟩
 have el:((lim:Int) == 0)=false:=beq_f (by omega)
 have hab':a<b:=by omega
 simp only[ic74l0_cut,hwl,h12,el,evA,simprocAttr]
 refine p74_3_ok hc hpp hpq hyl hn62 hab' hb (by omega) hlim fun zs lim1 w18 hz hl1=>?_
 replace hp:=hz.trans hp;clear hz;clear hyl;clear ys;rename List Sk=>ys
 have hyl:ys.length=n:=by rw[hp.length_eq,hn]
 simp only[hu,evA,simprocAttr]
 refine (c99 hc hpp hpq hyl (by omega) hab' hb).mono ?_
 rintro r τ' ⟨p,g,rfl,⟨hp1,hp2⟩,rfl⟩
 simp only[evA,simprocAttr]
 refine p74_5_ok hc hyl hn62 hab' hb hp1 hp2 fun zs p2 g2 w19 hz hp1 hp2=>?_
 replace hp:=hz.trans hp;clear hz;clear hyl;clear ys;rename List Sk=>ys
 have hyl:ys.length=n:=by rw[hp.length_eq,hn]
 simp only[evA,simprocAttr]
 refine p74_6_ok hc hyl hn62 hab' hb (fun zs w20 w21 hz=>?_) (fun zs w20 w21 hz=>?_)
 rotate_left
 ·simp only[evA,simprocAttr]
  exact ⟨zs,hz.trans hp,rfl⟩
 replace hp:=hz.trans hp;clear hz;clear hyl;clear ys;rename List Sk=>ys
 have hyl:ys.length=n:=by rw[hp.length_eq,hn]
 have lt8:((b-a:Nat):Int).tdiv 8=(((b-a) / 8:Nat):Int):=rfl
 have hwt:IntKind.i64.wrap (((b-a) / 8:Nat):Int)=(((b-a) / 8:Nat):Int):=ZC (by omega)
 generalize hth:(b-a) / 8=th at lt8 hwt
 by_cases ha0:(a:Int)>0
 ·have hwa:IntKind.i64.wrap ((a:Int)-1)=((a-1:Nat):Int):=by rw[ZC (by omega)];omega
  have iA:=fun σ=>sd_ia (l:=l) (o:=pre.length) (show (a-1)<n by omega) σ
  have lA:=hp_ld (pre:=pre) (post:=post) (xs:=ys) hl (k:=a-1) (by omega)
  have iC:=fun σ=>sd_ia (l:=l) (o:=pre.length) (show p2<n by omega) σ
  have lC:=hp_ld (pre:=pre) (post:=post) (xs:=ys) hl (k:=p2) (by omega)
  simp only[evA,simprocAttr]
  refine DW_s [13] [] hmix (by kernel_rfl) rfl ?_
  simp only[ha0,hwa,hu,iA,lA,iC,lC,evA,simprocAttr]
  refine YE (hc.hp ys ys[a-1]! ys[p2]!) rfl ?_
  generalize cf ys[a-1]! ys[p2]! = e
  by_cases hcn:e<0
  ·simp only[hcn,hu,evA,simprocAttr]
   refine (c103 hc hyl (by omega) hab' hb hp1 hp2).mono ?_
   rintro r τ' ⟨m,q,rfl,⟨hm1,hm2⟩,zs,hz,rfl⟩
   replace hp:=hz.trans hp
   have hzl:zs.length=n:=by rw[hp.length_eq,hn]
   have w1:IntKind.i64.wrap ((m:Int)-(a:Int))=((m-a:Nat):Int):=by rw[ZC (by omega)];omega
   have w2:IntKind.i64.wrap ((b:Int)-(m:Int))=((b-m:Nat):Int):=by rw[ZC (by omega)];omega
   have w3:IntKind.i64.wrap ((m:Int)+1)=((m+1:Nat):Int):=Q6 (by omega)
   by_cases hlr:((m-a:Nat):Int)<((b-m:Nat):Int)
   ·simp only[w1,w2,lt8,hwt,hlr,hu,evA,simprocAttr]
    refine (ih (m-a) (by omega) (a:=a) (b:=m) (lim:=lim1) (QG _) hm1 (by omega) (by omega) hzl).mono ?_
    rintro r τ' ⟨rfl,us,hus,rfl⟩
    simp only[w3,evA,simprocAttr]
    exact ZL (by first | trivial | omega) ⟨us,m+1,b,lim1,_,_,_,_,_,_,_,_,_,_,_,_,_,_,_,_,_,_,_,hus.trans hp,by omega,rfl⟩
   ·simp only[w1,w2,lt8,hwt,hlr,w3,hu,evA,simprocAttr]
    refine (ih (b-(m+1)) (by omega) (a:=m+1) (b:=b) (lim:=lim1) (QG _) (by omega) (by omega) (by omega) hzl).mono ?_
    rintro r τ' ⟨rfl,us,hus,rfl⟩
    simp only[evA,simprocAttr]
    exact ZL (by first | trivial | omega) ⟨us,a,m,lim1,_,_,_,_,_,_,_,_,_,_,_,_,_,_,_,_,_,_,_,hus.trans hp,by omega,rfl⟩
  ·simp only[hcn,hu,evA,simprocAttr]
   refine (c102 hc hyl (by omega) hab' hb hp1 hp2).mono ?_
   rintro r τ' ⟨m,rfl,⟨hm1,hm2⟩,zs,hz,rfl⟩
   simp only[evA,simprocAttr]
   exact ZL (by first | trivial | omega) ⟨zs,m,b,lim1,_,_,_,_,_,_,_,_,_,_,_,_,_,_,_,_,_,_,_,hz.trans hp,by omega,rfl⟩
 ·simp only[evA,simprocAttr]
  refine DW_s [13] [] hmix (by kernel_rfl) rfl ?_
  simp only[ha0,hu,evA,simprocAttr]
  refine (c103 hc hyl (by omega) hab' hb hp1 hp2).mono ?_
  rintro r τ' ⟨m,q,rfl,⟨hm1,hm2⟩,zs,hz,rfl⟩
  replace hp:=hz.trans hp
  have hzl:zs.length=n:=by rw[hp.length_eq,hn]
  have w1:IntKind.i64.wrap ((m:Int)-(a:Int))=((m-a:Nat):Int):=by rw[ZC (by omega)];omega
  have w2:IntKind.i64.wrap ((b:Int)-(m:Int))=((b-m:Nat):Int):=by rw[ZC (by omega)];omega
  have w3:IntKind.i64.wrap ((m:Int)+1)=((m+1:Nat):Int):=Q6 (by omega)
  by_cases hlr:((m-a:Nat):Int)<((b-m:Nat):Int)
  ·simp only[w1,w2,lt8,hwt,hlr,hu,evA,simprocAttr]
   refine (ih (m-a) (by omega) (a:=a) (b:=m) (lim:=lim1) (QG _) hm1 (by omega) (by omega) hzl).mono ?_
   rintro r τ' ⟨rfl,us,hus,rfl⟩
   simp only[w3,evA,simprocAttr]
   exact ZL (by first | trivial | omega) ⟨us,m+1,b,lim1,_,_,_,_,_,_,_,_,_,_,_,_,_,_,_,_,_,_,_,hus.trans hp,by omega,rfl⟩
  ·simp only[w1,w2,lt8,hwt,hlr,w3,hu,evA,simprocAttr]
   refine (ih (b-(m+1)) (by omega) (a:=m+1) (b:=b) (lim:=lim1) (QG _) (by omega) (by omega) (by omega) hzl).mono ?_
   rintro r τ' ⟨rfl,us,hus,rfl⟩
   simp only[evA,simprocAttr]
   exact ZL (by first | trivial | omega) ⟨us,a,m,lim1,_,_,_,_,_,_,_,_,_,_,_,_,_,_,_,_,_,_,_,hus.trans hp,by omega,rfl⟩
set_option maxRecDepth 4000 in
theorem c52 (hc:CmpOk Tryz.prog cmp cf l τ) (hpp:QO 0 pre=true) (hpq:QO 0 post=true) (hn:xs.length=n) (hn62:n≤1024) :
  AC Tryz.prog 52 [.sl l pre.length n 2,cmp] (hpS τ l pre post xs) fun r τ'=>r=.tup []∧∃ ys:List Sk,ys.Perm xs∧τ'=hpS τ l pre post ys:=by
 refine ZF (fok52 true) (QC rfl) ?_
 have hu:=hc.un
 have hun:IntKind.u64.wrap (n:Int)=(n:Int):=wrapU (by omega)
 have hbl:bitLen n<2 ^ 60:=by
  unfold bitLen
  split
  ·decide
  ·have:Nat.log2 n≤n:=Nat.log2_le_self n
   omega
 simp only[ic52,hu,hun,evA,simprocAttr]
 refine (c75 hn62 _).run ?_
 simp only[hu,evA,simprocAttr]
 have:=c74 hc hpp hpq hn62 n (a:=0) (b:=n) (lim:=bitLen n) (xs:=xs) (by omega) (QF _) (QG _) hbl hn
 refine this.mono ?_
 rintro r τ' ⟨rfl,ys,hp,rfl⟩
 simp only[evA,simprocAttr]
 exact ⟨ys,hp,rfl⟩
end
end Go.Proofs.YtogjcmnopidfpaaGreat.AM

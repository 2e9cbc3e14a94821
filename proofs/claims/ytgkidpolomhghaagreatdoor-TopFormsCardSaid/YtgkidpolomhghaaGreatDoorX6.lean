/- Parts of the proof, joined: LeG2 to LeGl. -/
import Derived.Test.YtgkidpolomhghaaGreatDoorX5
set_option linter.unusedVariables false
set_option linter.unusedSimpArgs false
set_option linter.unusedSectionVars false
namespace Go.Proofs.YtgkidpolomhghaaGreatDoor.AM
variable [Dr]
open Go Pl
def ia75:IC:=(.region [jw 5 .mv [.v 11]])
def ib75:IC:=(.block 3 (.seq (.seq (.region [jL 2,jv 5,jd 12 76 [.t 0,.t 1]])
 (.cond 12 (.exit 3)
 .skip))
 (.seq (.dr [[],[],[1],[],[3],[2,4,2],[0,5,5],[6],[7],[7],[8,6,0,1,2,3,4,5,6,7,8],[9,10,0,1,2,3,4,5,6,7,8,9,10]] [jN 2 1,jL 2,jk 87 [.t 1],jv 5,jq (.bslice 1 1 [(.cv (.int .i64 0))] [(0,1)]) [.t 3],jq (.append 1 8) [.t 2,.t 4],jk 79 [.t 0,.t 5],jt 6,jx 0 7,jx 1 7,jt 8,jm 6 9])
 (.seq (.region [jv 6,jL 3,jw 13 (.bin .eql .int) [.t 0,.t 1]])
 (.cond 13 (.seq (.region [jL 2,jv 5,jq (.bslice 1 1 [(.cv (.int .i64 0))] [(0,1)]) [.t 1],jq (.append 1 8) [.t 0,.t 2],jq (.store 1) [.v 2,.t 3]])
 (.exit 1))
 .skip)))))
theorem ca75:QL Tryz.prog vs75 50 (nav [1,0,1,1,0,1,0,0,1,1,0,0,1,0,1,0,2] (Tryz.f75.body.getD .skip))=some ia75:=by kernel_rfl
theorem cb75:QL Tryz.prog vs75 50 (nav [1,0,1,1,0,1,0,0,1,1,0,0,1,0,1,0,3] (Tryz.f75.body.getD .skip))=some ib75:=by kernel_rfl
theorem renI (g:Nat→Nat) (zs:List Int):renO g (.cells (zs.map AV.i))=.cells (zs.map AV.i):=by
 have:=Qcb g (zs.map (.int .i64));rw[XW] at this;simp only[renO];exact congrArg AObj.cells this
theorem le87t {σ:List AObj} {p:Nat} {zs:List Int} (hl:zs.length≤100) (hp:rowOf σ p=some (zs.map AV.i)):AC Tryz.prog 87 [.sl p 0 zs.length 1] σ fun r τ=>r=.sl σ.length 0 zs.length 1∧τ=σ++[.cells (zs.map AV.i)]:=by
 refine (le87 hl hp).tidy ?_;rintro r τ ⟨rfl,rfl⟩;refine ⟨fun l=>if l<σ.length then l else l+1,.sl σ.length 0 zs.length 1,σ++[.cells (zs.map AV.i)],⟨fun l h=>if_pos h,fun a b h1 h2=>?_,by simp,?_,?_,fun l o h=>?_⟩,rfl,rfl⟩
 ·show (if a<σ.length then a else a+1)<(if b<σ.length then b else b+1);split <;> split <;> omega
 ·simp only[ren,Nat.lt_irrefl,if_false]
 ·simp[QR]
 ·rcases ZB l σ.length with hlt | hge
  ·rw[QE hlt] at h;exact .inl ⟨hlt,h,by rw[QE hlt];exact h⟩
  ·rw[QS hge] at h;have h0:l-σ.length=0:=by
    rcases XF (l-σ.length) with h1 | h1
    ·exact h1
    ·rw[QN (by simp;omega)] at h;cases h
   have hle:l=σ.length:=by omega
   subst hle;simp only[Nat.sub_self,List.getElem?_cons_zero,Option.some.injEq] at h;subst h;refine .inr ⟨objI _ _,?_⟩;rw[renI];simp
theorem B8 (d:Dy):E5 d []=TH d:=by
 unfold E5 TH;rw[show (tolL d.ls.length [] ([]:List Int).length).2=0 from rfl,ZV];refine V6 _ _ _ _ fun k hk=>?_
 have:gI (tolL d.ls.length [] ([]:List Int).length).1 k = -1:=by show gI (List.replicate d.ls.length (-1)) k = -1;unfold gI;simp[hk]
 rw[this];rfl
structure NxH (d:Dy) (acc:AV) (L:List Int) (H:List AObj):Prop where
 r0:rowOf H 0=some [.cv (minR d.mi),.cv (lesR d.ls)]
 r1:rowOf H 1=some [acc]
 r2:rowOf H 2=some [.i (TH d)]
 a:VH 3 1 H acc L.length (L.map (.int .i64))
 len:3≤H.length
theorem NxH.app {d:Dy} {acc:AV} {L:List Int} {H:List AObj} (h:NxH d acc L H) (J:List AObj):NxH d acc L (H++J) :=
 ⟨ZH h.r0 J,ZH h.r1 J,ZH h.r2 J,h.a.imp id fun ⟨l,h1,h2,h3,h4⟩=>⟨l,h1,h2,h3,ZH h4 J⟩,by have:=h.len;simp;omega⟩
theorem NxH.loop {d:Dy} {acc:AV} {L:List Int} {H:List AObj} (h:NxH d acc L H) {N:Nat} {r r':XC} (hN:3≤N) (hl:H[N]? = some (.loop r)):NxH d acc L (H.set N (.loop r')):=by
 have hne:∀ l cs,rowOf H l=some cs→N≠l:=fun l cs h e=>by subst e;rw[rowOf,hl] at h;cases h
 refine ⟨by rw[QX (by omega)];exact h.r0,by rw[QX (by omega)];exact h.r1,by rw[QX (by omega)];exact h.r2,h.a.imp id fun ⟨l,h1,h2,h3,h4⟩=>⟨l,h1,h2,h3,by rw[QX (hne l _ h4)];exact h4⟩,by simpa using h.len⟩
theorem NxH.push {d:Dy} {acc:AV} {L:List Int} {H:List AObj} (h:NxH d acc L H) (hL:L.length≤100) (z:Int) :
  ∃ (v':AV) (σ':List AObj),ZX 1 8 [acc,.sl H.length 0 1 1] (H++[.cells [.i z]])=some (v',σ')∧v'.isUndef=false∧v'.isSc=true∧cellsOf v'=[v']∧rowOf σ' 1=some [acc]∧NxH d v' (L++[z]) (σ'.set 1 (.cells [v']))∧∀ (i:Nat) (r:XC),H[i]? = some (.loop r)→(σ'.set 1 (.cells [v']))[i]? = some (.loop r):=by
 have h44:(2:Nat) ^ 44=17592186044416:=by decide
 obtain ⟨v',σ',h1,h2,h3,h4⟩:=K3 (by_:=8) (x:=[.int .i64 z]) h.len h.a rfl (by omega) (by omega);have hloop:∀ (i:Nat) (r:XC),H[i]? = some (.loop r)→σ'[i]? = some (.loop r):=by
  intro i r hi;have hil:=(QH.1 hi).1;rcases h.a with ⟨rfl,_,_⟩ | ⟨l,g1,rfl,g3,g4⟩
  ·have hnm:∀ J,(H++J)[i]? = some (.loop r):=fun J=>by rw[QE hil];exact hi
   simp only[ZX,QB] at h1;obtain ⟨new,_,n,_,h1⟩:=h1;split at h1
   ·cases h1;exact hnm _
   ·split at h1
    ·cases h1;rw[QW];exact hnm _
    ·cases h1
  ·have hne:l≠i:=fun e=>by subst e;rw[rowOf,hi] at g4;cases g4
   simp only[ZX,QB] at h1;obtain ⟨cs,_,new,_,n,_,h1⟩:=h1;split at h1
   ·cases h1;rw[QE (by simp;omega),QU hne,QE hil];exact hi
   ·cases h1
 have hrow:∀ l cs,l<3→rowOf H l=some cs→rowOf σ' l=some cs:=fun l cs hl hr=>by rw[rowOf,h3 l hl];exact hr
 have hlen:=h.len;refine ⟨v',σ',h1,h2.nu.1,h2.nu.2.1,h2.nu.2.2,hrow 1 _ (by omega) h.r1,⟨by rw[QX (by omega)];exact hrow 0 _ (by omega) h.r0,W0 (hrow 1 _ (by omega) h.r1),by rw[QX (by omega)];exact hrow 2 _ (by omega) h.r2,?_,by simp;omega⟩,fun i r hi=>?_⟩
 ·rw[QM,ZS];exact h2.imp id fun ⟨l,g1,g2,g3,g4⟩=>⟨l,g1,g2,g3,by rw[QX (by omega)];exact g4⟩
 ·have:1≠i:=fun e=>by
   subst e;have:=h.r1;rw[rowOf,hi] at this;cases this
  rw[QU this];exact hloop i r hi
theorem Qex (G:List AObj) (z:Int):ZX 1 8 [.cv .nils,.sl G.length 0 1 1] (G++[.cells [.i z]])=some (.sl (G.length+1) 0 1 1,G++[.cells [.i z],.cells [.i z]]):=by
 have hs:Z9 (G++[AObj.cells [.i z]]) 1 (.sl G.length 0 1 1)=some [.i z]:=by simp only[Z9,if_true,WW,HE,Option.bind_some];rfl
 have h1:1*1=[AV.i z].length∧1*8≤2 ^ 44∧1≤2 ^ 44∧[AV.i z].all AV.isSc=true:=⟨rfl,by decide,by decide,rfl⟩;simp only[ZX,hs,lenF,Option.bind_some];rw[if_neg (by decide),if_pos h1];simp
theorem clone_sl (G:List AObj) {L:List Int} (hl:L.length≤100) (z:Int):ZX 1 8 [.sl G.length 0 L.length 1,.sl (G.length+1) 0 1 1] (G++[.cells (L.map AV.i),.cells [.i z]])=some (.sl (G.length+2) 0 (L.length+1) 1,G++[.dead,.cells [.i z],.cells ((L++[z]).map AV.i)]):=by
 have hs:Z9 (G++[AObj.cells (L.map AV.i),.cells [.i z]]) 1 (.sl (G.length+1) 0 1 1)=some [.i z]:=by simp only[Z9,if_true,X9,MK,HE,Option.bind_some];rfl
 have h44:(2:Nat) ^ 44=17592186044416:=by decide
 have h1:True∧L.length*1≤(L.map AV.i).length∧1*1=[AV.i z].length∧(L.length+1)*8≤2 ^ 44∧L.length+1≤2 ^ 44∧[AV.i z].all AV.isSc=true:=⟨trivial,by simp,rfl,by omega,by omega,rfl⟩;simp only[ZX,WW,HE,hs,lenF,Option.bind_some];rw[if_pos h1,VW];simp[Q5]
theorem le75 (d:Dy) (hd:DyOk d):PC Tryz.prog 75 [dyV d] (ints (nxtL d)):=by
 refine ⟨ZF (fok75 true) (QC rfl) ?_,rfl⟩;have h12:=hd.l12;obtain ⟨bef0,hm0⟩:=le79 d hd [] (QF _) (fun i h=>absurd h (W5 _));rw[B8] at hm0;simp only[ic75,WI,cellsOf,evA,simprocAttr];refine hm0.call frz ?_;simp only[evA,simprocAttr];refine ZW d.ls.length (fun i s=>∃ L B acc H v4 v5 v6 v9 v10 v11 v12 v13,(NxSt d i L B∨(d.ls.length=0∧i=0∧L=[]))∧NxH d acc L H∧s=⟨[dyV d,.ptr 0 0,.ptr 1 0,.ptr 2 0,v4,v5,v6,.i d.ls.length,.i i,v9,v10,v11,v12,v13],H⟩) ?_ 0 (QF _) ⟨[],fun _=>false,.cv .nils,_,_,_,_,_,_,_,_,_,(by
  rcases XF d.ls.length with h | h
  ·exact .inr ⟨h,rfl,rfl⟩
  ·exact .inl (Qeh h)),⟨rfl,rfl,rfl,.inl ⟨rfl,rfl,rfl⟩,QC rfl⟩,rfl⟩
 rintro i s hi ⟨L,B,acc,H,v4,v5,v6,v9,v10,v11,v12,v13,hst,hH,rfl⟩;by_cases hin:i<d.ls.length
 ·have hst:NxSt d i L B:=by
   rcases hst with h | h
   ·exact h
   ·omega
  have hLl:=hst.len;have hp63:(2:Nat) ^ 63=9223372036854775808:=by decide
  have r0:=fun J=>ZH hH.r0 J
  simp only[ic75l0,QJ,hin,hH.r0,evA,simprocAttr];refine (le74 d i).call ?_;simp only[evA,simprocAttr];refine RW_g ia75 ib75 (gf:=121) (cap:=[.cv (.rp [minR d.mi,lesR d.ls] 0),.cv (.rp [.int .i64 i] 0)]) rfl (QC rfl) (fun l h=>by cases h) ca75 cb75 ?_;intro R hR;simp only[evA,simprocAttr] at hR ⊢;have hNl:(H++[AObj.loop R])[H.length]? = some (.loop R):=by simp
  obtain ⟨C,hC⟩:∃ C,C=XQ (J2 (canB d) d.ls.length (d.ls.length-i-1) i B) d.ls.length 0:=⟨_,rfl⟩;refine (Qdd d hd hin H.length (fun k τ=>NxH d acc L τ∧τ[H.length]? = some (.loop R)∧H.length+1≤τ.length∧XQ (J2 (canB d) d.ls.length (d.ls.length-i-1) i B) (d.ls.length-k) k=C)
   (fun τ=>0≤C∧∃ acc',NxH d acc' (L++[C]) τ∧τ[H.length]? = some (.loop (A8 R 1))) _ (by simp) ⟨hH.app _,hNl,by simp,hC.symm⟩ ?_ ?_).mono ?_
  ·rintro k τ hk hc ⟨h1,h2,h3,h4⟩;refine ⟨h1,h2,h3,?_⟩;obtain ⟨m,hm⟩:∃ m,d.ls.length-k=m+1:=⟨d.ls.length-k-1,by omega⟩;rw[hm] at h4;have hn:J2 (canB d) d.ls.length (d.ls.length-i-1) i B k=false:=by unfold J2;rw[hc];rfl
   rw[XQ,if_neg (by rw[hn];decide)] at h4;rw[show d.ls.length-(k+1)=m by omega];exact h4
  ·rintro k τ hk hc ⟨h1,h2,h3,h4⟩ h5;obtain ⟨m,hm⟩:∃ m,d.ls.length-k=m+1:=⟨d.ls.length-k-1,by omega⟩;have hm2:d.ls.length-(k+1)=m:=by omega
   rw[hm,XQ] at h4;refine YC_g hR h2 rfl (by decide) ?_;have x24:vs75.idxOf? 24=some 11:=by decide
   simp only[ia75,JM,x24,QW,QM,WW,X9,VW,EZ,Qau,CH,get_nz,get_ns,evA,simprocAttr];refine Qan hR h2 ?_;have g1:=h1.loop hH.len h2 (r':=KB R);have g2:(τ.set H.length (.loop (KB R)))[H.length]? = some (.loop (KB R)):=by simp[ZO];omega
   have g3:(τ.set H.length (.loop (KB R))).length=τ.length:=by simp
   simp only;generalize hG:τ.set H.length (AObj.loop (KB R))=G at g1 g2 g3 ⊢;simp only[ib75,g1.r1,evA,simprocAttr];refine (le76 L k (by omega)).call (.cons (GI g1.a.acc (fun _ _=>trivial)) (.cons (.c (.c _ trivial)) .nil)) ?_;have hback:∀ J,(G++J).set H.length (.loop R)=G.set H.length (.loop R)++J:=fun J=>by rw[YG _ _ (by omega)]
   have cont:∀ J,XQ (J2 (canB d) d.ls.length (d.ls.length-i-1) i B) m (k+1)=C→∃ τ2 J',(G++J).set H.length (.loop R)=τ2++J'∧H.length+1≤τ2.length∧(J'=[]∨∀ o∈τ2,Z3 τ2.length o=true)∧NxH d acc L τ2∧τ2[H.length]? = some (.loop R)∧H.length+1≤τ2.length∧XQ (J2 (canB d) d.ls.length (d.ls.length-i-1) i B) (d.ls.length-(k+1)) (k+1)=C:=fun J h =>
    ⟨G.set H.length (.loop R)++J,[],by rw[hback,ZU],by simp;omega,.inl rfl,(g1.loop hH.len g2).app J,by rw[QE (by simp;omega)];simp[ZO];omega,by simp;omega,by rw[hm2];exact h⟩
   cases hcon:L.contains (k:Int) with
   | true =>
    have hn:J2 (canB d) d.ls.length (d.ls.length-i-1) i B k=false:=by unfold J2;rw[hst.bb k hk,hcon,hc];rfl
    rw[if_neg (by rw[hn];decide)] at h4;simp only[evA,simprocAttr];refine RU hR g2 ?_;have:=cont [] h4;rw[ZU] at this;exact .inl ⟨rfl,by simpa using this⟩
   | false =>
   have htest:=Qei hst hin hk hc hcon;have hltL:∀ j,j<(L++[(k:Int)]).length→gI (L++[(k:Int)]) j<(d.ls.length:Int):=fun j _=>by
    rw[Qct];have:=hst.lt j;split
    ·exact this
    ·split <;> omega
   obtain ⟨bef1,hm1⟩:=le79 d hd (L++[(k:Int)]) (by simp[hst.len];omega) hltL;simp only[evA,simprocAttr];have e0:∀ J:List AObj,(G++J)[0]? = G[0]? := fun J=>QE (by omega)
   have g4:=g1.len;have e2:∀ J:List AObj,(G++J)[1]? = G[1]? := fun J=>QE (by omega)
   have hacc:=g1.a;rcases hacc with ⟨rfl,hL0,_⟩ | ⟨l,hl3,rfl,_,hrow⟩
   ·have hLn:L=[]:=ZT hL0;refine DW_s [6] [(0,2),(0,4),(0,5),(1,4),(2,4),(4,2)] hmix (by kernel_rfl) rfl ?_;simp only[g1.r0,g1.r1,evA,simprocAttr];refine MS (v:=.cv .nils) (τ:=G) (le87n G) (GH rfl rfl fun l o h1 h2=>absurd h1 h2) ?_;simp only[Qex,evA,simprocAttr];refine YE (v:=.tup [ints bef1,.i (E5 d (L++[(k:Int)]))]) (hm1.call (.cons (GE (k:=0) _ rfl) (.cons (U4 (fun _=>trivial) (by rw[hLn];rfl) (by rw[X9,hLn];rfl)) .nil)) ⟨rfl,rfl⟩) rfl ?_;obtain ⟨Q,hQ⟩:∃ Q,Q=G++[.cells [.i k],.cells [.i k]]:=⟨_,rfl⟩;have q0:Q[0]? = G[0]? := by rw[hQ];exact e0 _
    have q00:Q[1]? = G[1]? := by rw[hQ];exact e2 _
    have q1:NxH d (.cv .nils) L Q:=by rw[hQ];exact g1.app _
    have q2:Q[H.length]? = some (.loop (KB R)):=by rw[hQ,QE (by omega)];exact g2
    have q3:XQ (J2 (canB d) d.ls.length (d.ls.length-i-1) i B) m (k+1)=C→∃ τ2 J',Q.set H.length (.loop R)=τ2++J'∧H.length+1≤τ2.length∧(J'=[]∨∀ o∈τ2,Z3 τ2.length o=true)∧NxH d (.cv .nils) L τ2∧τ2[H.length]? = some (.loop R)∧H.length+1≤τ2.length∧XQ (J2 (canB d) d.ls.length (d.ls.length-i-1) i B) (d.ls.length-(k+1)) (k+1)=C:=fun h=>by rw[hQ];exact cont _ h
    rw[← hQ];clear hQ;simp only[e0,e2,q0,q00,q1.r2,htest,evA,simprocAttr];cases hcd:J2 (canB d) d.ls.length (d.ls.length-i-1) i B k with
    | false =>
     rw[hcd,if_neg (by decide)] at h4;simp only[evA,simprocAttr];exact RU hR q2 (.inl ⟨rfl,q3 h4⟩)
    | true =>
     rw[hcd,if_pos rfl] at h4;obtain ⟨v',σ',p1,p2,p3,p3b,p4,p5,p6⟩:=q1.push (by omega) (k:Int);simp only[q1.r1,p1,p2,p3,p3b,p4,evA,simprocAttr];refine Qdg (p6 _ _ q2) (.inr ⟨rfl,by omega,v',?_,?_⟩)
     ·rw[← h4];exact p5.loop hH.len (p6 _ _ q2)
     ·have:=(QH.1 (p6 _ _ q2)).1;rw[Z2 this]
   ·refine DW_s [6] [(0,2),(0,4),(0,5),(1,4),(2,4),(4,2)] hmix (by kernel_rfl) rfl ?_;simp only[g1.r0,g1.r1,evA,simprocAttr];rw[XW] at hrow;refine MS (v:=.sl G.length 0 L.length 1) (τ:=G++[.cells (L.map AV.i)]) ?_ ?_ ?_
    ·exact le87t (by omega) hrow
    ·refine ⟨by simp[QR],by simp,fun l2 o h1 h2=>?_⟩;rcases ZB l2 G.length with hlt | hge
     ·rw[QE hlt] at h1;exact absurd h1 h2
     ·rw[QS hge] at h1;have ho:o=.cells (L.map AV.i):=by
       have:=QZ h1;simpa using this
      subst ho;exact ⟨objI _ _,fun _=>trivial⟩
    simp only[QW,QM,evA,simprocAttr];simp only[clone_sl G (show L.length≤100 by omega),evA,simprocAttr];refine YE (v:=.tup [ints bef1,.i (E5 d (L++[(k:Int)]))]) (hm1.call (.cons (GE (k:=0) _ rfl) (.cons (U4 (fun _=>trivial) (by simp) (by rw[X9];rfl)) .nil)) ⟨rfl,rfl⟩) rfl ?_;obtain ⟨Q,hQ⟩:∃ Q,Q=G++[.dead,.cells [.i k],.cells ((L++[(k:Int)]).map AV.i)]:=⟨_,rfl⟩;have q0:Q[0]? = G[0]? := by rw[hQ];exact e0 _
    have q00:Q[1]? = G[1]? := by rw[hQ];exact e2 _
    have q1:NxH d (.sl l 0 L.length 1) L Q:=by rw[hQ];exact g1.app _
    have q2:Q[H.length]? = some (.loop (KB R)):=by rw[hQ,QE (by omega)];exact g2
    have q3:XQ (J2 (canB d) d.ls.length (d.ls.length-i-1) i B) m (k+1)=C→∃ τ2 J',Q.set H.length (.loop R)=τ2++J'∧H.length+1≤τ2.length∧(J'=[]∨∀ o∈τ2,Z3 τ2.length o=true)∧NxH d (.sl l 0 L.length 1) L τ2∧τ2[H.length]? = some (.loop R)∧H.length+1≤τ2.length∧XQ (J2 (canB d) d.ls.length (d.ls.length-i-1) i B) (d.ls.length-(k+1)) (k+1)=C:=fun h=>by rw[hQ];exact cont _ h
    rw[← hQ];clear hQ;simp only[e0,e2,q0,q00,q1.r2,htest,evA,simprocAttr];refine ⟨by rw[QN (by simp),QN (by omega)],?_⟩;cases hcd:J2 (canB d) d.ls.length (d.ls.length-i-1) i B k with
    | false =>
     rw[hcd,if_neg (by decide)] at h4;simp only[evA,simprocAttr];exact RU hR q2 (.inl ⟨rfl,q3 h4⟩)
    | true =>
     rw[hcd,if_pos rfl] at h4;obtain ⟨v',σ',p1,p2,p3,p3b,p4,p5,p6⟩:=q1.push (by omega) (k:Int);simp only[q1.r1,p1,p2,p3,p3b,p4,evA,simprocAttr];refine Qdg (p6 _ _ q2) (.inr ⟨rfl,by omega,v',?_,?_⟩)
     ·rw[← h4];exact p5.loop hH.len (p6 _ _ q2)
     ·have:=(QH.1 (p6 _ _ q2)).1;rw[Z2 this]
  ·rintro r τ ⟨rfl,h | h⟩
   ·obtain ⟨h1,h2,h3,h4⟩:=h;rw[Nat.sub_self] at h4;have hC1:C = -1:=h4.symm;have hs:=AB hst hin;rw[← hC,hC1] at hs;refine M9 hR h2 ?_;have g1:=h1.loop hH.len h2 (r':=Qby R);generalize τ.set H.length (.loop (Qby R))=G at g1;obtain ⟨v',σ',p1,p2,p3,p3b,p4,p5,p6⟩:=g1.push (by omega) (-1);simp only[g1.r1,p1,p2,p3,p3b,p4,Q6 (show i+1<2 ^ 63 by omega),evA,simprocAttr];exact ZL (by first | trivial | omega) ⟨_,_,_,_,_,_,_,_,_,_,_,_,.inl hs,p5,rfl⟩
   ·obtain ⟨h0,acc',h1,h2⟩:=h;have hs:=AB hst hin;rw[← hC] at hs;refine after_x (R:=R) h2 (QbM ?_);have g1:=h1.loop hH.len h2 (r':={ A8 R 1 with state:=.exhausted,pending:=some (.exit 1) });generalize τ.set H.length (.loop { A8 R 1 with state:=.exhausted,pending:=some (.exit 1) })=G at g1;simp only[Q6 (show i+1<2 ^ 63 by omega),evA,simprocAttr];exact ZL (by first | trivial | omega) ⟨_,_,_,_,_,_,_,_,_,_,_,_,.inl hs,g1,rfl⟩
 ·have hin':i=d.ls.length:=by omega
  have hL:L=nxtL d:=by
   rcases hst with h | ⟨h1,h2,h3⟩
   ·have:=h.tl;rw[hin',Nat.sub_self] at this;simpa[nxL] using this.symm
   ·rw[h3];unfold nxtL;rw[h1];rfl
  have hnu:=hH.a.nu;have hset:rowOf (H.set 1 (.cells [acc])) 1=some [acc]:=W0 hH.r1;subst hin';simp only[ic75l0,QJ,hin,hH.r1,hnu,hset,evA,simprocAttr];rw[← hL];exact GI (p:=scl) (e:=1) (hH.a.imp id fun ⟨l,h1,h2,h3,h4⟩=>⟨l,h2,h3,by rw[QX (by omega)];exact h4⟩) (sclI _)
def ia78:IC:=(.region [jw 4 .mv [.v 9]])
def ib78:IC:=(.block 3 (.region [jL 2,jL 3,jv 4,jq (.build [(.cv (.int .i64 0)),(.cv (.int .i64 0))] [(0,1),(1,1)]) [.t 1,.t 2],jq (.bslice 2 1 [(.cv (.int .i64 0)),(.cv (.int .i64 0))] [(0,2)]) [.t 3],jq (.append 2 16) [.t 0,.t 4],jq (.store 1) [.v 2,.t 5]]))
theorem ca78:QL Tryz.prog vs78 24 (nav [1,0,1,0,0,1,1,0,0,1,1,0,2] (Tryz.f78.body.getD .skip))=some ia78:=by kernel_rfl
theorem cb78:QL Tryz.prog vs78 24 (nav [1,0,1,0,0,1,1,0,0,1,1,0,3] (Tryz.f78.body.getD .skip))=some ib78:=by kernel_rfl
def prsK (d:Dy) (i k:Nat):List (Nat × Nat):=((List.range k).filter (canB d i)).map fun j=>(i,j)
def prsL (d:Dy) (i:Nat):List (Nat × Nat):=(List.range i).flatMap fun a=>prsK d a d.ls.length
abbrev prC (p:Nat × Nat):List CV:=[.int .i64 (p.1:Nat),.int .i64 (p.2:Nat)]
theorem S8 (d:Dy) (i k:Nat):prsK d i (k+1)=prsK d i k++if canB d i k=true then [(i,k)] else []:=by
 unfold prsK;rw[WM,List.filter_append,ZS];congr 1;by_cases h:canB d i k=true <;> simp[h]
theorem Qbc (d:Dy) (i k:Nat):(prsK d i k).length≤k:=by
 unfold prsK;rw[ZK];have:=HC (canB d i) (List.range k);simpa using this
theorem S7 (d:Dy) (i:Nat):prsL d (i+1)=prsL d i++prsK d i d.ls.length:=by
 unfold prsL;rw[WM,List.flatMap_append];simp
theorem IV (d:Dy):∀ i,(prsL d i).length≤i*d.ls.length
 | 0=>by simp[prsL]
 | i+1=>by rw[S7,QM,XJ];have:=IV d i;have:=Qbc d i d.ls.length;omega
theorem QbK {b e by_ n:Nat} {σ:List AObj} {v:AV} {cs x:List CV} (hb0:b≤σ.length) (h:VH b e σ v n cs) (hx:x.length=e) (hb:(n+1)*by_≤2 ^ 44) (hn:n+1≤2 ^ 44) :
  ∃ (v':AV) (σ':List AObj),ZX e by_ [v,.sl σ.length 0 1 e] (σ++[AObj.cells (x.map .cv)])=some (v',σ')∧VH b e σ' v' (n+1) (cs++x)∧(∀ i,i<b→σ'[i]? = σ[i]?)∧σ.length≤σ'.length∧∀ (i:Nat) (o:AObj),σ[i]? = some o→(∀ c,o=.cells c→c.length≠n*e)→σ'[i]? = some o:=by
 obtain ⟨v',σ',h1,h2,h3,h4⟩:=K3 (by_:=by_) hb0 h hx hb hn;refine ⟨v',σ',h1,h2,h3,h4,fun i o hi ho=>?_⟩;have hil:=(QH.1 hi).1;rcases h with ⟨rfl,_,_⟩ | ⟨l,g1,rfl,g3,g4⟩
 ·have hnm:∀ J,(σ++J)[i]? = some o:=fun J=>by rw[QE hil];exact hi
  simp only[ZX,QB] at h1;obtain ⟨new,_,m,_,h1⟩:=h1;split at h1
  ·cases h1;exact hnm _
  ·split at h1
   ·cases h1;rw[QW];exact hnm _
   ·cases h1
 ·have hne:l≠i:=fun e=>by
   subst e;have:=WO g4;rw[hi] at this;cases this;exact ho _ rfl (by simp[g3])
  simp only[ZX,QB] at h1;obtain ⟨cs,_,new,_,m,_,h1⟩:=h1;split at h1
  ·cases h1;rw[QE (by simp;omega),QU hne,QE hil];exact hi
  ·cases h1
structure PrH (d:Dy) (acc:AV) (ps:List (Nat × Nat)) (H:List AObj):Prop where
 r0:rowOf H 0=some [.cv (minR d.mi),.cv (lesR d.ls)]
 r1:rowOf H 1=some [acc]
 a:VH 2 2 H acc ps.length (ps.flatMap prC)
 len:2≤H.length
theorem PrH.app {d:Dy} {acc:AV} {ps:List (Nat × Nat)} {H:List AObj} (h:PrH d acc ps H) (J:List AObj):PrH d acc ps (H++J) :=
 ⟨ZH h.r0 J,ZH h.r1 J,h.a.imp id fun ⟨l,h1,h2,h3,h4⟩=>⟨l,h1,h2,h3,ZH h4 J⟩,by have:=h.len;simp;omega⟩
theorem PrH.loop {d:Dy} {acc:AV} {ps:List (Nat × Nat)} {H:List AObj} (h:PrH d acc ps H) {N:Nat} {r r':XC} (hN:2≤N) (hl:H[N]? = some (.loop r)):PrH d acc ps (H.set N (.loop r')):=by
 have hne:∀ l cs,rowOf H l=some cs→N≠l:=fun l cs h e=>by subst e;rw[rowOf,hl] at h;cases h
 refine ⟨by rw[QX (by omega)];exact h.r0,by rw[QX (by omega)];exact h.r1,h.a.imp id fun ⟨l,h1,h2,h3,h4⟩=>⟨l,h1,h2,h3,by rw[QX (hne l _ h4)];exact h4⟩,by simpa using h.len⟩
theorem le78 (d:Dy) (hd:DyOk d):PC Tryz.prog 78 [dyV d] (.cv (.rsl ((prsL d d.ls.length).flatMap prC) (prsL d d.ls.length).length)):=by
 have h12:=hd.l12;refine ⟨ZF (fok78 true) (QC rfl) ?_,rfl⟩;simp only[ic78,WI,cellsOf,evA,simprocAttr];refine ZW d.ls.length (fun i s=>∃ acc H v3 v4 v7 v8 v9,PrH d acc (prsL d i) H∧s=⟨[dyV d,.ptr 0 0,.ptr 1 0,v3,v4,.i d.ls.length,.i i,v7,v8,v9],H⟩) ?_ 0 (QF _) ⟨.cv .nils,_,_,_,_,_,_,⟨rfl,rfl,.inl ⟨rfl,rfl,rfl⟩,QC rfl⟩,rfl⟩;rintro i s hi ⟨acc,H,v3,v4,v7,v8,v9,hH,rfl⟩;by_cases hin:i<d.ls.length
 ·have hpl:=IV d i;have hp12:i*d.ls.length≤12*12:=Nat.mul_le_mul (by omega) h12;have hp44:(2:Nat) ^ 44=17592186044416:=by decide
  have hp63:(2:Nat) ^ 63=9223372036854775808:=by decide
  have hH1:=hH.app [.cells [.i i]];have hlen:=hH.len;simp only[ic78l0,QJ,hin,WW,VW,hH1.r0,evA,simprocAttr];refine (le74 d i).call ?_;simp only[evA,simprocAttr];refine RW_g ia78 ib78 (gf:=121) (cap:=[.cv (.rp [minR d.mi,lesR d.ls] 0),.cv (.rp [.int .i64 i] 0)]) rfl (QC rfl) (fun l h=>by cases h) ca78 cb78 ?_;intro R hR;simp only[QW,QM,evA,simprocAttr] at hR ⊢;refine (Qdd d hd hin (H.length+1) (fun k τ=>∃ acc',PrH d acc' (prsL d i++prsK d i k) τ∧τ[H.length]? = some (.cells [.i i])∧τ[H.length+1]? = some (.loop R)∧H.length+2≤τ.length) (fun _=>False) _ (by simp) ⟨acc,by rw[show prsK d i 0=[] from rfl,ZU];exact hH.app _,by simp,by simp,by simp⟩ ?_ ?_).mono ?_
  ·rintro k τ hk hc ⟨acc',h1,h2,h3,h4⟩;refine ⟨acc',?_,h2,h3,h4⟩;rw[S8,if_neg (by rw[hc];decide),ZU];exact h1
  ·rintro k τ hk hc ⟨acc',h1,h2,h3,h4⟩ _;have hpk:=Qbc d i k;refine YC_g hR h3 rfl (by decide) ?_;have x15:vs78.idxOf? 15=some 9:=by decide
   simp only[ia78,JM,x15,QW,QM,WW,X9,VW,EZ,Qau,CH,get_nz,get_ns,evA,simprocAttr];refine Qan hR h3 ?_;have g1:=h1.loop (N:=H.length+1) (by omega) h3 (r':=KB R);have g2:(τ.set (H.length+1) (.loop (KB R)))[H.length]? = some (.cells [.i i]):=by rw[QU (by omega)];exact h2
   have g3:(τ.set (H.length+1) (.loop (KB R)))[H.length+1]? = some (.loop (KB R)):=Z2 (by omega);have g4:(τ.set (H.length+1) (.loop (KB R))).length=τ.length:=by simp
   simp only;generalize τ.set (H.length+1) (AObj.loop (KB R))=G at g1 g2 g3 g4 ⊢;have g5:rowOf G H.length=some [.i i]:=by rw[rowOf,g2]
   obtain ⟨v',σ',p1,p2,p3,p4,p5⟩:=QbK (by_:=16) (x:=prC (i,k)) g1.len g1.a rfl (by rw[QM];omega) (by rw[QM];omega);have pn:=p2.nu;have q1:rowOf σ' 1=some [acc']:=by rw[rowOf,p3 1 (by omega)];exact g1.r1
   simp only[Q0,WS] at p1;simp only[ib78,g1.r1,g5,p1,pn,q1,evA,simprocAttr];have q2:(σ'.set 1 (.cells [v']))[H.length+1]? = some (.loop (KB R)):=by rw[QU (by omega)];exact p5 _ _ g3 (fun c h=>by cases h)
   have q3:(σ'.set 1 (.cells [v']))[H.length]? = some (.cells [.i i]):=by rw[QU (by omega)];exact p5 _ _ g2 (fun c h=>by cases h;simp;omega)
   refine RU hR q2 (.inl ⟨rfl,_,[],(ZU _).symm,by simp;omega,.inl rfl,v',?_,by rw[QU (by omega)];exact q3,Z2 (by simp;omega),by simp;omega⟩);have q4:PrH d v' (prsL d i++prsK d i (k+1)) (σ'.set 1 (.cells [v'])):=by rw[S8,if_pos hc,← QW];refine ⟨by rw[QX (by omega),rowOf,p3 0 (by omega)];exact g1.r0,W0 q1,?_,by simp;omega⟩;rw[QM,List.flatMap_append];exact p2.imp id fun ⟨l,a1,a2,a3,a4⟩=>⟨l,a1,a2,a3,by rw[QX (by omega)];exact a4⟩
   exact q4.loop (by omega) q2
  ·rintro r τ ⟨rfl,h | h⟩
   ·obtain ⟨acc',h1,h2,h3,h4⟩:=h;refine M9 hR h3 ?_;have g1:=h1.loop (N:=H.length+1) (by omega) h3 (r':=Qby R);generalize τ.set (H.length+1) (.loop (Qby R))=G at g1;rw[← S7] at g1;simp only[Q6 (show i+1<2 ^ 63 by omega),evA,simprocAttr];exact ZL (by first | trivial | omega) ⟨_,_,_,_,_,_,_,g1,rfl⟩
   ·exact h.elim
 ·have hin':i=d.ls.length:=by omega
  have hnu:=hH.a.nu;have hset:rowOf (H.set 1 (.cells [acc])) 1=some [acc]:=W0 hH.r1;subst hin';simp only[ic78l0,QJ,hin,hnu,hH.r1,hset,evA,simprocAttr];refine GI (p:=scl) (e:=2) (hH.a.imp id fun ⟨l,h1,h2,h3,h4⟩=>⟨l,h2,h3,by rw[QX (by omega)];exact h4⟩) fun c hc=>?_
  obtain ⟨q,_,hq⟩:=YM.1 hc;simp only[prC,ZD,WK,or_false] at hq;rcases hq with rfl | rfl <;> trivial
theorem le129 (x y:Int):PC Tryz.prog 129 [.i x,.i y] (.b (decide (x<y))):=by
 refine ⟨ZF (fok129 true) (QC rfl) ?_,rfl⟩;simp only[ic129,evA,simprocAttr];refine (c117 x).call frz ?_;simp only[evA,simprocAttr];exact frz
theorem le85 (zs:List Int) (hz:zs.length<2 ^ 40):∃ b:Bool,(b=true↔∀ i,i+1<zs.length→gI zs i≤gI zs (i+1))∧PC Tryz.prog 85 [ints zs] (.b b):=by
 have hp:(2:Nat) ^ 40=1099511627776:=by decide
 by_cases hs:∀ i,i+1<zs.length→gI zs i≤gI zs (i+1)
 ·refine ⟨true,by simpa using hs,ZF (fok85 true) (QC rfl) ?_,rfl⟩;have hw:IntKind.i64.wrap ((zs.length:Int)-1)=(zs.length:Int)-1:=ZC (by omega);simp only[ic85,hw,evA,simprocAttr];refine ZW zs.length (fun t s=>∃ v3 v4,s=⟨[ints zs,.b false,.i ((zs.length:Int)-1-t),v3,v4],[]⟩) ?_ 0 (QF _) ⟨.undef,.undef,by simp⟩;rintro t s ht ⟨v3,v4,rfl⟩;by_cases h:t+1<zs.length
  ·obtain ⟨i,hi⟩:∃ i:Nat,zs.length=t+1+(i+1):=⟨zs.length-t-2,by omega⟩;have hb:decide ((zs.length:Int)-1-t>0)=true:=decide_eq_true (by omega);have he:(zs.length:Int)-1-t=((i+1:Nat):Int):=by omega
   have hw1:IntKind.i64.wrap (((i+1:Nat):Int)-1)=(i:Int):=by rw[ZC (by omega)];omega
   have hi1:i+1<zs.length:=by omega
   have hi0:i<zs.length:=by omega
   have hlt:decide (zs[i+1]?.getD 0<zs[i]?.getD 0)=false:=decide_eq_false (by have:=hs i hi1;show ¬ gI zs (i+1)<gI zs i;omega);have he2:((i:Nat):Int)=(zs.length:Int)-1-((t+1:Nat):Int):=by omega
   rw[he] at hb ⊢;simp only[ic85l0,hb,evA,simprocAttr];refine DW_s [9] [] hmix (by kernel_rfl) rfl ?_;simp only[hw1,J5 hi1,J4 hi1,J5 hi0,J4 hi0,WA,evA,simprocAttr];refine YE ((le129 _ _).call frz ⟨rfl,rfl⟩) rfl ?_;simp only[hlt,hw1,evA,simprocAttr];refine ZL (by omega) ⟨.b true,.b false,?_⟩;rw[← he2]
  ·have hb:decide ((zs.length:Int)-1-t>0)=false:=decide_eq_false (by omega);simp only[ic85l0,hb,evA,simprocAttr];exact frz
 ·have hex:∃ i,i+1<zs.length∧gI zs (i+1)<gI zs i∧∀ j,i<j→j+1<zs.length→gI zs j≤gI zs (j+1):=by
   have key:∀ m,(∀ j,m≤j→j+1<zs.length→gI zs j≤gI zs (j+1))∨∃ i,i+1<zs.length∧gI zs (i+1)<gI zs i∧∀ j,i<j→j+1<zs.length→gI zs j≤gI zs (j+1):=by
    intro m;have gen:∀ t m,zs.length-m=t→(∀ j,m≤j→j+1<zs.length→gI zs j≤gI zs (j+1))∨∃ i,i+1<zs.length∧gI zs (i+1)<gI zs i∧∀ j,i<j→j+1<zs.length→gI zs j≤gI zs (j+1):=by
     intro t
     induction t with
     | zero=>intro m hm;exact .inl fun j h1 h2=>by omega
     | succ t ih =>
      intro m hm;rcases ih (m+1) (by omega) with h | h
      ·by_cases hle:m+1<zs.length∧gI zs (m+1)<gI zs m
       ·exact .inr ⟨m,hle.1,hle.2,fun j hj=>h j (by omega)⟩
       ·refine .inl fun j h1 h2=>?_
        rcases Nat.eq_or_lt_of_le h1 with rfl | h3
        ·rcases Int.lt_or_le (gI zs (m+1)) (gI zs m) with h4 | h4
         ·exact absurd ⟨h2,h4⟩ hle
         ·exact h4
        ·exact h j h3 h2
      ·exact .inr h
    exact gen _ m rfl
   rcases key 0 with h | h
   ·exact absurd (fun i hi=>h i (QF _) hi) hs
   ·exact h
  obtain ⟨q,hq1,hq2,hq3⟩:=hex;refine ⟨false,by simpa using hs,ZF (fok85 true) (QC rfl) ?_,rfl⟩;have hw:IntKind.i64.wrap ((zs.length:Int)-1)=(zs.length:Int)-1:=ZC (by omega);simp only[ic85,hw,evA,simprocAttr];refine ZW (zs.length-q-2) (fun t s=>∃ v3 v4,s=⟨[ints zs,.b false,.i ((zs.length:Int)-1-t),v3,v4],[]⟩) ?_ 0 (QF _) ⟨.undef,.undef,by simp⟩;rintro t s ht ⟨v3,v4,rfl⟩;obtain ⟨i,hi⟩:∃ i:Nat,zs.length=t+1+(i+1):=⟨zs.length-t-2,by omega⟩;have hb:decide (((i+1:Nat):Int)>0)=true:=decide_eq_true (by omega);have he:(zs.length:Int)-1-t=((i+1:Nat):Int):=by omega
  have hw1:IntKind.i64.wrap (((i+1:Nat):Int)-1)=(i:Int):=by rw[ZC (by omega)];omega
  have hi1:i+1<zs.length:=by omega
  have hi0:i<zs.length:=by omega
  have he2:((i:Nat):Int)=(zs.length:Int)-1-((t+1:Nat):Int):=by omega
  rw[he];simp only[ic85l0,hb,evA,simprocAttr];refine DW_s [9] [] hmix (by kernel_rfl) rfl ?_;simp only[hw1,J5 hi1,J4 hi1,J5 hi0,J4 hi0,WA,evA,simprocAttr];refine YE ((le129 _ _).call frz ⟨rfl,rfl⟩) rfl ?_;by_cases h:t<zs.length-q-2
  ·have hlt:decide (zs[i+1]?.getD 0<zs[i]?.getD 0)=false:=decide_eq_false (by have:=hq3 i (by omega) hi1;show ¬ gI zs (i+1)<gI zs i;omega);simp only[hlt,hw1,evA,simprocAttr];refine ZL h ⟨.b true,.b false,?_⟩;rw[← he2]
  ·have hiq:i=q:=by omega
   subst hiq;have hlt:decide (zs[i+1]?.getD 0<zs[i]?.getD 0)=true:=decide_eq_true hq2;simp only[hlt,evA,simprocAttr];exact frz
theorem TA {p:Nat→Bool}:∀ (m off:Nat) (zs:List Int),∃ ws:List Int,setRange (zs.map AV.i) off (List.replicate m (.i 0))=ws.map AV.i∧ws.length=zs.length
 | 0,off,zs=>⟨zs,rfl,rfl⟩
 | m+1,off,zs=>by obtain ⟨ws,h1,h2⟩:=TA (p:=p) m (off+1) (zs.set off 0);refine ⟨ws,?_,by simpa using h2⟩;rw[List.replicate_succ,BQ,← h1,List.map_set]
theorem le86 {σ:List AObj} {p:Nat} (zs:List Int) (hz:zs.length≤2 ^ 39) (hr:rowOf σ p=some (zs.map AV.i)) :
  AC Tryz.prog 86 [.sl p 0 zs.length 1] σ fun r τ=>((∀ i,i+1<zs.length→gI zs i≠gI zs (i+1))∧r=.sl p 0 zs.length 1∧τ=σ)∨((∃ i,i+1<zs.length∧gI zs i=gI zs (i+1))∧∃ (k:Nat) (ws:List Int),k<zs.length∧r=.sl p 0 k 1∧τ=σ.set p (.cells (ws.map AV.i))):=by
 have hp:(2:Nat) ^ 39=549755813888:=by decide
 have hpl:=(QH.1 (WO hr)).1;refine ZF (fok86 true) (QC rfl) ?_;by_cases h2:(zs.length:Int)<2
 ·simp only[ic86,h2,evA,simprocAttr];exact .inl fun i hi=>by omega
 simp only[ic86,h2,evA,simprocAttr];refine ZW zs.length (fun t s=>(∀ i,i<t→i+1<zs.length→gI zs i≠gI zs (i+1))∧∃ v3 v4 v6 v7 v8 v9,s=⟨[.sl p 0 zs.length 1,.cv .nils,.i (t+1:Nat),v3,v4,.b false,v6,v7,v8,v9],σ⟩) ?_ 0 (QF _) ⟨fun i hi=>absurd hi (W5 _),_,_,_,_,_,_,rfl⟩;rintro t s ht ⟨hall,v3,v4,v6,v7,v8,v9,rfl⟩;have hcond:(((t+1:Nat):Int)<zs.length)↔t+1<zs.length:=QJ;by_cases h:t+1<zs.length
 ·have hd:decide (((t+1:Nat):Int)<zs.length)=true:=decide_eq_true (hcond.2 h);have ht0:t<zs.length:=by omega
  have hw1:IntKind.i64.wrap (((t+1:Nat):Int)-1)=(t:Int):=by rw[ZC (by omega)];omega
  have ld1:=V1 h;have ld0:=V1 ht0;simp only[ic86l1,hd,evA,simprocAttr];refine DW_s [] [] hmix (by kernel_rfl) rfl ?_;simp only[hw1,W9 h,W9 ht0,hr,ZV,ld1,ld0,evA,simprocAttr];by_cases heq:gI zs t=gI zs (t+1)
  ·have hb:(zs[t+1]?.getD 0 == zs[t]?.getD 0)=true:=beq_iff_eq.2 heq.symm;have hsl:=BP (l:=p) h;have hset0:σ=σ.set p (.cells (zs.map AV.i)):=by
    apply Z1;intro j;rw[ZO];by_cases hj:p=j
    ·subst hj;rw[if_pos rfl,if_pos hpl];exact WO hr
    ·rw[if_neg hj]
   simp only[hb,hsl,evA,simprocAttr];refine ZW (zs.length-(t+1)-1) (fun m s=>∃ (k:Nat) (ws:List Int) (v8 v9:AV),ws.length=zs.length∧k≤t+1+m∧t+1≤k∧(k=t+1∨k+1≤t+1+(m+1))∧s=⟨[.sl p 0 zs.length 1,.cv .nils,.i k,.sl p (t+1) (zs.length-(t+1)) 1,.i (m+1:Nat),.b false,.b true,.b true,v8,v9],σ.set p (.cells (ws.map AV.i))⟩) ?_ 0 (QF _) ⟨t+1,zs,_,_,rfl,by omega,by omega,.inl rfl,by rw[← hset0];rfl⟩;rintro m s hm ⟨k,ws,v8,v9,hwl,hk1,hk2,hk3,rfl⟩;have hrw:rowOf (σ.set p (.cells (ws.map AV.i))) p=some (ws.map AV.i):=W0 hr;by_cases hml:m+1<zs.length-(t+1)
   ·have hd2:decide (((m+1:Nat):Int)<(zs.length-(t+1):Nat))=true:=decide_eq_true (QJ.2 hml);have hm0:m<zs.length-(t+1):=by omega
    have hw2:IntKind.i64.wrap (((m+1:Nat):Int)-1)=(m:Int):=by rw[ZC (by omega)];omega
    have hw3:IntKind.i64.wrap (((m+1:Nat):Int)+1)=((m+1+1:Nat):Int):=by rw[ZC (by omega)];omega
    have l1:=V1 (zs:=ws) (k:=t+1+(m+1)) (by omega);have l0:=V1 (zs:=ws) (k:=t+1+m) (by omega);simp only[ic86l0,hd2,evA,simprocAttr];refine DW_s [] [] hmix (by kernel_rfl) rfl ?_;simp only[hw2,W9 hml,W9 hm0,hrw,l1,l0,evA,simprocAttr];cases hne:(ws[t+1+(m+1)]?.getD 0 != ws[t+1+m]?.getD 0) with
    | true =>
     have hkl:k<zs.length:=by omega
     have hkw:k+1≤ws.length:=by omega
     have hw4:IntKind.i64.wrap ((k:Int)+1)=((k+1:Nat):Int):=by rw[ZC (by omega)];omega
     simp only[W9 hml,W9 hkl,hrw,l1,ZV,ZK,hkw,GC,List.set_set,hw4,hw3,evA,simprocAttr];exact ZL (by omega) ⟨k+1,ws.set k _,_,_,by simp[hwl],by omega,by omega,.inr (by omega),rfl⟩
    | false =>
     simp only[hw3,evA,simprocAttr];exact ZL (by omega) ⟨k,ws,_,_,hwl,by omega,by omega,(by omega),rfl⟩
   ·have hd2:decide (((m+1:Nat):Int)<(zs.length-(t+1):Nat))=false:=decide_eq_false fun h=>hml (QJ.1 h)
    have hkn:k<zs.length:=by omega
    obtain ⟨us,u1,u2⟩:=TA (p:=fun _=>true) (zs.length-k) k ws;have hcl:UN [.i 0] [.sl p k (zs.length-k) 1] (σ.set p (.cells (ws.map AV.i)))=some (.tup [],σ.set p (.cells (us.map AV.i))):=by have c1:1=[AV.i 0].length∧k+(zs.length-k)*1≤(ws.map AV.i).length∧[AV.i 0].all AV.isSc=true:=⟨rfl,by simp;omega,rfl⟩;simp only[UN,hrw,Option.bind_some];rw[if_pos c1];simp only[YW];rw[u1,List.set_set]
    simp only[ic86l0,hd2,BP hkn,hcl,Qb1 (Nat.le_of_lt hkn),evA,simprocAttr];exact .inr ⟨⟨t,h,heq⟩,k,us,hkn,rfl,rfl⟩
  ·have hb:(zs[t+1]?.getD 0 == zs[t]?.getD 0)=false:=beq_eq_false_iff_ne.2 fun h=>heq h.symm
   have hw3:IntKind.i64.wrap (((t+1:Nat):Int)+1)=((t+1+1:Nat):Int):=by rw[ZC (by omega)];omega
   simp only[hb,hw3,evA,simprocAttr];refine ZL (by omega) ⟨fun i hi hl=>?_,_,_,_,_,_,_,rfl⟩;rcases QQ.1 hi with hi | rfl
   ·exact hall i hi hl
   ·exact heq
 ·have hd:decide (((t+1:Nat):Int)<zs.length)=false:=decide_eq_false fun h'=>h (hcond.1 h')
  simp only[ic86l1,hd,evA,simprocAttr];exact .inl fun i hi=>hall i (by omega) hi
theorem le86n (σ:List AObj):AC Tryz.prog 86 [.cv .nils] σ fun r τ=>r=.cv .nils∧τ=σ:=by
 refine ZF (fok86 true) (QC rfl) ?_;simp only[ic86,evA,simprocAttr]
def prCs (ps:List (Nat × Nat)):List CV:=ps.flatMap prC
theorem Qd4 (p:Nat × Nat):(prC p).length=2:=rfl
theorem prCs_len (l:List (Nat × Nat)):(prCs l).length=l.length*2:=UG Qd4 l
theorem pr_ld {l:List (Nat × Nat)} {k:Nat} (h:k<l.length) (σ:List AObj):YF 2 [.cv (.rp (prCs l) (k*2))] σ=some (.agg [.i ((l[k]!).1:Nat),.i ((l[k]!).2:Nat)],σ):=by
 have h1:k*2+2≤(prCs l).length:=by rw[prCs_len];omega
 have h2:=G3 Qd4 h;simp only[YF,h1,if_true];unfold prCs;rw[h2];rfl
theorem LC {d:Dy} {p:Nat × Nat}:p∈prsL d d.ls.length↔p.1<d.ls.length∧p.2<d.ls.length∧canB d p.1 p.2=true:=by
 unfold prsL prsK;simp only[YM,ZI,ZP,YB];constructor
 ·rintro ⟨a,ha,j,⟨hj,hc⟩,rfl⟩;exact ⟨ha,hj,hc⟩
 ·rintro ⟨h1,h2,h3⟩;exact ⟨p.1,h1,p.2,⟨h2,h3⟩,rfl⟩
def opnP (p q:List Int) (x:Nat × Nat):Bool:=!p.contains (x.1:Int) && !q.contains (x.2:Int)
def SlV (v:AV) (zs:List Int):Prop:=(v=ints zs∧zs≠[])∨(v=.cv .nils∧zs=[])
theorem SlV.frz {v:AV} {zs:List Int} (h:SlV v zs) (σ:List AObj):FrzV anyC σ v (ints zs):=by
 rcases h with ⟨rfl,_⟩ | ⟨rfl,rfl⟩
 ·exact .c (.c _ trivial)
 ·exact RY
theorem le89 {p q:List Int} {pv qv:CV} (hp:SlV (.cv pv) p) (hq:SlV (.cv qv) q) (lp:p.length<2 ^ 63) (lq:q.length<2 ^ 63) (x:Nat × Nat) (σ:List AObj):AC Tryz.prog 89 [.agg [.i (x.1:Nat),.i (x.2:Nat)],.cv (.rp [pv] 0),.cv (.rp [qv] 0)] σ fun r τ=>r=.b (opnP p q x)∧τ=σ:=by
 refine AC.cutF ?_ rfl;refine ZF (fok89 true) (QC rfl) ?_;simp only[ic89,WI,cellsOf,WW,evA,simprocAttr];refine (le76 p x.1 lp).call (.cons (hp.frz _) (.cons (.c (.c _ trivial)) .nil)) ?_;unfold opnP;cases h1:p.contains (x.1:Int) with
 | true =>
  simp only[Y2,Bool.false_and,evA,simprocAttr];exact ⟨_,rfl⟩
 | false =>
  simp only[ZY,XI,WW,evA,simprocAttr];refine (le76 q x.2 lq).call (.cons (hq.frz _) (.cons (.c (.c _ trivial)) .nil)) ?_;simp only[evA,simprocAttr];exact ⟨_,rfl⟩
theorem le130 (ps:List (Nat × Nat)) (fv:AV) (g:Nat × Nat→Bool) (hz:ps.length<2 ^ 63) (hf:∀ x σ,X0 Tryz.prog fv [.agg [.i (x.1:Nat),.i (x.2:Nat)]] σ fun r τ=>r=.b (g x)∧τ=σ) (σ:List AObj) :
  AC Tryz.prog 130 [.cv (.rsl (prCs ps) ps.length),fv] σ fun r τ=>(∃ z:Int,r=.i z∧decide (z≥0)=ps.any g)∧τ=σ:=by
 refine ZF (fok130 true) (QC rfl) ?_;simp only[ic130,evA,simprocAttr];refine ZW ps.length (fun i s=>(∀ j,j<i→g ps[j]! = false)∧∃ v2 v3 v6 v7,s=⟨[.cv (.rsl (prCs ps) ps.length),fv,v2,v3,.i ps.length,.i i,v6,v7],σ⟩) ?_ 0 (QF _) ⟨by omega,_,_,_,_,rfl⟩;rintro i s hi ⟨hall,v2,v3,v6,v7,rfl⟩;by_cases h:i<ps.length
 ·simp only[ic130l0,QJ,h,XP h,pr_ld h,evA,simprocAttr];refine (hf _ _).run ?_;cases hp:g ps[i]!
  ·simp only[evA,simprocAttr];refine ZL (by first | trivial | omega) ⟨fun j hj=>?_,_,_,_,_,by rw[ZC (by omega)];rfl⟩;rcases QQ.1 hj with hj | rfl
   ·exact hall j hj
   ·exact hp
  ·simp only[evA,simprocAttr];have:ps.any g=true:=ZZ.2 ⟨ps[i]!,by rw[getElem!_pos ps i h];exact Q2 _,hp⟩;rw[this];exact decide_eq_true (by omega)
 ·have:i=ps.length:=by omega
  subst this;simp only[ic130l0,QJ,h,evA,simprocAttr];have:ps.any g=false:=by rw[W6];intro x hx;obtain ⟨j,hj,rfl⟩:=WN.1 hx;have:=hall j hj;rw[getElem!_pos ps j hj] at this;rw[this];decide
  rw[this]
theorem le88 (ps:List (Nat × Nat)) (fv:AV) (g:Nat × Nat→Bool) (hz:ps.length<2 ^ 63) (hf:∀ x σ,X0 Tryz.prog fv [.agg [.i (x.1:Nat),.i (x.2:Nat)]] σ fun r τ=>r=.b (g x)∧τ=σ) (σ:List AObj) :
  AC Tryz.prog 88 [.cv (.rsl (prCs ps) ps.length),fv] σ fun r τ=>r=.b (ps.any g)∧τ=σ:=by
 refine ZF (fok88 true) (QC rfl) ?_;simp only[ic88,evA,simprocAttr];refine (le130 ps fv g hz hf _).mono ?_;rintro r τ ⟨⟨z,rfl,hz⟩,rfl⟩;simp only[hz,evA,simprocAttr]
theorem le87c {v:AV} {zs:List Int} (h:SlV v zs) (hl:zs.length<2 ^ 40) (σ:List AObj):AC Tryz.prog 87 [v] σ fun r τ=>(r=.cv .nils∧zs=[]∧τ=σ)∨(zs≠[]∧r=.sl (σ.length+1) 0 zs.length 1∧τ=σ++[.dead,.cells (zs.map AV.i)]):=by
 rcases h with ⟨rfl,hne⟩ | ⟨rfl,rfl⟩
 ·refine ZF (fok87 true) (QC rfl) ?_;obtain ⟨m,hm⟩:∃ m,zs.length=m+1:=⟨zs.length-1,by have:=List.length_pos_iff.2 hne;omega⟩;have hb:binF .eql .slc (ints zs) (.cv .nils)=some (.b false):=by
   unfold ints;rw[hm];rfl
  have h40:(2:Nat) ^ 40=1099511627776:=by decide
  have ha:ZX 1 8 [.sl σ.length 0 0 1,ints zs] (σ++[.cells []])=some (.sl (σ.length+1) 0 zs.length 1,σ++[.dead,.cells (zs.map AV.i)]):=by
   have hs:Z9 (σ++[AObj.cells []]) 1 (ints zs)=some (zs.map AV.i):=by simp only[Z9,ZK,W3,if_true,XW];rfl
   have h2:True∧0*1≤([]:List AV).length∧zs.length*1=(zs.map AV.i).length∧(0+zs.length)*8≤2 ^ 44∧0+zs.length≤2 ^ 44∧(zs.map AV.i).all AV.isSc=true:=by
    have:(2:Nat) ^ 44=17592186044416:=by decide
    exact ⟨trivial,by simp,by simp,by omega,by omega,Qa3 zs⟩
   simp only[ZX,WW,HE,hs,lenF,Option.bind_some];rw[if_pos h2,VW];simp
  simp only[ic87,hb,ha,evA,simprocAttr];exact .inr hne
 ·exact (le87n σ).mono fun r τ ⟨h1,h2⟩=>.inl ⟨h1,rfl,h2⟩
theorem BW {zs:List Int}:HT zs=true↔∀ i,i+1<zs.length→gI zs i<gI zs (i+1):=by
 unfold HT;rw[Q1];constructor
 ·intro h i hi;exact of_decide_eq_true (h i (by simp;omega))
 ·intro h i hi;have:i<zs.length-1:=by simpa using hi
  exact decide_eq_true (h i (by omega))
theorem open_any (d:Dy) (p q:List Int):openB d p q=(prsL d d.ls.length).any (opnP p q):=by
 unfold openB opnP;rw[Q8];simp only[ZZ,ZI,QD,LC,Prod.exists];constructor
 ·rintro ⟨i,hi,k,hk,⟨hc,h1⟩,h2⟩;exact ⟨i,k,⟨hi,hk,hc⟩,h1,h2⟩
 ·rintro ⟨i,k,⟨hi,hk,hc⟩,h1,h2⟩;exact ⟨i,hi,k,hk,⟨hc,h1⟩,h2⟩
theorem Qad (x:Int):(if x>0 then x else 0)=max 0 x:=by split <;> omega
theorem le33 (d:Dy) (hd:DSz d) {p q:List Int} {pv qv:CV} (hp:SlV (.cv pv) p) (hq:SlV (.cv qv) q) (lp:p.length<2 ^ 39) (lq:q.length<2 ^ 39):PC Tryz.prog 33 [dyV d,.cv pv,.cv qv] (proA d p q):=by
 have h39:(2:Nat) ^ 39=549755813888:=by decide
 have h40:(2:Nat) ^ 40=1099511627776:=by decide
 have h63:(2:Nat) ^ 63=9223372036854775808:=by decide
 refine ⟨ZF (fok33 true) (QC rfl) ?_,rfl⟩;simp only[ic33,WI,cellsOf,evA,simprocAttr];refine (le72 d hd).call ?_;unfold proA proL;by_cases he:(dyE d).2.2=0
 ·have hb:((dyE d).2.2 != 0)=false:=by simpa using he
  have hok:=LO he;have h12:=hok.l12;have hw:IntKind.i64.wrap ((d.ls.length:Int)-1)=(d.ls.length:Int)-1:=ZC (by omega);rw[if_neg (fun h=>h he)];simp only[hb,he,hw,evA,simprocAttr];refine (le63 0 ((d.ls.length:Int)-1) p (by omega)).call (.cons (.c (.c _ trivial)) (.cons (.c (.c _ trivial)) (.cons (hp.frz _) .nil))) ?_;cases h1:outF 0 ((d.ls.length:Int)-1) p with
  | true =>
   simp only[US,evA,simprocAttr];exact frz
  | false =>
  simp only[Y3,evA,simprocAttr];refine (le63 0 ((d.ls.length:Int)-1) q (by omega)).call (.cons (.c (.c _ trivial)) (.cons (.c (.c _ trivial)) (.cons (hq.frz _) .nil))) ?_;cases h2:outF 0 ((d.ls.length:Int)-1) q with
  | true =>
   simp only[evA,simprocAttr];exact frz
  | false =>
  simp only[evA,simprocAttr];have rise_of:∀ zs:List Int,(∀ i,i+1<zs.length→gI zs i≤gI zs (i+1))→(∀ i,i+1<zs.length→gI zs i≠gI zs (i+1))→HT zs=true:=fun zs a b=>BW.2 fun i hi=>by have:=a i hi;have:=b i hi;omega
  have hnr:∀ zs:List Int,(zs=p∨zs=q)→HT zs=false→(HT p&&HT q)=false:=by rintro zs (rfl | rfl) h <;> simp[h]
  refine ZW 2 (fun i s=>(1≤i→HT p=true)∧(2≤i→HT q=true)∧∃ v10 v16 v17,s=⟨[dyV d,.cv pv,.cv qv,.ptr 0 0,.ptr 1 0,.ptr 2 0,.i 0,.i 0,.ptr 3 0,.i ((d.ls.length:Int)-1),v10,.b false,.b false,.sl 4 0 2 1,.i 2,.i i,v16,v17,.undef],[.cells [.cv (minR d.mi),.cv (lesR d.ls)],.cells [.cv pv],.cells [.cv qv],.cells [.cv (minR d.mi),.cv (lesR d.ls)],.cells [.cv pv,.cv qv]]⟩) ?_ 0 (QF _) ⟨by omega,by omega,_,_,_,rfl⟩;rintro i s hi ⟨hi1,hi2,v10,v16,v17,rfl⟩;have hob:∀ o∈[AObj.cells [.cv (minR d.mi),.cv (lesR d.ls)],.cells [.cv pv],.cells [.cv qv],.cells [.cv (minR d.mi),.cv (lesR d.ls)],.cells [.cv pv,.cv qv]],Z3 5 o=true:=by intro o ho;simp only[ZD,WK,or_false] at ho;rcases ho with rfl | rfl | rfl | rfl | rfl <;> rfl
  by_cases h:i<2
  ·obtain ⟨v,zs,g1,g2,g3,g4,g5⟩:∃ (v:CV) (zs:List Int),([AV.cv pv,.cv qv])[i]? = some (.cv v)∧SlV (.cv v) zs∧zs.length<2 ^ 39∧(zs=p∨zs=q)∧(HT zs=true→(1≤i+1→HT p=true)∧(2≤i+1→HT q=true)):=by
    match i,h with
    | 0,_=>exact ⟨pv,p,rfl,hp,lp,.inl rfl,fun h=>⟨fun _=>h,fun h=>by omega⟩⟩
    | 1,_=>exact ⟨qv,q,rfl,hq,lq,.inr rfl,fun h=>⟨fun _=>hi1 (by omega),fun _=>h⟩⟩
   have hd:decide ((i:Int)<2)=true:=decide_eq_true (by omega);have hw2:IntKind.i64.wrap ((i:Int)+1)=((i+1:Nat):Int):=by rw[ZC (by omega)];rfl
   obtain ⟨b,hbi,h85⟩:=le85 zs (by omega);simp only[ic33l0,hd,W9 h,ZV,g1,evA,simprocAttr];refine h85.call (.cons (g2.frz _) .nil) ?_;cases b with
   | false =>
    have hr:HT zs=false:=by
     cases hr:HT zs with
     | false=>rfl
     | true=>exact absurd (hbi.2 fun i hi=>Int.le_of_lt (BW.1 hr i hi)) (by decide)
    rw[if_pos (hnr zs g4 hr)];simp only[ZY,evA,simprocAttr];exact frz
   | true =>
   simp only[Y2,evA,simprocAttr];refine (le87c g2 (by omega) _).mono ?_;rintro r τ (⟨rfl,hz,rfl⟩ | ⟨hne,rfl,rfl⟩)
   ·rcases g2 with ⟨_,hn⟩ | ⟨hv,_⟩
    ·exact absurd hz hn
    cases hv;simp only[evA,simprocAttr];refine (le86n _).run ?_;simp only[hw2,evA,simprocAttr];have hr:HT zs=true:=by rw[hz];rfl
    exact ZL (by first | trivial | omega) ⟨fun _=>(g5 hr).1 (by omega),fun _=>(g5 hr).2 (by omega),_,_,_,rfl⟩
   ·rcases g2 with ⟨hv,_⟩ | ⟨_,hn⟩
    ·cases hv;simp only[evA,simprocAttr];refine (le86 (p:=6) zs (by omega) rfl).mono ?_;rintro r τ (⟨ha,rfl,rfl⟩ | ⟨⟨j,hj,he2⟩,k,ws,hk,rfl,rfl⟩)
     ·have hlt:decide ((zs.length:Int)<zs.length)=false:=decide_eq_false (by omega);simp only[hlt,hw2,evA,simprocAttr];have hr:=rise_of zs (hbi.1 rfl) ha;refine W1 [.cells [.cv (minR d.mi),.cv (lesR d.ls)],.cells [.cv pv],.cells [.cv qv],.cells [.cv (minR d.mi),.cv (lesR d.ls)],.cells [.cv pv,.cv qv]] _ rfl (by first | trivial | omega) (QF _) hob ⟨fun _=>(g5 hr).1 (by omega),fun _=>(g5 hr).2 (by omega),_,_,_,rfl⟩
     ·have hlt:decide ((k:Int)<zs.length)=true:=decide_eq_true (by omega);have hr:HT zs=false:=by
       cases hr:HT zs with
       | false=>rfl
       | true=>have:=BW.1 hr j hj;omega
      rw[if_pos (hnr zs g4 hr)];simp only[hlt,evA,simprocAttr];exact frz
    ·exact absurd hn hne
  ·have hie:i=2:=by omega
   subst hie;have r1:=hi1 (by omega);have r2:=hi2 (by omega);rw[r1,r2,if_neg (by decide),open_any];simp only[ic33l0,evA,simprocAttr];refine (le78 d hok).call frz ?_;have hpl:=IV d d.ls.length;have hpl2:d.ls.length*d.ls.length≤12*12:=Nat.mul_le_mul h12 h12;simp only[evA,simprocAttr];have h88:PC Tryz.prog 88 [.cv (.rsl (prCs (prsL d d.ls.length)) (prsL d d.ls.length).length),.fn (.func 89) [.cv (.rp [pv] 0),.cv (.rp [qv] 0)]] (.b ((prsL d d.ls.length).any (opnP p q))) :=
    ⟨(le88 (prsL d d.ls.length) (.fn (.func 89) [.cv (.rp [pv] 0),.cv (.rp [qv] 0)]) (opnP p q) (by omega) (fun x σ=>le89 hp hq (by omega) (by omega) x σ) []).mono fun r τ h=>by rw[h.1];exact .c (.c _ trivial),rfl⟩
   refine h88.call (.cons (.c (.c _ trivial)) (.cons (.fn (.cons (.c (.ptr 1 0 _ _ rfl (.cons (.c _ trivial) .nil))) (.cons (.c (.ptr 2 0 _ _ rfl (.cons (.c _ trivial) .nil))) .nil))) .nil)) ?_;cases hop:(prsL d d.ls.length).any (opnP p q) with
   | true =>
    simp only[evA,simprocAttr];exact frz
   | false =>
    have hw1:IntKind.i64.wrap ((d.ls.length:Int)-p.length)=(d.ls.length:Int)-p.length:=ZC (by omega);have hw2:IntKind.i64.wrap ((d.ls.length:Int)-p.length-q.length)=(d.ls.length:Int)-p.length-q.length:=ZC (by omega);rcases hp with ⟨hv,_⟩ | ⟨hv,rfl⟩ <;> rcases hq with ⟨hv2,_⟩ | ⟨hv2,rfl⟩ <;> cases hv <;> cases hv2
    ·simp only[hw1,hw2,Qad,evA,simprocAttr];exact .tup (.cons (.c (.c _ trivial)) (.cons (.c (.c _ trivial)) .nil))
    ·simp only[hw1,evA,simprocAttr];have:IntKind.i64.wrap ((d.ls.length:Int)-p.length-0)=(d.ls.length:Int)-p.length-0:=ZC (by omega);simp only[this,Qad,evA,simprocAttr];exact .tup (.cons (.c (.c _ trivial)) (.cons (.c (.c _ trivial)) .nil))
    ·have h0:IntKind.i64.wrap ((d.ls.length:Int)-0)=(d.ls.length:Int)-0:=ZC (by omega);have h1:IntKind.i64.wrap ((d.ls.length:Int)-0-q.length)=(d.ls.length:Int)-0-q.length:=ZC (by omega);simp only[h0,h1,Qad,evA,simprocAttr];exact .tup (.cons (.c (.c _ trivial)) (.cons (.c (.c _ trivial)) .nil))
    ·have h0:IntKind.i64.wrap ((d.ls.length:Int)-0)=(d.ls.length:Int)-0:=ZC (by omega);have h1:IntKind.i64.wrap ((d.ls.length:Int)-0-0)=(d.ls.length:Int)-0-0:=ZC (by omega);simp only[h0,h1,Qad,evA,simprocAttr];exact .tup (.cons (.c (.c _ trivial)) (.cons (.c (.c _ trivial)) .nil))
 ·have hb:((dyE d).2.2 != 0)=true:=by simpa using he
  rw[if_pos he];simp only[hb,evA,simprocAttr];exact frz
theorem aw_few:fewL exP [2,1,1]=([2,3,3],600,0):=by decide +kernel
theorem aw_flo:floL exP [2,1,1] [1000,0,1000]=(3,0):=by decide +kernel
theorem aw_flo2:floL exP [2,1,1] [600,500,0]=(0,2):=by decide +kernel
theorem QdI:(dyE exD).2.2=0:=by decide +kernel
theorem aw_fol:folL exD=[[1,3],[3],[3],[]]:=by decide +kernel
theorem aw_cha:chaL exD=[[0,1,3],[2]]:=by decide +kernel
theorem aw_bef:cvBef exD=[]:=by decide +kernel
theorem aw_beh:cvBeh exD=[1,3]:=by decide +kernel
theorem aw_pro:proL exD [0] [3]=(2,0):=by decide +kernel
theorem aw_pln:plnE exL=0:=by decide +kernel
theorem aw_brk:brL exL=(5,1,2):=by decide +kernel
theorem aw_h1:hrF (·.le) exL.le.length exL.day.ls exL.day.ls.length=[60,60,45,60]:=by decide +kernel
theorem aw_h2:hrF (·.te) exL.te.length exL.day.ls exL.day.ls.length=[225]:=by decide +kernel
theorem aw_h3:hrF (·.ca) exL.ca.length exL.day.ls exL.day.ls.length=[60,60,45,60]:=by decide +kernel
theorem exDz:DSz exD:=⟨by decide,by decide,by decide +kernel⟩
theorem exSz:SSz exS:=⟨by decide,by decide,by decide +kernel,by decide +kernel,by decide +kernel⟩
theorem exLz:PSz exL:=⟨exSz,by decide,by decide,by decide,by decide +kernel,exDz⟩
end Go.Proofs.YtgkidpolomhghaaGreatDoor.AM
namespace Go.Proofs.YtgkidpolomhghaaGreatDoor.AM
open Go
def FO:List Int:=[0,1,56,2,57,49,28,3,61,58,42,50,38,29,17,4,62,47,59,36,45,43,51,22,53,39,33,30,24,18,12,5,63,55,48,27,60,41,37,16,46,35,44,21,52,32,23,11,54,26,40,15,34,20,31,10,25,14,19,9,13,8,7,6]
instance drLes:Dr:=⟨False,[(1,FO.map (.int .u8))]⟩
abbrev vs155:List Nat:=[0,2,4]
def ic155:IC:=(.seq (.region [jz 1 0])
 (.seq (.seq (.region [jv 0,jw 2 (.bin .eql .int) [.t 0,.c (.cv (.int .u64 0))]])
 (.cond 2 (.seq (.region [jz 1 64])
 .ret)
 .skip))
 (.seq (.region [jv 0,jv 0,jq (.bin .sub .int) [.t 1],jq (.bin .and .int) [.t 0,.t 2],jq (.bin .mul .int) [.t 3,.c (.cv (.int .u64 285870213051353865))],jq (.bin .shr .int) [.t 4,.c (.cv (.int .u64 58))],jq (.iaA 64 1) [.c (.cv (.rp (FO.map (.int .u8)) 0)),.t 5],jl 6,jq (.conv .i64) [.t 7],jm 1 8])
 .ret)))
abbrev rs155:List RC:=[(.v 1)]
theorem fok155 (p:Bool):FnOk Tryz.prog 155 ⟨ic155,vs155,14,rs155,p⟩:=.mk2 Tryz.func155 (by kernel_rfl) (by kernel_rfl) (by kernel_rfl) (by kernel_rfl) (by kernel_rfl)
end Go.Proofs.YtgkidpolomhghaaGreatDoor.AM
namespace Go.Proofs.YtgkidpolomhghaaGreatDoor.AM
open Go Pl
def W64 (n:Nat):Nat:=n % 18446744073709551616
theorem FM (a:Nat):IntKind.u64.wrap (a:Int)=((W64 a:Nat):Int):=by
 unfold IntKind.wrap W64;simp[IntKind.bits,IntKind.signed]
theorem uand (a b:Nat):IntKind.u64.wrap ((BitVec.ofInt IntKind.u64.bits (a:Int) &&& BitVec.ofInt IntKind.u64.bits (b:Int)).toNat:Int)=((W64 a &&& W64 b:Nat):Int):=by
 show IntKind.u64.wrap (((BitVec.ofInt 64 (a:Int) &&& BitVec.ofInt 64 (b:Int)).toNat:Nat):Int)=_;rw[BitVec.ofInt_natCast,BitVec.ofInt_natCast,FM,BitVec.toNat_and,BitVec.toNat_ofNat,BitVec.toNat_ofNat];show ((W64 (W64 a &&& W64 b):Nat):Int)=_;congr 1;refine Nat.mod_eq_of_lt (WJ Nat.and_le_left ?_);exact Nat.mod_lt _ (by decide)
theorem uadd (a b:Nat):IntKind.u64.wrap ((a:Int)+(b:Int))=((W64 (a+b):Nat):Int):=FM (a+b)
theorem umul (a b:Nat):IntKind.u64.wrap ((a:Int)*(b:Int))=((W64 (a*b):Nat):Int):=FM (a*b)
theorem uneg (a:Nat):IntKind.u64.wrap (0-(a:Int))=((W64 (18446744073709551616-W64 a):Nat):Int):=by
 unfold IntKind.wrap W64;simp only[IntKind.bits,IntKind.signed,Bool.false_and,QT,if_false];omega
theorem ushr (a k:Nat) (hk:k≤64):VK .shr .u64 (a:Int) (k:Int)=some (.cv (.int .u64 ((a >>> k:Nat):Int))):=by
 have h0:¬ ((k:Int)<0):=by omega
 have h1:min (k:Int).toNat IntKind.u64.bits=k:=by rw[Int.toNat_natCast];exact VD hk
 simp only[VK];rw[if_neg h0,h1];have:(a:Int).fdiv (2 ^ k)=((a >>> k:Nat):Int):=by
  rw[Int.fdiv_eq_ediv_of_nonneg _ (Int.pow_nonneg (by decide)),JR]
  push_cast
  rfl
 rw[this]
theorem i_and127 (a:Nat):IntKind.i64.wrap ((BitVec.ofInt IntKind.i64.bits (IntKind.i64.wrap (a:Int)) &&& BitVec.ofInt IntKind.i64.bits 127).toNat:Int)=((W64 a &&& 127:Nat):Int):=by
 show IntKind.i64.wrap (((BitVec.ofInt 64 (IntKind.i64.wrap (a:Int)) &&& BitVec.ofInt 64 127).toNat:Nat):Int)=_;have h1:BitVec.ofInt 64 (IntKind.i64.wrap (a:Int))=BitVec.ofNat 64 a:=by apply BitVec.eq_of_toNat_eq;rw[BitVec.toNat_ofInt,BitVec.toNat_ofNat];unfold IntKind.wrap;simp only[IntKind.bits,IntKind.signed,XI];split <;> omega
 have h2:BitVec.ofInt 64 127=BitVec.ofNat 64 127:=by decide
 rw[h1,h2,BitVec.toNat_and,BitVec.toNat_ofNat,BitVec.toNat_ofNat];show IntKind.i64.wrap (((W64 a &&& 127:Nat)):Int)=_;have:W64 a &&& 127≤127:=Nat.and_le_right;exact ZC (by omega)
def popN:Nat→Nat→Nat
 | 0,_=>0
 | k+1,x=>popN k x+if x.testBit k then 1 else 0
def QcL (p:Nat→Bool):Nat→Bool
 | 0=>true
 | n+1=>p n&&QcL p n
theorem C2 {p:Nat→Bool}:∀ {n:Nat},QcL p n=true→∀ x,x<n→p x=true
 | n+1,h,x,hx=>by
  rw[QcL,QD] at h;rcases QQ.1 hx with h1 | rfl
  ·exact C2 h.2 x h1
  ·exact h.1
def p1 (x:Nat):Nat:=W64 ((W64 (x >>> 1) &&& W64 6148914691236517205)+(W64 x &&& W64 6148914691236517205))
def p2 (x:Nat):Nat:=W64 ((W64 (x >>> 2) &&& W64 3689348814741910323)+(W64 x &&& W64 3689348814741910323))
def p3 (x:Nat):Nat:=W64 (W64 (x >>> 4+x)) &&& W64 1085102592571150095
def p4 (k x:Nat):Nat:=W64 (x+x >>> k)
def popF (x:Nat):Nat:=W64 (p4 32 (p4 16 (p4 8 (p3 (p2 (p1 x)))))) &&& 127
theorem pop_chk:QcL (fun x=>Nat.beq (popF x) (popN 12 x)) 4096=true:=by decide +kernel
theorem Qdy (x:Nat):∀ k,cnt k (bit (x:Int))=popN k x
 | 0=>rfl
 | k+1=>by rw[cnt,popN,Qdy x k];rfl
theorem le127 (x:Nat) (h:x<4096):PC Tryz.prog 127 [.cv (.int .u64 x)] (.i (cnt 12 (bit x))):=by
 refine ⟨ZF (fok127 true) (QC rfl) ?_,rfl⟩;have he:popF x=popN 12 x:=ZJ (C2 pop_chk x h);have s1:∀ a:Nat,VK .shr .u64 (a:Int) 1=some (.cv (.int .u64 ((a >>> 1:Nat):Int))):=fun a=>ushr a 1 (by decide)
 have s2:∀ a:Nat,VK .shr .u64 (a:Int) 2=some (.cv (.int .u64 ((a >>> 2:Nat):Int))):=fun a=>ushr a 2 (by decide)
 have s4:∀ a:Nat,VK .shr .u64 (a:Int) 4=some (.cv (.int .u64 ((a >>> 4:Nat):Int))):=fun a=>ushr a 4 (by decide)
 have s8:∀ a:Nat,VK .shr .u64 (a:Int) 8=some (.cv (.int .u64 ((a >>> 8:Nat):Int))):=fun a=>ushr a 8 (by decide)
 have s16:∀ a:Nat,VK .shr .u64 (a:Int) 16=some (.cv (.int .u64 ((a >>> 16:Nat):Int))):=fun a=>ushr a 16 (by decide)
 have s32:∀ a:Nat,VK .shr .u64 (a:Int) 32=some (.cv (.int .u64 ((a >>> 32:Nat):Int))):=fun a=>ushr a 32 (by decide)
 have m1:∀ a:Nat,IntKind.u64.wrap ((BitVec.ofInt IntKind.u64.bits (a:Int) &&& BitVec.ofInt IntKind.u64.bits 6148914691236517205).toNat:Int)=((W64 a &&& W64 6148914691236517205:Nat):Int):=fun a=>uand a 6148914691236517205
 have m2:∀ a:Nat,IntKind.u64.wrap ((BitVec.ofInt IntKind.u64.bits (a:Int) &&& BitVec.ofInt IntKind.u64.bits 3689348814741910323).toNat:Int)=((W64 a &&& W64 3689348814741910323:Nat):Int):=fun a=>uand a 3689348814741910323
 have m3:∀ a:Nat,IntKind.u64.wrap ((BitVec.ofInt IntKind.u64.bits (a:Int) &&& BitVec.ofInt IntKind.u64.bits 1085102592571150095).toNat:Int)=((W64 a &&& W64 1085102592571150095:Nat):Int):=fun a=>uand a 1085102592571150095
 rw[Qdy,← he];simp only[ic127,s1,s2,s4,s8,s16,s32,m1,m2,m3,uadd,i_and127,evA,simprocAttr];exact frz
theorem le80 (x:Nat) (h:x<4096):PC Tryz.prog 80 [.cv (.int .u64 x)] (.i (cnt 12 (bit x))):=by
 refine ⟨ZF (fok80 true) (QC rfl) ?_,rfl⟩;simp only[ic80,evA,simprocAttr];refine (le127 x h).call frz ?_;simp only[evA,simprocAttr];exact frz
def tzE (x:Nat):Nat:=W64 ((W64 x &&& W64 (W64 (18446744073709551616-W64 x)))*285870213051353865) >>> 58
def tzN (x:Nat):Nat:=(FO.getD (tzE x) 0).toNat
def TX:Nat→Nat→List Nat
 | 0,_=>[]
 | k+1,x=>TX k x++if x.testBit k then [k] else []
def eqL:List Nat→List Nat→Bool
 | [],[]=>true
 | a::as_,b::bs=>Nat.beq a b&&eqL as_ bs
 | _,_=>false
theorem Qdu:∀ {a b:List Nat},eqL a b=true→a=b
 | [],[],_=>rfl
 | a::as_,b::bs,h=>by simp only[eqL,QD] at h;rw[ZJ h.1,Qdu h.2]
 | [],_::_,h=>by simp[eqL] at h
 | _::_,[],h=>by simp[eqL] at h
def chkT (x:Nat):Bool:=Nat.beq x 0||(Nat.blt (tzE x) 64&&eqL (TX 12 x) (tzN x::TX 12 (x &&& (x-1)))&&Nat.beq (popN 12 (x &&& (x-1))+1) (popN 12 x))
theorem tz_chk:QcL chkT 4096=true:=by decide +kernel
theorem tz_at {x:Nat} (h0:0<x) (h:x<4096):tzE x<64∧TX 12 x=tzN x::TX 12 (x &&& (x-1))∧popN 12 (x &&& (x-1))+1=popN 12 x:=by
 have h1:=C2 tz_chk x h;unfold chkT at h1;have h2:Nat.beq x 0=false:=by
  cases hb:Nat.beq x 0 with
  | false=>rfl
  | true=>have:=ZJ hb;omega
 rw[h2,Y3,QD,QD] at h1;exact ⟨(Nat.blt_eq ▸ h1.1.1:tzE x<64),Qdu h1.1.2,ZJ h1.2⟩
theorem CZ (x:Nat):∀ k,YS k (bit (x:Int))=(TX k x).map fun (j:Nat)=>(j:Int)
 | 0=>rfl
 | k+1=>by have hb:bit (x:Int) k=x.testBit k:=rfl;rw[ET,TX,ZS,CZ x k,hb];by_cases h:x.testBit k=true <;> simp[h]
theorem tab_nn:∀ z∈FO,0≤z:=by decide
theorem tab_tz {x:Nat} (h:tzE x<64):FO[tzE x]? = some ((tzN x:Nat):Int):=by
 have hl:FO.length=64:=rfl;have hi:tzE x<FO.length:=by omega
 have hm:=tab_nn _ (Q2 hi);rw[QI hi];unfold tzN;rw[WA,QI hi,Option.getD_some,VI hm]
theorem tz_lt (x:Nat):tzN x<64:=by
 have hz:∀ z∈FO,z<64:=by decide
 unfold tzN;rw[WA];rcases ZB (tzE x) FO.length with h | h
 ·rw[QI h,Option.getD_some];have:=hz _ (Q2 h);omega
 ·rw[QN h];decide
theorem le155 (x:Nat) (h0:0<x) (h:x<4096):PC Tryz.prog 155 [.cv (.int .u64 x)] (.i (tzN x)):=by
 refine ⟨ZF (fok155 true) (QC rfl) ?_,rfl⟩;have hb:((x:Int) == 0)=false:=beq_eq_false_iff_ne.2 (by omega);have s58:∀ a:Nat,VK .shr .u64 (a:Int) 58=some (.cv (.int .u64 ((a >>> 58:Nat):Int))):=fun a=>ushr a 58 (by decide)
 have hm:∀ a:Nat,IntKind.u64.wrap ((a:Int)*285870213051353865)=((W64 (a*285870213051353865):Nat):Int):=fun a=>umul a 285870213051353865
 have ht:=(tz_at h0 h).1;have hia:∀ σ,PD 64 1 [.cv (.rp (FO.map (.int .u8)) 0),.cv (.int .u64 (tzE x:Nat))] σ=some (.cv (.rp (FO.map (.int .u8)) (tzE x)),σ):=fun σ=>by
  have h1:0≤((tzE x:Nat):Int)∧((tzE x:Nat):Int)<(64:Nat):=by omega
  simp only[PD];rw[if_pos h1,Int.toNat_natCast,W3,ZV]
 have hld:(FO.map (CV.int .u8))[tzE x]? = some (.int .u8 ((tzN x:Nat):Int)):=by rw[ZR,tab_tz ht];rfl
 have hw:IntKind.i64.wrap ((tzN x:Nat):Int)=((tzN x:Nat):Int):=by have:=tz_lt x;exact ZC (by omega)
 have hE:W64 ((W64 x &&& W64 (W64 (18446744073709551616-W64 x)))*285870213051353865) >>> 58=tzE x:=rfl;simp only[ic155,hb,uneg,uand,hm,s58,hE,hia,hld,hw,evA,simprocAttr];exact frz
theorem le128 (x:Nat) (h0:0<x) (h:x<4096):PC Tryz.prog 128 [.cv (.int .u64 x)] (.i (tzN x)):=by
 refine ⟨ZF (fok128 true) (QC rfl) ?_,rfl⟩;simp only[ic128,evA,simprocAttr];refine (le155 x h0 h).call frz ?_;simp only[evA,simprocAttr];exact frz
theorem pop_le (x:Nat):∀ k,popN k x≤k
 | 0=>QG _
 | k+1=>by have:=pop_le x k;unfold popN;split <;> omega
theorem le81 (x:Nat) (h:x<4096):PC Tryz.prog 81 [.cv (.int .u64 x)] (ints (YS 12 (bit (x:Int)))):=by
 refine ⟨ZF (fok81 true) (QC rfl) ?_,rfl⟩;simp only[ic81,evA,simprocAttr];refine ZW 12 (fun t s=>∃ (y:Nat) (acc:List Int) (v1 v2:AV) (H:List AObj),y<4096∧popN 12 y+t=popN 12 x∧acc++(TX 12 y).map (fun (j:Nat)=>(j:Int))=YS 12 (bit (x:Int))∧SB H v1 acc∧s=⟨[.cv (.int .u64 y),v1,v2],H⟩) ?_ 0 (QF _) ⟨x,[],_,_,_,h,rfl,by rw[CZ];rfl,.nil _,rfl⟩;rintro t s ht ⟨y,acc,v1,v2,H,hy,hpop,hacc,hA,rfl⟩;by_cases h0:y=0
 ·subst h0;have hb:decide (((0:Nat):Int)>0)=false:=by decide
  simp only[ic81l0,hb,evA,simprocAttr];have hz:(TX 12 0).map (fun (j:Nat)=>(j:Int))=[]:=by decide
  rw[hz,ZU] at hacc;rw[← hacc];exact acc_frz (fun _=>trivial) hA
 ·have hb:decide ((y:Int)>0)=true:=decide_eq_true (by omega);obtain ⟨t1,t2,t3⟩:=tz_at (by omega) hy;have hal:acc.length≤12:=by
   have:=congrArg List.length hacc;rw[QM] at this;have:=M7 (m:=12) (p:=bit (x:Int));omega
  simp only[ic81l0,hb,evA,simprocAttr];refine (le128 y (by omega) hy).call frz ?_;obtain ⟨v',σ',g1,g2⟩:=QdK (tzN y:Int) hA (WJ hal (by decide));have hs:IntKind.u64.wrap ((y:Int)-1)=((y-1:Nat):Int):=by
   have:(y:Int)-1=((y-1:Nat):Int):=by omega
   rw[this,FM];congr 1;exact Nat.mod_eq_of_lt (by omega)
  have hw1:W64 y=y:=Nat.mod_eq_of_lt (by omega);have hw2:W64 (y-1)=y-1:=Nat.mod_eq_of_lt (by omega);simp only[g1,hs,uand,hw1,hw2,evA,simprocAttr];have:=pop_le x 12;refine ZL (by omega) ⟨y &&& (y-1),acc++[(tzN y:Int)],v',_,σ',WJ Nat.and_le_left hy,by omega,?_,g2,rfl⟩;rw[← hacc,t2];simp
def ndF (S:Nat) (ps:List (Nat × Nat)):Nat→Nat
 | 0=>0
 | j+1=>if S.testBit (ps[j]!).1 then ndF S ps j else ndF S ps j ||| 2 ^ (ps[j]!).2
theorem Qcj {S:Nat} {ps:List (Nat × Nat)} (h:∀ p∈ps,p.2<12):∀ j,j≤ps.length→ndF S ps j<4096
 | 0,_=>by show 0<4096;omega
 | j+1,hj=>by
  have ih:=Qcj (S:=S) h j (by omega);unfold ndF;split
  ·exact ih
  ·have h2:(ps[j]!).2<12:=h _ (by rw[getElem!_pos ps j (by omega)];exact Q2 _);exact Nat.or_lt_two_pow (n:=12) ih (Nat.pow_lt_pow_right (by decide) h2)
theorem Qab {S:Nat} {ps:List (Nat × Nat)} {k:Nat}:∀ j,j≤ps.length→((ndF S ps j).testBit k=true↔∃ a,a<j∧(ps[a]!).2=k∧S.testBit (ps[a]!).1=false)
 | 0,_=>by simp[ndF]
 | j+1,hj=>by
  have ih:=Qab (S:=S) (ps:=ps) (k:=k) j (by omega);unfold ndF;split
  ·rename_i h;rw[ih];constructor
   ·rintro ⟨a,h1,h2⟩;exact ⟨a,by omega,h2⟩
   ·rintro ⟨a,h1,h2,h3⟩;rcases QQ.1 h1 with h4 | rfl
    ·exact ⟨a,h4,h2,h3⟩
    ·rw[h] at h3;cases h3
  ·rename_i h;rw[Nat.testBit_or,WR,ih,Nat.testBit_two_pow];constructor
   ·rintro (⟨a,h1,h2⟩ | h1)
    ·exact ⟨a,by omega,h2⟩
    ·exact ⟨j,by omega,of_decide_eq_true h1,by simpa using h⟩
   ·rintro ⟨a,h1,h2,h3⟩;rcases QQ.1 h1 with h4 | rfl
    ·exact .inl ⟨a,h4,h2,h3⟩
    ·exact .inr (decide_eq_true h2)
theorem nd_need {d:Dy} {S k:Nat} (hk:k<d.ls.length):bit (ndF S (prsL d d.ls.length) (prsL d d.ls.length).length:Nat) k=L0 (canB d) d.ls.length (S:Nat) k:=by
 have h1:bit (ndF S (prsL d d.ls.length) (prsL d d.ls.length).length:Nat) k=(ndF S (prsL d d.ls.length) (prsL d d.ls.length).length).testBit k:=rfl;have h2:∀ i,bit (S:Nat) i=S.testBit i:=fun i=>rfl
 rw[Q8,h1,Qab _ (QG _),O5];constructor
 ·rintro ⟨a,ha,e1,e2⟩;have:=LC.1 (show (prsL d d.ls.length)[a]!∈prsL d d.ls.length by rw[getElem!_pos _ a ha];exact Q2 _);rw[e1] at this;exact ⟨_,this.1,this.2.2,by rw[h2];exact e2⟩
 ·rintro ⟨i,hi,hc,hb⟩;obtain ⟨a,ha,e⟩:=WN.1 (show (i,k)∈prsL d d.ls.length from LC.2 ⟨hi,hk,hc⟩);refine ⟨a,ha,?_,?_⟩
  ·rw[getElem!_pos _ a ha,e]
  ·rw[getElem!_pos _ a ha,e];exact hb
theorem nd_hi {d:Dy} {S k:Nat} (hk:d.ls.length≤k):bit (ndF S (prsL d d.ls.length) (prsL d d.ls.length).length:Nat) k=false:=by
 cases h:bit (ndF S (prsL d d.ls.length) (prsL d d.ls.length).length:Nat) k with
 | false=>rfl
 | true =>
  obtain ⟨a,ha,e1,e2⟩:=(Qab _ (QG _)).1 (show (ndF S (prsL d d.ls.length) (prsL d d.ls.length).length).testBit k=true from h);have:=LC.1 (show (prsL d d.ls.length)[a]!∈prsL d d.ls.length by rw[getElem!_pos _ a ha];exact Q2 _);omega
theorem Qay {P:Nat→Bool} {n:Nat}:∀ m,n≤m→(∀ k,n≤k→P k=false)→cnt m P=cnt n P
 | 0, h, _ => by have:n=0:=by omega
                 subst this;rfl
 | m+1,h,hp=>by
  rcases Nat.eq_or_lt_of_le h with rfl | h1
  ·rfl
  ·rw[cnt,Qay m (by omega) hp,hp m (by omega)];simp
theorem NL {P:Nat→Bool} {n:Nat}:∀ m,n≤m→(∀ k,n≤k→P k=false)→YS m P=YS n P
 | 0, h, _ => by have:n=0:=by omega
                 subst this;rfl
 | m+1,h,hp=>by
  rcases Nat.eq_or_lt_of_le h with rfl | h1
  ·rfl
  ·rw[ET,NL m (by omega) hp,hp m (by omega)];simp
theorem QeF {S n k:Nat} (h:S<2 ^ n) (hk:n≤k):bit (S:Nat) k=false:=by
 show S.testBit k=false;exact UQ (Z6 h (Nat.pow_le_pow_right (by omega) hk))
theorem QdC {n:Nat} {P Q:Nat→Bool} (h:∀ k,k<n→P k=Q k):cnt n P=cnt n Q:=by
 refine Nat.le_antisymm (cnt_mono fun k hk e=>by rw[← h k hk];exact e) (cnt_mono fun k hk e=>by rw[h k hk];exact e)
theorem uor (a b:Nat):IntKind.u64.wrap ((BitVec.ofInt IntKind.u64.bits (a:Int) ||| BitVec.ofInt IntKind.u64.bits (b:Int)).toNat:Int)=((W64 (W64 a ||| W64 b):Nat):Int):=by
 show IntKind.u64.wrap (((BitVec.ofInt 64 (a:Int) ||| BitVec.ofInt 64 (b:Int)).toNat:Nat):Int)=_;rw[BitVec.ofInt_natCast,BitVec.ofInt_natCast,FM,BitVec.toNat_or,BitVec.toNat_ofNat,BitVec.toNat_ofNat];rfl
theorem FH {a:Nat} (h:a<4096):W64 a=a:=Nat.mod_eq_of_lt (by omega)
theorem u_bit {S i:Nat} (hS:S<4096):(((W64 (S >>> i) &&& W64 1:Nat):Int) == 0) = !S.testBit i:=by
 have h1:W64 (S >>> i)=S >>> i:=FH (by rw[JR];exact WJ (Nat.div_le_self _ _) hS);have h2:W64 1=1:=rfl;rw[h1,h2];have:S.testBit i=((S >>> i) &&& 1 != 0):=by rw[Nat.testBit,Nat.and_comm]
 rw[this,Nat.and_one_is_mod];rcases Nat.mod_two_eq_zero_or_one (S >>> i) with h | h <;> rw[h] <;> rfl
theorem le30 (d:Dy) (hd:DSz d):PA Tryz.prog 30 [dyV d] (cvA d):=by
 refine ⟨ZF (fok30 true) (QC rfl) ?_,rfl,rfl⟩;simp only[ic30,WI,cellsOf,evA,simprocAttr];refine (le72 d hd).call ?_;unfold cvA cvBef cvBeh;by_cases he:(dyE d).2.2=0
 ·have hb:((dyE d).2.2 != 0)=false:=by simpa using he
  have hok:=LO he;have h12:=hok.l12;rw[if_neg (fun h=>h he),if_neg (fun h=>h he)];simp only[hb,he,evA,simprocAttr];refine (le78 d hok).call frz ?_;obtain ⟨bef0,hm0⟩:=le79 d hok [] (QF _) (fun i h=>absurd h (W5 _));rw[B8] at hm0;simp only[evA,simprocAttr];refine hm0.call frz ?_;simp only[evA,simprocAttr];have hpl:=IV d d.ls.length;have hpl2:d.ls.length*d.ls.length≤12*12:=Nat.mul_le_mul h12 h12;have hps:∀ p∈prsL d d.ls.length,p.1<d.ls.length∧p.2<d.ls.length:=fun p hp=>⟨(LC.1 hp).1,(LC.1 hp).2.1⟩
  have hnd:=fun S k hk=>nd_need (d:=d) (S:=S) (k:=k) hk
  have hnh:=fun S k hk=>nd_hi (d:=d) (S:=S) (k:=k) hk
  obtain ⟨b1,b2,b3⟩:=QbG (can:=canB d) (n:=d.ls.length);have hS:(2:Nat) ^ d.ls.length≤2 ^ 12:=Nat.pow_le_pow_right (by decide) h12;have hp12:(2:Nat) ^ 12=4096:=by decide
  have hps2:∀ p∈prsL d d.ls.length,p.2<12:=fun p hp=>by have:=(hps p hp).2;omega
  have hpla:(prsL d d.ls.length).length<2 ^ 63:=WJ hpl (WJ hpl2 (by decide));rw[show (prsL d d.ls.length).flatMap prC=prCs (prsL d d.ls.length) from rfl];unfold covS;unfold cvrN at b2 b3;rw[show prF (canB d) d.ls.length d.ls.length 0 (fun _=>false)=TH d from rfl] at b2 b3;generalize hSS:G7 (canB d) d.ls.length=SS at *;generalize prsL d d.ls.length=ps at *;refine ZW SS (fun S s=>∃ v9 v10 v12 v13 v14 v15 v16 v17,s=⟨[dyV d,.ptr 0 0,.cv .nils,.cv .nils,.i 0,.ptr 1 0,.cv (.rsl (prCs ps) ps.length),.i (TH d),.cv (.int .u64 S),v9,v10,.b false,v12,v13,v14,v15,v16,v17],[.cells [.cv (minR d.mi),.cv (lesR d.ls)],.cells [.cv (minR d.mi),.cv (lesR d.ls)]]⟩) ?_ 0 (QF _) ⟨_,_,_,_,_,_,_,_,rfl⟩;rintro S s hSle ⟨v9,v10,v12,v13,v14,v15,v16,v17,rfl⟩;have hS4:S<4096:=by omega
  simp only[ic30l1,evA,simprocAttr];refine ZW ps.length (fun j s=>∃ v10 v15 v16 v17,s=⟨[dyV d,.ptr 0 0,.cv .nils,.cv .nils,.i 0,.ptr 1 0,.cv (.rsl (prCs ps) ps.length),.i (TH d),.cv (.int .u64 S),.cv (.int .u64 (ndF S ps j:Nat)),v10,.b false,.cv (.rsl (prCs ps) ps.length),.i ps.length,.i j,v15,v16,v17],[.cells [.cv (minR d.mi),.cv (lesR d.ls)],.cells [.cv (minR d.mi),.cv (lesR d.ls)]]⟩) ?_ 0 (QF _) ⟨_,_,_,_,rfl⟩;rintro j s hj ⟨v10,v15,v16,v17,rfl⟩;by_cases hjl:j<ps.length
  ·have hmem:ps[j]!∈ps:=by rw[getElem!_pos ps j hjl];exact Q2 _
   have hp2:=hps _ hmem;have hld:=pr_ld hjl;have hst:ndF S ps (j+1)=if S.testBit (ps[j]!).1 then ndF S ps j else ndF S ps j ||| 2 ^ (ps[j]!).2:=rfl
   have hnl:=Qcj (S:=S) hps2 j hj;rw[hst];generalize ps[j]! = p at *;obtain ⟨a,k⟩:=p;simp only at hp2 hld ⊢;have hshr:=ushr S a (by omega);have hand:∀ x:Nat,IntKind.u64.wrap ((BitVec.ofInt IntKind.u64.bits (x:Int) &&& BitVec.ofInt IntKind.u64.bits 1).toNat:Int)=((W64 x &&& W64 1:Nat):Int):=fun x=>uand x 1
   have hub:=u_bit (i:=a) hS4;have hj63:j+1<2 ^ 63:=by omega
   have hpk:2 ^ k<4096:=by rw[← hp12];exact Nat.pow_lt_pow_right (by decide) (by omega)
   have hshl:VK .shl .u64 1 (k:Int)=some (.cv (.int .u64 ((2 ^ k:Nat):Int))):=by
    have h0:¬ ((k:Int)<0):=by omega
    have h1:min (k:Int).toNat IntKind.u64.bits=k:=by rw[Int.toNat_natCast];exact VD (by show k≤64;omega)
    simp only[VK];rw[if_neg h0,h1];have h2:(1:Int)*2 ^ k=((2 ^ k:Nat):Int):=by push_cast;omega
    rw[h2,FM,FH hpk]
   have hor:W64 (W64 (ndF S ps j) ||| W64 (2 ^ k))=ndF S ps j ||| 2 ^ k:=by rw[FH hnl,FH hpk,FH (Nat.or_lt_two_pow (n:=12) hnl (by rw[hp12];exact hpk))]
   simp only[ic30l0,QJ,hjl,XP hjl,hld,hshr,hand,hub,evA,simprocAttr];cases htb:S.testBit a with
   | true =>
    rw[if_pos rfl];simp only[Y2,Q6 hj63,evA,simprocAttr];exact W1 [.cells [.cv (minR d.mi),.cv (lesR d.ls)],.cells [.cv (minR d.mi),.cv (lesR d.ls)]] _ rfl (by first | trivial | omega) (QF _) (by intro o ho;simp only[ZD,WK,or_false] at ho;rcases ho with rfl | rfl <;> rfl) ⟨_,_,_,_,rfl⟩
   | false =>
    rw[if_neg (by decide)];simp only[ZY,hshl,uor,hor,Q6 hj63,evA,simprocAttr];exact W1 [.cells [.cv (minR d.mi),.cv (lesR d.ls)],.cells [.cv (minR d.mi),.cv (lesR d.ls)]] _ rfl (by first | trivial | omega) (QF _) (by intro o ho;simp only[ZD,WK,or_false] at ho;rcases ho with rfl | rfl <;> rfl) ⟨_,_,_,_,rfl⟩
  ·have hje:j=ps.length:=by omega
   subst hje;have hN:=Qcj (S:=S) hps2 ps.length (QG _);have hS2:S<2 ^ d.ls.length:=by omega
   have c1:cnt 12 (bit (S:Nat))=cnt d.ls.length (bit (S:Nat)):=Qay 12 h12 fun k hk=>QeF hS2 hk
   have c2:cnt 12 (bit (ndF S ps ps.length:Nat))=cnt d.ls.length (L0 (canB d) d.ls.length (S:Nat)):=by rw[Qay 12 h12 fun k hk=>hnh S k hk];exact QdC fun k hk=>hnd S k hk
   have l1:YS 12 (bit (S:Nat))=YS d.ls.length (bit (S:Nat)):=NL 12 h12 fun k hk=>QeF hS2 hk
   have l2:YS 12 (bit (ndF S ps ps.length:Nat))=YS d.ls.length (L0 (canB d) d.ls.length (S:Nat)):=by rw[NL 12 h12 fun k hk=>hnh S k hk];exact QdE fun k hk=>hnd S k hk
   simp only[ic30l0,QJ,hjl,evA,simprocAttr];refine (le80 S hS4).call frz ?_;simp only[evA,simprocAttr];refine (le80 _ hN).call frz ?_;have q1:=P7 (n:=12) (P:=bit (S:Nat));have q2:=P7 (n:=12) (P:=bit (ndF S ps ps.length:Nat));have hw:IntKind.i64.wrap ((cnt 12 (bit (S:Nat)):Nat)+(cnt 12 (bit (ndF S ps ps.length:Nat)):Nat):Int)=((cnt d.ls.length (bit (S:Nat))+cnt d.ls.length (L0 (canB d) d.ls.length (S:Nat)):Nat):Int):=by rw[← c1,← c2];exact ZC (by omega)
   simp only[hw,evA,simprocAttr];rcases ZB S SS with hlt | hge
   ·have hne:=b3 S hlt;have hbq:((((cnt d.ls.length (bit (S:Nat))+cnt d.ls.length (L0 (canB d) d.ls.length (S:Nat)):Nat)):Int) == (TH d:Int))=false:=beq_eq_false_iff_ne.2 (by omega);have hw2:IntKind.u64.wrap ((S:Int)+1)=((S+1:Nat):Int):=by
     have:(S:Int)+1=((S+1:Nat):Int):=by omega
     rw[this,FM,FH (by omega)]
    simp only[hbq,hw2,evA,simprocAttr];exact ZL (by omega) ⟨_,_,_,_,_,_,_,_,rfl⟩
   ·have hSe:S=SS:=by omega
    subst hSe;have hbq:((((cnt d.ls.length (bit (S:Nat))+cnt d.ls.length (L0 (canB d) d.ls.length (S:Nat)):Nat)):Int) == (TH d:Int))=true:=beq_iff_eq.2 (by omega);simp only[hbq,evA,simprocAttr];refine (le81 S hS4).call frz ?_;simp only[evA,simprocAttr];refine (le81 _ hN).call frz ?_;simp only[evA,simprocAttr];rw[l1,l2];exact .tup (.cons (.c (.c _ trivial)) (.cons (.c (.c _ trivial)) (.cons (.c (.c _ trivial)) .nil)))
 ·have hb:((dyE d).2.2 != 0)=true:=by simpa using he
  rw[if_pos he,if_pos he];simp only[hb,evA,simprocAttr];exact .tup (.cons (.c .nl) (.cons (.c .nl) (.cons (.c (.c _ trivial)) .nil)))
end Go.Proofs.YtgkidpolomhghaaGreatDoor.AM
namespace Go.Proofs.YtgkidpolomhghaaGreatDoor.AM
variable [Dr]
open Go Pl
def EO (g:Nat→List Int) (n i:Nat):List AV:=(List.range n).map fun j=>if j<i then ints (g j) else .cv .nils
theorem Qcz (g:Nat→List Int) (n:Nat):EO g n 0=List.replicate n (.cv .nils):=by
 unfold EO;apply Y1 <;> simp
theorem NH (g:Nat→List Int) (n i:Nat):(EO g n i).length=n:=by simp[EO]
theorem Qeu (g:Nat→List Int) {n i:Nat} (hi:i<n):(EO g n i).set i (ints (g i))=EO g n (i+1):=by
 unfold EO;apply Z1;intro j;rw[ZO];by_cases hj:i=j
 ·subst hj;simp[hi]
 ·rw[if_neg hj];by_cases hjn:j<n
  ·simp only[ZR,List.getElem?_range hjn,Option.map_some];by_cases h1:j<i
   ·simp[h1,show j<i+1 by omega]
   ·simp[h1,show ¬ j<i+1 by omega]
  ·rw[QN (by simp;omega),QN (by simp;omega)]
theorem Qcv {σ:List AObj} (g:Nat→List Int) (n:Nat):HL anyC σ (EO g n n) (((List.range n).map g).map rowC):=by
 unfold EO;rw[XW];have key:∀ l:List Nat,(∀ x∈l,x<n)→HL anyC σ (l.map fun j=>if j<n then ints (g j) else .cv .nils) (l.map (rowC ∘ g)):=by
  intro l
  induction l with
  | nil=>intro _;exact .nil
  | cons a l ih =>
   intro h;simp only[Q0,if_pos (h a (by simp))];exact .cons (.c _ trivial) (ih fun x hx=>h x (by simp[hx]))
 exact key _ fun x hx=>by simpa using hx
theorem frz_fill {σ:List AObj} (g:Nat→List Int) {n l:Nat} (hr:rowOf σ l=some (EO g n n)):FrzV anyC σ (.sl l 0 n 1) (.cv (minR ((List.range n).map g))):=by
 have h1:=FrzC.sl (p:=anyC) (σ:=σ) l 0 n 1 (EO g n n) (((List.range n).map g).map rowC) hr (by rw[NH];omega) (by rw[YO,Q5 (by rw[NH];omega)];exact Qcv g n)
 have:((List.range n).map g).length=n:=by simp
 unfold minR;rw[this];exact .c h1
theorem le25 (d:Dy) (hd:DSz d):PA Tryz.prog 25 [dyV d] (folA d):=by
 refine ⟨ZF (fok25 true) (QC rfl) ?_,rfl,rfl⟩;simp only[ic25,WI,cellsOf,evA,simprocAttr];refine (le72 d hd).call ?_;unfold folA;by_cases he:(dyE d).2.2=0
 ·have hb:((dyE d).2.2 != 0)=false:=by simpa using he
  have hok:=LO he;have h12:=hok.l12;rw[if_neg (fun h=>h he)];simp only[hb,he,evA,simprocAttr];have hmk:=fun σ=>Qd8 (n:=d.ls.length) (WJ h12 (by decide)) σ
  simp only[hmk,evA,simprocAttr];rw[← Qcz (behL d)];refine ZW d.ls.length (fun i s=>∃ v7 v11,s=⟨[dyV d,.ptr 0 0,.cv .nils,.i 0,.ptr 1 0,.i 0,.sl 2 0 d.ls.length 1,v7,.b false,.i d.ls.length,.i i,v11],[.cells [.cv (minR d.mi),.cv (lesR d.ls)],.cells [.cv (minR d.mi),.cv (lesR d.ls)],.cells (EO (behL d) d.ls.length i)]⟩) ?_ 0 (QF _) ⟨_,_,rfl⟩;rintro i s hi ⟨v7,v11,rfl⟩;by_cases hin:i<d.ls.length
  ·simp only[ic25l0,QJ,hin,evA,simprocAttr];refine (le74 d i).call ?_;simp only[evA,simprocAttr];refine (le73 d hok hin).call ?_;have hle:i+1≤(EO (behL d) d.ls.length i).length:=by rw[NH];exact hin
   simp only[W9 hin,hle,Qeu (behL d) hin,Q6 (show i+1<2 ^ 63 by omega),evA,simprocAttr];exact ZL (by first | trivial | omega) ⟨_,_,rfl⟩
  ·have hin':i=d.ls.length:=by omega
   subst hin';simp only[ic25l0,QJ,hin,evA,simprocAttr];exact .tup (.cons (frz_fill (behL d) rfl) (.cons (.c (.c _ trivial)) .nil))
 ·have hb:((dyE d).2.2 != 0)=true:=by simpa using he
  rw[if_pos he];simp only[hb,evA,simprocAttr];exact .tup (.cons (.c .nl) (.cons (.c (.c _ trivial)) .nil))
theorem nxW {d:Dy} (hd:DyOk d):NxW (canB d) (fun i=>(d.ls[i]!).b) d.ls.length (nxtL d):=by
 have h:=nx_ok (can:=canB d) (n:=d.ls.length) d.ls.length 0 (fun _=>false) (by omega);have hl:(nxtL d).length=d.ls.length:=Pl.nx_len _ _ _;have hok:=h.ok;have hinj:=h.inj;rw[show nxL (canB d) d.ls.length d.ls.length 0 (fun _=>false)=nxtL d from rfl,hl] at hok hinj;refine ⟨hl,fun j hj=>?_,fun j j' hj hj'=>hinj j j' hj hj',fun i k hi hk hc=>canB_lt hd hi hk hc⟩;rcases hok j hj with h1 | ⟨k,h1,h2,h3,_⟩
 ·exact .inl h1
 ·rw[ZV] at h3;exact .inr ⟨k,h1,h2,h3⟩
def AccR (σ:List AObj) (v:AV) (cs:List (List Int)):Prop :=
 (v=.cv .nils∧cs=[])∨∃ l xs,v=.sl l 0 cs.length 1∧cs≠[]∧rowOf σ l=some xs∧xs.length=cs.length∧∀ (j:Nat) (c:List Int),cs[j]? = some c→c≠[]∧∃ p:Nat,xs[j]? = some (AV.sl p 0 c.length 1)∧rowOf σ p=some (c.map AV.i)
theorem AccR.nu {σ:List AObj} {v:AV} {cs:List (List Int)} (h:AccR σ v cs):v.isUndef=false∧v.isSc=true∧cellsOf v=[v]:=by
 rcases h with ⟨rfl,_⟩ | ⟨l,xs,rfl,_⟩ <;> exact ⟨rfl,rfl,rfl⟩
theorem AccR.same {σ τ:List AObj} {v:AV} {cs:List (List Int)} (h:AccR σ v cs) (hs:∀ l,l<σ.length→τ[l]? = σ[l]?):AccR τ v cs:=by
 have hr:∀ l xs,rowOf σ l=some xs→rowOf τ l=some xs:=fun l xs hx=>by have h1:=WO hx;have h2:=(QH.1 h1).1;rw[rowOf,hs l h2,h1]
 exact h.imp id fun ⟨l,xs,h1,h2,h3,h4,h5⟩=>⟨l,xs,h1,h2,hr _ _ h3,h4,fun j c hc=>let ⟨g1,p,g2,g3⟩:=h5 j c hc;⟨g1,p,g2,hr _ _ g3⟩⟩
theorem QcN {σ:List AObj} {v:AV} {cs:List (List Int)} {c:List Int} {p:Nat} (h:AccR σ v cs) (hn:cs.length≤100) (hc:c≠[]) (hp:rowOf σ p=some (c.map AV.i)) :
  ∃ v' σ',ZX 1 24 [v,.sl σ.length 0 1 1] (σ++[.cells [.sl p 0 c.length 1]])=some (v',σ')∧AccR σ' v' (cs++[c]):=by
 have hs:Z9 (σ++[AObj.cells [.sl p 0 c.length 1]]) 1 (.sl σ.length 0 1 1)=some [.sl p 0 c.length 1]:=by simp only[Z9,if_true,WW,HE,Option.bind_some];rfl
 have h44:(2:Nat) ^ 44=17592186044416:=by decide
 rcases h with ⟨rfl,rfl⟩ | ⟨l,xs,rfl,hne,hr,hxl,hall⟩
 ·have h1:1*1=[AV.sl p 0 c.length 1].length∧1*24≤2 ^ 44∧1≤2 ^ 44∧[AV.sl p 0 c.length 1].all AV.isSc=true:=⟨rfl,by decide,by decide,rfl⟩;refine ⟨.sl (σ++[AObj.cells [.sl p 0 c.length 1]]).length 0 1 1,(σ++[AObj.cells [.sl p 0 c.length 1]])++[.cells [.sl p 0 c.length 1]],?_,.inr ⟨_,[.sl p 0 c.length 1],rfl,by simp,XH _ _,rfl,fun j c' hj=>?_⟩⟩
  ·simp only[ZX,hs,lenF,Option.bind_some];rw[if_neg (by decide),if_pos h1]
  ·rcases XF j with rfl | h0
   ·simp only[List.nil_append,List.getElem?_cons_zero,Option.some.injEq] at hj;subst hj;exact ⟨hc,p,rfl,ZH (ZH hp _) _⟩
   ·rw[QN (by simp;omega)] at hj;cases hj
 ·have hll:=(QH.1 (WO hr)).1;have hcl:0<cs.length:=List.length_pos_iff.2 hne;have hlp:∀ p' (c':List Int),c'≠[]→rowOf σ p'=some (c'.map AV.i)→l≠p':=fun p' c' h1 h2 e=>by
   subst e;rw[hr] at h2;cases h2;obtain ⟨_,q,hq,_⟩:=hall 0 _ (QI hcl);have:0<c'.length:=List.length_pos_iff.2 h1;rw[ZR,QI this] at hq;cases hq
  have h1:True∧cs.length*1≤xs.length∧1*1=[AV.sl p 0 c.length 1].length∧(cs.length+1)*24≤2 ^ 44∧cs.length+1≤2 ^ 44∧[AV.sl p 0 c.length 1].all AV.isSc=true:=⟨trivial,by omega,rfl,by omega,by omega,rfl⟩;have hkeep:∀ q (c':List Int),c'≠[]→rowOf σ q=some (c'.map AV.i)→rowOf ((σ++[AObj.cells [.sl p 0 c.length 1]]).set l .dead++[.cells (xs++[.sl p 0 c.length 1])]) q=some (c'.map AV.i):=fun q c' g1 g2=>by refine ZH ?_ _;rw[QX (hlp q c' g1 g2)];exact ZH g2 _
  refine ⟨.sl (σ++[AObj.cells [.sl p 0 c.length 1]]).length 0 (cs.length+1) 1,(σ++[AObj.cells [.sl p 0 c.length 1]]).set l .dead++[.cells (xs++[.sl p 0 c.length 1])],?_,.inr ⟨(σ++[AObj.cells [.sl p 0 c.length 1]]).length,xs++[.sl p 0 c.length 1],by simp,by simp,?_,by simp[hxl],fun j c' hj=>?_⟩⟩
  ·simp only[ZX,ZH hr,hs,lenF,Option.bind_some];rw[if_pos h1,W3,Q5 (by omega)]
  ·have:(σ++[AObj.cells [.sl p 0 c.length 1]]).length=((σ++[AObj.cells [.sl p 0 c.length 1]]).set l .dead).length:=by simp
   rw[this,XH]
  ·rcases ZB j cs.length with hjl | hjl
   ·rw[QE hjl] at hj;obtain ⟨g1,q,g2,g3⟩:=hall j c' hj;exact ⟨g1,q,by rw[QE (by omega)];exact g2,hkeep q c' g1 g3⟩
   ·rw[QS hjl] at hj;have h0:j-cs.length=0:=by
     rcases XF (j-cs.length) with h | h
     ·exact h
     ·rw[QN (by simp;omega)] at hj;cases hj
    rw[h0] at hj;simp only[List.getElem?_cons_zero,Option.some.injEq] at hj;subst hj;refine ⟨hc,p,?_,hkeep p c hc hp⟩;rw[QS (by omega),show j-xs.length=0 by omega];rfl
theorem accR_frz {σ:List AObj} {v:AV} {cs:List (List Int)} (h:AccR σ v cs):FrzV scl σ v (.cv (minR cs)):=by
 rcases h with ⟨rfl,rfl⟩ | ⟨l,xs,rfl,hne,hr,hxl,hall⟩
 ·exact .c .nl
 ·refine .c (FrzC.sl l 0 cs.length 1 xs _ hr (by omega) ?_);rw[YO,W3,Q5 (by omega)];clear hr hne
  induction cs generalizing xs with
  | nil =>
   have:xs=[]:=ZT hxl;subst this;exact .nil
  | cons c cs ih =>
   match xs,hxl with
   | x::xs,hxl =>
    obtain ⟨_,p,g2,g3⟩:=hall 0 c rfl;simp only[List.getElem?_cons_zero,Option.some.injEq] at g2;subst g2;refine .cons ?_ (ih xs (by simpa using hxl) fun j c' hj=>hall (j+1) c' hj);have:=TN (p:=scl) (fun _=>trivial) g3;cases this with
    | c h=>exact h
theorem le28 (d:Dy) (hd:DSz d):PC Tryz.prog 28 [dyV d] (chaA d):=by
 refine ⟨ZF (fok28 true) (QC rfl) ?_,rfl⟩;simp only[ic28,WI,cellsOf,evA,simprocAttr];refine (le72 d hd).call ?_;unfold chaA;by_cases he:(dyE d).2.2=0
 ·have hb:((dyE d).2.2 != 0)=false:=by simpa using he
  have hok:=LO he;have h12:=hok.l12;rw[if_neg (fun h=>h he)];simp only[hb,he,evA,simprocAttr];refine (le75 d hok).call frz ?_;have hW:=nxW hok;have hnl:=hW.len;have hup:=hW.up;unfold chaL LQ DD;generalize nxtL d=nx at *;obtain ⟨n,hn⟩:∃ n,n=d.ls.length:=⟨_,rfl⟩;rw[← hn] at hW hnl h12 ⊢;simp only[hnl,evA,simprocAttr];refine ZW n (fun i s=>∃ v2 v6 v7 v8 v12 v13 v14 H,AccR H v2 ((((List.range i).filter (V3 nx)).map (chF nx (n+1))).map HG)∧s=⟨[dyV d,.ptr 0 0,v2,.i 0,.ptr 1 0,ints nx,v6,v7,v8,.b false,.i n,.i i,v12,v13,v14],H⟩) ?_ 0 (QF _) ⟨_,_,_,_,_,_,_,_,.inl ⟨rfl,rfl⟩,rfl⟩;rintro i s hi ⟨v2,v6,v7,v8,v12,v13,v14,H,hA,rfl⟩;have hp63:(2:Nat) ^ 63=9223372036854775808:=by decide
  by_cases hin:i<n
  ·simp only[ic28l1,QJ,hin,evA,simprocAttr];refine (le76 nx i (by omega)).call (.cons (.c (.c _ trivial)) (.cons (.c (.c _ trivial)) .nil)) ?_;have hfl:(List.range (i+1)).filter (V3 nx)=(List.range i).filter (V3 nx)++if V3 nx i=true then [i] else []:=by
    rw[WM,List.filter_append];by_cases h:V3 nx i=true <;> simp[h]
   cases hc:nx.contains (i:Int) with
   | true =>
    have hh:V3 nx i=false:=by unfold V3;rw[hc];rfl
    rw[hh,if_neg (by decide),ZU] at hfl;simp only[Q6 (show i+1<2 ^ 63 by omega),evA,simprocAttr];exact ZL (by first | trivial | omega) ⟨_,_,_,_,_,_,_,_,by rw[hfl];exact hA,rfl⟩
   | false =>
    have hh:V3 nx i=true:=by unfold V3;rw[hc];rfl
    rw[hh,if_pos rfl] at hfl;simp only[evA,simprocAttr];refine ZW (n+1) (fun t s=>∃ (v7:AV) (z:Int) (v14:AV) (H2:List AObj) (c:List Int),(∀ l,l<H.length→H2[l]? = H[l]?)∧H.length≤H2.length∧VH H.length 1 H2 v7 c.length (c.map (.int .i64))∧c.length=t∧((z<0∧HG (chF nx (n+1) i)=c∧c≠[])∨∃ kk:Nat,kk<n∧z=(kk:Int)∧muK (fun i=>(d.ls[i]!).b) n kk<n+1-t∧HG (chF nx (n+1) i)=c++HG (chF nx (n+1-t) kk)) ∧
     s=⟨[dyV d,.ptr 0 0,v2,.i 0,.ptr 1 0,ints nx,.i i,v7,.i z,.b false,.i n,.i i,.b true,.b false,v14],H2⟩) ?_ 0 (QF _) ⟨.cv .nils,(i:Int),_,H,[],fun _ _=>rfl,QG _,.inl ⟨rfl,rfl,rfl⟩,rfl,.inr ⟨i,hin,rfl,by have:=mu_le (rk:=fun i=>(d.ls[i]!).b) (n:=n) (k:=i);omega,rfl⟩,rfl⟩
    rintro t s ht ⟨v7,z,v14,H2,c,hs1,hs2,hac,hct,hz,rfl⟩;rcases hz with ⟨hz0,hch,hcne⟩ | ⟨kk,hkn,rfl,hmu,hch⟩
    ·have hb:decide (z≥0)=false:=decide_eq_false (by omega);have hA2:=hA.same hs1;rcases hac with ⟨_,_,h⟩ | ⟨p,hp1,rfl,_,hp3⟩
     ·exact absurd (by simpa using h) hcne
     rw[XW] at hp3;have hcs:((((List.range i).filter (V3 nx)).map (chF nx (n+1))).map HG).length≤100:=by have:=HC (V3 nx) (List.range i);simp only[ZK,List.length_range] at this ⊢;omega
     obtain ⟨v',σ',g1,g2⟩:=QcN hA2 hcs hcne hp3;have gnu:=g2.nu;simp only[ic28l0,hb,g1,gnu,Q6 (show i+1<2 ^ 63 by omega),evA,simprocAttr];refine ZL (by first | trivial | omega) ⟨_,_,_,_,_,_,_,_,?_,rfl⟩;rw[hfl,ZS,ZS];simp only[Q0,WS];rw[hch];exact g2
    ·have hb:decide ((kk:Int)≥0)=true:=decide_eq_true (by omega);have h44:(2:Nat) ^ 44=17592186044416:=by decide
     obtain ⟨v',σ',g1,g2,g3,g4⟩:=K3 (by_:=8) (x:=[.int .i64 kk]) hs2 hac rfl (by omega) (by omega);have gnu:=g2.nu;have hkl:kk<nx.length:=by omega
     have hst:chF nx (n+1-t) kk=kk::if gI nx kk<0 then [] else chF nx (n-t) (gI nx kk).toNat:=by rw[show n+1-t=n-t+1 by omega];rfl
     simp only[QW,QM,WW,X9,VW,EZ,Qau,CH,get_nz,get_ns,Q0,WS] at g1;simp only[ic28l0,hb,g1,gnu,J5 hkl,J4 hkl,WA,evA,simprocAttr];refine ZL (by omega) ⟨v',gI nx kk,_,σ',c++[(kk:Int)],fun l hl=>by rw[g3 l hl];exact hs1 l hl,by omega,by rw[QM,ZS];exact g2,by simp[hct],?_,rfl⟩;rw[hst] at hch;rcases hW.ok kk hkn with h1 | ⟨k2,h1,h2,h3⟩
     ·rw[if_pos (by omega)] at hch;exact .inl ⟨by omega,by rw[hch];simp[HG],by simp⟩
     ·have hlt:=Qd6 (rk:=fun i=>(d.ls[i]!).b) h2 (hW.up kk k2 hkn h2 h3);rw[if_neg (by omega),h1,Int.toNat_natCast] at hch;refine .inr ⟨k2,h2,h1,by omega,?_⟩;rw[hch];simp[HG]
  ·have hin':i=n:=by omega
   subst hin';have hnu:=hA.nu;simp only[ic28l1,QJ,hin,hnu,evA,simprocAttr];exact .tup (.cons (accR_frz hA) (.cons (.c (.c _ trivial)) .nil))
 ·have hb:((dyE d).2.2 != 0)=true:=by simpa using he
  rw[if_pos he];simp only[hb,evA,simprocAttr];exact .tup (.cons (.c .nl) (.cons (.c (.c _ trivial)) .nil))
end Go.Proofs.YtgkidpolomhghaaGreatDoor.AM
namespace Go.Proofs.YtgkidpolomhghaaGreatDoor.AM
variable [Dr]
open Go
abbrev vs22:List Nat:=[0,1,2,3,4,5,6,7,8,9,10,11,12,13,14,15,16,17,19]
def ic22:IC:=(.seq (.region [jw 0 .mv [jB false]])
 (.seq (.region [jk 39 [],jq (.bslice 1 3 [(.cv (.int .i64 0)),(.cv (.int .i64 0)),(.cv (.int .i64 0))] [(0,1),(1,1),(2,1)]) [jn 2,jn 1,jn 1],jk 17 [.t 0,.t 1],jt 2,jx 0 3,jx 1 3,jw 1 (.alloc [(.cv .nils),(.cv (.int .i64 0))]) [],jq (.store 2) [.v 1,.t 4],jm 2 5])
 (.seq (.region [jk 39 [],jq (.bslice 1 3 [(.cv (.int .i64 0)),(.cv (.int .i64 0)),(.cv (.int .i64 0))] [(0,1),(1,1),(2,1)]) [jn 2,jn 1,jn 1],jq (.bslice 1 3 [(.cv (.int .i64 0)),(.cv (.int .i64 0)),(.cv (.int .i64 0))] [(0,1),(1,1),(2,1)]) [jn 1000,jn 0,jn 1000],jk 20 [.t 0,.t 1,.t 2],jt 3,jx 0 4,jx 1 4,jm 3 5,jm 4 6])
 (.seq (.region [jk 40 [],jk 25 [.t 0],jt 1,jx 0 2,jx 1 2,jm 5 3,jm 6 4])
 (.seq (.region [jk 40 [],jk 28 [.t 0],jt 1,jx 0 2,jx 1 2,jm 7 3,jm 8 4])
 (.seq (.region [jk 40 [],jk 30 [.t 0],jt 1,jx 0 2,jx 1 2,jx 2 2,jm 9 3,jm 10 4,jm 11 5])
 (.seq (.region [jk 40 [],jq (.bslice 1 1 [(.cv (.int .i64 0))] [(0,1)]) [jn 0],jq (.bslice 1 1 [(.cv (.int .i64 0))] [(0,1)]) [jn 3],jk 33 [.t 0,.t 1,.t 2],jt 3,jx 0 4,jx 1 4,jm 12 5,jm 13 6])
 (.seq (.region [jk 65 [],jk 35 [.t 0],jt 1,jx 0 2,jx 1 2,jw 14 (.alloc [(.cv (.int .i64 0)),(.cv (.int .i64 0)),(.cv (.int .i64 0))]) [],jq (.store 3) [.v 14,.t 3],jm 15 4])
 (.seq (.region [jk 65 [],jk 37 [.t 0],jt 1,jx 0 2,jx 1 2,jw 16 (.alloc [(.cv .nils),(.cv .nils),(.cv .nils)]) [],jq (.store 3) [.v 16,.t 3],jm 17 4])
 (.seq (.region [jk 39 [],jq (.bslice 1 3 [(.cv (.int .i64 0)),(.cv (.int .i64 0)),(.cv (.int .i64 0))] [(0,1),(1,1),(2,1)]) [jn 2,jn 1,jn 1],jq (.bslice 1 3 [(.cv (.int .i64 0)),(.cv (.int .i64 0)),(.cv (.int .i64 0))] [(0,1),(1,1),(2,1)]) [jn 600,jn 500,jn 0],jk 20 [.t 0,.t 1,.t 2],jt 3,jx 0 4,jx 1 4,jt 5,jm 18 6])
 (.seq (.dr [[],[0],[1],[2],[3,2],[2,4],[5,2],[6],[7,6],[6,8],[9,6],[10],[11,10],[10,12],[13,10],[14],[15,14],[14,16],[17,14],[18],[19,18],[18,20],[21,18],[22],[23,22],[22,24],[25,22],[26],[27,26],[26,28],[29,26],[30],[31,30],[30,32],[33,30],[34],[34],[36,34,34],[35,37,37,34],[34,38],[39,38],[40],[41,40],[40,42],[43,40],[44],[44],[44],[44],[46,47,48,44],[45,49,44,44],[44,50],[51,50],[52],[52],[52],[54,55,52],[53,56,52,52],[52,57],[58,57],[59],[60,59],[61,59],[59,62],[63,59],[64],[64],[65,66,64,64],[64,67],[68,67],[69],[70,69],[69,71],[72,69],[73],[73],[74,75,73],[73,76],[77,73],[78],[79,78],[78],[80,81,78,78],[78,82],[83,82],[84],[85,84],[84],[86,87,84,84],[84,88],[89,88],[90],[91,90],[90],[92,93,90,90],[90,94],[95,94,0,1,2,3,4,5,6,7,8,9,10,11,12,13,14,15,16,17,18,19,20,21,22,23,24,25,26,27,28,29,30,31,32,33,34,35,36,37,38,39,40,41,42,43,44,45,46,47,48,49,50,51,52,53,54,55,56,57,58,59,60,61,62,63,64,65,66,67,68,69,70,71,72,73,74,75,76,77,78,79,80,81,82,83,84,85,86,87,88,89,90,91,92,93,94,95]] [jv 2,jq (.bin .eql .int) [.t 0,jn 0],jt 1,jh 2 true 4,jg 2 true (.bin .eql .int) [.t 3,jn 0],jq .pick [.t 2,.t 4,jB false],jt 5,jh 6 true 6,jg 6 true (.bin .eql .int) [.t 7,jn 0],jq .pick [.t 6,.t 8,jB false],jt 9,jh 10 true 8,jg 10 true (.bin .eql .int) [.t 11,jn 0],jq .pick [.t 10,.t 12,jB false],jt 13,jh 14 true 11,jg 14 true (.bin .eql .int) [.t 15,jn 0],jq .pick [.t 14,.t 16,jB false],jt 17,jh 18 true 13,jg 18 true (.bin .eql .int) [.t 19,jn 0],jq .pick [.t 18,.t 20,jB false],jt 21,jh 22 true 15,jg 22 true (.bin .eql .int) [.t 23,jn 0],jq .pick [.t 22,.t 24,jB false],jt 25,jh 26 true 17,jg 26 true (.bin .eql .int) [.t 27,jn 0],jq .pick [.t 26,.t 28,jB false],jt 29,jh 30 true 18,jg 30 true (.bin .eql .int) [.t 31,jn 2],jq .pick [.t 30,.t 32,jB false],jt 33,jg 34 true (.loadN 2) [.v 1],jg 34 true (.bslice 1 3 [(.cv (.int .i64 0)),(.cv (.int .i64 0)),(.cv (.int .i64 0))] [(0,1),(1,1),(2,1)]) [jn 2,jn 3,jn 3],jf 34 true 41 [jn 600,.t 36],jf 34 true 19 [.t 35,.t 37],jq .pick [.t 34,.t 38,jB false],jt 39,jh 40 true 3,jg 40 true (.bin .eql .int) [.t 41,jn 3],jq .pick [.t 40,.t 42,jB false],jt 43,jh 44 true 5,jg 44 true (.bslice 1 2 [(.cv (.int .i64 0)),(.cv (.int .i64 0))] [(0,1),(1,1)]) [jn 1,jn 3],jg 44 true (.bslice 1 1 [(.cv (.int .i64 0))] [(0,1)]) [jn 3],jg 44 true (.bslice 1 1 [(.cv (.int .i64 0))] [(0,1)]) [jn 3],jg 44 true (.bslice 1 4 [(.cv .nils),(.cv .nils),(.cv .nils),(.cv .nils)] [(0,1),(1,1),(2,1),(3,1)]) [.t 46,.t 47,.t 48,jS],jf 44 true 27 [.t 45,.t 49],jq .pick [.t 44,.t 50,jB false],jt 51,jh 52 true 7,jg 52 true (.bslice 1 3 [(.cv (.int .i64 0)),(.cv (.int .i64 0)),(.cv (.int .i64 0))] [(0,1),(1,1),(2,1)]) [jn 0,jn 1,jn 3],jg 52 true (.bslice 1 1 [(.cv (.int .i64 0))] [(0,1)]) [jn 2],jg 52 true (.bslice 1 2 [(.cv .nils),(.cv .nils)] [(0,1),(1,1)]) [.t 54,.t 55],jf 52 true 27 [.t 53,.t 56],jq .pick [.t 52,.t 57,jB false],jt 58,jh 59 true 9,jg 59 true (.len false) [.t 60],jg 59 true (.bin .eql .int) [.t 61,jn 0],jq .pick [.t 59,.t 62,jB false],jt 63,jh 64 true 10,jg 64 true (.bslice 1 2 [(.cv (.int .i64 0)),(.cv (.int .i64 0))] [(0,1),(1,1)]) [jn 1,jn 3],jf 64 true 32 [.t 65,.t 66],jq .pick [.t 64,.t 67,jB false],jt 68,jh 69 true 12,jg 69 true (.bin .eql .int) [.t 70,jn 2],jq .pick [.t 69,.t 71,jB false],jt 72,jg 73 true (.loadN 3) [.v 14],jg 73 true (.build [(.cv (.int .i64 0)),(.cv (.int .i64 0)),(.cv (.int .i64 0))] [(0,1),(1,1),(2,1)]) [jn 5,jn 1,jn 2],jg 73 true (.eqS false (true,[(.int .i64),(.int .i64),(.int .i64)])) [.t 74,.t 75],jq .pick [.t 73,.t 76,jB false],jt 77,jg 78 true (.fadd 0) [.v 16],ji 78 true 79,jg 78 true (.bslice 1 4 [(.cv (.int .i64 0)),(.cv (.int .i64 0)),(.cv (.int .i64 0)),(.cv (.int .i64 0))] [(0,1),(1,1),(2,1),(3,1)]) [jn 60,jn 60,jn 45,jn 60],jf 78 true 32 [.t 80,.t 81],jq .pick [.t 78,.t 82,jB false],jt 83,jg 84 true (.fadd 1) [.v 16],ji 84 true 85,jg 84 true (.bslice 1 1 [(.cv (.int .i64 0))] [(0,1)]) [jn 225],jf 84 true 32 [.t 86,.t 87],jq .pick [.t 84,.t 88,jB false],jt 89,jg 90 true (.fadd 2) [.v 16],ji 90 true 91,jg 90 true (.bslice 1 4 [(.cv (.int .i64 0)),(.cv (.int .i64 0)),(.cv (.int .i64 0)),(.cv (.int .i64 0))] [(0,1),(1,1),(2,1),(3,1)]) [jn 60,jn 60,jn 45,jn 60],jf 90 true 32 [.t 92,.t 93],jq .pick [.t 90,.t 94,jB false],jm 0 95])
 .ret)))))))))))
abbrev rs22:List RC:=[(.v 0)]
theorem fok22 (p:Bool):FnOk Tryz.prog 22 ⟨ic22,vs22,169,rs22,p⟩:=.mk2 Tryz.func22 (by kernel_rfl) (by kernel_rfl) (by kernel_rfl) (by kernel_rfl) (by kernel_rfl)
end Go.Proofs.YtgkidpolomhghaaGreatDoor.AM
namespace Go.Proofs.YtgkidpolomhghaaGreatDoor.AM
open Go Pl
theorem awake:PC Tryz.prog 22 [] (.b true):=by
 have h17:=le17 exP [2,1,1] (by decide) (by decide);rw[show fewA exP [2,1,1]=.tup [chV [2,3,3] 600,.i 0] by unfold fewA;rw[aw_few]] at h17;have h20:=le20 exP [2,1,1] [1000,0,1000] (by decide) (by decide) (by decide);rw[show floA exP [2,1,1] [1000,0,1000]=.tup [.i 3,.i 0] by unfold floA;rw[aw_flo]] at h20;have h20b:=le20 exP [2,1,1] [600,500,0] (by decide) (by decide) (by decide);rw[show floA exP [2,1,1] [600,500,0]=.tup [.i 0,.i 2] by unfold floA;rw[aw_flo2]] at h20b;have h25:=le25 exD exDz;rw[show folA exD=.tup [.cv (minR [[1,3],[3],[3],[]]),.i 0] by unfold folA;rw[QdI,if_neg (by decide),aw_fol]] at h25;have h28:=le28 exD exDz;rw[show chaA exD=.tup [.cv (minR [[0,1,3],[2]]),.i 0] by unfold chaA;rw[QdI,if_neg (by decide),aw_cha]] at h28;have h30:=le30 exD exDz;rw[show cvA exD=.tup [ints [],ints [1,3],.i 0] by unfold cvA;rw[QdI,aw_bef,aw_beh]] at h30;have h33:=le33 exD exDz (p:=[0]) (q:=[3]) (.inl ⟨rfl,by decide⟩) (.inl ⟨rfl,by decide⟩) (by decide) (by decide)
 rw[show proA exD [0] [3]=.tup [.i 2,.i 0] by unfold proA;rw[aw_pro]] at h33;have h35:=le35 exL exLz;rw[show brA exL=.tup [brV (5,1,2),.i 0] by unfold brA;rw[if_neg (fun h=>h aw_pln),aw_brk]] at h35;have h37:=le37 exL exLz;rw[show hrsA exL=.tup [.agg [ints [60,60,45,60],ints [225],ints [60,60,45,60]],.i 0] by unfold hrsA hrsV;rw[if_neg (fun h=>h aw_pln),aw_h1,aw_h2,aw_h3]] at h37;have h19:=le19 [2,3,3] [2,3,3] 600 600 (by decide) (by decide);rw[show (decide ([(2:Int),3,3]=[2,3,3])&&(600:Int) == 600)=true by decide] at h19;have h27a:=le27 [[1,3],[3],[3],[]] [[1,3],[3],[3],[]] (by decide) (by decide) (by decide +kernel) (by decide +kernel);rw[show decide ([[(1:Int),3],[3],[3],[]]=[[1,3],[3],[3],[]])=true by decide] at h27a;have h27b:=le27 [[0,1,3],[2]] [[0,1,3],[2]] (by decide) (by decide) (by decide +kernel) (by decide +kernel);rw[show decide ([[(0:Int),1,3],[2]]=[[0,1,3],[2]])=true by decide] at h27b
 have h32a:=c45 [1,3] [1,3] (by decide) (by decide);rw[show decide ([(1:Int),3]=[1,3])=true by decide] at h32a;have h32b:=c45 [60,60,45,60] [60,60,45,60] (by decide) (by decide);rw[show decide ([(60:Int),60,45,60]=[60,60,45,60])=true by decide] at h32b;have h32c:=c45 [225] [225] (by decide) (by decide);rw[show decide ([(225:Int)]=[225])=true by decide] at h32c;refine ⟨ZF (fok22 true) (QC rfl) ?_,rfl⟩;simp only[ic22,evA,simprocAttr];refine le39.call .nil ?_;simp only[evA,simprocAttr];refine h17.call (by (repeat' (first | exact HL.nil | exact KS.nil | exact FrzC.nl | exact FrzC.c _ trivial | apply HL.cons | apply KS.cons | apply FrzV.agg | apply FrzV.tup | apply FrzV.c | refine FrzC.sl _ _ _ _ _ _ rfl (QC rfl) ?_))) ?_;simp only[evA,simprocAttr];refine le39.call .nil ?_;simp only[evA,simprocAttr];refine h20.call (by (repeat' (first | exact HL.nil | exact KS.nil | exact FrzC.nl | exact FrzC.c _ trivial | apply HL.cons | apply KS.cons | apply FrzV.agg | apply FrzV.tup | apply FrzV.c | refine FrzC.sl _ _ _ _ _ _ rfl (QC rfl) ?_))) ?_
 simp only[evA,simprocAttr];refine le40.call .nil ?_;simp only[evA,simprocAttr];refine h25.call ?_;simp only[evA,simprocAttr];refine le40.call .nil ?_;simp only[evA,simprocAttr];refine h28.call (by (repeat' (first | exact HL.nil | exact KS.nil | exact FrzC.nl | exact FrzC.c _ trivial | apply HL.cons | apply KS.cons | apply FrzV.agg | apply FrzV.tup | apply FrzV.c | refine FrzC.sl _ _ _ _ _ _ rfl (QC rfl) ?_))) ?_;simp only[evA,simprocAttr];refine le40.call .nil ?_;simp only[evA,simprocAttr];refine h30.call ?_;simp only[evA,simprocAttr];refine le40.call .nil ?_;simp only[evA,simprocAttr];refine h33.call (by (repeat' (first | exact HL.nil | exact KS.nil | exact FrzC.nl | exact FrzC.c _ trivial | apply HL.cons | apply KS.cons | apply FrzV.agg | apply FrzV.tup | apply FrzV.c | refine FrzC.sl _ _ _ _ _ _ rfl (QC rfl) ?_))) ?_;simp only[evA,simprocAttr];refine le65.call ?_;simp only[evA,simprocAttr]
 refine h35.call (by (repeat' (first | exact HL.nil | exact KS.nil | exact FrzC.nl | exact FrzC.c _ trivial | apply HL.cons | apply KS.cons | apply FrzV.agg | apply FrzV.tup | apply FrzV.c | refine FrzC.sl _ _ _ _ _ _ rfl (QC rfl) ?_))) ?_;simp only[evA,simprocAttr];refine le65.call ?_;simp only[evA,simprocAttr];refine h37.call (by (repeat' (first | exact HL.nil | exact KS.nil | exact FrzC.nl | exact FrzC.c _ trivial | apply HL.cons | apply KS.cons | apply FrzV.agg | apply FrzV.tup | apply FrzV.c | refine FrzC.sl _ _ _ _ _ _ rfl (QC rfl) ?_))) ?_;simp only[evA,simprocAttr];refine le39.call .nil ?_;simp only[evA,simprocAttr];refine h20b.call (by (repeat' (first | exact HL.nil | exact KS.nil | exact FrzC.nl | exact FrzC.c _ trivial | apply HL.cons | apply KS.cons | apply FrzV.agg | apply FrzV.tup | apply FrzV.c | refine FrzC.sl _ _ _ _ _ _ rfl (QC rfl) ?_))) ?_;simp only[evA,simprocAttr];refine DW_s [38,50,57,67,82,88,94] [(35,36),(35,37),(46,47),(46,48),(47,46),(47,48),(48,46),(48,47),(54,55),(55,54),(80,81),(86,87),(92,93)] hmix (by kernel_rfl) rfl ?_
 simp only[evA,simprocAttr];refine MS (v:=.agg [.sl 10 0 3 1,.i 600]) (le41 600 (.sl 10 0 3 1) ⟨rfl,rfl,rfl⟩ _ rfl) (GH rfl rfl fun l o h1 h2=>absurd h1 h2) ?_;simp only[evA,simprocAttr];refine YE (h19.call (by (repeat' (first | exact HL.nil | exact KS.nil | exact FrzC.nl | exact FrzC.c _ trivial | apply HL.cons | apply KS.cons | apply FrzV.agg | apply FrzV.tup | apply FrzV.c | refine FrzC.sl _ _ _ _ _ _ rfl (QC rfl) ?_))) ⟨rfl,rfl⟩) rfl ?_;simp only[evA,simprocAttr];refine YE (h27a.call (by (repeat' (first | exact HL.nil | exact KS.nil | exact FrzC.nl | exact FrzC.c _ trivial | apply HL.cons | apply KS.cons | apply FrzV.agg | apply FrzV.tup | apply FrzV.c | refine FrzC.sl _ _ _ _ _ _ rfl (QC rfl) ?_))) ⟨rfl,rfl⟩) rfl ?_;simp only[evA,simprocAttr];refine YE (h27b.call (by (repeat' (first | exact HL.nil | exact KS.nil | exact FrzC.nl | exact FrzC.c _ trivial | apply HL.cons | apply KS.cons | apply FrzV.agg | apply FrzV.tup | apply FrzV.c | refine FrzC.sl _ _ _ _ _ _ rfl (QC rfl) ?_))) ⟨rfl,rfl⟩) rfl ?_
 simp only[evA,simprocAttr];refine YE (h32a.call (by (repeat' (first | exact HL.nil | exact KS.nil | exact FrzC.nl | exact FrzC.c _ trivial | apply HL.cons | apply KS.cons | apply FrzV.agg | apply FrzV.tup | apply FrzV.c | refine FrzC.sl _ _ _ _ _ _ rfl (QC rfl) ?_))) ⟨rfl,rfl⟩) rfl ?_;have hk:JW (true,[.int .i64,.int .i64,.int .i64]) (.agg [.i 5,.i 1,.i 2]) (.agg [.i 5,.i 1,.i 2])=some true:=by kernel_rfl
 simp only[hk,evA,simprocAttr];refine YE (h32b.call (by (repeat' (first | exact HL.nil | exact KS.nil | exact FrzC.nl | exact FrzC.c _ trivial | apply HL.cons | apply KS.cons | apply FrzV.agg | apply FrzV.tup | apply FrzV.c | refine FrzC.sl _ _ _ _ _ _ rfl (QC rfl) ?_))) ⟨rfl,rfl⟩) rfl ?_;simp only[evA,simprocAttr];refine YE (h32c.call (by (repeat' (first | exact HL.nil | exact KS.nil | exact FrzC.nl | exact FrzC.c _ trivial | apply HL.cons | apply KS.cons | apply FrzV.agg | apply FrzV.tup | apply FrzV.c | refine FrzC.sl _ _ _ _ _ _ rfl (QC rfl) ?_))) ⟨rfl,rfl⟩) rfl ?_;simp only[evA,simprocAttr];refine YE (h32b.call (by (repeat' (first | exact HL.nil | exact KS.nil | exact FrzC.nl | exact FrzC.c _ trivial | apply HL.cons | apply KS.cons | apply FrzV.agg | apply FrzV.tup | apply FrzV.c | refine FrzC.sl _ _ _ _ _ _ rfl (QC rfl) ?_))) ⟨rfl,rfl⟩) rfl ?_;simp only[evA,simprocAttr]
 (repeat' (first | exact HL.nil | exact KS.nil | exact FrzC.nl | exact FrzC.c _ trivial | apply HL.cons | apply KS.cons | apply FrzV.agg | apply FrzV.tup | apply FrzV.c | refine FrzC.sl _ _ _ _ _ _ rfl (QC rfl) ?_))
end Go.Proofs.YtgkidpolomhghaaGreatDoor.AM
namespace Go.Proofs.YtgkidpolomhghaaGreatDoor.AM
open Go
theorem jf_lifts:(Rows.lessonKnownRow.lifted == Tryz.prog.liftsFinal)=true:=by kernel_rfl
theorem jf_enter:Tryz.prog.mayEnter=true:=by kernel_rfl
theorem jf_laid:laidOutB Tryz.prog=true:=by kernel_rfl
theorem jf_maps:mapsRowed Tryz.prog=true:=by kernel_rfl
theorem jf_plain:(Rows.lessonKnownRow.plainKeys == Tryz.prog.plainKeys)=true:=by kernel_rfl
theorem jf_stops:Tryz.prog.stopsHeard=true:=by kernel_rfl
theorem jf_main:Tryz.pinned.checked.prog.mainIs=some (true, "e80771a22139a3c703b77766c49955edb5051ecc89a9c8eef379e7c24972514a".toList):=by kernel_rfl
theorem jf_looks:false=Tryz.pinned.checked.prog.looks []:=by kernel_rfl
def S5 (P:Program) (fn:Func) (s:ChangeSpec) (c:OpenClaim):Bool :=
 c.wf (OpenSpec.ofChange s) &&
 fn.params.all (P.readableRec ·)&&namedTie P c.named s.vars &&
 (c.stops == [])&&(P.stops == [])&&(c.knobs == [])&&(P.stopKnobs == []) &&
 (c.maps == (fn.params.toList++s.plain.varTypes P).any (P.mapsRec ·))&&(c.ifaces == (fn.params.toList++s.plain.varTypes P).any (P.ifacesRec ·))&&(c.mapsOut == P.mapsAmong fn.resultTypes.toList) &&
 (c.loops == (fn.params.toList++s.plain.varTypes P).any (P.loopsFrom ·))&&(c.wideKeys == (fn.params.toList++s.plain.varTypes P++fn.resultTypes.toList).any (P.wideKeysFrom ·)) &&
 s.vars.all (P.varReadable ·)&&fn.resultTypes.all (fun t=>P.readableRec t&&decide (t<P.types.size))&&(c.ifacesOut == fn.resultTypes.toList.any (P.ifacesRec ·))&&(c.loopsOut == fn.resultTypes.toList.any (P.loopsFrom ·))&&c.shortTexts.isNone&&(P.make == some c.make)&&(c.kinds == (if c.domain.isEmpty then [] else fn.params.toList.map fun t=>match P.underlying t with | some (.int k)=>some k | _=>none))&&(c.pinned == c.pinnedBy) &&
 (c.veiled == (fn.params.toList++s.plain.varTypes P++fn.resultTypes.toList).any (P.veiledRec ·))&&c.veiledFits P fn.params.toList (fn.params.toList++s.plain.varTypes P++fn.resultTypes.toList)
theorem jf_mk {P:Program} {f:FuncId} {fn:Func} {s:ChangeSpec} {c:OpenClaim} (h1:laidOutB P=true) (h2:mapsRowed P=true) (h3:(c.plainKeys == P.plainKeys)=true) (h4:P.stopsHeard=true) (h5:P.mayEnter=true) (h6:(c.lifted == P.liftsFinal)=true)
  (h7:(c.inPlace == P.inPlace f)=true) (h8:(c.unfollowed == P.unfollowed f)=true) (h9:(c.recurses == P.recurses f)=true) (h10:(c.named == P.varsNamed f)=true) (h:S5 P fn s c=true):joinedFacts P f fn s c=true:=by
 unfold S5 at h;unfold joinedFacts;simp only[QD] at h ⊢;obtain ⟨⟨⟨⟨⟨⟨⟨⟨⟨⟨⟨⟨⟨⟨⟨⟨⟨⟨⟨⟨⟨k1,k2⟩,k3⟩,k4⟩,k5⟩,k6⟩,k7⟩,k8⟩,k9⟩,k10⟩,k11⟩,k12⟩,k13⟩,k14⟩,k15⟩,k16⟩,k17⟩,k18⟩,k19⟩,k20⟩,k21⟩,k22⟩:=h
 repeat' apply And.intro
 all_goals assumption
end Go.Proofs.YtgkidpolomhghaaGreatDoor.AM
namespace Go.Proofs.YtgkidpolomhghaaGreatDoor.AM
variable [Dr]
open Go Go.ChangeShapes Go.WideShapes Go.ChangeAt Go.RowKit
inductive Typed (P:Program):TypeId→List CV→Prop
 | bool {t:TypeId} (ht:P.underlying t=some .bool) (b:Bool):Typed P t [.bool b]
 | int {t:TypeId} {k:IntKind} (ht:P.underlying t=some (.int k)) (n:Int) (hw:(Lit.int k n).wf=true):Typed P t [.int k n]
 | str {t:TypeId} (ht:P.underlying t=some .string) (s:ByteArray) (hs:s.size≤maxLen):Typed P t [.str s]
 | slc {t e:TypeId} (ht:P.underlying t=some (.slice e)) (L:List (List CV)) (hn:L.length≤maxLen) (hl:∀ l∈L,l.length=P.cellsOf e) (h:∀ l∈L,Typed P e l):Typed P t [.rsl L.flatten L.length]
 | arr {t e:TypeId} {n:Nat} (ht:P.underlying t=some (.array n e)) (L:List (List CV)) (hn:L.length=n) (hl:∀ l∈L,l.length=P.cellsOf e) (h:∀ l∈L,Typed P e l):Typed P t L.flatten
 | struct {t:TypeId} {fs:Array Field} (ht:P.underlying t=some (.struct fs)) (L:List (List CV)) (hn:L.length=fs.size)
   (hl:∀ (i:Nat) (f:Field) (l:List CV),fs[i]? = some f→L[i]? = some l→l.length=P.cellsOf f.type)
   (h:∀ (i:Nat) (f:Field) (l:List CV),fs[i]? = some f→L[i]? = some l→Typed P f.type l):Typed P t L.flatten
def TG (P:Program):Nat→TypeId→Bool
 | 0,_=>false
 | n+1,t =>
  match P.underlying t with
  | some .bool | some (.int _) | some .string=>true
  | some (.slice e)=>TG P n e
  | some (.array k e)=>TG P n e&&decide (P.cellsOf t=k*P.cellsOf e)
  | some (.struct fs)=>fs.toList.all (fun f=>TG P n f.type)&&decide (J8 P fs.toList 0=some (P.cellsOf t))
  | _=>false
section
variable {H:Type} {enc:TypeId × Value→H} {P:Program} {W:World}
def avOf (P:Program) (t:TypeId) (cs:List CV):AV :=
 match P.underlying t with
 | some (.struct _) | some (.array _ _)=>.agg (cs.map .cv)
 | _=>.cv (cs.headD .nilp)
inductive Args (P:Program):List TypeId→List AV→Prop
 | nil:Args P [] []
 | cons {t:TypeId} {ts:List TypeId} {cs:List CV} {avs:List AV} (h:Typed P t cs) (hs:Args P ts avs):Args P (t::ts) (avOf P t cs::avs)
end
end Go.Proofs.YtgkidpolomhghaaGreatDoor.AM
namespace Go.Proofs.YtgkidpolomhghaaGreatDoor.AM
open Go
theorem Qd1 {w:World} {b:Nat}:∀ (zs:List Int) (i:Nat),(∀ j,j<zs.length→w.cell? ⟨b,i+j,none⟩=some (.int .u8 (zs.getD j 0)))→CV.reps w (Own nom noX) (zs.map (.int .u8)) ⟨b,0,none⟩ i
 | [],_,_=>by simp[CV.reps]
 | z::zs,i,h=>by
  rw[Q0,CV.reps];refine ⟨fun ho=>?_,⟨.int .u8 z,?_,by rw[CV.rep]⟩,?_⟩
  ·rcases ho with h | ⟨l,hl⟩
   ·exact h.elim
   ·cases hl
  ·have:=h 0 (by simp);have e:Addr.add ⟨b,0,none⟩ i=⟨b,i,none⟩:=by cases i <;> simp[Addr.add]
   rw[e];simpa using this
  ·refine Qd1 zs (i+1) fun j hj=>?_
   have:=h (j+1) (by simpa using hj);rw[show i+1+j=i+(j+1) by omega,this];simp
theorem gl_of_laid {w:World} (h:laidMetH Tryz.prog Rows.lessonKnownRow.laid w):GlOk nom noX w:=by
 rw[MakeChecks.laidMetH_plain _ _ _ (by kernel_rfl)] at h;obtain ⟨ps,⟨_,_,_,_,_,_,_,_,_,_,⟨g,t,cs,fuel,p,q,hg,ht,hv,hd,_,_⟩,_⟩,_,_⟩:=h;obtain rfl:=Option.some.inj ((show Tryz.prog.globalNamed "math/bits.deBruijn64tab" = some 1 by kernel_rfl).symm.trans hg);obtain rfl:=Option.some.inj ((show (Tryz.prog.globals[1]?).map (·.type)=some 248 by kernel_rfl).symm.trans ht);have hcs:cs.toList=FO.map fun z=>Value.int .u8 z:=Lib.cells_of_tab (k:=.u8) (zs:=FO) Tryz.underlying248 Tryz.underlying5 (by kernel_rfl) (by kernel_rfl) hd
 intro x hx;cases WZ.1 hx;refine Qd1 FO 0 fun j hj=>?_
 rw[ZV,World.var?_cell hg hv j,← Y7,hcs];simp[List.getD,hj]
end Go.Proofs.YtgkidpolomhghaaGreatDoor.AM

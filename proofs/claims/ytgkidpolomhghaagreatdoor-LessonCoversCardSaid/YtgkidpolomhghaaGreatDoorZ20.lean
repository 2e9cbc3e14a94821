/- Parts of the proof, joined: LeE3 to LeS1. -/
import Derived.Test.YtgkidpolomhghaaGreatDoorZ19
set_option linter.unusedVariables false
set_option linter.unusedSimpArgs false
set_option linter.unusedSectionVars false
namespace Go.Proofs.YtgkidpolomhghaaGreatDoor.AM
variable [Dr]
open Go Pl
def regOps:Code→Array Oper
 | .region _ ops _=>ops
 | _=>#[]
def Qba (c:Code) (i:Nat):Oper:=(regOps c)[i]?.getD default
theorem hb113:Tryz.f113.body=some (Tryz.f113.body.getD .skip):=by kernel_rfl
theorem sh72:(Tryz.f113.body.getD .skip)=.seq (nav [0] (Tryz.f113.body.getD .skip)) (.seq (nav [1,0] (Tryz.f113.body.getD .skip)) (.seq (.seq (.region 2 #[Qba (nav [1,1,0,0] (Tryz.f113.body.getD .skip)) 0,Qba (nav [1,1,0,0] (Tryz.f113.body.getD .skip)) 1] false) (.block 0 (.loop (.seq (.region 3 #[Qba (nav [1,1,0,1,0,0,0] (Tryz.f113.body.getD .skip)) 0,Qba (nav [1,1,0,1,0,0,0] (Tryz.f113.body.getD .skip)) 1] false)
  (.seq (.cond (.tmp 8) .skip (.exit 0)) (.block 1 (.seq (.region 4 (regOps (nav [1,1,0,1,0,0,1,1,0,0] (Tryz.f113.body.getD .skip))) false) (nav [1,1,0,1,0,0,1,1,0,1] (Tryz.f113.body.getD .skip))))))))) (.seq (nav [1,1,1,0] (Tryz.f113.body.getD .skip)) (.seq (nav [1,1,1,1,0] (Tryz.f113.body.getD .skip)) .ret)))):=by kernel_rfl
abbrev vs113:List Nat:=[0,2,3,4,6]
def ic72a:IC:=.region [⟨some 1,none,.prim .mv,[.c (.cv .nilf)]⟩]
def ic72b:IC:=.region [⟨some 2,none,.prim .mv,[.c (.cv .nils)]⟩]
def is72:List Ins:=[⟨none,none,.prim (.extract 0),[.t 0]⟩,⟨some 3,none,.prim (.alloc [.cv (.int .i64 0),.cv (.int .i64 0)]),[]⟩,⟨none,none,.prim (.store 2),[.v 3,.t 1]⟩]
def ic72c:IC:=.region [⟨none,none,.prim .mv,[.v 2]⟩,⟨none,none,.prim (.loadN 2),[.v 3]⟩,⟨none,none,.prim (.bslice 2 1 [.cv (.int .i64 0),.cv (.int .i64 0)] [(0,2)]),[.t 1]⟩,⟨none,none,.prim (.append 2 16),[.t 0,.t 2]⟩,⟨some 2,none,.prim .mv,[.t 3]⟩]
def ic72d:IC:=.region [⟨none,none,.prim .mv,[.v 2]⟩,⟨none,none,.call,[.c (.fn (.func 148) []),.t 0,.c (.fn (.func 149) [])]⟩]
def ic72e:IC:=.region [⟨none,none,.prim .mv,[.v 2]⟩,⟨none,none,.call,[.c (.fn (.func 151) []),.t 0]⟩,⟨some 1,none,.prim .mv,[.t 1]⟩]
theorem cc72a:QL Tryz.prog vs113 19 (nav [0] (Tryz.f113.body.getD .skip))=some ic72a:=by kernel_rfl
theorem cc72b:QL Tryz.prog vs113 19 (nav [1,0] (Tryz.f113.body.getD .skip))=some ic72b:=by kernel_rfl
theorem cc72c:QL Tryz.prog vs113 19 (nav [1,1,0,1,0,0,1,1,0,1] (Tryz.f113.body.getD .skip))=some ic72c:=by kernel_rfl
theorem cc72d:QL Tryz.prog vs113 19 (nav [1,1,1,0] (Tryz.f113.body.getD .skip))=some ic72d:=by kernel_rfl
theorem cc72e:QL Tryz.prog vs113 19 (nav [1,1,1,1,0] (Tryz.f113.body.getD .skip))=some ic72e:=by kernel_rfl
def mapE (es:List (Rt × Int)):List (AV × AV):=es.map fun e=>(rgV e.1,AV.i e.2)
def Z4 (es:List (Rt × Int)):List Rt:=es.map (·.1)
theorem Qda (es:List (Rt × Int)):∀ p∈mapE es,PF p.1∧PF p.2:=by
 intro p hp
 simp only[mapE,ZP] at hp
 obtain ⟨e,_,rfl⟩:=hp
 exact ⟨QeL (zs:=[e.1.1,e.1.2]),QbP⟩
abbrev TU (ks:List Rt):AV:=.fn (.func 171) [.cv (.rp [.rsl (ks.flatMap rgC) ks.length] 0)]
theorem AccS.push {e n:Nat} {σ:List AObj} {v:AV} {cs:List CV} (h:AccS e σ v n cs) (o:AObj):AccS e (σ++[o]) v n cs:=by
 rcases h with h | ⟨l,h1,h2,h3⟩
 ·exact .inl h
 ·exact .inr ⟨l,h1,h2,FU h3 o⟩
theorem QfD {p:CV→Prop} {e n:Nat} {σ:List AObj} {v:AV} {cs:List CV} (h:AccS e σ v n cs) (hp:∀ c∈cs,p c):FrzC p σ v (.rsl cs n):=by
 rcases h with ⟨rfl,rfl,rfl⟩ | ⟨l,rfl,hl,hr⟩
 ·exact .nl
 ·refine .sl l 0 n e _ _ hr (by simp[hl]) ?_
  rw[YO,Q5 (by simp[hl])]
  exact TP hp
theorem Qe1:V2 []=[]:=by simp[V2]
theorem c99 (v:AV) (σ:List AObj) (hv:v.isUndef=false∧cellsOf v=[v]):AC Tryz.prog 151 [v] σ fun r τ=>r=.fn (.func 171) [.ptr σ.length 0]∧τ=σ++[.cells [v]]:=by
 refine ZF (fok151 true) (QC rfl) ?_
 simp only[ic151,WI,hv,evA,simprocAttr]
theorem c72 {es:List (Rt × Int)} (hlen:es.length<2 ^ 38) {σ:List AObj} {l:Nat} (hl:σ[l]? = some (.map (mapE es))):AC Tryz.prog 113 [.map l] σ fun r τ=>r=TU (V2 (Z4 es))∧τ=σ:=by
 have hp:(2:Nat) ^ 38=274877906944:=by decide
 have hp2:(2:Nat) ^ 44=17592186044416:=by decide
 have hm:(mapE es).length=es.length:=by simp[mapE]
 refine AC_map (fn:=Tryz.f113) (vars:=vs113) Tryz.func113 hb113 (RE Tryz.func113 (by kernel_rfl) hb113) (QC (by kernel_rfl)) hl (Qda es) fun bm ces clock=>?_
 have hG:∀ m X w m' w',GM 0 bm (mapE es) ces clock m X w→Step 1 m X w m' w'→GM 0 bm (mapE es) ces clock m' X w':=fun m X w m' w' h hs=>h.step hs (Nat.zero_lt_one)
 have hN:Tryz.f113.ntmps=19:=by kernel_rfl
 rw[hN,sh72]
 refine C6 hG (WX.of (W.mono (Y6 _ ic72a _ _ cc72a (VT _ _ (fun e s'=>e=.normal∧s'=⟨[.map 0,.cv .nilf,.undef,.undef,.undef],[.dead]⟩) .mk .mk ?_)) ?_))
 ·simp only[ic72a,evA,simprocAttr]
 rintro e s' ⟨rfl,rfl⟩
 refine C6 hG (WX.of (W.mono (Y6 _ ic72b _ _ cc72b (VT _ _ (fun e s'=>e=.normal∧s'=⟨[.map 0,.cv .nilf,.cv .nils,.undef,.undef],[.dead]⟩) .mk .mk ?_)) ?_))
 ·simp only[ic72b,evA,simprocAttr]
 rintro e s' ⟨rfl,rfl⟩
 refine C6 hG ?_
 refine QdL (l:=0) (tm:=5) (tit:=6) (tn:=7) (tok:=8) (te:=9) (iit:=4) (T:=182) (K:=176) (E:=3) (x:=.tmp 0) (is4:=is72) (o4:=Qba (nav [1,1,0,1,0,0,1,1,0,0] (Tryz.f113.body.getD .skip)) 0) (Nat.zero_lt_one) rfl Tryz.underlying182 (by decide)
  ⟨by kernel_rfl,by kernel_rfl,by kernel_rfl⟩ ⟨by kernel_rfl,by kernel_rfl,by kernel_rfl⟩ ⟨by kernel_rfl,by kernel_rfl,by kernel_rfl⟩ ⟨by kernel_rfl,by kernel_rfl,by kernel_rfl⟩ ⟨by kernel_rfl,by kernel_rfl,by kernel_rfl,by kernel_rfl⟩
  (by kernel_rfl) (by kernel_rfl) rfl (by decide) (by decide)
  (fun dn s=>dn.Nodup∧(∀ i∈dn,i<es.length)∧∃ v2 v3 τ,(dn=[]→v2=.cv .nils)∧AccS 2 τ v2 dn.length ((dn.map fun i=>(Z4 es)[i]?.getD (0,0)).flatMap rgC)∧s=⟨[.map 0,.cv .nilf,v2,v3,.ptr 1 0],τ⟩)
  ⟨YU,by simp,.cv .nils,.undef,_,fun _=>rfl,AccS.nil _ _,rfl⟩ ?_ ?_ ?_
 ·rintro dn s' ⟨_,_,v2,v3,τ,_,_,rfl⟩
  rfl
 ·rintro dn s' i k a ⟨hnd,hdl,v2,v3,τ,hz,hA,rfl⟩ hid hi
  have hil:i<es.length:=by have:=(QH.1 hi).1;omega
  have hki:k=rgV ((Z4 es)[i]?.getD (0,0)):=by
   simp only[mapE,ZR,QA] at hi
   obtain ⟨e,he,h⟩:=hi
   cases h
   simp[Z4,he]
  have hdn:dn.length≤es.length:=by
   have:=hnd.length_le_of_subset (l₂:=List.range es.length) fun i hi=>ZI.2 (hdl i hi)
   simpa using this
  have hmap:((dn++[i]).map fun i=>(Z4 es)[i]?.getD (0,0)).flatMap rgC=(dn.map fun i=>(Z4 es)[i]?.getD (0,0)).flatMap rgC++rgC ((Z4 es)[i]?.getD (0,0)):=by simp
  generalize (Z4 es)[i]?.getD (0,0)=kr at hki hmap
  subst hki
  have hA1:AccS 2 (τ++[AObj.cells [.i kr.1,.i kr.2]]) v2 dn.length ((dn.map fun i=>(Z4 es)[i]?.getD (0,0)).flatMap rgC):=hA.push _
  obtain ⟨v',σ',happ,hA'⟩:=QcM (by_:=16) (x:=rgC kr) hA1 rfl (by omega) (by omega)
  have happ':ZX 2 16 [v2,.sl (τ++[AObj.cells [.i kr.1,.i kr.2]]).length 0 1 2] ((τ++[AObj.cells [.i kr.1,.i kr.2]])++[AObj.cells [.i kr.1,.i kr.2]])=some (v',σ'):=happ
  refine T2 _ _ _ _ _ .mk .mk ?_
  simp only[is72,WW,VW,evA,simprocAttr]
  refine W.mono (Y6 _ ic72c _ _ cc72c (VT _ _ (fun e s'=>e=.normal∧s'=⟨[.map 0,.cv .nilf,v',.ptr τ.length 0,.ptr 1 0],σ'⟩) .mk .mk ?_)) ?_
  ·simp only[ic72c,WW,VW,happ',evA,simprocAttr]
  rintro e s2 ⟨rfl,rfl⟩
  refine ⟨_,Weak.refl _ _,?_,?_,v',_,σ',(fun h=>absurd h (by simp)),?_,rfl⟩
  ·exact List.nodup_append.2 ⟨hnd,by simp,fun a ha b hb=>by simp at hb;subst hb;rintro rfl;exact hid ha⟩
  ·intro j hj
   rcases YV.1 hj with hj | hj
   ·exact hdl j hj
   ·simp at hj;subst hj;exact hil
  ·rw[QM,hmap]
   exact hA'
 ·rintro dn s' ⟨hnd,hdl,v2,v3,τ,hz,hA,rfl⟩ hperm
  rw[hm] at hperm
  have hks:(dn.map fun i=>(Z4 es)[i]?.getD (0,0)).Perm (Z4 es):=by
   have:=hperm.map fun i=>(Z4 es)[i]?.getD (0,0)
   have hl:es.length=(Z4 es).length:=by simp[Z4]
   rw[hl,L3] at this
   exact this
  have hsr:=NR hks
  have hdl':dn.length=(dn.map fun i=>(Z4 es)[i]?.getD (0,0)).length:=by simp
  rw[hdl'] at hA
  generalize (dn.map fun i=>(Z4 es)[i]?.getD (0,0))=ks at hA hks hsr hdl'
  have hkl:ks.length=es.length:=by have:=hperm.length_eq;simp at this;omega
  rw[← hsr]
  have sorted:∃ τ',AC Tryz.prog 148 [v2,.fn (.func 149) []] τ (fun r τ2=>r=.tup []∧τ2=τ')∧AccS 2 τ' v2 (V2 ks).length ((V2 ks).flatMap rgC):=by
   rcases hA with ⟨rfl,h0,_⟩ | ⟨l,rfl,_,hr⟩
   ·have:ks=[]:=ZT h0
    subst this
    exact ⟨τ,c95n τ,by rw[Qe1];exact AccS.nil _ _⟩
   ·by_cases hk0:0<ks.length
    ·refine ⟨_,c95 hk0 (by omega) hr,.inr ⟨l,by rw[EE],by rw[UG IR],?_⟩⟩
     exact W0 hr
    ·have hd0:dn=[]:=ZT (by omega)
     cases hz hd0
  obtain ⟨τ',hsort,hA2⟩:=sorted
  refine C6 hG (WX.of (W.mono (Y6 _ ic72d _ _ cc72d (VT _ _ (fun e s'=>e=.normal∧s'=⟨[.map 0,.cv .nilf,v2,v3,.ptr 1 0],τ'⟩) .mk .mk ?_)) ?_))
  ·simp only[ic72d,evA,simprocAttr]
   refine hsort.run ?_
   simp only[evA,simprocAttr]
  rintro e s' ⟨rfl,rfl⟩
  refine C6 hG (WX.of (W.mono (Y6 _ ic72e _ _ cc72e (VT _ _ (fun e s'=>e=.normal∧s'=⟨[.map 0,.fn (.func 171) [.ptr τ'.length 0],v2,v3,.ptr 1 0],τ'++[.cells [v2]]⟩) .mk .mk ?_)) ?_))
  ·simp only[ic72e,evA,simprocAttr]
   refine (c99 v2 τ' ?_).run ?_
   ·rcases hA2 with ⟨rfl,_⟩ | ⟨l,rfl,_⟩ <;> exact ⟨rfl,rfl⟩
   simp only[evA,simprocAttr]
  rintro e s' ⟨rfl,rfl⟩
  refine WX.of (QcP ⟨.fn (.func 171) [.ptr τ'.length 0],rfl,TU (V2 ks),?_,rfl⟩)
  refine .fn (.cons (.c (.ptr _ _ [v2] _ (by rw[WW];rfl) (.cons (QfD (hA2.push _) (MN _)) .nil))) .nil)
structure Cls where
 nm:ByteArray
 inc:List Int
 need:Int
 age:Int
 term:Int
deriving Inhabited
structure Sys where
 cl:List Cls
 co:List ByteArray
deriving Inhabited
abbrev clsC (c:Cls):List CV:=[.str c.nm,.rsl (c.inc.map (.int .i64)) c.inc.length,.int .i64 c.need,.int .i64 c.age,.int .i64 c.term]
abbrev clsA (c:Cls):AV:=.agg [.cv (.str c.nm),ints c.inc,.i c.need,.i c.age,.i c.term]
def DZ (cs:List Cls):List CV:=cs.flatMap clsC
abbrev clsR (cs:List Cls):CV:=.rsl (DZ cs) cs.length
abbrev strR (co:List ByteArray):CV:=.rsl (co.map .str) co.length
abbrev sysV (s:Sys):AV:=.agg [.cv (clsR s.cl),.cv (strR s.co)]
theorem TW (c:Cls):(clsC c).length=5:=rfl
theorem QaE (cs:List Cls):(DZ cs).length=cs.length*5:=UG TW cs
section
variable {cs:List Cls} {k:Nat}
theorem CW (h:k<cs.length):(DZ cs)[k*5+1]? = some (.rsl ((cs[k]!).inc.map (.int .i64)) (cs[k]!).inc.length):=flat_get TW h (j:=1) (by omega)
theorem Qaz (h:k<cs.length) (σ:List AObj):YF 5 [.cv (.rp (DZ cs) (k*5))] σ=some (clsA cs[k]!,σ):=by
 have h1:k*5+5≤(DZ cs).length:=by rw[QaE];omega
 have h2:=G3 TW h
 simp only[YF,h1,if_true]
 unfold DZ;rw[h2];rfl
theorem cls_sl (h:k≤cs.length) (σ:List AObj):VG 5 false true [.cv (clsR cs),.cv (.int .i64 k)] σ=some (.cv (clsR (cs.take k)),σ):=by
 rw[Qc7 h (QaE cs)];unfold DZ;rw[A3 TW];simp[h,DZ,clsR]
theorem BK {co:List ByteArray} (h:k<co.length):(co.map CV.str)[k]? = some (.str co[k]!):=by simp[h]
theorem str_sl {co:List ByteArray} (h:k≤co.length) (σ:List AObj):VG 1 false true [.cv (strR co),.cv (.int .i64 k)] σ=some (.cv (strR (co.take k)),σ):=by
 rw[Qc7 h (by simp)];simp[h,strR,List.map_take]
end
theorem GR {cs:List Cls} {k:Nat} (h:k<cs.length) (σ:List AObj):VP 5 [.cv (clsR cs),.cv (.int .i64 k)] σ=some (.cv (.rp (DZ cs) (k*5)),σ):=XP h σ
structure SSz (s:Sys):Prop where
 cl:s.cl.length<2 ^ 63
 co:s.co.length<2 ^ 63
 nm:∀ i,i<s.cl.length→(s.cl[i]!).nm.size<2 ^ 63
 inc:∀ i,i<s.cl.length→(s.cl[i]!).inc.length<2 ^ 63
 cm:∀ i,i<s.co.length→(s.co[i]!).size<2 ^ 63
def XZ (g:Nat→Int):Nat→Nat→Int × Int
 | _,0=>(0,0)
 | i,k+1=>if g i=0 then XZ g (i+1) k else (i,g i)
theorem JY {g:Nat→Int}:∀ (k i:Nat),(∀ j,i≤j→j<i+k→g j=0)→XZ g i k=(0,0)
 | 0,_,_=>rfl
 | k+1,i,h=>by
  rw[XZ,if_pos (h i (QG _) (by omega))]
  exact JY k (i+1) fun j h1 h2=>h j (by omega) (by omega)
theorem VF {g:Nat→Int}:∀ (k i m:Nat),i≤m→m<i+k→(∀ j,i≤j→j<m→g j=0)→g m≠0→XZ g i k=((m:Int),g m)
 | 0,i,m,h1,h2,_,_=>by omega
 | k+1,i,m,h1,h2,h3,h4=>by
  rcases ZB i m with h | h
  ·rw[XZ,if_pos (h3 i (QG _) h)]
   exact VF k (i+1) m h (by omega) (fun j a b=>h3 j (by omega) b) h4
  ·have:i=m:=by omega
   subst this
   rw[XZ,if_neg h4]
theorem c103 (cs:List Cls) (p:CV) (g:Nat→Int) (hz:cs.length<2 ^ 63) (hf:∀ i,i<cs.length→∀ σ,AC Tryz.prog 162 [.cv p,.i i,clsA cs[i]!] σ fun r τ=>r=.i (g i)∧τ=σ) :
  PC Tryz.prog 161 [.cv (clsR cs),.bm 162 [.cv p]] (.tup [.i (XZ g 0 cs.length).1,.i (XZ g 0 cs.length).2]):=by
 refine ⟨ZF (fok161 true) (QC rfl) ?_,rfl⟩
 simp only[ic161,evA,simprocAttr]
 refine ZW cs.length (fun i s=>(∀ j,j<i→g j=0)∧∃ v2 v3 v4 v5 v9 v10,s=⟨[.cv (clsR cs),.bm 162 [.cv p],v2,v3,v4,v5,.cv (clsR cs),.i cs.length,.i i,v9,v10],[]⟩) ?_ 0 (QF _) ⟨by omega,_,_,_,_,_,_,rfl⟩
 rintro i s hi ⟨hall,v2,v3,v4,v5,v9,v10,rfl⟩
 by_cases h:i<cs.length
 ·simp only[ic161l0,QJ,h,GR h,Qaz h,evA,simprocAttr]
  refine (hf i h _).run ?_
  by_cases hg:g i=0
  ·have hb:(g i != 0)=false:=by simpa using hg
   simp only[hb,Q6 (show i+1<2 ^ 63 by omega),evA,simprocAttr]
   refine W1 [] _ rfl (by first | trivial | omega) (QF _) (by simp) ⟨fun j hj=>?_,_,_,_,_,_,_,rfl⟩
   rcases QQ.1 hj with hj | rfl
   ·exact hall j hj
   ·exact hg
  ·have hb:(g i != 0)=true:=by simpa using hg
   rw[VF cs.length 0 i (QF _) (by omega) (fun j _ hj=>hall j hj) hg]
   simp only[hb,evA,simprocAttr]
   exact frz
 ·have:i=cs.length:=by omega
  subst this
  rw[JY cs.length 0 fun j _ hj=>hall j (by omega)]
  simp only[ic161l0,QJ,h,evA,simprocAttr]
  exact frz
theorem c105 (co:List ByteArray) (p:CV) (g:Nat→Int) (hz:co.length<2 ^ 63) (hf:∀ i,i<co.length→∀ σ,AC Tryz.prog 164 [.cv p,.i i,.cv (.str co[i]!)] σ fun r τ=>r=.i (g i)∧τ=σ) :
  PC Tryz.prog 163 [.cv (strR co),.bm 164 [.cv p]] (.tup [.i (XZ g 0 co.length).1,.i (XZ g 0 co.length).2]):=by
 refine ⟨ZF (fok163 true) (QC rfl) ?_,rfl⟩
 simp only[ic163,evA,simprocAttr]
 refine ZW co.length (fun i s=>(∀ j,j<i→g j=0)∧∃ v2 v3 v4 v5 v9 v10,s=⟨[.cv (strR co),.bm 164 [.cv p],v2,v3,v4,v5,.cv (strR co),.i co.length,.i i,v9,v10],[]⟩) ?_ 0 (QF _) ⟨by omega,_,_,_,_,_,_,rfl⟩
 rintro i s hi ⟨hall,v2,v3,v4,v5,v9,v10,rfl⟩
 by_cases h:i<co.length
 ·simp only[ic163l0,QJ,h,XP h,BK h,evA,simprocAttr]
  refine (hf i h _).run ?_
  by_cases hg:g i=0
  ·have hb:(g i != 0)=false:=by simpa using hg
   simp only[hb,Q6 (show i+1<2 ^ 63 by omega),evA,simprocAttr]
   refine W1 [] _ rfl (by first | trivial | omega) (QF _) (by simp) ⟨fun j hj=>?_,_,_,_,_,_,_,rfl⟩
   rcases QQ.1 hj with hj | rfl
   ·exact hall j hj
   ·exact hg
  ·have hb:(g i != 0)=true:=by simpa using hg
   rw[VF co.length 0 i (QF _) (by omega) (fun j _ hj=>hall j hj) hg]
   simp only[hb,evA,simprocAttr]
   exact frz
 ·have:i=co.length:=by omega
  subst this
  rw[JY co.length 0 fun j _ hj=>hall j (by omega)]
  simp only[ic163l0,QJ,h,evA,simprocAttr]
  exact frz
def FP (co:List ByteArray) (x:ByteArray):Int:=idxN (fun i=>decide (co[i]! = x)) co.length
theorem c81 (co:List ByteArray) (x:ByteArray) (hz:co.length<2 ^ 63):PC Tryz.prog 196 [.cv (strR co),.cv (.str x)] (.i (FP co x)):=by
 refine ⟨ZF (fok196 true) (QC rfl) ?_,rfl⟩
 simp only[ic196,evA,simprocAttr]
 refine ZW co.length (fun i s=>(∀ j,j<i→decide (co[j]! = x)=false)∧∃ v3 v6 v7,s=⟨[.cv (strR co),.cv (.str x),.i 0,v3,.i co.length,.i i,v6,v7],[]⟩) ?_ 0 (QF _) ⟨by omega,_,_,_,rfl⟩
 rintro i s hi ⟨hall,v3,v6,v7,rfl⟩
 by_cases h:i<co.length
 ·have hc:(x.toList == (co[i]!).toList)=decide (co[i]! = x):=by rw[str_eq,Q8];simp;exact eq_comm
  simp only[ic196l0,QJ,h,XP h,BK h,binS,hc,evA,simprocAttr]
  cases hp:decide (co[i]! = x)
  ·simp only[Q6 (show i+1<2 ^ 63 by omega),evA,simprocAttr]
   refine ZL (by first | trivial | omega) ⟨fun j hj=>?_,_,_,_,rfl⟩
   rcases QQ.1 hj with hj | rfl
   ·exact hall j hj
   ·exact hp
  ·simp only[evA,simprocAttr]
   rw[show FP co x=(i:Int) from EK (p:=fun i=>decide (co[i]! = x)) h hall hp]
   exact frz
 ·simp only[ic196l0,QJ,h,evA,simprocAttr]
  have:i=co.length:=by omega
  subst this
  rw[show FP co x = -1 from EL (p:=fun i=>decide (co[i]! = x)) hall]
  exact frz
theorem c123 (co:List ByteArray) (x:ByteArray) (hz:co.length<2 ^ 63):PC Tryz.prog 181 [.cv (strR co),.cv (.str x)] (.b (anyN (fun i=>decide (co[i]! = x)) co.length)):=by
 refine ⟨ZF (fok181 true) (QC rfl) ?_,rfl⟩
 simp only[ic181,evA,simprocAttr]
 refine (c81 co x hz).call frz ?_
 simp only[FP,OA,evA,simprocAttr]
 exact frz
theorem c79 (cs:List Cls) (fv:AV) (p:Nat→Bool) (hz:cs.length<2 ^ 63) (σ:List AObj) (hf:∀ i,i<cs.length→X0 Tryz.prog fv [clsA cs[i]!] σ fun r τ=>r=.b (p i)∧τ=σ) :
  AC Tryz.prog 195 [.cv (clsR cs),fv] σ fun r τ=>r=.i (idxN p cs.length)∧τ=σ:=by
 refine ZF (fok195 true) (QC rfl) ?_
 simp only[ic195,evA,simprocAttr]
 refine ZW cs.length (fun i s=>(∀ j,j<i→p j=false)∧∃ v3 v6 v7,s=⟨[.cv (clsR cs),fv,.i 0,v3,.i cs.length,.i i,v6,v7],σ⟩) ?_ 0 (QF _) ⟨by omega,_,_,_,rfl⟩
 rintro i s hi ⟨hall,v3,v6,v7,rfl⟩
 by_cases h:i<cs.length
 ·simp only[ic195l0,QJ,h,GR h,Qaz h,evA,simprocAttr]
  refine (hf i h).run ?_
  cases hp:p i
  ·simp only[Q6 (show i+1<2 ^ 63 by omega),evA,simprocAttr]
   refine ZL (by first | trivial | omega) ⟨fun j hj=>?_,_,_,_,rfl⟩
   rcases QQ.1 hj with hj | rfl
   ·exact hall j hj
   ·exact hp
  ·simp only[evA,simprocAttr]
   exact (EK h hall hp).symm
 ·simp only[ic195l0,QJ,h,evA,simprocAttr]
  have:i=cs.length:=by omega
  subst this
  exact (EL hall).symm
theorem c121 (cs:List Cls) (fv:AV) (p:Nat→Bool) (hz:cs.length<2 ^ 63) (σ:List AObj) (hf:∀ i,i<cs.length→X0 Tryz.prog fv [clsA cs[i]!] σ fun r τ=>r=.b (p i)∧τ=σ) :
  AC Tryz.prog 179 [.cv (clsR cs),fv] σ fun r τ=>r=.b (anyN p cs.length)∧τ=σ:=by
 refine ZF (fok179 true) (QC rfl) ?_
 simp only[ic179,evA,simprocAttr]
 refine (c79 cs fv p hz _ hf).run ?_
 simp only[evA,simprocAttr,OA]
end Go.Proofs.YtgkidpolomhghaaGreatDoor.AM

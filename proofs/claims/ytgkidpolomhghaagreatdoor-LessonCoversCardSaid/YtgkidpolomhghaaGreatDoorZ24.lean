/- Parts of the proof, joined: LeA2 to LeQ3. -/
import Derived.Test.YtgkidpolomhghaaGreatDoorProg
import Derived.Test.YtgkidpolomhghaaGreatDoorZ23
set_option linter.unusedVariables false
set_option linter.unusedSimpArgs false
set_option linter.unusedSectionVars false
namespace Go.Proofs.YtgkidpolomhghaaGreatDoor.AM
variable [Dr]
open Go Pl
theorem can_ar {d:Dy} (h:DyOk d) {i k:Nat} (hi:i<d.ls.length) (hk:k<d.ls.length) :
  ∃ o f:Nat,(d.ls[i]!).o=(o:Int)∧(d.ls[k]!).f=(f:Int)∧o<d.mi.length∧f<(d.mi[o]!).length∧IntKind.i64.wrap ((d.ls[i]!).e+gI d.mi[o]! f)=(d.ls[i]!).e+gI d.mi[o]! f∧canB d i k=decide ((d.ls[i]!).e+gI d.mi[o]! f≤(d.ls[k]!).b):=by
 have h1:=h.les i hi
 have h2:=h.les k hk
 obtain ⟨o,ho⟩:∃ o:Nat,(d.ls[i]!).o=(o:Int):=⟨(d.ls[i]!).o.toNat,by have:=h1.o;omega⟩
 obtain ⟨f,hf⟩:∃ f:Nat,(d.ls[k]!).f=(f:Int):=⟨(d.ls[k]!).f.toNat,by have:=h2.f;omega⟩
 have ho2:o<d.mi.length:=by have:=h1.o;omega
 have hf2:f<d.mi.length:=by have:=h2.f;omega
 have hr:=h.rng o f ho2 hf2
 have:=h1.be
 have:=h1.b0
 have:=h1.e1
 refine ⟨o,f,ho,hf,ho2,by rw[h.row o ho2];exact hf2,ZC (by omega),?_⟩
 unfold canB
 rw[ho,hf,Int.toNat_natCast,Int.toNat_natCast]
theorem MR {l:List Les} {k:Nat} (h:k<l.length) (σ:List AObj):YF 7 [.cv (.rp (F0 l) (k*7))] σ=some (.agg [.i (l[k]!).le,.i (l[k]!).te,.i (l[k]!).ca,.i (l[k]!).b,.i (l[k]!).e,.i (l[k]!).f,.i (l[k]!).o],σ):=Qcl h σ
theorem le104 (d:Dy) (hd:DyOk d) {i k:Nat} (hi:i<d.ls.length) (hk:k<d.ls.length):PC Tryz.prog 104 [dyV d,.i i,.i k] (.b (canB d i k)):=by
 obtain ⟨o,f,ho,hf,ho2,hf2,hw,hc⟩:=can_ar hd hi hk
 refine ⟨ZF (fok104 true) (QC rfl) ?_,rfl⟩
 rw[hc]
 have hl:=MR hi
 have hl2:=MR hk
 have ia:=F5 hi
 have ia2:=F5 hk
 generalize d.ls[i]! = a at *
 generalize d.ls[k]! = b at *
 obtain ⟨a1,a2,a3,a4,a5,a6,a7⟩:=a
 obtain ⟨b1,b2,b3,b4,b5,b6,b7⟩:=b
 simp only at ho hf hw hl hl2
 subst ho hf
 simp only[ic104,WI,cellsOf,evA,simprocAttr]
 refine DW_s [] [(2,12),(2,13),(5,12),(5,13),(8,12),(8,13),(8,14),(11,12),(11,13),(11,14),(12,13),(13,12)] hmix (by kernel_rfl) rfl ?_
 simp only[ia,ia2,hl,hl2,evA,simprocAttr]
 refine DW_s [] [] hmix (by kernel_rfl) rfl ?_
 simp only[XP ho2,W3,B7 ho2,J5 hf2,J4 hf2,WA,hw,evA,simprocAttr]
 exact frz
abbrev behV (d:Dy) (i:Nat):AV:=.fn (.func 121) [.cv (.rp [minR d.mi,lesR d.ls] 0),.cv (.rp [.int .i64 i] 0)]
theorem le74 (d:Dy) (i:Nat):PA Tryz.prog 74 [dyV d,.i i] (behV d i):=by
 refine ⟨ZF (fok74 true) (QC rfl) ?_,rfl,rfl⟩
 simp only[ic74,WI,cellsOf,evA,simprocAttr]
 exact frz
theorem Qdd (d:Dy) (hd:DyOk d) {i:Nat} (hi:i<d.ls.length) (L:Nat) (S:Nat→List AObj→Prop) (T:List AObj→Prop) (σ0:List AObj) (hL:L<σ0.length) (h0:S 0 σ0)
  (hs:∀ k τ,k<d.ls.length→canB d i k=false→S k τ→S (k+1) τ)
  (h:∀ k τ,k<d.ls.length→canB d i k=true→S k τ→σ0.length≤τ.length→YC Tryz.prog L [.i k] τ fun r τ'=>(r=.b true∧∃ τ2 J,τ'=τ2++J∧σ0.length≤τ2.length∧(J=[]∨∀ o∈τ2,Z3 τ2.length o=true)∧S (k+1) τ2)∨(r=.b false∧T τ')) :
  AC Tryz.prog 121 [.yld L,.cv (.rp [minR d.mi,lesR d.ls] 0),.cv (.rp [.int .i64 i] 0)] σ0 fun r τ=>r=.tup []∧(S d.ls.length τ∨T τ):=by
 refine ZF (fok121 true) (QC rfl) ?_
 have h12:=hd.l12
 have hp:(2:Nat) ^ 63=9223372036854775808:=by decide
 simp only[ic121,evA,simprocAttr]
 refine ZW d.ls.length (fun k s=>∃ v3 v6 v7 τ,S k τ∧σ0.length≤τ.length∧s=⟨[.yld L,.cv (.rp [minR d.mi,lesR d.ls] 0),.cv (.rp [.int .i64 i] 0),v3,.i d.ls.length,.i k,v6,v7],τ⟩) ?_ 0 (QF _) ⟨_,_,_,_,h0,QG _,rfl⟩
 rintro k s hk ⟨v3,v6,v7,τ,hS,hτ,rfl⟩
 by_cases hin:k<d.ls.length
 ·simp only[ic121l0,QJ,hin,evA,simprocAttr]
  refine (le104 d hd hi hin).call frz ?_
  cases hc:canB d i k with
  | false =>
   simp only[Q6 (show k+1<2 ^ 63 by omega),evA,simprocAttr]
   exact ZL (by first | trivial | omega) ⟨_,_,_,_,hs k τ hin hc hS,hτ,rfl⟩
  | true =>
   simp only[evA,simprocAttr]
   refine (h k τ hin hc hS hτ).mono ?_
   rintro r τ' (⟨rfl,τ2,J,rfl,hlen,hJ,hS2⟩ | ⟨rfl,hT⟩)
   ·simp only[Q6 (show k+1<2 ^ 63 by omega),evA,simprocAttr]
    rcases hJ with rfl | hJ
    ·rw[ZU]
     exact ZL (by first | trivial | omega) ⟨_,_,_,_,hS2,hlen,rfl⟩
    ·refine W1 τ2 J rfl (by first | trivial | omega) hlen hJ ?_
     have hy:QR τ2.length (.yld L)=true:=by simp[QR];omega
     exact ⟨_,_,_,_,hS2,hlen,by simp only[clip,hy,if_true];rfl⟩
   ·simp only[evA,simprocAttr]
    exact .inr hT
 ·have hin':k=d.ls.length:=by omega
  subst hin'
  simp only[ic121l0,QJ,hin,evA,simprocAttr]
  exact .inl hS
def ia120:IC:=.region [jw 4 .mv [.v 6]]
def ib120:IC:=(.block 1 (.region [jL 2,jv 4,jq (.bslice 1 1 [(.cv (.int .i64 0))] [(0,1)]) [.t 1],jq (.append 1 8) [.t 0,.t 2],jq (.store 1) [.v 2,.t 3]]))
theorem ca120:QL Tryz.prog vs120 13 (nav [1,0,1,0,2] (Tryz.f120.body.getD .skip))=some ia120:=by kernel_rfl
theorem cb120:QL Tryz.prog vs120 13 (nav [1,0,1,0,3] (Tryz.f120.body.getD .skip))=some ib120:=by kernel_rfl
theorem M7 {m:Nat} {p:Nat→Bool}:(YS m p).length≤m:=by rw[QcG];exact P7
theorem ac120 (d:Dy) (hd:DyOk d) {i:Nat} (hi:i<d.ls.length):AC Tryz.prog 120 [.cv .nils,behV d i] [] fun r τ=>AccS 1 τ r (behL d i).length ((behL d i).map (.int .i64)):=by
 have h12:=hd.l12
 have hp3:(2:Nat) ^ 44=17592186044416:=by decide
 refine ZF (fok120 true) (QC rfl) ?_
 simp only[ic120,WI,cellsOf,evA,simprocAttr]
 refine RW_g ia120 ib120 (gf:=121) (cap:=[.cv (.rp [minR d.mi,lesR d.ls] 0),.cv (.rp [.int .i64 i] 0)]) rfl (QC rfl) (fun l h=>by cases h) ca120 cb120 ?_
 intro R hR
 simp only[evA,simprocAttr] at hR ⊢
 refine (Qdd d hd hi 1 (fun k τ=>∃ acc τ',τ=.cells [acc] :: .loop R::τ'∧VH 2 1 τ acc (YS k (canB d i)).length ((YS k (canB d i)).map (.int .i64))) (fun _=>False) _ (by simp) ⟨.cv .nils,[],rfl,.inl ⟨rfl,rfl,rfl⟩⟩ ?_ ?_).mono ?_
 ·rintro k τ hk hc ⟨acc,τ',rfl,hA⟩
  refine ⟨acc,τ',rfl,?_⟩
  rw[ET,hc]
  simpa using hA
 ·rintro k τ hk hc ⟨acc,τ',rfl,hA⟩ _
  have hnu:=hA.nu
  have hbl:(YS k (canB d i)).length≤k:=M7
  have hst:YS (k+1) (canB d i)=YS k (canB d i)++[(k:Int)]:=by rw[ET,hc];rfl
  refine YC_g hR rfl rfl (by decide) ?_
  have x7:vs120.idxOf? 7=some 6:=by decide
  simp only[ia120,JM,x7,QW,QM,WW,X9,VW,EZ,Qau,CH,get_nz,get_ns,evA,simprocAttr]
  refine Qan hR rfl ?_
  have hA1:VH 2 1 (.cells [acc] :: .loop (KB R)::τ') acc (YS k (canB d i)).length ((YS k (canB d i)).map (.int .i64)):=by
   rcases hA with h | ⟨l,h1,h2,h3,h4⟩
   ·exact .inl h
   ·refine .inr ⟨l,h1,h2,h3,?_⟩
    obtain ⟨m,rfl⟩:∃ m,l=m+2:=⟨l-2,by omega⟩
    exact h4
  obtain ⟨v',σ',happ,hA',hfr,hln⟩:=K3 (by_:=8) (x:=[.int .i64 k]) (by simp) hA1 rfl (by omega) (by omega)
  rw[hst]
  have f0:=hfr 0 (by omega)
  have f1:=hfr 1 (by omega)
  match σ',hln with
  | x0::x1::σ2,_ =>
  have g0:x0=.cells [acc]:=by simpa using f0
  have g1:x1=.loop (KB R):=by simpa using f1
  subst g0 g1
  have hnu':=hA'.nu
  simp only[QW,QM,WW,X9,VW,EZ,Qau,CH,get_nz,get_ns,List.cons_append,List.nil_append,List.length_cons,List.length_nil,ZV,Q0,WS] at happ
  simp only[ib120,QW,QM,WW,X9,VW,EZ,Qau,CH,get_nz,get_ns,HE,MK,happ,hnu,hnu',evA,simprocAttr]
  refine RU hR rfl ?_
  refine .inl ⟨rfl,.cells [v'] :: .loop R::σ2,[],(ZU _).symm,QC rfl,.inl rfl,v',σ2,rfl,?_⟩
  rw[ZS]
  rcases hA' with h | ⟨l,h1,h2,h3,h4⟩
  ·exact .inl h
  ·refine .inr ⟨l,h1,h2,h3,?_⟩
   obtain ⟨m,rfl⟩:∃ m,l=m+2:=⟨l-2,by omega⟩
   exact h4
 ·rintro r τ ⟨rfl,h | h⟩
  ·obtain ⟨acc,τ',rfl,hA⟩:=h
   have hnu:=hA.nu
   refine M9 hR rfl ?_
   simp only[hnu,evA,simprocAttr]
   rcases hA with h | ⟨l,h1,h2,h3,h4⟩
   ·exact .inl h
   ·refine .inr ⟨l,h2,h3,?_⟩
    obtain ⟨m,rfl⟩:∃ m,l=m+2:=⟨l-2,by omega⟩
    exact h4
  ·exact h.elim
theorem sclI (zs:List Int):∀ c∈zs.map (CV.int .i64),scl c:=by
 intro c hc
 obtain ⟨z,_,rfl⟩:=ZP.1 hc
 trivial
theorem le120 (d:Dy) (hd:DyOk d) {i:Nat} (hi:i<d.ls.length):PC Tryz.prog 120 [.cv .nils,behV d i] (ints (behL d i)):=⟨(ac120 d hd hi).mono fun r τ h=>GI h (sclI _),rfl⟩
theorem le73 (d:Dy) (hd:DyOk d) {i:Nat} (hi:i<d.ls.length):PA Tryz.prog 73 [behV d i] (ints (behL d i)):=by
 refine ⟨ZF (fok73 true) (QC rfl) ?_,rfl,rfl⟩
 simp only[ic73,evA,simprocAttr]
 refine (le120 d hd hi).call frz ?_
 simp only[evA,simprocAttr]
 exact .c (.c _ trivial)
def R4 (n:Nat) (b:List Int):Prop:=∀ k,k<n→gI b k<(n:Int)
section
variable {can:Nat→Nat→Bool} {told:List Int} {n:Nat}
theorem EU {b:List Int} {k i:Nat} (hk:k<b.length) (hi:i<n) (h:R4 n b):R4 n (b.set k i):=fun j hj=>by
 rw[JO hk]
 by_cases e:j=k
 ·rw[if_pos e];omega
 ·rw[if_neg e];exact h j hj
structure KuOk (n:Nat) (s:Ku) (r:Bool × Ku):Prop where
 ls:r.2.seen.length=s.seen.length
 lb:r.2.bef.length=s.bef.length
 ok:R4 n s.bef→R4 n r.2.bef
 mono:∀ k,gB s.seen k=true→gB r.2.seen k=true
theorem LD:∀ (f i:Nat) (s:Ku),i<n→s.seen.length=n→s.bef.length=n→R4 n s.bef→KuOk n s (VE can told n f i s)
 | 0,_,s,_,_,_,_=>⟨rfl,rfl,fun h=>h,fun _ h=>h⟩
 | f + 1,i,s,hi,h1,h2,hb=>by
  have key:∀ (m k:Nat) (s:Ku),k+m≤n→s.seen.length=n→s.bef.length=n→R4 n s.bef→KuOk n s (UC can told (VE can told n f) i m k s):=by
   intro m
   induction m with
   | zero=>intro k s _ _ _ _;exact ⟨rfl,rfl,fun h=>h,fun _ h=>h⟩
   | succ m ihm =>
    intro k s hm h1 h2 hb
    have hks:k<s.seen.length:=by omega
    have hkb:k<s.bef.length:=by omega
    have hst:∀ j,gB s.seen j=true→gB (s.seen.set k true) j=true:=fun j h=>by rw[DF hks];split <;> first | rfl | exact h
    unfold UC
    split
    ·split
     ·exact ⟨by simp,by simp,fun h=>EU hkb hi h,hst⟩
     ·rename_i hneg
      have hlt:(gI s.bef k).toNat<n:=by have:=hb k (by omega);omega
      have hmv:=LD f (gI s.bef k).toNat ⟨s.seen.set k true,s.bef⟩ hlt (by simp;omega) h2 hb
      generalize VE can told n f (gI s.bef k).toNat ⟨s.seen.set k true,s.bef⟩=r at hmv ⊢
      have hls:r.2.seen.length=s.seen.length:=by rw[hmv.ls];simp
      have hlb:r.2.bef.length=s.bef.length:=hmv.lb
      split
      ·exact ⟨hls,by simp[hlb],fun h=>EU (by omega) hi (hmv.ok h),fun j h=>hmv.mono j (hst j h)⟩
      ·have hr:=ihm (k+1) r.2 (by omega) (by omega) (by omega) (hmv.ok hb)
       exact ⟨hr.ls.trans hls,hr.lb.trans hlb,fun h=>hr.ok (hmv.ok h),fun j h=>hr.mono j (hmv.mono j (hst j h))⟩
    ·exact ihm (k+1) s (by omega) h1 h2 hb
  exact key n 0 s (by omega) h1 h2 hb
theorem QbU {a b:List Bool} (h:∀ k,gB a k=true→gB b k=true):cnt n (fun k=>!gB b k)≤cnt n (fun k=>!gB a k):=cnt_mono fun k _ hk=>by
 cases ha:gB a k with
 | false=>rfl
 | true=>rw[h k ha] at hk;cases hk
end
def stH (SS BB:Nat) (σ:List AObj) (se:List Bool) (be:List Int):List AObj:=(σ.set SS (.cells (XT se))).set BB (.cells (be.map AV.i))
structure MvH (d:Dy) (told:List Int) (σ:List AObj) (D SE TO BE MV SS BB TT:Nat):Prop where
 dd:rowOf σ D=some [.cv (minR d.mi),.cv (lesR d.ls)]
 se:rowOf σ SE=some [.sl SS 0 d.ls.length 1]
 to:rowOf σ TO=some [.sl TT 0 told.length 1]
 be:rowOf σ BE=some [.sl BB 0 d.ls.length 1]
 mv:rowOf σ MV=some [.fn (.func 125) [.ptr D 0,.ptr SE 0,.ptr TO 0,.ptr BE 0,.ptr MV 0]]
 tt:rowOf σ TT=some (told.map AV.i)
 n1:∀ x∈[D,SE,TO,BE,MV,TT],x≠SS∧x≠BB
 n2:SS≠BB
 ls:SS<σ.length
 lb:BB<σ.length
 hi:∀ x∈[D,SE,TO,BE,MV],x<σ.length
section
variable {SS BB:Nat} {σ:List AObj}
theorem V8 (se:List Bool) (be:List Int):(stH SS BB σ se be).length=σ.length:=by simp[stH]
theorem MG (hs:SS<σ.length) (hb:BB<σ.length) (J:List AObj) (se:List Bool) (be:List Int):stH SS BB σ se be++J=stH SS BB (σ++J) se be:=by
 unfold stH
 rw[YG _ _ hs,YG _ _ (by simpa using hb)]
theorem T9 (hs:SS<σ.length) (hb:BB<σ.length) {X:Nat} {cs:List AV} (h:rowOf σ X=some cs) (h1:X≠SS) (h2:X≠BB) (se:List Bool) (be:List Int) (J:List AObj):rowOf (stH SS BB σ se be++J) X=some cs:=by
 refine ZH ?_ J
 unfold stH
 rw[QX (Ne.symm h2),QX (Ne.symm h1)];exact h
theorem stH_seen (hs:SS<σ.length) (hb:BB<σ.length) (hn:SS≠BB) (se:List Bool) (be:List Int) (J:List AObj):rowOf (stH SS BB σ se be++J) SS=some (XT se):=by
 refine ZH ?_ J
 unfold stH
 rw[QX (Ne.symm hn)]
 simp[rowOf,hs]
theorem stH_bef (hs:SS<σ.length) (hb:BB<σ.length) (se:List Bool) (be:List Int) (J:List AObj):rowOf (stH SS BB σ se be++J) BB=some (be.map AV.i):=by
 refine ZH ?_ J
 unfold stH
 simp[rowOf,hb]
theorem stH_setS (hs:SS<σ.length) (hn:SS≠BB) (se o:List Bool) (be:List Int) (J:List AObj):(stH SS BB σ se be++J).set SS (.cells (XT o))=stH SS BB σ o be++J:=by
 rw[YG _ _ (by rw[V8];exact hs)]
 unfold stH
 rw[List.set_comm _ _ (Ne.symm hn),List.set_set]
theorem stH_setB (hb:BB<σ.length) (se:List Bool) (be o:List Int) (J:List AObj):(stH SS BB σ se be++J).set BB (.cells (o.map AV.i))=stH SS BB σ se o++J:=by
 rw[YG _ _ (by rw[V8];exact hb)]
 unfold stH
 rw[List.set_set]
theorem stH_z (se:List Bool) (be:List Int) (J:List AObj):rowOf (stH SS BB σ se be++J) σ.length=rowOf J 0:=by
 have:=WW (stH SS BB σ se be) J
 rwa [V8] at this
theorem stH_s (se:List Bool) (be:List Int) (J:List AObj) (k:Nat):rowOf (stH SS BB σ se be++J) (σ.length+k)=rowOf J k:=by
 have:=X9 (stH SS BB σ se be) J k
 rwa [V8] at this
theorem stH_gs (se:List Bool) (be:List Int) (J:List AObj) (k:Nat):(stH SS BB σ se be++J)[σ.length+k]? = J[k]? := by
 have:=CH (stH SS BB σ se be) J k
 rwa [V8] at this
theorem stH_zs (se:List Bool) (be:List Int) (J:List AObj) (v:AObj) (k:Nat):(stH SS BB σ se be++J).set (σ.length+k) v=stH SS BB σ se be++J.set k v:=by
 have:=EZ (stH SS BB σ se be) J k v
 rwa [V8] at this
theorem QdT (se se':List Bool) (be be':List Int) {m l:Nat} {o:AObj} (h:(stH SS BB σ se' be')[l]? = some o):(stH SS BB σ se be)[l]? = some o∨Z3 m o=true:=by
 unfold stH at h ⊢
 by_cases hb:BB=l
 ·subst hb
  rw[ZO] at h
  simp only[if_true] at h
  split at h
  ·cases h
   refine .inr ?_
   simp only[Z3]
   rw[Z8]
   intro v hv
   obtain ⟨z,_,rfl⟩:=ZP.1 hv
   rfl
  ·cases h
 ·rw[QU hb] at h ⊢
  by_cases hs:SS=l
  ·subst hs
   rw[ZO] at h
   simp only[if_true] at h
   split at h
   ·cases h
    refine .inr ?_
    simp only[Z3]
    rw[Z8]
    intro v hv
    obtain ⟨z,_,rfl⟩:=ZP.1 hv
    rfl
   ·cases h
  ·rw[QU hs] at h ⊢
   exact .inl h
theorem stH_ok (v:AV) (hv:QR 0 v=true) (se se':List Bool) (be be':List Int) (J:List AObj) (hs:SS<σ.length) (hb:BB<σ.length):HM (stH SS BB σ se be++J) v (stH SS BB σ se' be'++J):=by
 rw[MG hs hb,MG hs hb]
 refine GH (by rw[V8,V8]) (Y8 (QF _) v hv) fun l o h1 h2=>?_
 rcases QdT (SS:=SS) (BB:=BB) (σ:=σ++J) se se' be be' (m:=(stH SS BB (σ++J) se' be').length) h1 with h | h
 ·exact absurd h h2
 ·exact h
end
theorem MvH.app {d:Dy} {told:List Int} {σ:List AObj} {D SE TO BE MV SS BB TT:Nat} (h:MvH d told σ D SE TO BE MV SS BB TT) (J:List AObj):MvH d told (σ++J) D SE TO BE MV SS BB TT :=
 ⟨ZH h.dd J,ZH h.se J,ZH h.to J,ZH h.be J,ZH h.mv J,ZH h.tt J,h.n1,h.n2,by have:=h.ls;simp;omega,by have:=h.lb;simp;omega,fun x hx=>by have:=h.hi x hx;simp;omega⟩
abbrev K7:Bool × List KK:=(true,[.int .i64,.int .i64,.int .i64,.int .i64,.int .i64,.int .i64,.int .i64])
abbrev K6:Bool × List KK:=(true,[.int .i64,.int .i64,.int .i64,.int .i64,.int .i64,.int .i64])
abbrev K2:Bool × List KK:=(true,[.int .i64,.int .i64])
abbrev keyV (k:List Int):AV:=.agg (k.map AV.i)
abbrev c2V (c:Int × Int):AV:=.agg [.i c.1,.i c.2]
def memE (M:Mem):List (AV × AV):=M.map fun e=>(keyV e.1,c2V e.2)
theorem LF:∀ {n:Nat} {xs:List Int},xs.length=n→(∀ i,i<n→-9223372036854775808≤gI xs i∧gI xs i≤9223372036854775807)→Y4 (List.replicate n (.int .i64)) (xs.map AV.i)=true
 | 0,[],_,_=>rfl
 | n+1,x::xs,hl,h=>by
  have h0:=h 0 (by omega)
  have hx:gI (x::xs) 0=x:=rfl
  rw[hx] at h0
  show (kkOk (.int .i64) (.i x)&&Y4 (List.replicate n (.int .i64)) (xs.map AV.i))=true
  rw[LF (n:=n) (xs:=xs) (by simpa using hl) fun i hi=>by have:=h (i+1) (by omega);simpa[gI] using this]
  simp[kkOk,PR h0]
theorem DT:∀ (xs ys:List Int),VZ (xs.map AV.i) (ys.map AV.i)=decide (xs=ys)
 | [],[]=>rfl
 | [],_::_=>rfl
 | _::_,[]=>rfl
 | x::xs,y::ys=>by
  show (decide (x=y)&&VZ (xs.map AV.i) (ys.map AV.i))=_
  rw[DT xs ys,Q8]
  simp
theorem Qai {k:List Int} (h:KeyW k):Y4 K7.2 (k.map AV.i)=true:=LF (n:=7) h.1 fun i hi=>by have:=h.2 i hi;omega
theorem Qco {k:List Int} (h:KeyW k):F4 K7 (keyV k)=true:=Qai h
theorem key_eq {a b:List Int} (ha:KeyW a) (hb:KeyW b):JW K7 (keyV a) (keyV b)=some (decide (a=b)):=by
 simp only[JW,JK]
 rw[Qai ha,Qai hb,DT]
 rfl
theorem eqk_n {n:Nat} {a b:List Int} (ha:a.length=n) (hb:b.length=n) (wa:∀ i,i<n→-9223372036854775808≤gI a i∧gI a i≤9223372036854775807) (wb:∀ i,i<n→-9223372036854775808≤gI b i∧gI b i≤9223372036854775807) :
  JW (true,List.replicate n (.int .i64)) (.agg (a.map AV.i)) (.agg (b.map AV.i))=some (decide (a=b)):=by
 simp only[JW,JK]
 rw[LF ha wa,LF hb wb,DT]
 rfl
theorem OC {k:List Int} (hk:KeyW k):∀ (M:Mem) (i:Nat),(∀ e∈M,KeyW e.1)→findKey K7 (keyV k) (memE M) i=some ((fndM M k i).map fun r=>(r.1,c2V r.2))
 | [],_,_=>rfl
 | e::M,i,h=>by
  have hq:=key_eq hk (h e (by simp))
  obtain ⟨e1,e2⟩:=e
  simp only[memE,Q0,findKey,fndM]
  simp only at hq
  rw[hq]
  by_cases he:k=e1
  ·rw[decide_eq_true he,if_pos he];rfl
  ·rw[decide_eq_false he,if_neg he]
   exact OC hk M (i+1) fun t ht=>h t (by simp[ht])
theorem mem_get {k:List Int} (hk:KeyW k) {M:Mem} (h:∀ e∈M,KeyW e.1) {σ:List AObj} {l j:Nat} {v:Int × Int} (hm:mapOf σ l=some (memE M)) (hf:fndM M k 0=some (j,v)) :
  KL K7 (.agg [.i 0,.i 0]) true [.map l,keyV k] σ=some (.tup [c2V v,.b true],σ):=by
 simp only[KL,hm,Option.bind_some,Qco hk,OC hk M 0 h,hf]
 rfl
theorem mem_get0 {k:List Int} (hk:KeyW k) {M:Mem} (h:∀ e∈M,KeyW e.1) {σ:List AObj} {l:Nat} (hm:mapOf σ l=some (memE M)) (hf:fndM M k 0=none) :
  KL K7 (.agg [.i 0,.i 0]) true [.map l,keyV k] σ=some (.tup [.agg [.i 0,.i 0],.b false],σ):=by
 simp only[KL,hm,Option.bind_some,Qco hk,OC hk M 0 h,hf]
 rfl
theorem Qac {k:List Int} (hk:KeyW k) {M:Mem} (h:∀ e∈M,KeyW e.1) (v:Int × Int) {σ:List AObj} {l:Nat} (hm:mapOf σ l=some (memE M)) :
  JZ K7 [.map l,keyV k,c2V v] σ=some (.undef,σ.set l (.map (memE (putM M k v)))):=by
 simp only[JZ,hm,Option.bind_some,Qco hk,OC hk M 0 h,putM]
 cases fndM M k 0 with
 | none=>simp[XU,memE]
 | some r=>simp[XU,memE,List.map_set]
def mpH (D:Nat) (σ:List AObj) (M:Mem):List AObj:=σ.set D (.map (memE M))
structure FwH (ps:List Pat) (σ:List AObj) (A B C D E:Nat):Prop where
 a:rowOf σ A=some [.cv (patR ps)]
 b:rowOf σ B=some [.i 1073741824,.i 0]
 c:rowOf σ C=some [.map D]
 e:rowOf σ E=some [.fn (.func 57) [.ptr A 0,.ptr B 0,.ptr C 0,.ptr E 0]]
 d:D<σ.length
 nA:A≠D
 nB:B≠D
 nC:C≠D
 nE:E≠D
theorem FwH.app {ps:List Pat} {σ:List AObj} {A B C D E:Nat} (h:FwH ps σ A B C D E) (J:List AObj):FwH ps (σ++J) A B C D E :=
 ⟨ZH h.a J,ZH h.b J,ZH h.c J,ZH h.e J,by simp;have:=h.d;omega,h.nA,h.nB,h.nC,h.nE⟩
section
variable {D:Nat} {σ:List AObj}
theorem HH (M:Mem):(mpH D σ M).length=σ.length:=by simp[mpH]
theorem E4 (hd:D<σ.length) (J:List AObj) (M:Mem):mpH D σ M++J=mpH D (σ++J) M:=by
 unfold mpH;rw[YG _ _ hd]
theorem MO (hd:D<σ.length) {X:Nat} {cs:List AV} (h:rowOf σ X=some cs) (h1:X≠D) (M:Mem) (J:List AObj):rowOf (mpH D σ M++J) X=some cs:=by
 rw[E4 hd]
 unfold mpH
 rw[QX (Ne.symm h1)]
 exact ZH h J
theorem mpH_map (hd:D<σ.length) (M:Mem) (J:List AObj):mapOf (mpH D σ M++J) D=some (memE M):=by
 rw[E4 hd]
 unfold mpH mapOf
 rw[Z2 (by simp;omega)]
theorem mpH_set (hd:D<σ.length) (M M':Mem) (J:List AObj):(mpH D σ M++J).set D (.map (memE M'))=mpH D σ M'++J:=by
 rw[YG _ _ (by rw[HH];exact hd)]
 unfold mpH
 rw[List.set_set]
theorem mpH_z (M:Mem) (J:List AObj):rowOf (mpH D σ M++J) σ.length=rowOf J 0:=by
 have:=WW (mpH D σ M) J
 rwa [HH] at this
theorem mpH_s (M:Mem) (J:List AObj) (k:Nat):rowOf (mpH D σ M++J) (σ.length+k)=rowOf J k:=by
 have:=X9 (mpH D σ M) J k
 rwa [HH] at this
theorem mpH_sz (M:Mem) (J:List AObj) (v:AObj):(mpH D σ M++J).set σ.length v=mpH D σ M++J.set 0 v:=by
 have:=VW (mpH D σ M) J v
 rwa [HH] at this
theorem mpH_zs (M:Mem) (J:List AObj) (v:AObj) (k:Nat):(mpH D σ M++J).set (σ.length+k) v=mpH D σ M++J.set k v:=by
 have:=EZ (mpH D σ M) J k v
 rwa [HH] at this
theorem memE_in (n:Nat) (M:Mem):Z3 n (.map (memE M))=true:=by
 simp only[Z3]
 rw[Q1]
 intro e he
 obtain ⟨x,_,rfl⟩:=ZP.1 he
 have h1:QR n (keyV x.1)=true:=Qbf n x.1
 rw[h1];rfl
theorem Qd7 (M M':Mem) {m l:Nat} {o:AObj} (h:(mpH D σ M')[l]? = some o):(mpH D σ M)[l]? = some o∨Z3 m o=true:=by
 unfold mpH at h ⊢
 rw[ZO] at h ⊢
 split at h
 ·rename_i e
  split at h
  ·cases h;exact .inr (memE_in _ _)
  ·cases h
 ·rename_i e
  rw[if_neg e];exact .inl h
end
theorem eq6 {a b:List Int} (ha:a.length=6) (hb:b.length=6) (na:N3 a) (nb:N3 b):JW K6 (.agg (a.map AV.i)) (.agg (b.map AV.i))=some (decide (a=b)) :=
 eqk_n (n:=6) ha hb (fun i hi=>by have:=na i (by omega);omega) (fun i hi=>by have:=nb i (by omega);omega)
theorem n3_z:N3 [0,0,0,0,0,0]:=fun i hi=>by
 match i,hi with
 | 0,_=>decide
 | 1,_=>decide
 | 2,_=>decide
 | 3,_=>decide
 | 4,_=>decide
 | 5,_=>decide
theorem QeP {l:List Int} (h6:l.length=6):decide (l=[0,0,0,0,0,0])=J9 l:=by
 obtain ⟨a,b,c,d,e,f,rfl⟩:=D8 h6
 rw[Q8]
 simp[J9]
theorem le57 (ps:List Pat) (hm:MtOk ps) (h12:ps.length≤12) (hsh:∀ k,k<ps.length→0≤(ps[k]!).1∧(ps[k]!).1<64) {A B C D E:Nat}:∀ (f k:Nat) (l:List Int) (M:Mem) (σ:List AObj),FwH ps σ A B C D E→k≤ps.length→l.length=6→N3 l→sumN l<1000→ps.length-k+sumN l<f→QaP ps M →
  AC Tryz.prog 57 [.agg (.i k::l.map AV.i),.ptr A 0,.ptr B 0,.ptr C 0,.ptr E 0] (mpH D σ M) fun r τ=>r=c2V (lstF ps f k l M).1∧τ=mpH D σ (lstF ps f k l M).2
 | 0,_,_,_,_,_,_,_,_,_,h,_=>absurd h (W5 _)
 | f + 1,k,l,M,σ,hH,hk,h6,hn3,hs,hf,hM=>by
  have hd:=hH.d
  have rA:=fun M J=>MO hd hH.a hH.nA M J
  have rB:=fun M J=>MO hd hH.b hH.nB M J
  have rC:=fun M J=>MO hd hH.c hH.nC M J
  have rE:=fun M J=>MO hd hH.e hH.nE M J
  have mD:=fun M J=>mpH_map hd M J
  have sD:=fun M M' J=>mpH_set hd M M' J
  have hz:=fun M J=>mpH_z (D:=D) (σ:=σ) M J
  have hs':=fun M J k=>mpH_s (D:=D) (σ:=σ) M J k
  have hsz:=fun M J v=>mpH_sz (D:=D) (σ:=σ) M J v
  have hzs:=fun M J v k=>mpH_zs (D:=D) (σ:=σ) M J v k
  have hlen:=fun M=>HH (D:=D) (σ:=σ) M
  have hkey:=I8 (k:=k) (by omega) h6 hn3
  have hz6:=QeP h6
  have hzero:=eq6 (b:=[0,0,0,0,0,0]) h6 rfl hn3 n3_z
  rw[hz6] at hzero
  refine AC.cut (σ2:=mpH D σ _) ?_ (by rw[HH,HH]) rfl fun l o h=>Qd7 _ _ h
  unfold lstF
  obtain ⟨x0,x1,x2,x3,x4,x5,hx⟩:=D8 h6
  have hlE:l.map AV.i=[.i x0,.i x1,.i x2,.i x3,.i x4,.i x5]:=by rw[hx];rfl
  have hkV:keyV ((k:Int)::l)=.agg [.i k,.i x0,.i x1,.i x2,.i x3,.i x4,.i x5]:=by rw[keyV,Q0,hlE]
  have hkw:=fun e he=>(hM e he).1
  rw[hlE] at hzero ⊢
  simp only[Q0,WS] at hzero
  refine ZF (fok57 true) (QC rfl) ?_
  simp only[ic57,WI,cellsOf,hlen,hzero,QW,QM,List.cons_append,List.nil_append,hz,hs',Q0,WS,evA,simprocAttr]
  cases hzl:J9 l with
  | true =>
   rw[if_pos rfl]
   simp only[hzl,hlen,QW,QM,List.cons_append,List.nil_append,hz,hs',hzs,hsz,evA,simprocAttr]
   exact ⟨_,rfl⟩
  | false =>
  rw[if_neg (by decide)]
  simp only[hzl,hlen,QW,QM,List.cons_append,List.nil_append,hz,hs',hzs,hsz,rA,evA,simprocAttr]
  by_cases hkn:k=ps.length
  ·have hbe:((k:Int) == ps.length)=true:=by rw[hkn];exact beq_self_eq_true _
   rw[if_pos (by omega)]
   simp only[hbe,rB,hlen,QW,QM,List.cons_append,List.nil_append,hz,hs',hzs,hsz,evA,simprocAttr]
   exact ⟨_,rfl⟩
  have hbe:((k:Int) == ps.length)=false:=by rw[beq_eq_false_iff_ne];omega
  have hk2:k<ps.length:=by omega
  rw[if_neg (by omega)]
  cases hfd:fndM M ((k:Int)::l) 0 with
  | some r =>
   obtain ⟨j,v⟩:=r
   have hget:=fun J=>mem_get hkey hkw (mD M J) hfd
   rw[hkV] at hget
   simp only[hbe,rC,hget,hlen,QW,QM,List.cons_append,List.nil_append,hz,hs',hzs,hsz,evA,simprocAttr]
   exact ⟨_,rfl⟩
  | none =>
   have hget:=fun J=>mem_get0 hkey hkw (mD M J) hfd
   rw[hkV] at hget
   have ih1:=fun J=>le57 ps hm h12 hsh f (k+1) l M (σ++J) (hH.app J) (by omega) h6 hn3 hs (by omega) hM
   obtain ⟨g1,g2⟩:=O6 hm h12 f (k+1) l M hn3 h6 hs (by omega) hM
   generalize lstF ps f (k+1) l M=r1 at *
   obtain ⟨⟨a1,b1⟩,M1⟩:=r1
   simp only[hlE,← E4 hd] at ih1
   simp only at g1 g2
   have hpt:=hsh k hk2
   have hmt:=hm k hk2
   have hld:=B4 hk2
   generalize ps[k]! = p at *
   obtain ⟨s,m⟩:=p
   simp only at hpt hmt hld
   have h58:=le58 l h6 (fun i hi=>hn3 i (by omega)) s m hpt
   have hy6:(afL s l).length=6:=by rw[JQ,h6]
   obtain ⟨y0,y1,y2,y3,y4,y5,hy⟩:=D8 hy6
   have hyE:(afL s l).map AV.i=[.i y0,.i y1,.i y2,.i y3,.i y4,.i y5]:=by rw[hy];rfl
   have heq:=eq6 hy6 h6 (hn3.af s) hn3
   rw[hlE,hyE] at h58 heq
   simp only[hbe,rC,hget,hlen,QW,QM,List.cons_append,List.nil_append,hz,hs',hzs,hsz,rE,Q6 (show k+1<2 ^ 63 by omega),evA,simprocAttr]
   refine (ih1 _).run ?_
   simp only[hlen,QW,QM,List.cons_append,List.nil_append,hz,hs',hzs,hsz,rA,O9 hk2,hld,evA,simprocAttr]
   refine h58.call frz ?_
   by_cases ha:afL s l=l
   ·rw[decide_eq_true ha] at heq
    rw[if_pos ha]
    have hput:=fun J=>Qac hkey (fun e he=>(g2 e he).1) (a1,b1) (mD M1 J)
    rw[hkV] at hput
    simp only[heq,rC,hput,sD,hlen,QW,QM,List.cons_append,List.nil_append,hz,hs',hzs,hsz,evA,simprocAttr]
    exact ⟨_,rfl⟩
   ·rw[decide_eq_false ha] at heq
    rw[if_neg ha]
    have hlt:=R3 hn3.nn ha
    have ih2:=fun J=>le57 ps hm h12 hsh f k (afL s l) M1 (σ++J) (hH.app J) hk hy6 (hn3.af s) (by omega) (by omega) g2
    obtain ⟨g3,g4⟩:=O6 hm h12 f k (afL s l) M1 (hn3.af s) hy6 (by omega) (by omega) g2
    dsimp only
    generalize lstF ps f k (afL s l) M1=r2 at *
    obtain ⟨⟨a2,b2⟩,M2⟩:=r2
    simp only[hyE,← E4 hd] at ih2
    simp only at g3 g4
    have hbd:0≤a2∧a2≤1073741824∧0≤b2∧b2≤100000000:=by
     cases hc:fewV ps k (afL s l) with
     | none=>rw[hc] at g3;cases g3;decide
     | some c =>
      obtain ⟨c1,c2'⟩:=c
      rw[hc] at g3
      cases g3
      have:=DI hm _ _ _ _ _ (hn3.af s).nn hc
      omega
    have hw1:IntKind.i64.wrap (a2+1)=a2+1:=ZC (by omega)
    have hw2:IntKind.i64.wrap (b2+m)=b2+m:=ZC (by omega)
    simp only[heq,rE,hlen,QW,QM,List.cons_append,List.nil_append,hz,hs',hzs,hsz,evA,simprocAttr]
    refine (ih2 _).run ?_
    simp only[hw1,hw2,hlen,QW,QM,List.cons_append,List.nil_append,hz,hs',hzs,hsz,evA,simprocAttr]
    refine (le59 (a1,b1) (a2+1,b2+m)).call frz ?_
    cases hov:TF (a1,b1) (a2+1,b2+m) with
    | true =>
     have hput:=fun J=>Qac hkey (fun e he=>(g4 e he).1) (a2+1,b2+m) (mD M2 J)
     rw[hkV] at hput
     simp only[lstX,hov,rC,hput,sD,hlen,QW,QM,List.cons_append,List.nil_append,hz,hs',hzs,hsz,evA,simprocAttr]
     exact ⟨_,rfl⟩
    | false =>
     have hput:=fun J=>Qac hkey (fun e he=>(g4 e he).1) (a1,b1) (mD M2 J)
     rw[hkV] at hput
     simp only[lstX,hov,rC,hput,sD,hlen,QW,QM,List.cons_append,List.nil_append,hz,hs',hzs,hsz,evA,simprocAttr]
     exact ⟨_,rfl⟩
def kindB (p:Pln) (l:Les):Bool:=(p.ca[l.ca.toNat]!).cl == gI p.le l.le.toNat
def Qca (p:Pln) (l:Les):Bool:=decide (mayE p.sys (p.te[l.te.toNat]!).rg (p.ca[l.ca.toNat]!).cl (p.ca[l.ca.toNat]!).ft=0)&&alwB p.sys (p.te[l.te.toNat]!).rg (p.ca[l.ca.toNat]!).cl (p.ca[l.ca.toNat]!).ft
def Qcr (p:Pln) (l:Les):Bool:=decide (l.b≥(p.te[l.te.toNat]!).b)&&decide (l.e≤(p.te[l.te.toNat]!).e)
structure LiOk (p:Pln) (l:Les):Prop where
 le:0≤l.le∧l.le<p.le.length
 te:0≤l.te∧l.te<p.te.length
 ca:0≤l.ca∧l.ca<p.ca.length
theorem LkOk.li {p:Pln} (h:LkOk p) {i:Nat} (hi:i<p.day.ls.length):LiOk p p.day.ls[i]! := by
 have h1:=h.day.les i hi
 have h2:=h.who i hi
 exact ⟨⟨h1.le.1,h2.1⟩,⟨h1.te.1,h2.2.1⟩,⟨h1.ca.1,h2.2.2⟩⟩
theorem car_0 {l:List Car} {k:Nat} (h:k<l.length):(QaH l)[k*2]? = some (.int .i64 (l[k]!).cl):=flat_get CX h (j:=0) (by omega)
theorem tch_0 {l:List Tch} {k:Nat} (h:k<l.length):(SV l)[k*3]? = some (rgR (l[k]!).rg):=flat_get BI h (j:=0) (by omega)
theorem le94 (p:Pln) (l:Les) (hl:LiOk p l):PC Tryz.prog 94 [plV9 p,lesA l] (.b (kindB p l)):=by
 refine ⟨ZF (fok94 true) (QC rfl) ?_,rfl⟩
 obtain ⟨l1,l2,l3,l4,l5,l6,l7⟩:=l
 obtain ⟨h1,h2,h3⟩:=hl
 simp only at h1 h2 h3
 obtain ⟨x,rfl⟩:∃ x:Nat,l1=(x:Int):=⟨l1.toNat,by omega⟩
 obtain ⟨z,rfl⟩:∃ z:Nat,l3=(z:Int):=⟨l3.toNat,by omega⟩
 have hx:x<p.le.length:=by omega
 have hz:z<p.ca.length:=by omega
 unfold kindB
 simp only[ic94,WI,cellsOf,Int.toNat_natCast,evA,simprocAttr]
 refine DW_s [] [] hmix (by kernel_rfl) rfl ?_
 simp only[XP hz,car_0 hz,J5 hx,J4 hx,WA,evA,simprocAttr]
 exact frz
theorem le96 (p:Pln) (l:Les) (hl:LiOk p l):PC Tryz.prog 96 [plV9 p,lesA l] (.b (Qcr p l)):=by
 obtain ⟨l1,l2,l3,l4,l5,l6,l7⟩:=l
 obtain ⟨h1,h2,h3⟩:=hl
 simp only at h1 h2 h3
 obtain ⟨y,rfl⟩:∃ y:Nat,l2=(y:Int):=⟨l2.toNat,by omega⟩
 have hy:y<p.te.length:=by omega
 have hld:=tch_ld hy
 rw[show Qcr p ⟨l1,(y:Int),l3,l4,l5,l6,l7⟩=(decide (l4≥(p.te[y]!).b)&&decide (l5≤(p.te[y]!).e)) from rfl]
 generalize p.te[y]! = t at *
 obtain ⟨t1,t2,t3⟩:=t
 simp only at hld ⊢
 refine ⟨ZF (fok96 true) (QC rfl) ?_,rfl⟩
 simp only[ic96,WI,cellsOf,XP hy,hld,evA,simprocAttr]
 cases hb:decide (l4≥t2) with
 | true =>
  simp only[hb,XI,evA,simprocAttr]
  exact frz
 | false =>
  simp only[Bool.false_and,evA,simprocAttr]
  exact frz
theorem le95 (p:Pln) (hp:PSz p) (l:Les) (hl:LiOk p l):PC Tryz.prog 95 [plV9 p,lesA l] (.b (Qca p l)):=by
 obtain ⟨l1,l2,l3,l4,l5,l6,l7⟩:=l
 obtain ⟨h1,h2,h3⟩:=hl
 simp only at h1 h2 h3
 obtain ⟨y,rfl⟩:∃ y:Nat,l2=(y:Int):=⟨l2.toNat,by omega⟩
 obtain ⟨z,rfl⟩:∃ z:Nat,l3=(z:Int):=⟨l3.toNat,by omega⟩
 have hy:y<p.te.length:=by omega
 have hz:z<p.ca.length:=by omega
 have hld:=car_ld hz
 have ht0:=tch_0 hy
 have hrg:=hp.rg y hy
 rw[show Qca p ⟨l1,(y:Int),(z:Int),l4,l5,l6,l7⟩=(decide (mayE p.sys (p.te[y]!).rg (p.ca[z]!).cl (p.ca[z]!).ft=0)&&alwB p.sys (p.te[y]!).rg (p.ca[z]!).cl (p.ca[z]!).ft) from rfl]
 have h29:=c29 p.sys hp.sys (p.te[y]!).rg hrg (p.ca[z]!).cl (p.ca[z]!).ft
 rw[may_e] at h29
 generalize p.te[y]! = t at *
 generalize p.ca[z]! = c at *
 obtain ⟨c1,c2⟩:=c
 simp only at hld h29 ⊢
 refine ⟨ZF (fok95 true) (QC rfl) ?_,rfl⟩
 simp only[ic95,WI,cellsOf,XP hz,hld,evA,simprocAttr]
 refine DW_s [15] [] hmix (by kernel_rfl) rfl ?_
 simp only[XP hy,ht0,evA,simprocAttr]
 refine YE (h29.call frz ⟨rfl,rfl⟩) rfl ?_
 simp only[evA,simprocAttr]
 exact frz
theorem le97 (l:Les):PC Tryz.prog 97 [lesA l] (.i l.le):=by
 refine ⟨ZF (fok97 true) (QC rfl) ?_,rfl⟩
 simp only[ic97,WI,cellsOf,evA,simprocAttr]
 exact frz
theorem le98 (l:Les):PC Tryz.prog 98 [lesA l] (.i l.te):=by
 refine ⟨ZF (fok98 true) (QC rfl) ?_,rfl⟩
 simp only[ic98,WI,cellsOf,evA,simprocAttr]
 exact frz
theorem le99 (l:Les):PC Tryz.prog 99 [lesA l] (.i l.ca):=by
 refine ⟨ZF (fok99 true) (QC rfl) ?_,rfl⟩
 simp only[ic99,WI,cellsOf,evA,simprocAttr]
 exact frz
def pkL (f:Les→Int) (ls:List Les) (z:Int) (k:Nat):List Int:=YS k fun i=>f ls[i]! == z
theorem le100 (ls:List Les) (hls:ls.length≤12) (fn:FuncId) (f:Les→Int) (hf:∀ l:Les,PC Tryz.prog fn [lesA l] (.i (f l))) (z:Int) (σ:List AObj) :
  AC Tryz.prog 100 [.cv (lesR ls),.fn (.func fn) [],.i z] σ fun r τ=>VH σ.length 1 τ r (pkL f ls z ls.length).length ((pkL f ls z ls.length).map (.int .i64))∧σ.length≤τ.length∧∀ l,l<σ.length→τ[l]? = σ[l]? := by
 have h44:(2:Nat) ^ 44=17592186044416:=by decide
 refine ZF (fok100 true) (QC rfl) ?_
 simp only[ic100,evA,simprocAttr]
 refine ZW ls.length (fun k s=>∃ v3 v4 v5 v9 v10 H,VH σ.length 1 H v3 (pkL f ls z k).length ((pkL f ls z k).map (.int .i64))∧σ.length≤H.length∧(∀ l,l<σ.length→H[l]? = σ[l]?)∧s=⟨[.cv (lesR ls),.fn (.func fn) [],.i z,v3,v4,v5,.cv (lesR ls),.i ls.length,.i k,v9,v10],H⟩) ?_ 0 (QF _) ⟨_,_,_,_,_,_,.inl ⟨rfl,rfl,rfl⟩,QG _,fun _ _=>rfl,rfl⟩
 rintro k s hk ⟨v3,v4,v5,v9,v10,H,hA,hH,hs,rfl⟩
 by_cases h:k<ls.length
 ·have hld:=MQ h
  have hlen:(pkL f ls z k).length≤k:=M7
  have hst:pkL f ls z (k+1)=pkL f ls z k++if (f ls[k]! == z)=true then [(k:Int)] else []:=ET _ _
  have hfk:=hf ls[k]!
  generalize ls[k]! = l at *
  obtain ⟨l1,l2,l3,l4,l5,l6,l7⟩:=l
  simp only at hld
  have hset:∀ x:AObj,(H++[x]).length=H.length+1:=fun x=>by simp
  simp only[ic100l0,QJ,h,F5 h,hld,WW,VW,evA,simprocAttr]
  refine hfk.call frz ?_
  have hA1:∀ o:AObj,VH σ.length 1 (H++[o]) v3 (pkL f ls z k).length ((pkL f ls z k).map (.int .i64)):=fun o=>hA.imp id fun ⟨l,h1,h2,h3,h4⟩=>⟨l,h1,h2,h3,ZH h4 _⟩
  cases hb:(f ⟨l1,l2,l3,l4,l5,l6,l7⟩ == z) with
  | false =>
   rw[hb,if_neg (by decide),ZU] at hst
   simp only[hb,Q6 (show k+1<2 ^ 63 by omega),evA,simprocAttr]
   exact ZL (by first | trivial | omega) ⟨_,_,_,_,_,_,by rw[hst];exact hA1 _,by simp;omega,fun l hl=>by rw[QE (by omega)];exact hs l hl,rfl⟩
  | true =>
   rw[hb,if_pos rfl] at hst
   obtain ⟨v',σ',p1,p2,p3,p4⟩:=K3 (by_:=8) (x:=[.int .i64 k]) (show σ.length≤(H++[AObj.cells [.i l1,.i l2,.i l3,.i l4,.i l5,.i l6,.i l7]]).length by simp;omega) (hA1 _) rfl (by omega) (by omega)
   have pn:=p2.nu
   simp only[QM,List.length_cons,List.length_nil,QW,List.cons_append,List.nil_append,Q0,WS,ZV] at p1 p4
   simp only[hb,p1,pn,Q6 (show k+1<2 ^ 63 by omega),QW,QM,evA,simprocAttr]
   exact ZL (by first | trivial | omega) ⟨_,_,_,_,_,_,by rw[hst,QM,ZS];exact p2,by omega,fun l hl=>by rw[p3 l hl,QE (by omega)];exact hs l hl,rfl⟩
 ·have hke:k=ls.length:=by omega
  subst hke
  have hnu:=hA.nu
  simp only[ic100l0,QJ,h,evA,simprocAttr]
  exact ⟨hA,hH,hs⟩
def shB (ps:List Pat) (i n:Nat):Bool:=(List.range n).any fun k=>bit (ps[k]!).1 i
theorem shB_succ (ps:List Pat) (i n:Nat):shB ps i (n+1)=(shB ps i n||bit (ps[n]!).1 i):=by
 unfold shB
 rw[WM,List.any_append]
 simp
def GW (ps:List Pat) (l:List Int):Nat→Int
 | 0=>0
 | i+1=>GW ps l i+if shB ps i ps.length=true then 0 else gI l i
theorem I7 {ps:List Pat} {l:List Int} (h:N3 l):∀ i,i≤l.length→0≤GW ps l i∧GW ps l i≤3*i
 | 0,_=>by simp[GW]
 | i+1,hi=>by
  have ih:=I7 (ps:=ps) h i (by omega)
  have:=h i (by omega)
  unfold GW
  split <;> omega
theorem AL {ps:List Pat} {l:List Int} (h:N3 l):∀ i,i≤l.length→(0<GW ps l i↔∃ j,j<i∧0<gI l j∧shB ps j ps.length=false)
 | 0,_=>by simp[GW]
 | i + 1,hi=>by
  have ih:=AL (ps:=ps) h i (by omega)
  have hb:=I7 (ps:=ps) h i (by omega)
  have hi2:=h i (by omega)
  unfold GW
  constructor
  ·intro hp
   by_cases h1:0<GW ps l i
   ·obtain ⟨j,hj,h2⟩:=ih.1 h1
    exact ⟨j,by omega,h2⟩
   ·cases hs:shB ps i ps.length with
    | true=>rw[hs,if_pos rfl] at hp;omega
    | false =>
     rw[hs,if_neg (by decide)] at hp
     exact ⟨i,by omega,by omega,hs⟩
  ·rintro ⟨j,hj,h1,h2⟩
   by_cases hji:j=i
   ·subst hji
    rw[h2,if_neg (by decide)]
    omega
   ·have:=ih.2 ⟨j,by omega,h1,h2⟩
    split <;> omega
theorem Qep {ps:List Pat} {l:List Int} (h:N3 l):NY ps l=decide (0<GW ps l l.length):=by
 rw[Q8,decide_eq_true_eq,AL h _ (QG _)]
 unfold NY
 rw[ZZ]
 constructor
 ·rintro ⟨j,hj,h1⟩
  rw[QD,decide_eq_true_eq] at h1
  exact ⟨j,by simpa using hj,h1.1,by simpa[shB] using h1.2⟩
 ·rintro ⟨j,hj,h1,h2⟩
  refine ⟨j,by simpa using hj,?_⟩
  rw[QD,decide_eq_true_eq]
  exact ⟨h1,by simpa[shB] using h2⟩
def pad6 (l:List Int):List Int:=l++List.replicate (6-l.length) 0
theorem pad6_len {l:List Int} (h:l.length≤6):(pad6 l).length=6:=by simp[pad6];omega
theorem pad6_n3 {l:List Int} (h:N3 l):N3 (pad6 l):=fun i hi=>by
 unfold pad6 at hi ⊢
 by_cases h2:i<l.length
 ·rw[Qaw _ h2];exact h i h2
 ·rw[MX _ (by omega)];omega
theorem setR_pad {l:List Int} (h:l.length≤6):setRange [.i 0,.i 0,.i 0,.i 0,.i 0,.i 0,.i 0] 1 (l.map AV.i)=.i 0::(pad6 l).map AV.i:=by
 match l,h with
 | [],_=>rfl
 | [a],_=>rfl
 | [a,b],_=>rfl
 | [a,b,c],_=>rfl
 | [a,b,c,d],_=>rfl
 | [a,b,c,d,e],_=>rfl
 | [a,b,c,d,e,f],_=>rfl
theorem copy_pad {l:List Int} (h:l.length≤6) {σ:List AObj} {L:Nat} (hr:rowOf σ L=some [.i 0,.i 0,.i 0,.i 0,.i 0,.i 0,.i 0]) :
  UE 1 [.sl L 1 6 1,ints l] σ=some (.i l.length,σ.set L (.cells (.i 0::(pad6 l).map AV.i))):=by
 have hsrc:Z9 σ 1 (ints l)=some (l.map AV.i):=by simp[Z9]
 have hmin:Nat.min l.length 6=l.length:=VD h
 have hsc:(l.map AV.i).all AV.isSc=true:=by rw[Q1];intro v hv;obtain ⟨z,_,rfl⟩:=ZP.1 hv;rfl
 have h1:True∧1+6*1≤([.i 0,.i 0,.i 0,.i 0,.i 0,.i 0,.i 0]:List AV).length∧l.length*1=(l.map AV.i).length∧(l.map AV.i).all AV.isSc=true:=⟨trivial,by decide,by simp,hsc⟩
 simp only[UE,hr,hsrc,lenF,Option.bind_some]
 rw[if_pos h1,hmin,W3,Q5 (by simp),setR_pad h]
theorem SO {b e by_ n:Nat} {σ K:List AObj} {v:AV} {cs x:List CV} (hb0:b≤σ.length) (h:VH b e σ v n cs) (hx:x.length=e) (hb:(n+1)*by_≤2 ^ 44) (hn:n+1≤2 ^ 44) :
  ∃ (v':AV) (σ2 K2:List AObj),ZX e by_ [v,.sl (σ++K).length 0 1 e] ((σ++K)++[AObj.cells (x.map .cv)])=some (v',(σ2++K)++K2)∧VH b e ((σ2++K)++K2) v' (n+1) (cs++x)∧σ2.length=σ.length∧∀ i,i<b→σ2[i]? = σ[i]? := by
 have hsrc:Z9 ((σ++K)++[AObj.cells (x.map .cv)]) e (.sl (σ++K).length 0 1 e)=some (x.map .cv):=by
  have h1:0+1*e≤(x.map AV.cv).length:=by simp[hx]
  simp only[Z9,if_true,XH,Option.bind_some]
  rw[if_pos h1,YO,Q5 (by simp[hx])]
 rcases h with ⟨rfl,rfl,rfl⟩ | ⟨l,hbl,rfl,hl,hr⟩
 ·refine ⟨.sl ((σ++K)++[AObj.cells (x.map .cv)]).length 0 1 e,σ,[AObj.cells (x.map .cv)]++[AObj.cells (x.map .cv)],?_,.inr ⟨_,by simp;omega,rfl,by simp[hx],by rw[← QW,XH];simp⟩,rfl,fun i hi=>rfl⟩
  have h1:1*e=(x.map AV.cv).length∧1*by_≤2 ^ 44∧1≤2 ^ 44∧(x.map AV.cv).all AV.isSc=true:=⟨by simp[hx],by omega,by omega,S2 x⟩
  simp only[ZX,hsrc,lenF,Option.bind_some]
  rw[if_neg (by omega),if_pos h1]
  simp only[QW]
 ·have hlt:=(QH.1 (WO hr)).1
  have hr':=ZH hr (K++[AObj.cells (x.map .cv)])
  rw[← QW] at hr'
  have hset:((σ++K)++[AObj.cells (x.map .cv)]).set l AObj.dead=(σ.set l AObj.dead++K)++[AObj.cells (x.map .cv)]:=by
   rw[QW,YG _ _ hlt,← QW]
  refine ⟨.sl ((σ++K)++[AObj.cells (x.map .cv)]).length 0 (n+1) e,σ.set l .dead,[AObj.cells (x.map .cv)]++[AObj.cells (cs.map .cv++x.map .cv)],?_,.inr ⟨_,by simp;omega,rfl,by rw[QM,hl,hx,XJ],?_⟩,by simp,fun i hi=>by rw[QU (by omega)]⟩
  ·have h1:True∧n*e≤(cs.map AV.cv).length∧1*e=(x.map AV.cv).length∧(n+1)*by_≤2 ^ 44∧n+1≤2 ^ 44∧(x.map AV.cv).all AV.isSc=true:=⟨trivial,by simp[hl],by simp[hx],hb,hn,S2 x⟩
   simp only[ZX,hr',hsrc,lenF,Option.bind_some]
   rw[if_pos h1,Q5 (by simp[hl]),hset]
   simp only[QW]
  ·rw[← QW]
   have:((σ++K)++[AObj.cells (x.map .cv)]).length=((σ.set l AObj.dead++K)++[AObj.cells (x.map .cv)]).length:=by simp
   rw[this,XH,ZS]
theorem frz_accS {p:CV→Prop} (hp:∀ z,p (.int .i64 z)) {b:Nat} {σ:List AObj} {v:AV} {C:List Int} (h:VH b 1 σ v C.length (C.map (.int .i64))):FrzV p σ v (ints C):=by
 rcases h with ⟨rfl,h0,_⟩ | ⟨l,_,rfl,_,hr⟩
 ·have:C=[]:=ZT h0
  subst this
  exact RY
 ·rw[XW] at hr
  exact U4 hp rfl hr
theorem n3_sum {l:List Int} (h6:l.length=6) (h:N3 l):sumN l<100:=by
 have h0:=h 0 (by omega)
 have h1:=h 1 (by omega)
 have h2:=h 2 (by omega)
 have h3:=h 3 (by omega)
 have h4:=h 4 (by omega)
 have h5:=h 5 (by omega)
 obtain ⟨a,b,c,d,e,f,rfl⟩:=D8 h6
 simp only[gI,List.getElem?_cons_zero,List.getElem?_cons_succ,Option.getD_some] at h0 h1 h2 h3 h4 h5
 simp only[sumN,Q0,WS,List.sum_cons,List.sum_nil]
 omega
theorem n2_ok {a b:Int} (h:(-9223372036854775808≤a∧a≤9223372036854775807)∧-9223372036854775808≤b∧b≤9223372036854775807):∀ i,i<2→-9223372036854775808≤gI [a,b] i∧gI [a,b] i≤9223372036854775807
 | 0,_=>h.1
 | 1,_=>h.2
 | i+2,hi=>absurd hi (by omega)
theorem eq2 {a b c d:Int} (h:(-9223372036854775808≤a∧a≤9223372036854775807)∧-9223372036854775808≤b∧b≤9223372036854775807) (h2:(-9223372036854775808≤c∧c≤9223372036854775807)∧-9223372036854775808≤d∧d≤9223372036854775807) :
  JW K2 (.agg [.i a,.i b]) (.agg [.i c,.i d])=some (decide ([a,b]=[c,d])):=eqk_n (n:=2) (a:=[a,b]) (b:=[c,d]) rfl rfl (n2_ok h) (n2_ok h2)
theorem eq7 {a b:List Int} (ha:KeyW a) (hb:KeyW b):JW K7 (keyV a) (keyV b)=some (decide (a=b)):=key_eq ha hb
structure FwL (ps:List Pat) (H:List AObj) (M:Mem) (v:AV) (C:List Int) (mt:Int) (k:Nat) (L:List Int) (c:Int × Int):Prop where
 r0:rowOf H 0=some [.cv (patR ps)]
 r1:rowOf H 1=some [v,.i mt]
 m2:H[2]? = some (.map (memE M))
 r3:rowOf H 3=some [.map 2]
 r4:rowOf H 4=some [.i 1073741824,.i 0]
 r5:rowOf H 5=some [.fn (.func 57) [.ptr 0 0,.ptr 4 0,.ptr 3 0,.ptr 5 0]]
 r6:rowOf H 6=some (.i k::L.map AV.i)
 r7:rowOf H 7=some [.i c.1,.i c.2]
 acc:VH 8 1 H v C.length (C.map (.int .i64))
 len:8≤H.length
section
variable {ps:List Pat} {H:List AObj} {M:Mem} {v:AV} {C:List Int} {mt:Int} {k:Nat} {L:List Int} {c:Int × Int}
theorem QfE {b e n:Nat} {cs:List CV} (h:VH b e H v n cs) (J:List AObj):VH b e (H++J) v n cs:=h.imp id fun ⟨l,h1,h2,h3,h4⟩=>⟨l,h1,h2,h3,ZH h4 J⟩
theorem FF {b e n:Nat} {cs:List CV} (h:VH b e H v n cs) {X:Nat} (hx:X<b) (x:AObj):VH b e (H.set X x) v n cs:=h.imp id fun ⟨l,h1,h2,h3,h4⟩=>⟨l,h1,h2,h3,by rw[QX (by omega)];exact h4⟩
theorem FwL.app (h:FwL ps H M v C mt k L c) (J:List AObj):FwL ps (H++J) M v C mt k L c :=
 ⟨ZH h.r0 J,ZH h.r1 J,by rw[QE (by have:=h.len;omega)];exact h.m2,ZH h.r3 J,ZH h.r4 J,ZH h.r5 J,ZH h.r6 J,ZH h.r7 J,QfE h.acc J,by have:=h.len;simp;omega⟩
theorem FwL.mp (h:FwL ps H M v C mt k L c) (M':Mem):FwL ps (mpH 2 H M') M' v C mt k L c:=by
 unfold mpH
 have hl:=h.len
 exact ⟨by rw[QX (by decide)];exact h.r0,by rw[QX (by decide)];exact h.r1,by rw[Z2 (by omega)],by rw[QX (by decide)];exact h.r3,by rw[QX (by decide)];exact h.r4,by rw[QX (by decide)];exact h.r5,by rw[QX (by decide)];exact h.r6,by rw[QX (by decide)];exact h.r7,FF h.acc (by decide) _,by simp;omega⟩
theorem FwL.set6 (h:FwL ps H M v C mt k L c) (k':Nat) (L':List Int):FwL ps (H.set 6 (.cells (.i k'::L'.map AV.i))) M v C mt k' L' c:=by
 have hl:=h.len
 exact ⟨by rw[QX (by decide)];exact h.r0,by rw[QX (by decide)];exact h.r1,by rw[QU (by decide)];exact h.m2,by rw[QX (by decide)];exact h.r3,by rw[QX (by decide)];exact h.r4,by rw[QX (by decide)];exact h.r5,W0 h.r6,by rw[QX (by decide)];exact h.r7,FF h.acc (by decide) _,by simp;omega⟩
theorem FwL.set7 (h:FwL ps H M v C mt k L c) (c':Int × Int):FwL ps (H.set 7 (.cells [.i c'.1,.i c'.2])) M v C mt k L c':=by
 have hl:=h.len
 exact ⟨by rw[QX (by decide)];exact h.r0,by rw[QX (by decide)];exact h.r1,by rw[QU (by decide)];exact h.m2,by rw[QX (by decide)];exact h.r3,by rw[QX (by decide)];exact h.r4,by rw[QX (by decide)];exact h.r5,by rw[QX (by decide)];exact h.r6,W0 h.r7,FF h.acc (by decide) _,by simp;omega⟩
theorem FwL.low (h:FwL ps H M v C mt k L c) {W:List AObj} (hl:8≤W.length) (hi:∀ i,i<8→W[i]? = H[i]?) {v':AV} {C':List Int} (ha:VH 8 1 W v' C'.length (C'.map (.int .i64))) (mt':Int):FwL ps (W.set 1 (.cells [v',.i mt'])) M v' C' mt' k L c:=by
 have hr:∀ i,i<8→rowOf W i=rowOf H i:=fun i h=>by unfold rowOf;rw[hi i h]
 exact ⟨by rw[QX (by decide),hr 0 (by decide)];exact h.r0,W0 (by rw[hr 1 (by decide)];exact h.r1),by rw[QU (by decide),hi 2 (by decide)];exact h.m2,by rw[QX (by decide),hr 3 (by decide)];exact h.r3,by rw[QX (by decide),hr 4 (by decide)];exact h.r4,by rw[QX (by decide),hr 5 (by decide)];exact h.r5,by rw[QX (by decide),hr 6 (by decide)];exact h.r6,by rw[QX (by decide),hr 7 (by decide)];exact h.r7,FF ha (by decide) _,by simp;omega⟩
theorem FwL.fw (h:FwL ps H M v C mt k L c):FwH ps H 0 4 3 2 5:=⟨h.r0,h.r4,h.r3,h.r5,by have:=h.len;omega,by decide,by decide,by decide,by decide⟩
theorem FwL.self (h:FwL ps H M v C mt k L c):mpH 2 H M=H:=by
 unfold mpH
 apply Z1
 intro j
 rw[ZO]
 by_cases hj:2=j
 ·subst hj
  rw[if_pos rfl,if_pos (by have:=h.len;omega)];exact h.m2.symm
 ·rw[if_neg hj]
end
theorem le17 (ps:List Pat) (l:List Int) (hp:ps.length<2 ^ 63) (hl:l.length<2 ^ 63):PC Tryz.prog 17 [.cv (patR ps),ints l] (fewA ps l):=by
 refine ⟨ZF (fok17 true) (QC rfl) ?_,rfl⟩
 unfold fewA fewL
 simp only[ic17,WI,cellsOf,evA,simprocAttr]
 refine (le56 ps l hp hl).call frz ?_
 by_cases he:chkE ps l=0
 rotate_left
 ·have hb:(chkE ps l != 0)=true:=by simpa using he
  rw[if_pos he]
  simp only[hb,evA,simprocAttr]
  exact .tup (.cons (.agg (.cons (.c .nl) (.cons (.c (.c _ trivial)) .nil))) (.cons (.c (.c _ trivial)) .nil))
 have hb:(chkE ps l != 0)=false:=by simpa using he
 have hok:=Qd3 he
 have hn3:N3 l:=hok.need
 rw[if_neg (fun h=>h he)]
 have h12:=hok.p12
 have h6:=hok.l6
 simp only[hb,he,evA,simprocAttr]
 refine ZW l.length (fun i st=>∃ v6 v7 v8 v21 v22 v23 v24 v25 v26,st=⟨[.cv (patR ps),ints l,.ptr 0 0,.ptr 1 0,.i 0,.i (GW ps l i),v6,v7,v8,.undef,.undef,.undef,.undef,.undef,.undef,.undef,.undef,.b false,ints l,.i l.length,.i i,v21,v22,v23,v24,v25,v26,.undef,.undef,.undef],[.cells [.cv (patR ps)],.cells [.cv .nils,.i 0]]⟩) ?_ 0 (QF _) ⟨_,_,_,_,_,_,_,_,_,rfl⟩
 rintro i st hi ⟨v6,v7,v8,v21,v22,v23,v24,v25,v26,rfl⟩
 have hlb:=I7 (ps:=ps) hn3 i hi
 by_cases hil:i<l.length
 ·have hg:=hn3 i hil
  have hlb2:=I7 (ps:=ps) hn3 (i+1) hil
  have hls:GW ps l (i+1)=GW ps l i+if shB ps i ps.length=true then 0 else gI l i:=rfl
  obtain ⟨x,hx⟩:∃ x,x=gI l i:=⟨_,rfl⟩
  have hgI:l[i]?.getD 0=x:=hx.symm
  rw[← hx] at hls hg
  clear hx
  generalize GW ps l i=tot at *
  generalize GW ps l (i+1)=tot2 at *
  simp only[ic17l2,QJ,hil,J5 hil,J4 hil,WA,hgI,evA,simprocAttr]
  refine ZW ps.length (fun j st=>∃ v8 v25 v26,st=⟨[.cv (patR ps),ints l,.ptr 0 0,.ptr 1 0,.i 0,.i tot,.i i,.i (if shB ps i j=true then 0 else x),v8,.undef,.undef,.undef,.undef,.undef,.undef,.undef,.undef,.b false,ints l,.i l.length,.i i,.b true,.cv (patR ps),.i ps.length,.i j,v25,v26,.undef,.undef,.undef],[.cells [.cv (patR ps)],.cells [.cv .nils,.i 0]]⟩) ?_ 0 (QF _) ⟨_,_,_,rfl⟩
  clear v6 v7 v8 v21 v22 v23 v24 v25 v26
  rintro j st hj ⟨v8,v25,v26,rfl⟩
  by_cases hjl:j<ps.length
  ·have hpat:=hok.pat j hjl
   have hld:=B4 hjl
   have hss:=shB_succ ps i j
   have hpw:=(Qa6 h6).2
   obtain ⟨⟨hs0,hs1⟩,_⟩:=hpat
   obtain ⟨a,ha⟩:∃ a:Nat,(ps[j]!).1=(a:Int):=⟨(ps[j]!).1.toNat,by omega⟩
   have ha64:a<64:=by omega
   have hsh:=ishr a i (by omega)
   have hsmall:a >>> i<2 ^ 62:=WJ (by rw[JR];exact Nat.div_le_self _ _) (Z6 ha64 (by decide))
   have hand:=iand1 hsmall
   have hbm:=QbC (i:=i) ha
   rw[hss]
   generalize ps[j]! = p at *
   obtain ⟨s,m⟩:=p
   simp only at ha hld hbm hss ⊢
   have hob:∀ o∈[AObj.cells [.cv (patR ps)],.cells [.cv .nils,.i 0]],Z3 2 o=true:=by
    intro o ho
    simp only[ZD,WK,or_false] at ho
    rcases ho with rfl | rfl <;> rfl
   cases hbt:bit s i with
   | true =>
    rw[hbt,if_pos rfl] at hbm
    rw[ha] at hld
    simp only[ic17l1,QJ,hjl,O9 hjl,hld,hsh,hand,hbm,evA,simprocAttr]
    exact W1 [.cells [.cv (patR ps)],.cells [.cv .nils,.i 0]] _ rfl (by first | trivial | omega) (QF _) hob ⟨_,_,_,by rw[ZC (by omega)];rfl⟩
   | false =>
    rw[hbt,if_neg (by decide)] at hbm
    rw[ha] at hld
    simp only[ic17l1,QJ,hjl,O9 hjl,hld,hsh,hand,hbm,evA,simprocAttr]
    exact W1 [.cells [.cv (patR ps)],.cells [.cv .nils,.i 0]] _ rfl (by first | trivial | omega) (QF _) hob ⟨_,_,_,by rw[ZC (by omega)];rfl⟩
  ·have hje:j=ps.length:=by omega
   subst hje
   have hw:IntKind.i64.wrap (tot+if shB ps i ps.length=true then 0 else x)=tot2:=by rw[← hls];exact ZC (by omega)
   simp only[ic17l1,QJ,hjl,hw,Q6 (show i+1<2 ^ 63 by omega),evA,simprocAttr]
   exact ZL (by first | trivial | omega) ⟨_,_,_,_,_,_,_,_,_,rfl⟩
 have hie:i=l.length:=by omega
 subst hie
 have hlk0:=Qep (ps:=ps) hn3
 rw[hlk0]
 generalize GW ps l l.length=tot at *
 cases hlk:decide (0<tot) with
 | true =>
  have hgt:decide (tot>0)=true:=hlk
  rw[if_pos rfl]
  simp only[ic17l2,QJ,hil,hgt,evA,simprocAttr]
  exact .tup (.cons (.agg (.cons (.c .nl) (.cons (.c (.c _ trivial)) .nil))) (.cons (.c (.c _ trivial)) .nil))
 | false =>
 have hgt:decide (tot>0)=false:=hlk
 have hlack:NY ps l=false:=by rw[hlk0];exact hlk
 rw[if_neg (by decide)]
 have hmt:MtOk ps:=fun k hk=>(hok.pat k hk).2
 have hsh:∀ k,k<ps.length→0≤(ps[k]!).1∧(ps[k]!).1<64:=fun k hk=>by
  have:=(hok.pat k hk).1
  have:=(Qa6 h6).2
  omega
 have hp6:=pad6_len h6
 have hpn:=pad6_n3 hn3
 obtain ⟨c0,hc0⟩:∃ c,fewV ps 0 (pad6 l)=some c:=by
  obtain ⟨a,b,h⟩:=few_some (fun k hk=>(hmt k hk).1) hn3.nn hlack
  exact ⟨(a,b),by unfold pad6;rw[OD];exact h⟩
 obtain ⟨F,hF⟩:∃ F,F=ps.length+sumN (pad6 l)+1:=⟨_,rfl⟩
 have hsum:sumN (pad6 l)<100:=n3_sum hp6 hpn
 have hbest:HG (UJ ps l)=HG (grL ps F 0 (pad6 l)):=by
  rw[hF];unfold pad6 UJ;rw[QbW,Qas]
 have hmet:XX ps (UJ ps l)=c0.2:=(OP (fun k hk=>(hmt k hk).1) hn3.nn (a:=c0.1) (b:=c0.2) (by rw[← hc0];unfold pad6;rw[OD])).2.1
 rw[hbest,hmet]
 have hcp:=fun σ hr=>copy_pad h6 (σ:=σ) (L:=6) hr
 have hsl:∀ σ:List AObj,rowOf σ 6=some [.i 0,.i 0,.i 0,.i 0,.i 0,.i 0,.i 0]→OG 6 1 false false [.ptr 6 1] σ=some (.sl 6 1 6 1,σ):=fun σ hr=>by simp[OG,hr,bnds,bnd]
 obtain ⟨g1,g2⟩:=O6 hmt h12 F 0 (pad6 l) [] hpn hp6 (by omega) (by omega) (fun e he=>absurd he (by simp))
 have hcall:=le57 ps hmt h12 hsh (A:=0) (B:=4) (C:=3) (D:=2) (E:=5) F 0 (pad6 l) [] [.cells [.cv (patR ps)],.cells [.cv .nils,.i 0],.map [],.cells [.map 2],.cells [.i 1073741824,.i 0],.cells [.fn (.func 57) [.ptr 0 0,.ptr 4 0,.ptr 3 0,.ptr 5 0]],.cells (.i 0::(pad6 l).map AV.i)] ⟨rfl,rfl,rfl,rfl,by simp,by decide,by decide,by decide,by decide⟩ (QF _) hp6 hpn (by omega) (by omega) (fun e he=>absurd he (by simp))
 obtain ⟨z0,z1,z2,z3,z4,z5,hz⟩:=D8 hp6
 have hzE:(pad6 l).map AV.i=[.i z0,.i z1,.i z2,.i z3,.i z4,.i z5]:=by rw[hz];rfl
 generalize lstF ps F 0 (pad6 l) []=r0 at *
 obtain ⟨x0,M0⟩:=r0
 simp only at g1 g2
 rw[hc0] at g1
 cases g1
 rw[hzE] at hcp
 simp only[hzE,mpH,List.set_cons_succ,List.set_cons_zero,memE,WS] at hcall
 simp only[ic17l2,QJ,hil,hgt,KY,hsl,hcp,evA,simprocAttr]
 refine hcall.run ?_
 obtain ⟨a0,b0⟩:=c0
 simp only[c2,evA,simprocAttr]
 refine ZW F (fun t st=>∃ (k:Nat) (L:List Int) (M:Mem) (v:AV) (C:List Int) (c:Int × Int) (H:List AObj) (v14 v15 v16 v28 v29:AV),FwL ps H M v C b0 k L c∧L.length=6∧N3 L∧sumN L<100∧QaP ps M∧fewV ps k L=some c∧k≤ps.length∧ps.length-k+sumN L+t<F∧HG (grL ps F 0 (pad6 l))=C++HG (grL ps (F-t) k L)∧C.length≤t ∧
  st=⟨[.cv (patR ps),ints l,.ptr 0 0,.ptr 1 0,.i 0,.i tot,v6,v7,v8,.ptr 3 0,.ptr 4 0,.ptr 5 0,.ptr 6 0,.ptr 7 0,v14,v15,v16,.b false,ints l,.i l.length,.i l.length,.b false,v22,v23,v24,v25,v26,.b false,v28,v29],H⟩) ?_ 0 (QF _) ⟨0,pad6 l,M0,.cv .nils,[],(a0,b0),_,_,_,_,_,_,⟨rfl,rfl,rfl,rfl,rfl,rfl,by rw[hzE];rfl,rfl,.inl ⟨rfl,rfl,rfl⟩,by simp⟩,hp6,hpn,hsum,g2,hc0,QF _,by omega,rfl,QG _,rfl⟩
 clear hcall hcp
 rintro t st ht ⟨k,L,M,v,C,c,H,v14,v15,v16,v28,v29,hH,hL6,hLn,hLs,hM,hfv,hkp,hmeas,hgr,hCt,rfl⟩
 obtain ⟨c1,c2'⟩:=c
 have hcb:=DI hmt _ _ _ _ _ hLn.nn hfv
 have hz2:=eq2 (a:=c1) (b:=c2') (c:=0) (d:=0) ⟨by omega,by omega⟩ (by decide)
 by_cases hc00:[c1,c2']=[0,0]
 ·rw[decide_eq_true hc00] at hz2
  cases hc00
  have hzl:=few_zero hmt hLn.nn hfv
  obtain ⟨f,hf⟩:∃ f,F-t=f+1:=⟨F-t-1,by omega⟩
  have hnil:grL ps (F-t) k L=[]:=by rw[hf];unfold grL;rw[if_pos hzl]
  rw[hnil] at hgr
  have hCe:HG (grL ps F 0 (pad6 l))=C:=by rw[hgr];simp[HG]
  rw[hCe]
  have hacc:=hH.acc
  have hnu:=hacc.nu
  have rs1:rowOf (H.set 1 (.cells [v,.i b0])) 1=some [v,.i b0]:=W0 hH.r1
  simp only[ic17l0,hH.r7,hH.r1,hz2,hnu,rs1,evA,simprocAttr]
  exact .tup (.cons (.agg (.cons (frz_accS (fun _=>trivial) (FF hacc (by decide) _)) (.cons (.c (.c _ trivial)) .nil))) (.cons (.c (.c _ trivial)) .nil))
 ·rw [decide_eq_false hc00] at hz2
  have hzl:J9 L=false:=by
   cases hzz:J9 L with
   | false=>rfl
   | true=>rw[LK hLn.nn hzz] at hfv;cases hfv;exact absurd rfl hc00
  have hk2:=few_lt hLn.nn hzl hfv
  have hskip:=few_skip hLn.nn hzl hfv
  have htk:=QeY hmt hLn.nn (by omega) hfv
  obtain ⟨f,hf⟩:∃ f,F-t=f+1:=⟨F-t-1,by omega⟩
  have hf1:F-(t+1)=f:=by omega
  have hgs:grL ps (F-t) k L=if EC ps k L=true then k::grL ps f k (afL (ps[k]!).1 L) else grL ps f (k+1) L:=by
   rw[hf]
   show (if J9 L=true then _ else _)=_
   rw[if_neg (by rw[hzl];decide)]
  have hpt:=hsh k hk2
  have hmk:=hmt k hk2
  have hld:=B4 hk2
  have hpe:ps[k]! = ((ps[k]!).1,(ps[k]!).2):=rfl
  generalize hs0:(ps[k]!).1=s at *
  generalize hm0:(ps[k]!).2=m at *
  rw[hpe] at hld
  have h58:=le58 L hL6 (fun i hi=>hLn i (by omega)) s m hpt
  have hy6:(afL s L).length=6:=by rw[JQ,hL6]
  have hyn:=hLn.af s
  have hys:=n3_sum hy6 hyn
  have hkey:=I8 (k:=k) (by omega) hL6 hLn
  have hkey2:=I8 (k:=k) (by omega) hy6 hyn
  have heq7:=eq7 hkey2 hkey
  have hle57:=fun J=>le57 ps hmt h12 hsh (ps.length-k+sumN (afL s L)+1) k (afL s L) M (H++J) (hH.fw.app J) hkp hy6 hyn (by omega) (by omega) hM
  obtain ⟨g3,g4⟩:=O6 hmt h12 (ps.length-k+sumN (afL s L)+1) k (afL s L) M hyn hy6 (by omega) (by omega) hM
  generalize lstF ps (ps.length-k+sumN (afL s L)+1) k (afL s L) M=r1 at *
  obtain ⟨⟨a2,b2⟩,M2⟩:=r1
  simp only at g3 g4
  have hd2:2<H.length:=by have:=hH.len;omega
  simp only[← E4 hd2,hH.self] at hle57
  rw[← g3] at htk
  simp only at htk
  have hbd:0≤a2∧a2≤1073741824∧0≤b2∧b2≤100000000:=by
   cases hc:fewV ps k (afL s L) with
   | none=>rw[hc] at g3;cases g3;decide
   | some c =>
    obtain ⟨c3,c4⟩:=c
    rw[hc] at g3
    cases g3
    have:=DI hmt _ _ _ _ _ hyn.nn hc
    omega
  have hw1:IntKind.i64.wrap (a2+1)=a2+1:=ZC (by omega)
  have hw2:IntKind.i64.wrap (b2+m)=b2+m:=ZC (by omega)
  have heq2:=eq2 (a:=c1) (b:=c2') (c:=a2+1) (d:=b2+m) ⟨by omega,by omega⟩ ⟨by omega,by omega⟩
  have hH2:=hH.mp M2
  obtain ⟨x0,x1,x2,x3,x4,x5,hx⟩:=D8 hL6
  have hxE:L.map AV.i=[.i x0,.i x1,.i x2,.i x3,.i x4,.i x5]:=by rw[hx];rfl
  obtain ⟨y0,y1,y2,y3,y4,y5,hy⟩:=D8 hy6
  have hyE:(afL s L).map AV.i=[.i y0,.i y1,.i y2,.i y3,.i y4,.i y5]:=by rw[hy];rfl
  simp only[keyV,Q0,hxE,hyE] at heq7 h58 hle57
  have r0:=fun J=>ZH hH.r0 J
  have r1:=fun J=>ZH hH.r1 J
  have r5:=fun J=>ZH hH.r5 J
  have r6:=fun J=>ZH hH.r6 J
  have r7:=fun J=>ZH hH.r7 J
  rw[hxE] at r6
  have r6':=hH.r6
  rw[hxE] at r6'
  have s1:=fun J=>ZH hH2.r1 J
  have s6:=fun J=>ZH hH2.r6 J
  have s7:=fun J=>ZH hH2.r7 J
  rw[hxE] at s6
  have hlen:(mpH 2 H M2).length=H.length:=HH M2
  have hH8:=hH.len
  have e6:∀ J:List AObj,(H++J)[6]? = H[6]? := fun J=>QE (by omega)
  have q0:=fun J=>mpH_z (D:=2) (σ:=H) M2 J
  have qs:=fun J i=>mpH_s (D:=2) (σ:=H) M2 J i
  have qsz:=fun J v=>mpH_sz (D:=2) (σ:=H) M2 J v
  have qzs:=fun J v i=>mpH_zs (D:=2) (σ:=H) M2 J v i
  simp only[ic17l0,r6',hH.r7,hz2,hH.r0,O9 hk2,hld,QW,QM,List.cons_append,List.nil_append,WW,X9,VW,EZ,evA,simprocAttr]
  refine DW_s [5] [(1,7),(3,7),(4,7),(5,7)] hmix (by kernel_rfl) rfl ?_
  simp only[r6,e6,QW,QM,List.cons_append,List.nil_append,WW,X9,VW,EZ,Qau,CH,evA,simprocAttr]
  refine YE (h58.call frz ⟨rfl,rfl⟩) rfl ?_
  simp only[r5,e6,QW,QM,List.cons_append,List.nil_append,WW,X9,VW,EZ,Qau,CH,evA,simprocAttr]
  refine (hle57 _).run ?_
  have hd1:decide ((k:Int)::afL s L=(k:Int)::L)=decide (afL s L=L):=by rw[Q8];simp
  have hd2':decide ([c1,c2']=[a2+1,b2+m])=((c1,c2') == (a2+1,b2+m)):=by rw[Q8];simp
  rw[hd1] at heq7
  rw[hd2'] at heq2
  have hset6:∀ J,FwL ps ((mpH 2 H M2++J).set 6 (.cells [.i (k+1:Nat),.i x0,.i x1,.i x2,.i x3,.i x4,.i x5])) M2 v C b0 (k+1) L (c1,c2'):=fun J=>by
   have:=(hH2.app J).set6 (k+1) L
   rw[hxE] at this
   exact this
  have hwk:IntKind.i64.wrap ((k:Int)+1)=((k+1:Nat):Int):=Q6 (by omega)
  have hno:EC ps k L=false→HG (grL ps F 0 (pad6 l))=C++HG (grL ps (F-(t+1)) (k+1) L):=fun h=>by
   rw[hgr,hgs,h,if_neg (by decide),hf1]
  cases hsame:decide (afL s L=L) with
  | true =>
   rw[hsame] at heq7 htk
   rw[Y2,Bool.false_and] at htk
   simp only[heq7,s6,hlen,q0,qs,qsz,qzs,hwk,QW,QM,List.cons_append,List.nil_append,evA,simprocAttr]
   exact ZL (by omega) ⟨k+1,L,M2,v,C,(c1,c2'),_,_,_,_,_,_,hset6 _,hL6,hLn,hLs,g4,hskip htk,by omega,by omega,hno htk,by omega,rfl⟩
  | false =>
  rw[hsame] at heq7 htk
  rw[ZY,XI] at htk
  cases hsm:(c1,c2') == (a2+1,b2+m) with
  | false =>
   rw[hsm] at heq2 htk
   simp only[heq7,heq2,s6,s7,hw1,hw2,hlen,q0,qs,qsz,qzs,hwk,QW,QM,List.cons_append,List.nil_append,evA,simprocAttr]
   exact ZL (by omega) ⟨k+1,L,M2,v,C,(c1,c2'),_,_,_,_,_,_,hset6 _,hL6,hLn,hLs,g4,hskip htk,by omega,by omega,hno htk,by omega,rfl⟩
  | true =>
   rw[hsm] at heq2 htk
   simp only[heq7,heq2,s6,s7,hw1,hw2,hlen,q0,qs,qsz,qzs,hwk,QW,QM,List.cons_append,List.nil_append,evA,simprocAttr]
   have hc:(c1,c2')=(a2+1,b2+m):=eq_of_beq hsm
   have hfv2:fewV ps k (afL s L)=some (a2,b2):=by
    cases hq:fewV ps k (afL s L) with
    | none =>
     rw[hq] at g3
     cases g3
     cases hc
     omega
    | some c =>
     rw[hq] at g3
     exact congrArg some g3.symm
   have hne:afL s L≠L:=of_decide_eq_false hsame
   have hlt:=R3 hLn.nn hne
   have hyes:HG (grL ps F 0 (pad6 l))=(C++[(k:Int)])++HG (grL ps (F-(t+1)) k (afL s L)):=by
    rw[hgr,hgs,htk,if_pos rfl,hf1,QW]
    rfl
   have hCl:(C++[(k:Int)]).length=C.length+1:=by simp
   clear hle57 hH hH8 e6 q0 qs qsz qzs r0 r1 r5 r6 r7 r6' s1 s6 s7 hset6 hd2
   rw[← hlen]
   generalize mpH 2 H M2=G at *
   have hG8:=hH2.len
   obtain ⟨v',σ2,K2,p1,p2,p3,p4⟩:=SO (by_:=8) (x:=[.int .i64 k]) (K:=[AObj.cells [.i s,.i m],AObj.cells [.i k,.i y0,.i y1,.i y2,.i y3,.i y4,.i y5],AObj.cells [.i a2,.i b2]]) hH2.len hH2.acc rfl (by omega) (by omega)
   have pn:=p2.nu
   simp only[QM,List.length_cons,List.length_nil,ZV,QW,List.cons_append,List.nil_append,Q0,WS,Nat.reduceAdd] at p1
   have s1:=fun J=>ZH hH2.r1 J
   have s6:=fun J=>ZH hH2.r6 J
   rw[hxE] at s6
   have e1:∀ J:List AObj,(G++J)[1]? = G[1]? := fun J=>QE (by omega)
   have gL:∀ (τ:List AObj),τ.length=G.length→∀ J i,(τ++J)[G.length+i]? = J[i]? := fun τ h J i=>by rw[← h];exact CH τ J i
   have rL:∀ (τ:List AObj),τ.length=G.length→∀ J i,rowOf (τ++J) (G.length+i)=rowOf J i:=fun τ h J i=>by rw[← h];exact X9 τ J i
   have hrl:∀ i,i<8→rowOf σ2 i=rowOf G i:=fun i h=>by unfold rowOf;rw[p4 i h]
   have u1:rowOf σ2 1=some [v,.i b0]:=by rw[hrl 1 (by decide)];exact hH2.r1
   have u6:rowOf σ2 6=some [.i k,.i x0,.i x1,.i x2,.i x3,.i x4,.i x5]:=by rw[hrl 6 (by decide),hH2.r6,hxE]
   have u7:rowOf σ2 7=some [.i c1,.i c2']:=by rw[hrl 7 (by decide)];exact hH2.r7
   have w1:∀ (τ:List AObj),τ.length=G.length→∀ J,rowOf (τ++J) 1=rowOf τ 1:=fun τ h J=>by unfold rowOf;rw[QE (by omega)]
   have w6:∀ (τ:List AObj),τ.length=G.length→∀ J,rowOf (τ++J) 6=rowOf τ 6:=fun τ h J=>by unfold rowOf;rw[QE (by omega)]
   have w7:∀ (τ:List AObj),τ.length=G.length→∀ J,rowOf (τ++J) 7=rowOf τ 7:=fun τ h J=>by unfold rowOf;rw[QE (by omega)]
   have z1:∀ (τ:List AObj),τ.length=G.length→∀ J x,(τ++J).set 1 x=τ.set 1 x++J:=fun τ h J x=>YG _ _ (by omega)
   have z6:∀ (τ:List AObj),τ.length=G.length→∀ J x,(τ++J).set 6 x=τ.set 6 x++J:=fun τ h J x=>YG _ _ (by omega)
   have z7:∀ (τ:List AObj),τ.length=G.length→∀ J x,(τ++J).set 7 x=τ.set 7 x++J:=fun τ h J x=>YG _ _ (by omega)
   have n16:(1:Nat)≠6:=by decide
   have n17:(1:Nat)≠7:=by decide
   have n67:(6:Nat)≠7:=by decide
   have f6:=fun X=>QX (σ:=σ2) (l:=1) (l':=6) n16 X
   have f7:=fun X Y=>(QX (σ:=σ2.set 1 X) (l:=6) (l':=7) n67 Y).trans (QX (σ:=σ2) n17 X)
   refine DW_s [] [(1,4),(6,4),(6,5),(6,9),(7,4),(7,5),(7,9),(7,10)] hmix (by kernel_rfl) rfl ?_
   simp only[s1,s6,e1,gL,rL,p1,p3,pn,u1,u6,u7,w1,w6,w7,z1,z6,z7,f6,f7,WE,QW,QM,List.cons_append,List.nil_append,WW,X9,VW,EZ,Qau,CH,evA,simprocAttr]
   have hfin:=((hH2.low (W:=(σ2++[AObj.cells [.i s,.i m],AObj.cells [.i k,.i y0,.i y1,.i y2,.i y3,.i y4,.i y5],AObj.cells [.i a2,.i b2]])++K2) (C':=C++[(k:Int)]) (by simp;omega) (fun i hi=>by rw[QW,QE (by omega)];exact p4 i hi) (by rw[hCl,ZS];exact p2) b0).set6 k (afL s L)).set7 (a2,b2)
   rw[hyE,QW,z1 _ p3,z6 _ (by rw[WE];exact p3),z7 _ (by rw[WE,WE];exact p3)] at hfin
   exact ZL (by omega) ⟨k,afL s L,M2,v',C++[(k:Int)],(a2,b2),_,_,_,_,_,_,hfin,hy6,hyn,hys,g4,hfv2,hkp,by omega,hyes,by omega,rfl⟩
theorem QaX {B:Int} (hB:0≤B) {f:Nat→Int}:∀ {n:Nat},(∀ i,i<n→0≤f i∧f i≤B)→0≤sumI n f∧sumI n f≤B*n
 | 0,_=>by simp[sumI]
 | n+1,h=>by
  have ih:=QaX hB (n:=n) fun i hi=>h i (by omega)
  have:=h n (by omega)
  simp only[sumI]
  push_cast
  rw[Int.mul_add,Int.mul_one]
  omega
theorem Qbw {ps:List Pat} {pr:List Int}:OE ps pr=true↔∀ k,k<ps.length→RO (ps[k]!).1 pr≤1000:=by
 unfold OE
 rw[Q1]
 constructor
 ·intro h k hk
  exact of_decide_eq_true (h k (by simpa using hk))
 ·intro h k hk
  exact decide_eq_true (h k (by simpa using hk))
theorem le20 (ps:List Pat) (l pr:List Int) (hp:ps.length<2 ^ 63) (hl:l.length<2 ^ 63) (hr:pr.length<2 ^ 63):PC Tryz.prog 20 [.cv (patR ps),ints l,ints pr] (floA ps l pr):=by
 refine ⟨ZF (fok20 true) (QC rfl) ?_,rfl⟩
 unfold floA floL
 simp only[ic20,evA,simprocAttr]
 refine (le56 ps l hp hl).call frz ?_
 by_cases he:chkE ps l=0
 ·have hb:(chkE ps l != 0)=false:=by simpa using he
  have hok:=Qd3 he
  rw[if_neg (fun h=>h he)]
  have h1:=hok.p12
  have h6:=hok.l6
  simp only[hb,he,evA,simprocAttr]
  by_cases hlen:pr.length=l.length
  ·have hb2:((pr.length:Int) != l.length)=false:=by rw[hlen];simp
   rw[if_neg (fun h=>h hlen)]
   simp only[hb2,evA,simprocAttr]
   refine (le63 0 1000 pr hr).call frz ?_
   cases ho:outF 0 1000 pr with
   | true =>
    simp only[evA,simprocAttr]
    exact frz
   | false =>
    have hpr:∀ i,i<pr.length→0≤gI pr i∧gI pr i≤1000:=fun i hi=>VL.1 ho _ (Qcs hi)
    simp only[evA,simprocAttr]
    refine ZW ps.length (fun i s=>(∀ k,k<i→RO (ps[k]!).1 pr≤1000)∧∃ v6 v7 v8 v9 v10 v11 v12 v19 v20 v21 v22 v23 v24 v25 v26 v27 v28,s=⟨[.cv (patR ps),ints l,ints pr,.i 0,.i 0,.i 0,v6,v7,v8,v9,v10,v11,v12,.b false,.b false,.b false,.cv (patR ps),.i ps.length,.i i,v19,v20,v21,v22,v23,v24,v25,v26,v27,v28],[]⟩) ?_ 0 (QF _) ⟨by omega,_,_,_,_,_,_,_,_,_,_,_,_,_,_,_,_,_,rfl⟩
    rintro i s hi ⟨hall,v6,v7,v8,v9,v10,v11,v12,v19,v20,v21,v22,v23,v24,v25,v26,v27,v28,rfl⟩
    by_cases hin:i<ps.length
    ·have hpat:=hok.pat i hin
     simp only[ic20l2,QJ,hin,O9 hin,B4 hin,evA,simprocAttr]
     obtain ⟨⟨hs0,hs1⟩,_⟩:=hpat
     have hpw:=(Qa6 h6).2
     obtain ⟨a,ha⟩:∃ a:Nat,(ps[i]!).1=(a:Int):=⟨(ps[i]!).1.toNat,by omega⟩
     have ha64:a<64:=by omega
     have hprice:RO (ps[i]!).1 pr=sumI pr.length (fun j=>if bit (ps[i]!).1 j then gI pr j else 0):=rfl
     generalize hpe:ps[i]! = p at *
     obtain ⟨s,m⟩:=p
     simp only at ha hprice ⊢
     have hf:∀ j,j<pr.length→0≤(if bit s j then gI pr j else 0)∧(if bit s j then gI pr j else 0)≤1000:=fun j hj=>by
      have:=hpr j hj
      split <;> omega
     obtain ⟨f,hff⟩:∃ f:Nat→Int,f=fun j=>if bit s j then gI pr j else 0:=⟨_,rfl⟩
     have hfj:∀ j,f j=if bit s j then gI pr j else 0:=fun j=>by rw[hff]
     rw[← hff] at hprice
     have hbd:∀ j,j≤pr.length→0≤sumI j f∧sumI j f≤1000*j:=fun j hj=>QaX (by decide) fun k hk=>by rw[hfj];exact hf k (by omega)
     refine ZW pr.length (fun j s'=>∃ v8 v9 v23,s'=⟨[.cv (patR ps),ints l,ints pr,.i 0,.i 0,.i 0,.ptr 0 0,.i (1000-sumI j f),v8,v9,v10,v11,v12,.b false,.b false,.b false,.cv (patR ps),.i ps.length,.i i,.b true,ints pr,.i pr.length,.i j,v23,v24,v25,v26,v27,v28],[.cells [.i s,.i m]]⟩) ?_ 0 (QF _) ⟨_,_,_,rfl⟩
     rintro j s' hj ⟨v8,v9,v23,rfl⟩
     by_cases hjl:j<pr.length
     ·have hsh:=ishr a j (by omega)
      have hsmall:a >>> j<2 ^ 62:=WJ (by rw[JR];exact Nat.div_le_self _ _) (Z6 ha64 (by decide))
      have hand:=iand1 hsmall
      have hbm:=QbC (i:=j) ha
      have hn:=hpr j hjl
      have hb1:=hbd j hj
      have hb2:=hbd (j+1) hjl
      have hmul:IntKind.i64.wrap (pr[j]?.getD 0*((a >>> j % 2:Nat):Int))=f j:=by
       rw[hbm,hfj]
       show IntKind.i64.wrap (gI pr j*_)=_
       split
       ·rw[Int.ofNat_one,Int.mul_one];exact ZC (by omega)
       ·rw[Int.ofNat_zero,Int.mul_zero];rfl
      have hsub:IntKind.i64.wrap (1000-sumI j f-f j)=1000-sumI (j+1) f:=by
       simp only[sumI] at hb2 ⊢
       push_cast at hb2
       rw[ZC (by omega)];omega
      rw[ha]
      simp only[ic20l1,QJ,hjl,hsh,hand,hmul,hsub,evA,simprocAttr]
      exact ZL (by first | trivial | omega) ⟨_,_,_,by rw[ZC (by omega)];rfl⟩
     ·have hje:j=pr.length:=by omega
      subst hje
      have hbn:=hbd pr.length (QG _)
      rw[← hprice] at hbn ⊢
      by_cases hle:RO s pr≤1000
      ·have hb:decide (1000-RO s pr<0)=false:=decide_eq_false (by omega)
       simp only[ic20l1,QJ,hjl,hb,Q6 (show i+1<2 ^ 63 by omega),evA,simprocAttr]
       refine W1 [] _ rfl (by first | trivial | omega) (QF _) (by simp) ⟨fun k hk=>?_,_,_,_,_,_,_,_,_,_,_,_,_,_,_,_,_,_,rfl⟩
       rcases QQ.1 hk with hk | rfl
       ·exact hall k hk
       ·rw[hpe];exact hle
      ·have hb:decide (1000-RO s pr<0)=true:=decide_eq_true (by omega)
       have hfair:OE ps pr=false:=by
        cases hfb:OE ps pr with
        | false=>rfl
        | true=>exact absurd (by have:=Qbw.1 hfb i hin;rw[hpe] at this;exact this) hle
       rw[hfair,if_pos rfl]
       simp only[ic20l1,QJ,hjl,hb,evA,simprocAttr]
       exact frz
    ·have hie:i=ps.length:=by omega
     have hfair:OE ps pr=true:=Qbw.2 fun k hk=>hall k (by omega)
     rw[hfair,if_neg (by decide)]
     subst hie
     simp only[ic20l2,QJ,hin,evA,simprocAttr]
     have hbd:∀ j,j≤pr.length→0≤sumI j (fun i=>gI pr i*gI l i)∧sumI j (fun i=>gI pr i*gI l i)≤3000*j:=fun j hj=>QaX (by decide) fun k hk=>by
      have h1:=hpr k (by omega)
      have h2:=hok.need k (by omega)
      exact ⟨Int.mul_nonneg h1.1 h2.1,Int.le_trans (Int.mul_le_mul h1.2 h2.2 h2.1 (by decide)) (by decide)⟩
     refine ZW pr.length (fun j s'=>∃ v11 v12 v28,s'=⟨[.cv (patR ps),ints l,ints pr,.i 0,.i 0,.i 0,v6,v7,v8,v9,.i (sumI j (fun i=>gI pr i*gI l i)),v11,v12,.b false,.b false,.b false,.cv (patR ps),.i ps.length,.i ps.length,.b false,v20,v21,v22,v23,v24,ints pr,.i pr.length,.i j,v28],[]⟩) ?_ 0 (QF _) ⟨_,_,_,rfl⟩
     rintro j s' hj ⟨v11,v12,v28,rfl⟩
     by_cases hjl:j<pr.length
     ·have hjl2:j<l.length:=by omega
      have h1:=hpr j hjl
      have h2:=hok.need j hjl2
      have hb1:=hbd j hj
      have hb2:=hbd (j+1) hjl
      have hpos:=Int.mul_nonneg h1.1 h2.1
      have hle:=Int.mul_le_mul h1.2 h2.2 h2.1 (by decide)
      have hmul0:IntKind.i64.wrap (gI pr j*gI l j)=gI pr j*gI l j:=ZC (by omega)
      have hmul:IntKind.i64.wrap (pr[j]?.getD 0*l[j]?.getD 0)=gI pr j*gI l j:=hmul0
      have hadd:IntKind.i64.wrap (sumI j (fun i=>gI pr i*gI l i)+gI pr j*gI l j)=sumI (j+1) (fun i=>gI pr i*gI l i):=by
       simp only[sumI] at hb2 ⊢
       push_cast at hb2
       exact ZC (by omega)
      simp only[ic20l0,QJ,hjl,J5 hjl2,J4 hjl2,WA,hmul,hadd,evA,simprocAttr]
      exact ZL (by first | trivial | omega) ⟨_,_,_,by rw[ZC (by omega)];rfl⟩
     ·have hje:j=pr.length:=by omega
      have hbn:=hbd pr.length (QG _)
      have hdot:sumI pr.length (fun i=>gI pr i*gI l i)=dotL pr l:=rfl
      subst hje
      rw[hdot] at hbn ⊢
      have hw1:IntKind.i64.wrap (dotL pr l+1000)=dotL pr l+1000:=ZC (by omega)
      have hw2:IntKind.i64.wrap (dotL pr l+1000-1)=dotL pr l+999:=by rw[ZC (by omega)];omega
      have hw3:IntKind.i64.wrap ((dotL pr l+999).tdiv 1000)=(dotL pr l+999) / 1000:=by
       rw[Int.tdiv_eq_ediv_of_nonneg (by omega)]
       exact ZC (by omega)
      simp only[ic20l0,QJ,hjl,hw1,hw2,hw3,evA,simprocAttr]
      exact frz
  ·have hb2:((pr.length:Int) != l.length)=true:=by simp;omega
   rw[if_pos hlen]
   simp only[hb2,evA,simprocAttr]
   exact frz
 ·have hb:(chkE ps l != 0)=true:=by simpa using he
  rw[if_pos he]
  simp only[hb,evA,simprocAttr]
  exact frz
def ltG (g:Int→Int) (l:List Int) (j:Nat):Bool:=decide (g (gI l j)<g (gI l (j-1)))
def swpL (l:List Int) (j:Nat):List Int:=(l.set j (gI l (j-1))).set (j-1) (gI l j)
def insJ (g:Int→Int):Nat→List Int→List Int
 | 0,l=>l
 | j+1,l=>if ltG g l (j+1)=true then insJ g j (swpL l (j+1)) else l
def isrt (g:Int→Int) (l:List Int):Nat→List Int
 | 0=>l
 | i+1=>insJ g i (isrt g l i)
theorem Qbp (g:Int→Int):∀ (j:Nat) (l:List Int),(insJ g j l).length=l.length
 | 0,_=>rfl
 | j+1,l=>by
  unfold insJ
  split
  ·rw[Qbp g j];simp[swpL]
  ·rfl
theorem I9 (g:Int→Int) (l:List Int):∀ i,(isrt g l i).length=l.length
 | 0=>rfl
 | i+1=>by unfold isrt;rw[Qbp,I9 g l i]
theorem swp_ok {Q:Int→Prop} {l:List Int} (h:∀ i,i<l.length→Q (gI l i)) {j:Nat} (hj:j+1<l.length):∀ i,i<(swpL l (j+1)).length→Q (gI (swpL l (j+1)) i):=fun i hi=>by
 have hl:(swpL l (j+1)).length=l.length:=by simp[swpL]
 unfold swpL
 rw[JO (by simp;omega)]
 split
 ·exact h _ hj
 ·rw[JO hj]
  split
  ·exact h _ (by omega)
  ·exact h i (by omega)
theorem Qdj {Q:Int→Prop} (g:Int→Int):∀ (j:Nat) (l:List Int),j<l.length∨j=0→(∀ i,i<l.length→Q (gI l i))→∀ i,i<(insJ g j l).length→Q (gI (insJ g j l) i)
 | 0,_,_,h=>h
 | j+1,l,hj,h=>by
  have hj:j+1<l.length:=by omega
  unfold insJ
  split
  ·exact Qdj g j _ (by simp[swpL];omega) (swp_ok h hj)
  ·exact h
theorem Qao {Q:Int→Prop} (g:Int→Int) {l:List Int} (h:∀ i,i<l.length→Q (gI l i)):∀ i,i≤l.length→∀ k,k<(isrt g l i).length→Q (gI (isrt g l i) k)
 | 0,_=>h
 | i+1,hi=>by
  unfold isrt
  exact Qdj g i _ (by rw[I9];omega) (Qao g h i (by omega))
theorem QcF (x y:Int):decide (cmpN x y<0)=decide (x<y):=by
 unfold cmpN
 by_cases h:x<y
 ·simp[h]
 ·rw[if_neg h];split <;> simp[h]
theorem le159 {g:Int→Int} {Q:Int→Prop} {P:Nat} {fv:AV} {σ:List AObj} {l:List Int} (hl:l.length≤12) (hr:rowOf σ P=some (l.map AV.i)) (hQ:∀ i,i<l.length→Q (gI l i))
  (hf:∀ (a b:Int) (m:List Int),Q a→Q b→X0 Tryz.prog fv [.i a,.i b] (σ.set P (.cells (m.map AV.i))) fun r τ=>r=.i (cmpN (g a) (g b))∧τ=σ.set P (.cells (m.map AV.i))) :
  AC Tryz.prog 159 [.sl P 0 l.length 1,.i 0,.i l.length,fv] σ fun r τ=>r=.tup []∧τ=σ.set P (.cells ((isrt g l l.length).map AV.i)):=by
 have hPl:=(QH.1 (WO hr)).1
 have hset0:σ=σ.set P (.cells (l.map AV.i)):=by
  apply Z1
  intro j
  rw[ZO]
  by_cases hj:P=j
  ·subst hj;rw[if_pos rfl,if_pos hPl];exact WO hr
  ·rw[if_neg hj]
 refine ZF (fok159 true) (QC rfl) ?_
 simp only[ic159,evA,simprocAttr]
 have e1:isrt g l 1=l:=rfl
 refine ZW (l.length-1) (fun t s=>∃ v5 v6 v7,s=⟨[.sl P 0 l.length 1,.i 0,.i l.length,fv,.i (t+1:Nat),v5,v6,v7],σ.set P (.cells ((isrt g l (t+1)).map AV.i))⟩) ?_ 0 (QF _) ⟨_,_,_,by rw[ZV,e1,← hset0];rfl⟩
 rintro t s ht ⟨v5,v6,v7,rfl⟩
 have hiff:(((t+1:Nat):Int)<l.length)↔t+1<l.length:=QJ
 by_cases h:t+1<l.length
 ·have hd:decide (((t+1:Nat):Int)<l.length)=true:=decide_eq_true (hiff.2 h)
  have hok:=Qao (Q:=Q) g hQ (t+1) (by omega)
  have hln:=I9 g l (t+1)
  have hst:isrt g l (t+1+1)=insJ g (t+1) (isrt g l (t+1)):=rfl
  rw[hst]
  generalize isrt g l (t+1)=W at *
  simp only[ic159l1,hd,evA,simprocAttr]
  refine ZW (t+1) (fun m s=>∃ (U:List Int) (v6 v7:AV),m≤t+1∧U.length=l.length∧(∀ i,i<U.length→Q (gI U i))∧insJ g (t+1-m) U=insJ g (t+1) W∧s=⟨[.sl P 0 l.length 1,.i 0,.i l.length,fv,.i (t+1:Nat),.i (t+1-m:Nat),v6,v7],σ.set P (.cells (U.map AV.i))⟩) ?_ 0 (QF _) ⟨W,_,_,QF _,hln,hok,rfl,rfl⟩
  rintro m s hm ⟨U,v6,v7,hm2,hU,hUQ,hins,rfl⟩
  have hrU:rowOf (σ.set P (.cells (U.map AV.i))) P=some (U.map AV.i):=W0 hr
  obtain ⟨j,hj⟩:∃ j,j=t+1-m:=⟨_,rfl⟩
  rw[← hj] at hins ⊢
  refine (?_:IS _ _ _ _ _ _ _)
  simp only[ic159l0]
  by_cases hj0:j=0
  ·have hgt:decide ((j:Int)>0)=false:=decide_eq_false (by omega)
   have hw3:IntKind.i64.wrap (((t+1:Nat):Int)+1)=((t+1+1:Nat):Int):=by rw[ZC (by omega)];omega
   simp only[evA,simprocAttr]
   refine DW_s [14] [] hmix (by kernel_rfl) rfl ?_
   simp only[hgt,hw3,evA,simprocAttr]
   rw[hj0] at hins
   have hUe:U=insJ g (t+1) W:=hins
   exact ZL (by omega) ⟨_,_,_,by rw[← hUe]⟩
  ·obtain ⟨k,hk⟩:∃ k,j=k+1:=⟨j-1,by omega⟩
   have hgt:decide ((j:Int)>0)=true:=decide_eq_true (by omega)
   have hjl:j<l.length:=by omega
   have hkl:k<l.length:=by omega
   have hw1:IntKind.i64.wrap ((j:Int)-1)=(k:Int):=by rw[ZC (by omega)];omega
   have la:=V1 (zs:=U) (k:=j) (by omega)
   have lb:=V1 (zs:=U) (k:=k) (by omega)
   simp only[evA,simprocAttr]
   refine DW_s [14] [] hmix (by kernel_rfl) rfl ?_
   simp only[hgt,hw1,W9 hjl,W9 hkl,ZV,hrU,la,lb,evA,simprocAttr]
   refine YE (v:=.i (cmpN (g (gI U j)) (g (gI U k)))) (hf (gI U j) (gI U k) U (hUQ j (by omega)) (hUQ k (by omega))) rfl ?_
   have hlt:ltG g U j=decide (g (gI U j)<g (gI U k)):=by unfold ltG;rw[show j-1=k by omega]
   cases hb:ltG g U j with
   | true =>
    have hb2:decide (cmpN (g (gI U j)) (g (gI U k))<0)=true:=by rw[QcF,← hlt,hb]
    have ej:j+1≤U.length:=by omega
    have ek:k+1≤U.length:=by omega
    have hsw:(U.set j (U[k]?.getD 0)).set k (U[j]?.getD 0)=swpL U j:=by unfold swpL;rw[show j-1=k by omega]
    simp only[hb2,evA,simprocAttr]
    refine DW_s [] [] hmix (by kernel_rfl) rfl ?_
    have hr2:∀ V:List Int,rowOf (σ.set P (.cells (V.map AV.i))) P=some (V.map AV.i):=fun V=>W0 hr
    simp only[hw1,W9 hjl,W9 hkl,ZV,hr2,la,lb,ZK,WE,ej,ek,GC,List.set_set,hsw,evA,simprocAttr]
    refine ZL (by omega) ⟨swpL U j,v6,.b true,by omega,by simp[swpL,hU],?_,?_,?_⟩
    ·rw[hk];exact swp_ok hUQ (by omega)
    ·rw[← hins,hk,show t-m=k by omega]
     rw[hk] at hb
     rw[insJ,if_pos hb]
    ·rw[show t-m=k by omega]
   | false =>
    have hb2:decide (cmpN (g (gI U j)) (g (gI U k))<0)=false:=by rw[QcF,← hlt,hb]
    have hw3:IntKind.i64.wrap (((t+1:Nat):Int)+1)=((t+1+1:Nat):Int):=by rw[ZC (by omega)];omega
    have hUe:U=insJ g (t+1) W:=by
     rw[← hins,hk,insJ,if_neg (by rw[← hk,hb];decide)]
    simp only[hb2,hw3,evA,simprocAttr]
    exact ZL (by omega) ⟨_,_,_,by rw[← hUe]⟩
 ·have hd:decide (((t+1:Nat):Int)<l.length)=false:=decide_eq_false fun h'=>h (hiff.1 h')
  have hfin:isrt g l (t+1)=isrt g l l.length:=by
   rcases XF l.length with h0 | h0
   ·have:l=[]:=ZT h0
    subst this
    have ht0:t=0:=by simpa using ht
    subst ht0
    rfl
   ·rw[show t+1=l.length by omega]
  simp only[ic159l1,hd,evA,simprocAttr]
  rw[hfin]
def bgF (d:Dy) (z:Int):Int:=(d.ls[z.toNat]!).b
def isLi (d:Dy) (z:Int):Prop:=∃ k:Nat,k<d.ls.length∧z=(k:Int)
theorem le102 (p:Pln) {Q:Nat} {σ:List AObj} (hQ:rowOf σ Q=some (plC9 p)) {a b:Int} (ha:isLi p.day a) (hb:isLi p.day b):AC Tryz.prog 102 [.i a,.i b,.ptr Q 0] σ fun r τ=>r=.i (cmpN (bgF p.day a) (bgF p.day b))∧τ=σ:=by
 obtain ⟨i,hi,rfl⟩:=ha
 obtain ⟨j,hj,rfl⟩:=hb
 unfold bgF
 rw[Int.toNat_natCast,Int.toNat_natCast]
 refine ZF (fok102 true) (QC rfl) ?_
 simp only[ic102,evA,simprocAttr]
 refine DW_s [16] [] hmix (by kernel_rfl) rfl ?_
 simp only[hQ,F5 hi,F5 hj,les_3 hi,les_3 hj,evA,simprocAttr]
 refine YE ((c98 _ _).call frz ⟨rfl,rfl⟩) rfl ?_
 simp only[evA,simprocAttr]
theorem Qb5 {σ:List AObj} {P Q:Nat} {cs:List AV} (h:rowOf σ Q=some cs) (hne:P≠Q) (x:AObj):rowOf (σ.set P x) Q=some cs:=by rw[QX hne];exact h
theorem le137 (p:Pln) {P Q:Nat} {σ:List AObj} {l:List Int} (hl:l.length≤12) (hr:rowOf σ P=some (l.map AV.i)) (hQ:rowOf σ Q=some (plC9 p)) (hne:P≠Q) (hli:∀ i,i<l.length→isLi p.day (gI l i)) :
  AC Tryz.prog 137 [.sl P 0 l.length 1,.i l.length,.fn (.func 102) [.ptr Q 0]] σ fun r τ=>r=.tup []∧τ=σ.set P (.cells ((isrt (bgF p.day) l l.length).map AV.i)):=by
 refine ZF (fok137 true) (QC rfl) ?_
 have h1:decide (20≤(l.length:Int))=false:=decide_eq_false (by omega)
 have h2:decide (20<(l.length:Int))=false:=decide_eq_false (by omega)
 simp only[ic137,evA,simprocAttr]
 refine J1 ?_
 simp only[ic137l2,h1,evA,simprocAttr]
 refine (le159 (g:=bgF p.day) (Q:=isLi p.day) (fv:=.fn (.func 102) [.ptr Q 0]) hl hr hli fun a b m ha hb=>le102 p (Qb5 hQ hne _) ha hb).run ?_
 simp only[evA,simprocAttr]
 refine J1 ?_
 simp only[ic137l1,h2,evA,simprocAttr]
theorem le101 (p:Pln) {P Q:Nat} {σ:List AObj} {l:List Int} (hl:l.length≤12) (hr:rowOf σ P=some (l.map AV.i)) (hQ:rowOf σ Q=some (plC9 p)) (hne:P≠Q) (hli:∀ i,i<l.length→isLi p.day (gI l i)) :
  AC Tryz.prog 101 [.sl P 0 l.length 1,.fn (.func 102) [.ptr Q 0]] σ fun r τ=>r=.tup []∧τ=σ.set P (.cells ((isrt (bgF p.day) l l.length).map AV.i)):=by
 refine ZF (fok101 true) (QC rfl) ?_
 simp only[ic101,evA,simprocAttr]
 refine (le137 p hl hr hQ hne hli).run ?_
 simp only[evA,simprocAttr]
theorem le159n (fv:AV) (σ:List AObj):AC Tryz.prog 159 [.cv .nils,.i 0,.i 0,fv] σ fun r τ=>r=.tup []∧τ=σ:=by
 refine ZF (fok159 true) (QC rfl) ?_
 simp only[ic159,evA,simprocAttr]
 refine J1 ?_
 simp only[ic159l1,evA,simprocAttr]
theorem le101n (fv:AV) (σ:List AObj):AC Tryz.prog 101 [.cv .nils,fv] σ fun r τ=>r=.tup []∧τ=σ:=by
 refine ZF (fok101 true) (QC rfl) ?_
 simp only[ic101,evA,simprocAttr]
 have h137:AC Tryz.prog 137 [.cv .nils,.i 0,fv] σ fun r τ=>r=.tup []∧τ=σ:=by
  refine ZF (fok137 true) (QC rfl) ?_
  simp only[ic137,evA,simprocAttr]
  refine J1 ?_
  simp only[ic137l2,evA,simprocAttr]
  refine (le159n fv _).run ?_
  simp only[evA,simprocAttr]
  refine J1 ?_
  simp only[ic137l1,evA,simprocAttr]
 refine h137.run ?_
 simp only[evA,simprocAttr]
def Qdf (p:Pln) (r:Nat) (l:Les):Bool:=match r with | 0=>kindB p l | 1=>Qca p l | _=>Qcr p l
def rE (p:Pln) (r k:Nat):Int:=if Qdf p r p.day.ls[k]! then 0 else 1
def ruE (p:Pln) (r:Nat):Int × Int:=fndE (rE p r) 0 p.day.ls.length
def ru1 (p:Pln):Int × Int:=fndE (fun r=>(ruE p r).2) 0 3
def whoF (w:Nat) (l:Les):Int:=match w with | 0=>l.le | 1=>l.te | _=>l.ca
def thL (d:Dy) (w n:Nat):List Int:=isrt (bgF d) (pkL (whoF w) d.ls n d.ls.length) (pkL (whoF w) d.ls n d.ls.length).length
def chE (d:Dy) (T:List Int) (j:Nat):Int:=if canB d (gI T j).toNat (gI T (j+1)).toNat then 0 else 1
def chW (d:Dy) (w n:Nat):Int × Int:=fndE (chE d (thL d w n)) 0 ((thL d w n).length-1)
def whN (d:Dy) (w:Nat):Int × Int:=fndE (fun n=>(chW d w n).2) 0 8
def wh3 (d:Dy):Int × Int:=fndE (fun w=>(whN d w).2) 0 3
def brL (p:Pln):Int × Int × Int :=
 if (ru1 p).2≠0 then (1+(ru1 p).1,(ruE p (ru1 p).1.toNat).1,0)
 else if (wh3 p.day).2≠0 then (4+(wh3 p.day).1,gI (thL p.day (wh3 p.day).1.toNat (whN p.day (wh3 p.day).1.toNat).1.toNat) (chW p.day (wh3 p.day).1.toNat (whN p.day (wh3 p.day).1.toNat).1.toNat).1.toNat,gI (thL p.day (wh3 p.day).1.toNat (whN p.day (wh3 p.day).1.toNat).1.toNat) ((chW p.day (wh3 p.day).1.toNat (whN p.day (wh3 p.day).1.toNat).1.toNat).1.toNat+1))
 else (0,0,0)
abbrev brV (b:Int × Int × Int):AV:=.agg [.i b.1,.i b.2.1,.i b.2.2]
def brA (p:Pln):AV:=if plnE p≠0 then .tup [brV (0,0,0),.i (plnE p)] else .tup [brV (brL p),.i 0]
theorem brL_rule {p:Pln} {r k:Nat} (hr:r<3) (hk:k<p.day.ls.length) (h1:∀ r',r'<r→(ruE p r').2=0) (h2:∀ k',k'<k→rE p r k'=0) (h3:rE p r k≠0):brL p=(1+(r:Int),(k:Int),0):=by
 have e1:ruE p r=((k:Int),rE p r k):=VO _ 0 k (QF _) (by omega) (fun j _ hj=>h2 j hj) h3
 have e2:ru1 p=((r:Int),(ruE p r).2):=VO (g:=fun r=>(ruE p r).2) 3 0 r (QF _) (by omega) (fun j _ hj=>h1 j hj) (by show (ruE p r).2≠0;rw[e1];exact h3)
 unfold brL
 rw[e2]
 simp only[Int.toNat_natCast]
 rw[e1]
 simp only
 rw[if_pos h3]
theorem brL_who {p:Pln} (h0:∀ r,r<3→(ruE p r).2=0) {w n j:Nat} (hw:w<3) (hn:n<8) (hj:j<(thL p.day w n).length-1) (h1:∀ w',w'<w→(whN p.day w').2=0) (h2:∀ n',n'<n→(chW p.day w n').2=0) (h3:∀ j',j'<j→chE p.day (thL p.day w n) j'=0) (h4:chE p.day (thL p.day w n) j≠0) :
  brL p=(4+(w:Int),gI (thL p.day w n) j,gI (thL p.day w n) (j+1)):=by
 have e0:ru1 p=(0,0):=J7 3 0 fun r _ hr=>h0 r (by omega)
 have e1:chW p.day w n=((j:Int),chE p.day (thL p.day w n) j):=VO _ 0 j (QF _) (by omega) (fun j' _ hj=>h3 j' hj) h4
 have e2:whN p.day w=((n:Int),(chW p.day w n).2):=VO (g:=fun n=>(chW p.day w n).2) 8 0 n (QF _) (by omega) (fun n' _ hn=>h2 n' hn) (by show (chW p.day w n).2≠0;rw[e1];exact h4)
 have e3:wh3 p.day=((w:Int),(whN p.day w).2):=VO (g:=fun w=>(whN p.day w).2) 3 0 w (QF _) (by omega) (fun w' _ hw=>h1 w' hw) (by show (whN p.day w).2≠0;rw[e2,e1];exact h4)
 unfold brL
 rw[e0,e3]
 simp only[Int.toNat_natCast]
 rw[e2]
 simp only[Int.toNat_natCast]
 rw[e1]
 simp only[Int.toNat_natCast]
 rw[if_neg (by decide),if_pos h4]
theorem brL_none {p:Pln} (h0:∀ r,r<3→(ruE p r).2=0) (h1:∀ w,w<3→(whN p.day w).2=0):brL p=(0,0,0):=by
 have e0:ru1 p=(0,0):=J7 3 0 fun r _ hr=>h0 r (by omega)
 have e3:wh3 p.day=(0,0):=J7 3 0 fun w _ hw=>h1 w (by omega)
 unfold brL
 rw[e0,e3,if_neg (by decide),if_neg (by decide)]
theorem pk_li {d:Dy} {f:Les→Int} {z:Int}:∀ i,i<(pkL f d.ls z d.ls.length).length→isLi d (gI (pkL f d.ls z d.ls.length) i):=fun i hi=>by
 obtain ⟨k,h1,h2,_⟩:=bits_mem.1 (Qcs hi)
 exact ⟨k,h2,h1⟩
theorem AG {σ τ:List AObj} (h:σ.length≤τ.length) (hl:∀ l,l<σ.length→τ[l]? = σ[l]?):∃ J,τ=σ++J:=by
 refine ⟨τ.drop σ.length,?_⟩
 apply Z1
 intro j
 by_cases hj:j<σ.length
 ·rw[QE hj,hl j hj]
 ·rw[QS (by omega),X4]
  congr 1;omega
theorem le35 (p:Pln) (hp:PSz p):PC Tryz.prog 35 [plnV p] (brA p):=by
 refine ⟨ZF (fok35 true) (QC rfl) ?_,by unfold brA;split <;> rfl⟩
 simp only[ic35,WI,cellsOf,evA,simprocAttr]
 refine (le93 p hp).call ?_
 unfold brA
 by_cases he:plnE p=0
 rotate_left
 ·have hb:(plnE p != 0)=true:=by simpa using he
  have hl2:lkP p=plV9 p∨lkP p=.agg (List.replicate 9 (.cv .nils)):=by
   unfold lkP;split
   ·exact .inr rfl
   ·exact .inl rfl
  rw[if_pos he]
  rcases hl2 with h | h <;> rw[h]
  ·simp only[hb,evA,simprocAttr]
   exact frz
  ·simp only[hb,List.replicate,evA,simprocAttr]
   exact frz
 have hok:=Qdc he
 have hlk:lkP p=plV9 p:=by unfold lkP;rw[if_neg (fun h=>h.elim (fun h=>h hok.sys) (fun h=>h hok.dy0))]
 have hb:(plnE p != 0)=false:=by simpa using he
 rw[if_neg (fun h=>h he),hlk]
 simp only[hb,he,evA,simprocAttr]
 have h12:=hok.day.l12
 refine ZW 3 (fun r s=>(∀ r',r'<r→(ruE p r').2=0)∧∃ v5 v6 v7 v8 v21 v22 v23 v24 v25 v26,s=⟨[plnV p,.ptr 0 0,.ptr 1 0,.i 0,.ptr 2 0,v5,v6,v7,v8,.undef,.undef,.undef,.undef,.undef,.undef,.undef,.undef,.b false,.sl 3 0 3 1,.i 3,.i r,v21,v22,v23,v24,v25,v26,.undef,.undef,.undef,.undef,.undef,.undef,.undef,.undef],[.cells (plnC p),.cells [.i 0,.i 0,.i 0],.cells (plC9 p),.cells [.bm 94 [plV9 p],.bm 95 [plV9 p],.bm 96 [plV9 p]]]⟩) ?_ 0 (QF _) ⟨by omega,_,_,_,_,_,_,_,_,_,_,rfl⟩
 rintro r s hr ⟨hall,v5,v6,v7,v8,v21,v22,v23,v24,v25,v26,rfl⟩
 have hob:∀ o∈[AObj.cells (plnC p),.cells [.i 0,.i 0,.i 0],.cells (plC9 p),.cells [.bm 94 [plV9 p],.bm 95 [plV9 p],.bm 96 [plV9 p]]],Z3 4 o=true:=by
  intro o ho
  simp only[ZD,WK,or_false] at ho
  rcases ho with rfl | rfl | rfl | rfl <;> rfl
 by_cases hr3:r<3
 ·have hd:decide ((r:Int)<3)=true:=decide_eq_true (by omega)
  obtain ⟨f,hget,hcall⟩:∃ f,([AV.bm 94 [plV9 p],.bm 95 [plV9 p],.bm 96 [plV9 p]])[r]? = some (.bm f [plV9 p])∧∀ l,LiOk p l→PC Tryz.prog f [plV9 p,lesA l] (.b (Qdf p r l)):=by
   match r,hr3 with
   | 0,_=>exact ⟨94,rfl,fun l hl=>le94 p l hl⟩
   | 1,_=>exact ⟨95,rfl,fun l hl=>le95 p hp l hl⟩
   | 2,_=>exact ⟨96,rfl,fun l hl=>le96 p l hl⟩
  simp only[ic35l4,hd,W9 hr3,ZV,hget,evA,simprocAttr]
  refine ZW p.day.ls.length (fun i s=>(∀ j,j<i→rE p r j=0)∧∃ v7 v8 v25 v26,s=⟨[plnV p,.ptr 0 0,.ptr 1 0,.i 0,.ptr 2 0,.i r,.bm f [plV9 p],v7,v8,.undef,.undef,.undef,.undef,.undef,.undef,.undef,.undef,.b false,.sl 3 0 3 1,.i 3,.i r,.b true,.cv (lesR p.day.ls),.i p.day.ls.length,.i i,v25,v26,.undef,.undef,.undef,.undef,.undef,.undef,.undef,.undef],[.cells (plnC p),.cells [.i 0,.i 0,.i 0],.cells (plC9 p),.cells [.bm 94 [plV9 p],.bm 95 [plV9 p],.bm 96 [plV9 p]]]⟩) ?_ 0 (QF _) ⟨by omega,_,_,_,_,rfl⟩
  rintro k s hk ⟨hk0,v7,v8,v25,v26,rfl⟩
  by_cases h:k<p.day.ls.length
  ·have hld:=MQ h
   have hc:=hcall _ (hok.li h)
   have hE:rE p r k=if Qdf p r p.day.ls[k]! then 0 else 1:=rfl
   have hrule:=fun h3=>brL_rule hr3 h hall hk0 h3
   generalize p.day.ls[k]! = l at *
   obtain ⟨l1,l2,l3,l4,l5,l6,l7⟩:=l
   simp only at hld hc hE
   simp only[ic35l3,QJ,h,F5 h,hld,evA,simprocAttr]
   refine hc.call frz ?_
   cases hb:Qdf p r ⟨l1,l2,l3,l4,l5,l6,l7⟩ with
   | true =>
    rw[hb,if_pos rfl] at hE
    simp only[hb,Q6 (show k+1<2 ^ 63 by omega),evA,simprocAttr]
    refine W1 [.cells (plnC p),.cells [.i 0,.i 0,.i 0],.cells (plC9 p),.cells [.bm 94 [plV9 p],.bm 95 [plV9 p],.bm 96 [plV9 p]]] _ rfl (by first | trivial | omega) (QF _) hob ⟨fun j hj=>?_,_,_,_,_,rfl⟩
    by_cases hjk:j=k
    ·rw[hjk];exact hE
    ·exact hk0 j (by omega)
   | false =>
    rw[hb,if_neg (by decide)] at hE
    rw[hrule (by rw[hE];decide)]
    have hw:IntKind.i64.wrap (1+(r:Int))=1+(r:Int):=ZC (by omega)
    simp only[hb,hw,evA,simprocAttr]
    exact frz
  ·have hke:k=p.day.ls.length:=by omega
   subst hke
   simp only[ic35l3,QJ,h,Q6 (show r+1<2 ^ 63 by omega),evA,simprocAttr]
   refine ZL (by first | trivial | omega) ⟨fun r' hr'=>?_,_,_,_,_,_,_,_,_,_,_,rfl⟩
   by_cases hrr:r'=r
   ·subst hrr
    unfold ruE
    rw[J7 _ 0 fun j _ hj=>hk0 j (by omega)]
   ·exact hall r' (by omega)
 ·have hre:r=3:=by omega
  subst hre
  simp only[ic35l4,evA,simprocAttr]
  have hob5:∀ o∈[AObj.cells (plnC p),.cells [.i 0,.i 0,.i 0],.cells (plC9 p),.cells [.bm 94 [plV9 p],.bm 95 [plV9 p],.bm 96 [plV9 p]],.cells [.fn (.func 97) [],.fn (.func 98) [],.fn (.func 99) []]],Z3 5 o=true:=by
   intro o ho
   simp only[ZD,WK,or_false] at ho
   rcases ho with rfl | rfl | rfl | rfl | rfl <;> rfl
  refine ZW 3 (fun w s=>(∀ w',w'<w→(whN p.day w').2=0)∧∃ v5 v6 v7 v8 v10 v11 v12 v13 v14 v15 v16 v22 v23 v24 v25 v26 v30 v31 v32 v33 v34,s=⟨[plnV p,.ptr 0 0,.ptr 1 0,.i 0,.ptr 2 0,v5,v6,v7,v8,.sl 4 0 3 1,v10,v11,v12,v13,v14,v15,v16,.b false,.sl 3 0 3 1,.i 3,.i 3,.b false,v22,v23,v24,v25,v26,.sl 4 0 3 1,.i 3,.i w,v30,v31,v32,v33,v34],[.cells (plnC p),.cells [.i 0,.i 0,.i 0],.cells (plC9 p),.cells [.bm 94 [plV9 p],.bm 95 [plV9 p],.bm 96 [plV9 p]],.cells [.fn (.func 97) [],.fn (.func 98) [],.fn (.func 99) []]]⟩) ?_ 0 (QF _) ⟨by omega,_,_,_,_,_,_,_,_,_,_,_,_,_,_,_,_,_,_,_,_,_,rfl⟩
  clear hr3 hr hob v5 v6 v7 v8 v21 v22 v23 v24 v25 v26
  rintro w s hw ⟨hw0,v5,v6,v7,v8,v10,v11,v12,v13,v14,v15,v16,v22,v23,v24,v25,v26,v30,v31,v32,v33,v34,rfl⟩
  by_cases hw3:w<3
  ·have hd:decide ((w:Int)<3)=true:=decide_eq_true (by omega)
   obtain ⟨f,hget,hcall⟩:∃ f,([AV.fn (.func 97) [],.fn (.func 98) [],.fn (.func 99) []])[w]? = some (.fn (.func f) [])∧∀ l,PC Tryz.prog f [lesA l] (.i (whoF w l)):=by
    match w,hw3 with
    | 0,_=>exact ⟨97,rfl,le97⟩
    | 1,_=>exact ⟨98,rfl,le98⟩
    | 2,_=>exact ⟨99,rfl,le99⟩
   simp only[ic35l2,hd,W9 hw3,ZV,hget,evA,simprocAttr]
   refine ZW 8 (fun n s=>(∀ n',n'<n→(chW p.day w n').2=0)∧∃ v5 v6 v7 v8 v12 v13 v14 v15 v16 v22 v23 v24 v25 v26 v32 v33 v34,s=⟨[plnV p,.ptr 0 0,.ptr 1 0,.i 0,.ptr 2 0,v5,v6,v7,v8,.sl 4 0 3 1,.i w,.fn (.func f) [],v12,v13,v14,v15,v16,.b false,.sl 3 0 3 1,.i 3,.i 3,.b false,v22,v23,v24,v25,v26,.sl 4 0 3 1,.i 3,.i w,.b true,.i n,v32,v33,v34],[.cells (plnC p),.cells [.i 0,.i 0,.i 0],.cells (plC9 p),.cells [.bm 94 [plV9 p],.bm 95 [plV9 p],.bm 96 [plV9 p]],.cells [.fn (.func 97) [],.fn (.func 98) [],.fn (.func 99) []]]⟩) ?_ 0 (QF _) ⟨by omega,_,_,_,_,_,_,_,_,_,_,_,_,_,_,_,_,_,rfl⟩
   clear v5 v6 v7 v8 v10 v11 v12 v13 v14 v15 v16 v22 v23 v24 v25 v26 v30 v31 v32 v33 v34
   rintro n s hn ⟨hn0,v5,v6,v7,v8,v12,v13,v14,v15,v16,v22,v23,v24,v25,v26,v32,v33,v34,rfl⟩
   by_cases hn8:n<8
   ·have hd2:decide ((n:Int)<8)=true:=decide_eq_true (by omega)
    have hTl:(thL p.day w n).length=(pkL (whoF w) p.day.ls n p.day.ls.length).length:=I9 _ _ _
    have hpkl:(pkL (whoF w) p.day.ls n p.day.ls.length).length≤12:=YR M7 h12
    have hTli:∀ i,i<(thL p.day w n).length→isLi p.day (gI (thL p.day w n) i):=Qao (bgF p.day) (pk_li) _ (QG _)
    simp only[ic35l1,hd2,evA,simprocAttr]
    refine (le100 p.day.ls h12 f (whoF w) hcall n _).mono ?_
    rintro r τ ⟨hA,hle,hlow⟩
    obtain ⟨J,rfl⟩:=AG hle hlow
    have hstep:(chW p.day w n).2=0→∀ n',n'<n+1→(chW p.day w n').2=0:=fun h n' hn'=>by
     by_cases e:n'=n
     ·rw[e];exact h
     ·exact hn0 n' (by omega)
    rcases hA with ⟨rfl,hz,_⟩ | ⟨l,hl5,rfl,_,hrow⟩
    ·simp only[evA,simprocAttr]
     refine (le101n _ _).run ?_
     simp only[evA,simprocAttr]
     refine J1 ?_
     simp only[ic35l0,Q6 (show n+1<2 ^ 63 by omega),evA,simprocAttr]
     refine W1 [.cells (plnC p),.cells [.i 0,.i 0,.i 0],.cells (plC9 p),.cells [.bm 94 [plV9 p],.bm 95 [plV9 p],.bm 96 [plV9 p]],.cells [.fn (.func 97) [],.fn (.func 98) [],.fn (.func 99) []]] J rfl (by first | trivial | omega) (QF _) hob5 ⟨hstep ?_,_,_,_,_,_,_,_,_,_,_,_,_,_,_,_,_,_,rfl⟩
     unfold chW
     rw[hTl,hz]
     rfl
    ·rw[XW] at hrow
     simp only[evA,simprocAttr]
     refine (le101 p hpkl hrow (Q:=2) rfl (by simp at hl5;omega) pk_li).mono ?_
     rintro r τ ⟨rfl,hτ⟩
     obtain ⟨J',rfl⟩:∃ J',τ=[.cells (plnC p),.cells [.i 0,.i 0,.i 0],.cells (plC9 p),.cells [.bm 94 [plV9 p],.bm 95 [plV9 p],.bm 96 [plV9 p]],.cells [.fn (.func 97) [],.fn (.func 98) [],.fn (.func 99) []]]++J':=AG (by rw[hτ];simp) (fun k hk=>by rw[hτ,QU (by omega),QE hk])
     have hrow2:rowOf ([.cells (plnC p),.cells [.i 0,.i 0,.i 0],.cells (plC9 p),.cells [.bm 94 [plV9 p],.bm 95 [plV9 p],.bm 96 [plV9 p]],.cells [.fn (.func 97) [],.fn (.func 98) [],.fn (.func 99) []]]++J') l=some ((thL p.day w n).map AV.i):=by rw[hτ];exact W0 hrow
     rw[← hTl] at *
     clear hτ hrow
     simp only[List.cons_append,List.nil_append] at hrow2
     have hchW:chW p.day w n=fndE (chE p.day (thL p.day w n)) 0 ((thL p.day w n).length-1):=rfl
     have hwho:=fun (k:Nat) (hk:k<(thL p.day w n).length-1) h3 h4=>brL_who hall hw3 hn8 hk hw0 hn0 h3 h4
     generalize hT:thL p.day w n=T at *
     simp only[evA,simprocAttr]
     refine ZW (T.length-1) (fun k s=>(∀ j,j<k→chE p.day T j=0)∧∃ v15 v16 v33 v34,s=⟨[plnV p,.ptr 0 0,.ptr 1 0,.i 0,.ptr 2 0,v5,v6,v7,v8,.sl 4 0 3 1,.i w,.fn (.func f) [],.i n,.sl l 0 T.length 1,.i (k+1:Nat),v15,v16,.b false,.sl 3 0 3 1,.i 3,.i 3,.b false,v22,v23,v24,v25,v26,.sl 4 0 3 1,.i 3,.i w,.b true,.i n,.b true,v33,v34],[.cells (plnC p),.cells [.i 0,.i 0,.i 0],.cells (plC9 p),.cells [.bm 94 [plV9 p],.bm 95 [plV9 p],.bm 96 [plV9 p]],.cells [.fn (.func 97) [],.fn (.func 98) [],.fn (.func 99) []]]++J'⟩) ?_ 0 (QF _) ⟨by omega,_,_,_,_,rfl⟩
     clear v15 v16 v33 v34
     rintro k s hk ⟨hk0,v15,v16,v33,v34,rfl⟩
     have hiff:(((k+1:Nat):Int)<T.length)↔k+1<T.length:=QJ
     by_cases hkt:k+1<T.length
     ·have hd3:decide (((k+1:Nat):Int)<T.length)=true:=decide_eq_true (hiff.2 hkt)
      have hw1:IntKind.i64.wrap (((k+1:Nat):Int)-1)=(k:Int):=by rw[ZC (by omega)];omega
      have hw2:IntKind.i64.wrap (((k+1:Nat):Int)+1)=((k+1+1:Nat):Int):=by rw[ZC (by omega)];omega
      have la:=V1 (zs:=T) (k:=k) (by omega)
      have lb:=V1 (zs:=T) (k:=k+1) hkt
      obtain ⟨x,hx,hxe⟩:=hTli k (by omega)
      obtain ⟨y,hy,hye⟩:=hTli (k+1) hkt
      have hE:chE p.day T k=if canB p.day x y then 0 else 1:=by unfold chE;rw[hxe,hye];rfl
      have hrule:=hwho k (by omega) hk0
      rw[hxe,hye] at hrule
      rw[show T[k]?.getD 0=(x:Int) from hxe] at la
      rw[show T[k+1]?.getD 0=(y:Int) from hye] at lb
      have hkl:k<T.length:=by omega
      simp only[ic35l0,hd3,evA,simprocAttr]
      refine DW_s [] [] hmix (by kernel_rfl) rfl ?_
      simp only[hw1,W9 hkl,W9 hkt,ZV,hrow2,la,lb,evA,simprocAttr]
      refine (le104 p.day hok.day hx hy).call frz ?_
      cases hcb:canB p.day x y with
      | true =>
       rw[hcb,if_pos rfl] at hE
       simp only[hcb,hw2,evA,simprocAttr]
       refine ZL (by first | trivial | omega) ⟨fun j hj=>?_,_,_,_,_,rfl⟩
       by_cases hjk:j=k
       ·rw[hjk];exact hE
       ·exact hk0 j (by omega)
      | false =>
       rw[hcb,if_neg (by decide)] at hE
       rw[hrule (by rw[hE];decide)]
       have hw4:IntKind.i64.wrap (4+(w:Int))=4+(w:Int):=ZC (by omega)
       simp only[hcb,hw4,evA,simprocAttr]
       exact frz
     ·have hd3:decide (((k+1:Nat):Int)<T.length)=false:=decide_eq_false fun e=>hkt (hiff.1 e)
      simp only[ic35l0,hd3,Q6 (show n+1<2 ^ 63 by omega),evA,simprocAttr]
      refine W1 [.cells (plnC p),.cells [.i 0,.i 0,.i 0],.cells (plC9 p),.cells [.bm 94 [plV9 p],.bm 95 [plV9 p],.bm 96 [plV9 p]],.cells [.fn (.func 97) [],.fn (.func 98) [],.fn (.func 99) []]] J' rfl (by first | trivial | omega) (QF _) hob5 ⟨hstep ?_,_,_,_,_,_,_,_,_,_,_,_,_,_,_,_,_,_,rfl⟩
      rw[hchW,J7 _ 0 fun j _ hj=>hk0 j (by omega)]
   ·have hne:n=8:=by omega
    subst hne
    simp only[ic35l1,Q6 (show w+1<2 ^ 63 by omega),evA,simprocAttr]
    refine ZL (by first | trivial | omega) ⟨fun w' hw'=>?_,_,_,_,_,_,_,_,_,_,_,_,_,_,_,_,_,_,_,_,_,_,rfl⟩
    by_cases hww:w'=w
    ·subst hww
     unfold whN
     rw[J7 8 0 fun j _ hj=>hn0 j (by omega)]
    ·exact hw0 w' (by omega)
  ·have hwe:w=3:=by omega
   subst hwe
   rw[brL_none hall hw0]
   simp only[ic35l2,evA,simprocAttr]
   exact frz
def ia125:IC:=.region [jw 8 .mv [.v 10]]
def ib125:IC:=(.block 1 (.seq (.seq (.region [jL 2,jv 8,ja 1 0 1,jl 2,jt 3,jg 4 false .load1 [.v 3],jh 4 false 8,jg 4 false (.iaS 1) [.t 5,.t 6],ji 4 false 7,jg 4 false (.bin .geq .int) [.t 8,jn 0],jw 11 .pick [.t 4,jB true,.t 9]])
 (.cond 11 (.exit 1)
 .skip))
 (.seq (.region [jL 2,jv 8,ja 1 0 1,jq (.store 1) [.t 2,jB true]])
 (.seq (.dr [[],[],[0,1],[2],[3],[4],[5],[5],[5],[7,8,5],[9,5],[6,10,5,5],[5,11]] [jL 4,jv 8,ja 1 0 1,jl 2,jq (.bin .lss .int) [.t 3,jn 0],jt 4,jg 5 false .load1 [.v 5],jg 5 false .load1 [.v 4],jh 5 false 8,jg 5 false (.iaS 1) [.t 7,.t 8],ji 5 false 9,⟨none,(.some (5,false)),.call,[(.t 6),(.t 10)]⟩,jw 12 .pick [.t 5,jB true,.t 11]])
 (.cond 12 (.seq (.region [jL 4,jv 8,jL 6,ja 1 0 1,jq (.store 1) [.t 3,.t 2]])
 (.seq (.region [jq (.store 1) [.v 7,jB true]])
 .ret))
 .skip)))))
theorem ca125:QL Tryz.prog vs125 44 (nav [1,0,1,0,2] (Tryz.f125.body.getD .skip))=some ia125:=by kernel_rfl
theorem cb125:QL Tryz.prog vs125 44 (nav [1,0,1,0,3] (Tryz.f125.body.getD .skip))=some ib125:=by kernel_rfl
theorem le125 (d:Dy) (hd:DyOk d) (told:List Int) (htl:told.length=d.ls.length) {D SE TO BE MV SS BB TT:Nat}:∀ (f i:Nat) (σ:List AObj) (se:List Bool) (be:List Int),MvH d told σ D SE TO BE MV SS BB TT→i<d.ls.length→se.length=d.ls.length→be.length=d.ls.length→R4 d.ls.length be→cnt d.ls.length (fun k=>!gB se k)<f →
  AC Tryz.prog 125 [.i i,.ptr D 0,.ptr SE 0,.ptr TO 0,.ptr BE 0,.ptr MV 0] (stH SS BB σ se be) fun r τ=>r=.b (VE (canB d) told d.ls.length f i ⟨se,be⟩).1∧τ=stH SS BB σ (VE (canB d) told d.ls.length f i ⟨se,be⟩).2.seen (VE (canB d) told d.ls.length f i ⟨se,be⟩).2.bef
 | 0,_,_,_,_,_,_,_,_,_,h=>absurd h (W5 _)
 | f + 1,i,σ,se,be,hH,hi,hse,hbe,hok,hf=>by
  obtain ⟨n,hn⟩:∃ n,n=d.ls.length:=⟨_,rfl⟩
  have hkm:=LD (can:=canB d) (told:=told) (f+1) i ⟨se,be⟩ hi hse hbe hok
  have hls:=hH.ls
  have hlb:=hH.lb
  have hnn:=hH.n2
  have hin:=fun x hx=>hH.hi x hx
  have xD:=hH.n1 D (by simp)
  have xSE:=hH.n1 SE (by simp)
  have xTO:=hH.n1 TO (by simp)
  have xBE:=hH.n1 BE (by simp)
  have xMV:=hH.n1 MV (by simp)
  have xTT:=hH.n1 TT (by simp)
  have rD:=T9 hls hlb hH.dd xD.1 xD.2
  have rSE:=T9 hls hlb hH.se xSE.1 xSE.2
  have rTO:=T9 hls hlb hH.to xTO.1 xTO.2
  have rBE:=T9 hls hlb hH.be xBE.1 xBE.2
  have rMV:=T9 hls hlb hH.mv xMV.1 xMV.2
  have rTT:=T9 hls hlb hH.tt xTT.1 xTT.2
  have rSS:=stH_seen hls hlb hnn
  have rBB:=stH_bef hls hlb
  have sSS:=fun se be J o=>stH_setS (σ:=σ) hls hnn se o be J
  have sBB:=fun se be o J=>stH_setB (σ:=σ) (SS:=SS) hlb se be o J
  have hz:=fun se be J=>stH_z (SS:=SS) (BB:=BB) (σ:=σ) se be J
  have hs:=fun se be J k=>stH_s (SS:=SS) (BB:=BB) (σ:=σ) se be J k
  have hgs:=fun se be J k=>stH_gs (SS:=SS) (BB:=BB) (σ:=σ) se be J k
  have hzs:=fun se be J v k=>stH_zs (SS:=SS) (BB:=BB) (σ:=σ) se be J v k
  have hlen:=fun se be=>V8 (SS:=SS) (BB:=BB) (σ:=σ) se be
  refine AC.cut (σ2:=stH SS BB σ _ _) ?_ (by rw[V8,V8]) rfl fun l o h=>QdT _ _ _ _ h
  refine ZF (fok125 true) (QC rfl) ?_
  simp only[ic125,WI,cellsOf,rD,hlen,QW,QM,hz,hs,evA,simprocAttr]
  refine (le74 d i).call ?_
  simp only[evA,simprocAttr]
  refine RW_g ia125 ib125 (gf:=121) (cap:=[.cv (.rp [minR d.mi,lesR d.ls] 0),.cv (.rp [.int .i64 i] 0)]) rfl (QC rfl) (fun l h=>by cases h) ca125 cb125 ?_
  intro R hR
  simp only[hlen,QW,QM,evA,simprocAttr] at hR ⊢
  obtain ⟨FIN,hFIN⟩:∃ r,r=VE (canB d) told d.ls.length (f+1) i ⟨se,be⟩:=⟨_,rfl⟩
  rw[← hFIN] at hkm ⊢
  refine (Qdd d hd hi (σ.length+2) (fun k τ=>∃ se' be',τ=stH SS BB σ se' be'++[.cells [.i i],.cells [.b false],.loop R]∧UC (canB d) told (VE (canB d) told d.ls.length f) i (d.ls.length-k) k ⟨se',be'⟩=FIN∧se'.length=d.ls.length∧be'.length=d.ls.length∧R4 d.ls.length be'∧∀ j,gB se j=true→gB se' j=true)
   (fun τ=>∃ se' be',τ=stH SS BB σ se' be'++[.cells [.i i],.cells [.b true],.loop (retL R)]∧FIN=(true,⟨se',be'⟩)) _ (by simp[V8]) ⟨se,be,rfl,by rw[hFIN];rfl,hse,hbe,hok,fun _ h=>h⟩ ?_ ?_).mono ?_
  ·rintro k τ hk hc ⟨se',be',rfl,h1,h2,h3,h4,h5⟩
   refine ⟨se',be',rfl,?_,h2,h3,h4,h5⟩
   obtain ⟨m,hm⟩:∃ m,d.ls.length-k=m+1:=⟨d.ls.length-k-1,by omega⟩
   rw[hm] at h1
   unfold UC at h1
   rw[if_neg (fun h=>by rw[hc] at h;exact absurd h.1 (by decide))] at h1
   rw[show d.ls.length-(k+1)=m by omega]
   exact h1
  ·rintro k τ hk hc ⟨se',be',rfl,h1,h2,h3,h4,h5⟩ _
   obtain ⟨m,hm⟩:∃ m,d.ls.length-k=m+1:=⟨d.ls.length-k-1,by omega⟩
   have hm2:d.ls.length-(k+1)=m:=by omega
   rw[hm] at h1
   unfold UC at h1
   have hks:k<se'.length:=by omega
   have hkb:k<be'.length:=by omega
   have hkt:k<told.length:=by omega
   have hgs1:=NB (o:=se') hks
   have hgb1:=V1 hkb
   have hgt1:=V1 hkt
   refine YC_g hR (by rw[hgs];rfl) rfl (by decide) ?_
   have x12:vs125.idxOf? 12=some 10:=by decide
   simp only[ia125,JM,x12,QW,QM,WW,X9,VW,EZ,Qau,CH,get_nz,get_ns,evA,simprocAttr]
   refine Qan hR (by rw[hgs];rfl) ?_
   simp only[hzs,ib125,rSE,rSS,hgs1,W9 hk,evA,simprocAttr]
   have cont:UC (canB d) told (VE (canB d) told d.ls.length f) i m (k+1) ⟨se',be'⟩=FIN→∃ τ2 J,stH SS BB σ se' be'++[AObj.cells [.i i],AObj.cells [.b false],AObj.loop R]=τ2++J∧(stH SS BB σ se be).length+3≤τ2.length∧(J=[]∨∀ o∈τ2,Z3 τ2.length o=true)∧∃ se' be',τ2=stH SS BB σ se' be'++[AObj.cells [.i i],AObj.cells [.b false],AObj.loop R]∧UC (canB d) told (VE (canB d) told d.ls.length f) i (d.ls.length-(k+1)) (k+1) ⟨se',be'⟩=FIN∧se'.length=d.ls.length∧be'.length=d.ls.length∧R4 d.ls.length be'∧∀ j,gB se j=true→gB se' j=true:=fun h =>
    ⟨_,[],(ZU _).symm,by simp[V8],.inl rfl,se',be',rfl,by rw[hm2];exact h,h2,h3,h4,h5⟩
   cases hsk:se'[k]?.getD false with
   | true =>
    rw[if_neg (fun h=>by rw[show gB se' k=true from hsk] at h;exact absurd h.2.1 (by decide))] at h1
    simp only[evA,simprocAttr]
    refine RU hR (by rw[hgs];rfl) ?_
    rw[hzs]
    exact .inl ⟨rfl,cont h1⟩
   | false =>
   simp only[rTO,rTT,W9 hkt,hgt1,evA,simprocAttr]
   by_cases ht:gI told k<0
   ·have ht2:decide (told[k]?.getD 0≥0)=false:=decide_eq_false (by show ¬ gI told k≥0;omega)
    rw[if_pos ⟨hc,hsk,ht⟩] at h1
    have hsl:k+1≤se'.length:=hks
    have hst:(XT se').set k (.cv (.bool true))=XT (se'.set k true):=List.map_set.symm
    simp only[ht2,rSE,rSS,W9 hk,hsl,hst,sSS,evA,simprocAttr]
    refine DW_s [] [] hmix (by kernel_rfl) rfl ?_
    simp only[rBE,rBB,W9 hk,hgb1,evA,simprocAttr]
    have hbl:k+1≤be'.length:=hkb
    have hset:(be'.map AV.i).set k (.cv (.int .i64 i))=(be'.set k (i:Int)).map AV.i:=GC
    by_cases hb0:gI be' k<0
    ·have hb2:decide (be'[k]?.getD 0<0)=true:=decide_eq_true hb0
     rw[if_pos hb0] at h1
     simp only[hb2,rBE,rBB,W9 hk,hz,hs,hbl,hset,sBB,hzs,evA,simprocAttr]
     refine Qdh (by rw[hgs];rfl) ?_
     rw[hzs]
     exact .inr ⟨rfl,_,_,rfl,h1.symm⟩
    ·have hb2:decide (be'[k]?.getD 0<0)=false:=decide_eq_false hb0
     rw[if_neg hb0] at h1
     obtain ⟨l,hl⟩:∃ l:Nat,gI be' k=(l:Int):=⟨(gI be' k).toNat,by omega⟩
     have hln:l<d.ls.length:=by have:=h4 k hk;omega
     have hl2:be'[k]?.getD 0=(l:Int):=hl
     rw[hl,Int.toNat_natCast] at h1
     have hcn:cnt d.ls.length (fun j=>!gB (se'.set k true) j)<f:=by
      have e1:=BH (n:=d.ls.length) h2 hk hsk
      have e2:=QbU (n:=d.ls.length) h5
      omega
     have hrec:=le125 d hd told htl f l (σ++[.cells [.i i],.cells [.b false],.loop (KB R)]) (se'.set k true) be' (hH.app _) hln (by simp;exact h2) h3 h4 hcn
     rw[← MG hls hlb,← MG hls hlb] at hrec
     have hok2:=LD (can:=canB d) (told:=told) f l ⟨se'.set k true,be'⟩ hln (by simp;exact h2) h3 h4
     generalize VE (canB d) told d.ls.length f l ⟨se'.set k true,be'⟩=r at hrec h1 hok2
     obtain ⟨r1,se2,be2⟩:=r
     have hse2:se2.length=d.ls.length:=by have:=hok2.ls;simpa[h2] using this
     have hbe2:be2.length=d.ls.length:=by have:=hok2.lb;simpa[h3] using this
     have hb3:decide ((l:Int)<0)=false:=decide_eq_false (by omega)
     simp only[hb3,hl2,rMV,rBE,rBB,W9 hk,hgb1,evA,simprocAttr]
     refine MS (v:=.b r1) (τ:=stH SS BB σ se2 be2++[.cells [.i i],.cells [.b false],.loop (KB R)]) ?_ (stH_ok _ rfl _ _ _ _ _ hls hlb) ?_
     ·exact hrec
     have hbl2:k+1≤be2.length:=by omega
     have hset2:(be2.map AV.i).set k (.cv (.int .i64 i))=(be2.set k (i:Int)).map AV.i:=GC
     cases r1 with
     | true =>
      rw[if_pos rfl] at h1
      simp only[rBE,rBB,W9 hk,hz,hs,hbl2,hset2,sBB,hzs,evA,simprocAttr]
      refine Qdh (by rw[hgs];rfl) ?_
      rw[hzs]
      exact .inr ⟨rfl,_,_,rfl,h1.symm⟩
     | false =>
      rw[if_neg (fun h=>by cases h)] at h1
      simp only[evA,simprocAttr]
      refine RU hR (by rw[hgs];rfl) ?_
      rw[hzs]
      refine .inl ⟨rfl,_,[],(ZU _).symm,by simp[V8],.inl rfl,se2,be2,rfl,by rw[hm2];exact h1,hse2,hbe2,hok2.ok h4,fun j hj=>hok2.mono j ?_⟩
      show gB (se'.set k true) j=true
      rw[DF hks]
      split
      ·rfl
      ·exact h5 j hj
   ·have ht2:decide (told[k]?.getD 0≥0)=true:=decide_eq_true (by show gI told k≥0;omega)
    rw[if_neg (fun h=>ht h.2.2)] at h1
    simp only[ht2,evA,simprocAttr]
    refine RU hR (by rw[hgs];rfl) ?_
    rw[hzs]
    exact .inl ⟨rfl,cont h1⟩
  ·rintro r τ ⟨rfl,h | h⟩
   ·obtain ⟨se',be',rfl,h1,_⟩:=h
    rw[Nat.sub_self] at h1
    refine M9 hR (by rw[hgs];rfl) ?_
    subst h1
    simp only[hzs,hs,UC,evA,simprocAttr]
    exact ⟨_,rfl⟩
   ·obtain ⟨se',be',rfl,h1⟩:=h
    refine after_r (R:=R) (by rw[hgs];rfl) (QcP ?_)
    subst h1
    simp only[hzs,hs,evA,simprocAttr]
    exact ⟨_,rfl⟩
end Go.Proofs.YtgkidpolomhghaaGreatDoor.AM
namespace Go.Proofs.YtgkidpolomhghaaGreatDoor.AM
variable [Dr]
open Go Pl
set_option maxRecDepth 100000
def mulTab:List (Nat × FE):=[(153,⟨ic153,vs153,30,rs153,true⟩),(173,⟨ic173,vs173,51,rs173,true⟩)]
theorem Qej:TOk Tryz.prog mulTab:=⟨fok153 _,fok173 _,trivial⟩
def TM:Tb:=⟨tget mulTab,[]⟩
theorem TM_ok:TbOk Tryz.prog TM:=⟨fun _ _ h=>TOk.get Qej _ _ h,trivial⟩
theorem mul0:JL TM (UI TM 1000 10) 1000 [] 153 [.cv (.int .u64 1),.cv (.int .u64 ((0:Nat):Int))] []=some (true,.tup [.cv (.int .u64 0),.cv (.int .u64 ((0:Nat):Int))],[]):=by kernel_rfl
theorem mul1:JL TM (UI TM 1000 10) 1000 [] 153 [.cv (.int .u64 1),.cv (.int .u64 ((1:Nat):Int))] []=some (true,.tup [.cv (.int .u64 0),.cv (.int .u64 ((1:Nat):Int))],[]):=by kernel_rfl
theorem mul2:JL TM (UI TM 1000 10) 1000 [] 153 [.cv (.int .u64 1),.cv (.int .u64 ((2:Nat):Int))] []=some (true,.tup [.cv (.int .u64 0),.cv (.int .u64 ((2:Nat):Int))],[]):=by kernel_rfl
theorem mul3:JL TM (UI TM 1000 10) 1000 [] 153 [.cv (.int .u64 1),.cv (.int .u64 ((3:Nat):Int))] []=some (true,.tup [.cv (.int .u64 0),.cv (.int .u64 ((3:Nat):Int))],[]):=by kernel_rfl
theorem mul4:JL TM (UI TM 1000 10) 1000 [] 153 [.cv (.int .u64 1),.cv (.int .u64 ((4:Nat):Int))] []=some (true,.tup [.cv (.int .u64 0),.cv (.int .u64 ((4:Nat):Int))],[]):=by kernel_rfl
theorem mul5:JL TM (UI TM 1000 10) 1000 [] 153 [.cv (.int .u64 1),.cv (.int .u64 ((5:Nat):Int))] []=some (true,.tup [.cv (.int .u64 0),.cv (.int .u64 ((5:Nat):Int))],[]):=by kernel_rfl
theorem mul6:JL TM (UI TM 1000 10) 1000 [] 153 [.cv (.int .u64 1),.cv (.int .u64 ((6:Nat):Int))] []=some (true,.tup [.cv (.int .u64 0),.cv (.int .u64 ((6:Nat):Int))],[]):=by kernel_rfl
theorem mul7:JL TM (UI TM 1000 10) 1000 [] 153 [.cv (.int .u64 1),.cv (.int .u64 ((7:Nat):Int))] []=some (true,.tup [.cv (.int .u64 0),.cv (.int .u64 ((7:Nat):Int))],[]):=by kernel_rfl
theorem mul8:JL TM (UI TM 1000 10) 1000 [] 153 [.cv (.int .u64 1),.cv (.int .u64 ((8:Nat):Int))] []=some (true,.tup [.cv (.int .u64 0),.cv (.int .u64 ((8:Nat):Int))],[]):=by kernel_rfl
theorem mul9:JL TM (UI TM 1000 10) 1000 [] 153 [.cv (.int .u64 1),.cv (.int .u64 ((9:Nat):Int))] []=some (true,.tup [.cv (.int .u64 0),.cv (.int .u64 ((9:Nat):Int))],[]):=by kernel_rfl
theorem mul10:JL TM (UI TM 1000 10) 1000 [] 153 [.cv (.int .u64 1),.cv (.int .u64 ((10:Nat):Int))] []=some (true,.tup [.cv (.int .u64 0),.cv (.int .u64 ((10:Nat):Int))],[]):=by kernel_rfl
theorem mul11:JL TM (UI TM 1000 10) 1000 [] 153 [.cv (.int .u64 1),.cv (.int .u64 ((11:Nat):Int))] []=some (true,.tup [.cv (.int .u64 0),.cv (.int .u64 ((11:Nat):Int))],[]):=by kernel_rfl
theorem mul12:JL TM (UI TM 1000 10) 1000 [] 153 [.cv (.int .u64 1),.cv (.int .u64 ((12:Nat):Int))] []=some (true,.tup [.cv (.int .u64 0),.cv (.int .u64 ((12:Nat):Int))],[]):=by kernel_rfl
theorem mulK:∀ {n:Nat},n≤12→JL TM (UI TM 1000 10) 1000 [] 153 [.cv (.int .u64 1),.cv (.int .u64 n)] []=some (true,.tup [.cv (.int .u64 0),.cv (.int .u64 n)],[])
 | 0,_=>mul0
 | 1,_=>mul1
 | 2,_=>mul2
 | 3,_=>mul3
 | 4,_=>mul4
 | 5,_=>mul5
 | 6,_=>mul6
 | 7,_=>mul7
 | 8,_=>mul8
 | 9,_=>mul9
 | 10,_=>mul10
 | 11,_=>mul11
 | 12,_=>mul12
 | n+13,h=>absurd h (by omega)
theorem le153 {n:Nat} (hn:n≤12) (σ:List AObj):AC Tryz.prog 153 [.cv (.int .u64 1),.cv (.int .u64 n)] σ fun r τ=>r=.tup [.cv (.int .u64 0),.cv (.int .u64 n)]∧τ=σ:=AC_run hmix TM_ok 1000 10 (mulK hn) rfl σ
def rowW (w n:Nat):List Int:=List.replicate w (-1)++List.replicate (n-w) 0
theorem Qb4 {w n:Nat} (h:w≤n):(rowW w n).length=n:=by simp[rowW];omega
theorem rowW_set {w n k:Nat} (h:w+k≤n):setRange ((rowW w n).map AV.i) w ((List.replicate k (-1:Int)).map AV.i)=(rowW (w+k) n).map AV.i:=by
 have h1:=TB (xs:=(List.replicate w (-1:Int)).map AV.i) (ys:=(List.replicate (n-w) (0:Int)).map AV.i) (zs:=[]) (vs:=(List.replicate k (-1:Int)).map AV.i) (by simp;omega)
 simp only[ZU,ZK,List.length_replicate] at h1
 unfold rowW
 rw[ZS,h1,ZS,← List.map_drop,List.drop_replicate,← ZS,List.replicate_append_replicate,show n-w-k=n-(w+k) by omega]
theorem Qee {w n:Nat} (h:w≤n):((rowW w n).map AV.i).take w=(List.replicate w (-1:Int)).map AV.i:=by
 unfold rowW
 rw[ZS,List.take_left' (by simp)]
theorem QcB {σ J:List AObj} {n w m:Nat} {src:AV} {new:List AV} (hw:w+m≤n) (hm:m≤n) (hs:Z9 (σ++AObj.cells ((rowW w n).map AV.i)::J) 1 src=some new) (hl:lenF src=some new.length) (hmin:min new.length (n-w)=m) (hsc:new.all AV.isSc=true) (ht:new.take m=(List.replicate m (-1:Int)).map AV.i) :
  UE 1 [.sl σ.length w (n-w) 1,src] (σ++AObj.cells ((rowW w n).map AV.i)::J)=some (.i m,σ++AObj.cells ((rowW (w+m) n).map AV.i)::J):=by
 have h1:True∧w+(n-w)*1≤((rowW w n).map AV.i).length∧new.length*1=new.length∧new.all AV.isSc=true:=⟨trivial,by rw[ZK,Qb4 (by omega)];omega,by omega,hsc⟩
 have hmin2:Nat.min new.length (n-w)=m:=hmin
 simp only[UE,WW,HE,hs,hl,Option.bind_some]
 rw[if_pos h1,hmin2,W3,ht,rowW_set hw,VW]
 rfl
theorem le124 {n:Nat} (hn:n≤12) {σ:List AObj} {p:Nat} (hp:rowOf σ p=some [.i (-1)]):AC Tryz.prog 124 [.sl p 0 1 1,.i n] σ fun r τ=>r=.sl σ.length 0 n 1∧τ=σ++[.cells ((List.replicate n (-1:Int)).map AV.i)]:=by
 refine ZF (fok124 true) (QC rfl) ?_
 have h0:decide ((n:Int)<0)=false:=decide_eq_false (by omega)
 have hu:IntKind.u64.wrap (n:Int)=n:=by
  unfold IntKind.wrap
  simp[IntKind.bits,IntKind.signed]
  omega
 have hi64:IntKind.i64.wrap (n:Int)=n:=ZC (by omega)
 have hu1:IntKind.u64.wrap (1:Int)=1:=by decide
 have h9:decide ((n:Int)>9223372036854775807)=false:=decide_eq_false (by omega)
 simp only[ic124,h0,hu,hu1,evA,simprocAttr]
 refine (le153 hn _).run ?_
 simp only[h9,hi64,evA,simprocAttr]
 have hmk:=MP (n:=n) (WJ hn (by decide)) σ
 simp only[hmk,evA,simprocAttr]
 have hc:UE 1 [.sl σ.length 0 n 1,.sl p 0 1 1] (σ++[.cells ((List.replicate n (0:Int)).map AV.i)])=some (.i (min 1 n:Nat),σ++[.cells ((rowW (min 1 n) n).map AV.i)]):=by
  have hr:rowW 0 n=List.replicate n 0:=by simp[rowW]
  have:=QcB (σ:=σ) (J:=[]) (n:=n) (w:=0) (m:=min 1 n) (src:=.sl p 0 1 1) (new:=[.i (-1)]) (by omega) (by omega) (by
   simp only[Z9,if_true,ZH hp,Option.bind_some];rfl) rfl (by simp) rfl (by
   match n with
   | 0=>rfl
   | k + 1 => have:min 1 (k+1)=1:=by omega
              rw[this];rfl)
  rw[hr,ZV,Nat.sub_zero] at this
  exact this
 simp only[hc,evA,simprocAttr]
 refine ZW n (fun i s=>∃ w v9,(w=n∨i<w)∧w≤n∧s=⟨[.sl p 0 1 1,.i n,.cv .nils,.cv (.int .u64 0),.cv (.int .u64 n),.sl σ.length 0 n 1,.i w,.b false,.b false,v9],σ++[.cells ((rowW w n).map AV.i)]⟩) ?_ 0 (QF _) ⟨min 1 n,_,by omega,by omega,rfl⟩
 rintro i s hi ⟨w,v9,hiw,hwn,rfl⟩
 by_cases hlt:w<n
 ·have hpos:i<w:=by omega
  simp only[ic124l0,QJ,hlt,evA,simprocAttr]
  have h1:=fun σ'=>BP (l:=σ.length) hlt σ'
  have h2:=fun σ'=>Qb1 (l:=σ.length) (w:=w) (n:=n) (by omega) σ'
  have hcp:UE 1 [.sl σ.length w (n-w) 1,.sl σ.length 0 w 1] (σ++[.cells ((rowW w n).map AV.i)])=some (.i (min w (n-w):Nat),σ++[.cells ((rowW (w+min w (n-w)) n).map AV.i)]) :=
   QcB (σ:=σ) (J:=[]) (new:=(List.replicate w (-1:Int)).map AV.i) (by omega) (by omega) (by
    have h3:0+w*1≤((rowW w n).map AV.i).length:=by rw[ZK,Qb4 hwn];omega
    simp only[Z9,if_true,WW,HE,Option.bind_some]
    rw[if_pos h3,YO,W3,Qee hwn]) (by simp[lenF]) (by simp) (Qa3 _) (by
    rw[← List.map_take,List.take_replicate,show min (min w (n-w)) w=min w (n-w) by omega])
  refine DW_s [] [] hmix (by kernel_rfl) rfl ?_
  have hwr:IntKind.i64.wrap ((w:Int)+(min w (n-w):Nat))=((w+min w (n-w):Nat):Int):=by rw[ZC (by omega)];omega
  simp only[h1,h2,hcp,hwr,evA,simprocAttr]
  exact ZL (by omega) ⟨_,_,by omega,by omega,rfl⟩
 ·have hw:w=n:=by omega
  subst hw
  simp only[ic124l0,QJ,hlt,evA,simprocAttr]
  simp[rowW]
theorem le87 {σ:List AObj} {p:Nat} {zs:List Int} (hl:zs.length≤100) (hp:rowOf σ p=some (zs.map AV.i)):AC Tryz.prog 87 [.sl p 0 zs.length 1] σ fun r τ=>r=.sl (σ.length+1) 0 zs.length 1∧τ=σ++[.dead,.cells (zs.map AV.i)]:=by
 refine ZF (fok87 true) (QC rfl) ?_
 simp only[ic87,evA,simprocAttr]
 have ha:ZX 1 8 [.sl σ.length 0 0 1,.sl p 0 zs.length 1] (σ++[.cells []])=some (.sl (σ.length+1) 0 zs.length 1,σ++[.dead,.cells (zs.map AV.i)]):=by
  have hs:Z9 (σ++[AObj.cells []]) 1 (.sl p 0 zs.length 1)=some (zs.map AV.i):=by
   have h1:0+zs.length*1≤(zs.map AV.i).length:=by simp
   simp only[Z9,if_true,ZH hp,Option.bind_some]
   rw[if_pos h1,YO,Q5 (by simp)]
  have h2:True∧0*1≤([]:List AV).length∧zs.length*1=(zs.map AV.i).length∧(0+zs.length)*8≤2 ^ 44∧0+zs.length≤2 ^ 44∧(zs.map AV.i).all AV.isSc=true:=by
   have:(2:Nat) ^ 44=17592186044416:=by decide
   exact ⟨trivial,by simp,by simp,by omega,by omega,Qa3 zs⟩
  simp only[ZX,WW,HE,hs,lenF,Option.bind_some]
  rw[if_pos h2,VW]
  simp
 simp only[ha,evA,simprocAttr]
theorem le87n (σ:List AObj):AC Tryz.prog 87 [.cv .nils] σ fun r τ=>r=.cv .nils∧τ=σ:=by
 refine ZF (fok87 true) (QC rfl) ?_
 simp only[ic87,evA,simprocAttr]
theorem le122 (zs:List Int) (z:Int) (hz:zs.length<2 ^ 63):PC Tryz.prog 122 [ints zs,.i z] (.i (idxF (fun x=>z == x) zs)):=by
 refine ⟨ZF (fok122 true) (QC rfl) ?_,rfl⟩
 simp only[ic122,evA,simprocAttr]
 refine ZW zs.length (fun i s=>(∀ j,j<i→(z == zs[j]?.getD 0)=false)∧∃ v2 v3 v6 v7,s=⟨[ints zs,.i z,v2,v3,.i zs.length,.i i,v6,v7],[]⟩) ?_ 0 (QF _) ⟨by omega,_,_,_,_,rfl⟩
 rintro i s hi ⟨hall,v2,v3,v6,v7,rfl⟩
 by_cases h:i<zs.length
 ·simp only[ic122l0,QJ,h,evA,simprocAttr]
  cases hp:(z == zs[i]?.getD 0)
  ·simp only[evA,simprocAttr]
   refine ZL (by first | trivial | omega) ⟨fun j hj=>?_,_,_,_,_,by rw[ZC (by omega)];rfl⟩
   rcases QQ.1 hj with hj | rfl
   ·exact hall j hj
   ·exact hp
  ·rw[AW (p:=fun x=>z == x) h hall hp]
   simp only[evA,simprocAttr]
   exact frz
 ·have:i=zs.length:=by omega
  subst this
  rw[AX (p:=fun x=>z == x) hall]
  simp only[ic122l0,QJ,h,evA,simprocAttr]
  exact frz
theorem le76 (zs:List Int) (z:Int) (hz:zs.length<2 ^ 63):PC Tryz.prog 76 [ints zs,.i z] (.b (zs.contains z)):=by
 refine ⟨ZF (fok76 true) (QC rfl) ?_,rfl⟩
 simp only[ic76,evA,simprocAttr]
 refine (le122 zs z hz).call frz ?_
 have hc:zs.contains z=zs.any fun x=>z == x:=by rw[List.contains_eq_any_beq]
 rw[hc]
 simp only[Qdl,evA,simprocAttr]
 exact frz
end Go.Proofs.YtgkidpolomhghaaGreatDoor.AM
namespace Go.Proofs.YtgkidpolomhghaaGreatDoor.AM
variable [Dr]
open Go Pl
def tolL (n:Nat) (fx:List Int):Nat→List Int × Nat
 | 0=>(List.replicate n (-1),0)
 | j+1=>if gI fx j<0 then tolL n fx j else ((tolL n fx j).1.set (gI fx j).toNat j,(tolL n fx j).2+1)
theorem EX (n:Nat) (fx:List Int):∀ j,(tolL n fx j).1.length=n
 | 0=>by simp[tolL]
 | j+1=>by
  unfold tolL
  split
  ·exact EX n fx j
  ·simp[EX n fx j]
theorem QdQ {n:Nat} {fx:List Int} (h:∀ i,gI fx i<(n:Int)) {k:Nat} (hk:k<n):∀ j,gI (tolL n fx j).1 k<0↔∀ i,i<j→gI fx i≠(k:Int)
 | 0=>by
  have:gI (tolL n fx 0).1 k = -1:=by
   unfold tolL gI
   simp[hk]
  rw[this]
  exact ⟨fun _ i hi=>absurd hi (W5 _),fun _=>by decide⟩
 | j + 1=>by
  have ih:=QdQ h hk j
  unfold tolL
  split
  ·rename_i hn
   rw[ih]
   constructor
   ·intro h1 i hi
    rcases QQ.1 hi with hi | rfl
    ·exact h1 i hi
    ·omega
   ·exact fun h1 i hi=>h1 i (by omega)
  ·rename_i hn
   have hj:=h j
   rw[JO (by rw[EX];omega)]
   split
   ·rename_i e
    constructor
    ·intro h1;omega
    ·intro h1;exact absurd (show gI fx j=(k:Int) by omega) (h1 j (by omega))
   ·rename_i e
    rw[ih]
    constructor
    ·intro h1 i hi
     rcases QQ.1 hi with hi | rfl
     ·exact h1 i hi
     ·omega
    ·exact fun h1 i hi=>h1 i (by omega)
theorem tol_lt {n:Nat} {fx:List Int} (h:∀ i,gI fx i<(n:Int)):∀ j,j≤n→R4 n (tolL n fx j).1
 | 0,_=>fun k hk=>by
  have:gI (tolL n fx 0).1 k = -1:=by
   unfold tolL gI
   simp[hk]
  rw[this];omega
 | j+1,hj=>by
  have ih:=tol_lt h j (by omega)
  unfold tolL
  split
  ·exact ih
  ·rename_i hn
   have:=h j
   exact EU (by rw[EX];omega) (by omega) ih
theorem Qeq {can:Nat→Nat→Bool} {n f p0:Nat} {told:List Int} (hl:told.length=n):C9 can told n f p0 f (told,p0):=by
 refine ⟨hl,fun k _ h=>.inl h,fun l _=>?_,?_,fun _=>false,fun _=>false,fun l k h=>(by cases h),fun k _ h=>(by cases h),fun l h1 h2=>absurd h2 (by omega)⟩
 ·rw[KN fun k hk=>?_]
  ·omega
  ·cases h:decide (gI told k<0) with
   | false=>rfl
   | true =>
    have:=of_decide_eq_true h
    exact beq_eq_false_iff_ne.2 (by show gI told k≠_;omega)
 ·rw[KN fun k hk=>?_]
  ·rfl
  ·cases h:decide (gI told k<0) with
   | false=>rfl
   | true =>
    have:=of_decide_eq_true h
    exact decide_eq_false (by show ¬ 0≤gI told k;omega)
def E5 (d:Dy) (fx:List Int):Nat :=
 (tolL d.ls.length fx fx.length).2+prF (canB d) d.ls.length (d.ls.length-fx.length) fx.length (fun k=>!decide (gI (tolL d.ls.length fx fx.length).1 k<0))
theorem Qbl {can:Nat→Nat→Bool} {told:List Int} {n:Nat}:∀ (m i:Nat) (s:List Int × Nat),i+m≤n→s.1.length=n→R4 n s.1→(F2 can told n m i s).1.length=n∧R4 n (F2 can told n m i s).1
 | 0,_,_,_,h1,h2=>⟨h1,h2⟩
 | m+1,i,s,hm,h1,h2=>by
  have:=LD (can:=can) (told:=told) (n+1) i ⟨List.replicate n false,s.1⟩ (by omega) (by simp) h1 h2
  exact Qbl m (i+1) _ (by omega) (this.lb.trans h1) (this.ok h2)
theorem PY {can:Nat→Nat→Bool} {told:List Int} {n:Nat}:∀ (m i:Nat) (s:List Int × Nat),F2 can told n (m+1) i s=((VE can told n (n+1) (i+m) ⟨List.replicate n false,(F2 can told n m i s).1⟩).2.bef,if (VE can told n (n+1) (i+m) ⟨List.replicate n false,(F2 can told n m i s).1⟩).1=true then (F2 can told n m i s).2+1 else (F2 can told n m i s).2)
 | 0,i,s=>rfl
 | m+1,i,s=>by
  rw[F2,PY m (i+1),show i+1+m=i+(m+1) by omega]
  rfl
theorem objI (k:Nat) (zs:List Int):Z3 k (.cells (zs.map AV.i))=true:=by
 simp only[Z3]
 rw[Z8]
 intro v hv
 obtain ⟨z,_,rfl⟩:=ZP.1 hv
 rfl
theorem le79 (d : Dy) (hd:DyOk d) (fx:List Int) (hfl:fx.length≤d.ls.length) (hfx:∀ i,i<fx.length→gI fx i<(d.ls.length:Int)):∃ bef,PC Tryz.prog 79 [dyV d,ints fx] (.tup [ints bef,.i (E5 d fx)]):=by
 obtain ⟨T,hT⟩:∃ T,T=tolL d.ls.length fx fx.length:=⟨_,rfl⟩
 obtain ⟨F,hF⟩:∃ F,F=F2 (canB d) T.1 d.ls.length (d.ls.length-fx.length) fx.length T:=⟨_,rfl⟩
 have h12:=hd.l12
 have hnum:F.2=E5 d fx:=by
  have:=(Qde (n:=d.ls.length) hfl (by
   have:=O8 (n:=d.ls.length) (can:=canB d) (told:=T.1) (f:=fx.length) (p0:=T.2) (d.ls.length-fx.length) fx.length T (QG _) (Qeq (by rw[hT];exact EX _ _ _))
   rw[show fx.length+(d.ls.length-fx.length)=d.ls.length by omega] at this
   exact this)).1
  rw[← hF] at this
  rw[this,hT]
  rfl
 refine ⟨F.1,ZF (fok79 true) (QC rfl) ?_,rfl⟩
 rw[← hnum]
 simp only[ic79,WI,cellsOf,evA,simprocAttr]
 refine (le124 h12 (p:=2) rfl).run ?_
 simp only[evA,simprocAttr]
 have hrl:(List.replicate d.ls.length (-1:Int)).length=d.ls.length:=by simp
 have h87:=le87 (σ:=[AObj.cells [.cv (minR d.mi),.cv (lesR d.ls)],.cells [.sl 3 0 d.ls.length 1],.cells [.i (-1)],.cells ((List.replicate d.ls.length (-1:Int)).map AV.i)]) (p:=3) (zs:=List.replicate d.ls.length (-1:Int)) (by rw[hrl];omega) rfl
 rw[hrl] at h87
 refine h87.run ?_
 simp only[evA,simprocAttr]
 have h0:List.replicate d.ls.length (-1:Int)=(tolL d.ls.length fx 0).1:=rfl
 rw[h0]
 refine ZW fx.length (fun j s=>∃ v6 v7 v14 v15,s=⟨[dyV d,ints fx,.ptr 0 0,.ptr 1 0,.i (tolL d.ls.length fx j).2,.ptr 6 0,v6,v7,.undef,.undef,.undef,ints fx,.i fx.length,.i j,v14,v15,.undef,.undef],[.cells [.cv (minR d.mi),.cv (lesR d.ls)],.cells [.sl 3 0 d.ls.length 1],.cells [.i (-1)],.cells ((tolL d.ls.length fx j).1.map AV.i),.dead,.cells ((tolL d.ls.length fx j).1.map AV.i),.cells [.sl 5 0 d.ls.length 1]]⟩) ?_ 0 (QF _) ⟨_,_,_,_,rfl⟩
 rintro j s hj ⟨v6,v7,v14,v15,rfl⟩
 by_cases hjl:j<fx.length
 ·have hj63 : j + 1 < 2 ^ 63 := by have:(2:Nat) ^ 63=9223372036854775808:=by decide
                                   omega
  have htl:=EX d.ls.length fx j
  have hstep:tolL d.ls.length fx (j+1)=if gI fx j<0 then tolL d.ls.length fx j else ((tolL d.ls.length fx j).1.set (gI fx j).toNat j,(tolL d.ls.length fx j).2+1):=rfl
  have hcnt:(tolL d.ls.length fx j).2≤j:=by
   clear hstep htl hjl hj hj63
   induction j with
   | zero=>simp[tolL]
   | succ j ih => unfold tolL;split
                  ·omega
                  ·simp only;omega
  rw[hstep]
  generalize tolL d.ls.length fx j=U at *
  obtain ⟨U1,U2⟩:=U
  simp only at htl hcnt ⊢
  simp only[ic79l1,QJ,hjl,evA,simprocAttr]
  by_cases hk:gI fx j<0
  ·have hb:decide (fx[j]?.getD 0≥0)=false:=decide_eq_false (by show ¬ gI fx j≥0;omega)
   rw[if_pos hk]
   simp only[hb,Q6 hj63,evA,simprocAttr]
   exact ZL (by first | trivial | omega) ⟨_,_,_,_,rfl⟩
  ·have hb:decide (fx[j]?.getD 0≥0)=true:=decide_eq_true (by show gI fx j≥0;omega)
   have hlt:=hfx j hjl
   obtain ⟨k,hkk⟩:∃ k:Nat,gI fx j=(k:Int):=⟨(gI fx j).toNat,by omega⟩
   have hkn:k<d.ls.length:=by omega
   have hk2:fx[j]?.getD 0=(k:Int):=hkk
   have hb3:decide ((k:Int)≥0)=true:=decide_eq_true (by omega)
   rw[if_neg hk,hkk,Int.toNat_natCast]
   have hle:k+1≤U1.length:=by omega
   simp only[hk2,hb3,evA,simprocAttr]
   refine DW_s [] [(2,7)] hmix (by kernel_rfl) rfl ?_
   simp only[W9 hkn,GC,ZK,WE,hle,Q6 hj63,Q6 (show U2+1<2 ^ 63 by omega),evA,simprocAttr]
   exact ZL (by first | trivial | omega) ⟨_,_,_,_,rfl⟩
 have hje:j=fx.length:=by omega
 subst hje
 simp only[ic79l1,QJ,hjl,evA,simprocAttr]
 rw[← hT]
 have hTl:T.1.length=d.ls.length:=by rw[hT];exact EX _ _ _
 have hTo:R4 d.ls.length T.1:=by
  intro k hk
  rw[hT]
  refine tol_lt (fun i=>?_) _ hfl k hk
  rcases ZB i fx.length with h | h
  ·exact hfx i h
  ·unfold gI;rw[QN h];show (0:Int)<_;omega
 have hT2 : T.2 ≤ d.ls.length:=by
  have:∀ j,(tolL d.ls.length fx j).2≤j:=fun j=>by
   induction j with
   | zero=>simp[tolL]
   | succ j ih => unfold tolL;split
                  ·omega
                  ·simp only;omega
  have:=this fx.length
  rw[hT];omega
 have hfalse:decide ((fx.length:Int)<fx.length)=false:=decide_eq_false (by omega)
 refine ZW (d.ls.length-fx.length) (fun m s=>∃ v6 v7 v9 v10 v14 v15 v16 v17,s=⟨[dyV d,ints fx,.ptr 0 0,.ptr 1 0,.i (F2 (canB d) T.1 d.ls.length m fx.length T).2,.ptr 6 0,v6,v7,.i (fx.length+m:Nat),v9,v10,ints fx,.i fx.length,.i fx.length,v14,v15,v16,v17],[.cells [.cv (minR d.mi),.cv (lesR d.ls)],.cells [.sl 3 0 d.ls.length 1],.cells [.i (-1)],.cells ((F2 (canB d) T.1 d.ls.length m fx.length T).1.map AV.i),.dead,.cells (T.1.map AV.i),.cells [.sl 5 0 d.ls.length 1]]⟩) ?_ 0 (QF _) ⟨_,_,_,_,_,_,_,_,rfl⟩
 rintro m s hm ⟨v6,v7,v9,v10,v14,v15,v16,v17,rfl⟩
 obtain ⟨k1,k2⟩:=Qbl (can:=canB d) (told:=T.1) m fx.length T (by omega) hTl hTo
 have hstep:=PY (can:=canB d) (told:=T.1) (n:=d.ls.length) m fx.length T
 have hnn:(F2 (canB d) T.1 d.ls.length m fx.length T).2≤T.2+m:=by
  clear hstep k1 k2
  induction m with
  | zero=>exact QG _
  | succ m ih =>
   rw[PY]
   have:=ih (by omega)
   simp only
   split <;> omega
 by_cases hml:m<d.ls.length-fx.length
 ·have hin:fx.length+m<d.ls.length:=by omega
  rw[hstep]
  generalize F2 (canB d) T.1 d.ls.length m fx.length T=U at *
  obtain ⟨U1,U2⟩:=U
  simp only at k1 k2 hnn ⊢
  have hmk:=fun σ=>B6 (n:=d.ls.length) (WJ h12 (by decide)) σ
  simp only[ic79l0,QJ,hin,hmk,evA,simprocAttr]
  have hmv:=le125 d hd T.1 hTl (D:=0) (SE:=8) (TO:=6) (BE:=1) (MV:=9) (SS:=7) (BB:=3) (TT:=5) (d.ls.length+1) (fx.length+m)
   [.cells [.cv (minR d.mi),.cv (lesR d.ls)],.cells [.sl 3 0 d.ls.length 1],.cells [.i (-1)],.cells (U1.map AV.i),.dead,.cells (T.1.map AV.i),.cells [.sl 5 0 d.ls.length 1],.cells (XT (List.replicate d.ls.length false)),.cells [.sl 7 0 d.ls.length 1],.cells [.fn (.func 125) [.ptr 0 0,.ptr 8 0,.ptr 6 0,.ptr 1 0,.ptr 9 0]]]
   (List.replicate d.ls.length false) U1 ⟨rfl,rfl,by rw[hTl];rfl,rfl,rfl,rfl,by decide,by decide,QC rfl,QC rfl,by
    intro x hx
    simp only[ZD,WK,or_false] at hx
    simp only[List.length_cons,List.length_nil]
    omega⟩ hin (by simp) k1 k2 (by
    have:=P7 (n:=d.ls.length) (P:=fun k=>!gB (List.replicate d.ls.length false) k)
    omega)
  generalize VE (canB d) T.1 d.ls.length (d.ls.length+1) (fx.length+m) ⟨List.replicate d.ls.length false,U1⟩=r at hmv ⊢
  obtain ⟨r1,r2⟩:=r
  refine hmv.run ?_
  have hw:IntKind.i64.wrap (((fx.length+m:Nat):Int)+1)=((fx.length+(m+1):Nat):Int):=by rw[ZC (by omega)];omega
  have hw2:IntKind.i64.wrap ((U2:Int)+1)=((U2+1:Nat):Int):=by rw[ZC (by omega)];omega
  have hob:∀ o∈[AObj.cells [.cv (minR d.mi),.cv (lesR d.ls)],.cells [.sl 3 0 d.ls.length 1],.cells [.i (-1)],.cells (r2.bef.map AV.i),.dead,.cells (T.1.map AV.i),.cells [.sl 5 0 d.ls.length 1]],Z3 7 o=true:=by
   intro o ho
   simp only[ZD,WK,or_false] at ho
   rcases ho with rfl | rfl | rfl | rfl | rfl | rfl | rfl
   ·rfl
   ·rfl
   ·rfl
   ·exact objI _ _
   ·rfl
   ·exact objI _ _
   ·rfl
  cases r1 with
  | true =>
   simp only[stH,hw,hw2,evA,simprocAttr]
   exact W1 [.cells [.cv (minR d.mi),.cv (lesR d.ls)],.cells [.sl 3 0 d.ls.length 1],.cells [.i (-1)],.cells (r2.bef.map AV.i),.dead,.cells (T.1.map AV.i),.cells [.sl 5 0 d.ls.length 1]] _ rfl (by first | trivial | omega) (QF _) hob ⟨_,_,_,_,_,_,_,_,rfl⟩
  | false =>
   simp only[stH,hw,evA,simprocAttr]
   exact W1 [.cells [.cv (minR d.mi),.cv (lesR d.ls)],.cells [.sl 3 0 d.ls.length 1],.cells [.i (-1)],.cells (r2.bef.map AV.i),.dead,.cells (T.1.map AV.i),.cells [.sl 5 0 d.ls.length 1]] _ rfl (by first | trivial | omega) (QF _) hob ⟨_,_,_,_,_,_,_,_,rfl⟩
 ·have hme:m=d.ls.length-fx.length:=by omega
  have hin:¬ (fx.length+m<d.ls.length):=by omega
  simp only[ic79l0,QJ,hin,evA,simprocAttr]
  rw[hme,← hF]
  rw[hme,← hF] at k1
  exact .tup (.cons (U4 (fun _=>trivial) k1.symm rfl) (.cons (.c (.c _ trivial)) .nil))
def posN (L:List Int):Nat:=L.countP fun x=>decide (0≤x)
theorem B3 (L:List Int) (x:Int):posN (L++[x])=posN L+if 0≤x then 1 else 0:=by
 unfold posN
 rw[List.countP_append]
 by_cases h:0≤x <;> simp[h]
theorem tol_take (n:Nat) (L x:List Int):∀ j,j≤L.length→tolL n (L++x) j=tolL n L j
 | 0,_=>rfl
 | j+1,h=>by
  have hg:gI (L++x) j=gI L j:=by unfold gI;rw[QE (by omega)]
  unfold tolL
  rw[hg,tol_take n L x j (by omega)]
theorem QdP (n:Nat) (L:List Int):∀ j,j≤L.length→(tolL n L j).2=posN (L.take j)
 | 0,_=>rfl
 | j+1,h=>by
  have hj:j<L.length:=by omega
  have hg:L.take (j+1)=L.take j++[gI L j]:=by
   rw[JC,QI hj]
   unfold gI
   rw[QI hj];rfl
  have e:tolL n L (j+1)=if gI L j<0 then tolL n L j else ((tolL n L j).1.set (gI L j).toNat j,(tolL n L j).2+1):=rfl
  have ih:=QdP n L j (by omega)
  rw[hg,B3,e]
  split
  ·rename_i h1;rw[if_neg (by omega),ih];rfl
  ·rename_i h1;rw[if_pos (by omega)];simp only;omega
theorem OL {L:List Int} {k:Nat}:L.contains (k:Int)=true↔∃ i,i<L.length∧gI L i=(k:Int):=by
 rw[XS,WN]
 constructor
 ·rintro ⟨i,hi,h⟩
  exact ⟨i,hi,by unfold gI;rw[QI hi];exact h⟩
 ·rintro ⟨i,hi,h⟩
  refine ⟨i,hi,?_⟩
  unfold gI at h;rw[QI hi] at h;exact h
theorem Qek (d:Dy) {L:List Int} (h:∀ i,gI L i<(d.ls.length:Int)):E5 d L=posN L+prF (canB d) d.ls.length (d.ls.length-L.length) L.length (fun j=>L.contains (j:Int)):=by
 unfold E5
 rw[QdP _ _ _ (QG _),X7]
 congr 1
 refine V6 _ _ _ _ fun k hk=>?_
 have h1:=QdQ (n:=d.ls.length) h hk L.length
 cases hc:L.contains (k:Int) with
 | true =>
  obtain ⟨i,hi,e⟩:=OL.1 hc
  have:¬ gI (tolL d.ls.length L L.length).1 k<0:=fun h2=>h1.1 h2 i hi e
  simp[this]
 | false =>
  have:gI (tolL d.ls.length L L.length).1 k<0:=h1.2 fun i hi e=>by
   rw[OL.2 ⟨i,hi,e⟩] at hc;cases hc
  simp[this]
structure NxSt (d:Dy) (i:Nat) (L:List Int) (B:Nat→Bool):Prop where
 len:L.length=i
 le:i≤d.ls.length
 tl:nxtL d=L++nxL (canB d) d.ls.length (d.ls.length-i) i B
 bb:∀ j,j<d.ls.length→B j=L.contains (j:Int)
 lt:∀ j,gI L j<(d.ls.length:Int)
 num:posN L+prF (canB d) d.ls.length (d.ls.length-i) i B=TH d
theorem Qct {L:List Int} {x:Int} {j:Nat}:gI (L++[x]) j=if j<L.length then gI L j else if j=L.length then x else 0:=by
 unfold gI
 by_cases h:j<L.length
 ·rw[if_pos h,QE h]
 ·rw[if_neg h,QS (by omega)]
  by_cases h2:j=L.length
  ·subst h2;simp
  ·rw[if_neg h2,QN (by simp;omega)];rfl
theorem Qeh {d:Dy} (hn:0<d.ls.length):NxSt d 0 [] (fun _=>false) :=
 ⟨rfl,QF _,by simp[nxtL],fun j _=>by simp,fun j=>(by simp[gI];omega),by simp[posN,TH]⟩
theorem Qei {d:Dy} {i:Nat} {L:List Int} {B:Nat→Bool} (h:NxSt d i L B) (hi:i<d.ls.length) {k:Nat} (hk:k<d.ls.length) (hc:canB d i k=true) (hB:L.contains (k:Int)=false) :
  (((E5 d (L++[(k:Int)]):Nat):Int) == ((TH d:Nat):Int))=J2 (canB d) d.ls.length (d.ls.length-i-1) i B k:=by
 have hlt:∀ j,gI (L++[(k:Int)]) j<(d.ls.length:Int):=fun j=>by
  rw[Qct]
  have:=h.lt j
  split
  ·exact this
  ·split <;> omega
 rw[Qek d hlt,B3,if_pos (by omega)]
 have hl:(L++[(k:Int)]).length=i+1:=by simp[h.len]
 rw[hl,← h.num]
 have he:prF (canB d) d.ls.length (d.ls.length-(i+1)) (i+1) (fun j=>(L++[(k:Int)]).contains (j:Int))=prF (canB d) d.ls.length (d.ls.length-i-1) (i+1) (fun j=>B j||j == k):=by
  rw[show d.ls.length-(i+1)=d.ls.length-i-1 by omega]
  refine V6 _ _ _ _ fun j hj=>?_
  rw[h.bb j hj,Q8]
  simp[Int.natCast_inj]
 rw[he]
 unfold J2
 rw[hc,h.bb k hk,hB,show d.ls.length-i-1+1=d.ls.length-i by omega]
 rw[Q8]
 simp
 omega
theorem AB {d:Dy} {i:Nat} {L:List Int} {B:Nat→Bool} (h:NxSt d i L B) (hi:i<d.ls.length) :
  NxSt d (i+1) (L++[XQ (J2 (canB d) d.ls.length (d.ls.length-i-1) i B) d.ls.length 0]) (addB B (XQ (J2 (canB d) d.ls.length (d.ls.length-i-1) i B) d.ls.length 0)):=by
 obtain ⟨m,hm⟩:∃ m,d.ls.length-i=m+1:=⟨d.ls.length-i-1,by omega⟩
 have hm1:d.ls.length-i-1=m:=by omega
 have hm2:d.ls.length-(i+1)=m:=by omega
 rw[hm1]
 have htl:=h.tl
 have hnum:=h.num
 rw[hm] at htl hnum
 obtain ⟨c,hc⟩:∃ c,c=XQ (J2 (canB d) d.ls.length m i B) d.ls.length 0:=⟨_,rfl⟩
 have hor:=NE (p:=J2 (canB d) d.ls.length m i B) d.ls.length 0
 have hlo:-1≤c∧c<(d.ls.length:Int):=by
  rcases hor with ⟨h1,_⟩ | ⟨x,_,h2,_,h3,_⟩
  ·omega
  ·omega
 rw[← hc] at hor ⊢
 refine ⟨by simp[h.len],by omega,?_,fun j hj=>?_,fun j=>?_,?_⟩
 ·rw[hm2,htl]
  simp only[nxL,← hc,QW,List.cons_append,List.nil_append]
 ·unfold addB
  rw[h.bb j hj,Q8]
  simp
 ·rw[Qct]
  have:=h.lt j
  split
  ·exact this
  ·split <;> omega
 ·rw [hm2,B3,← hnum]
  rcases hor with ⟨h1,h2⟩ | ⟨x,_,h2,h3,h4,_⟩
  ·rw [if_neg (by omega)]
   have e0:prF (canB d) d.ls.length m (i+1) (addB B c)=prF (canB d) d.ls.length m (i+1) B:=V6 _ _ _ _ fun k _=>by
    unfold addB
    have:decide ((k:Int)=c)=false:=decide_eq_false (by omega)
    rw[this,Bool.or_false]
   rw[e0]
   have e1:prF (canB d) d.ls.length (m+1) i B=prF (canB d) d.ls.length m (i+1) B:=by
    have hle:prF (canB d) d.ls.length m (i+1) B≤prF (canB d) d.ls.length (m+1) i B:=by
     simp only[prF];exact TL
    have hk:prF (canB d) d.ls.length (m+1) i B=prF (canB d) d.ls.length m (i+1) B∨∃ k,k<d.ls.length∧prF (canB d) d.ls.length (m+1) i B=if canB d i k && !B k then 1+prF (canB d) d.ls.length m (i+1) (fun j=>B j||j == k) else 0:=by
     simp only[prF];exact I1
    rcases hk with h | ⟨k,hk,he⟩
    ·exact h
    ·have hf:=h2 k (QF _) (by omega)
     unfold J2 at hf
     by_cases hcb:(canB d i k && !B k)=true
     ·rw[if_pos hcb] at he
      rw[hcb,XI] at hf
      exact absurd he.symm (of_decide_eq_false hf)
     ·rw[if_neg hcb] at he;omega
   omega
  ·rw[if_pos (by omega)]
   have e0:prF (canB d) d.ls.length m (i+1) (addB B c)=prF (canB d) d.ls.length m (i+1) (fun j=>B j||j == x):=V6 _ _ _ _ fun k _=>by
    unfold addB
    rw[h4,Q8]
    simp[Int.natCast_inj]
   rw[e0]
   unfold J2 at h3
   have h5:=of_decide_eq_true (Bool.and_eq_true_iff.1 h3).2
   omega
def ia75:IC:=(.region [jw 5 .mv [.v 11]])
def ib75:IC:=(.block 3 (.seq (.seq (.region [jL 2,jv 5,jd 12 76 [.t 0,.t 1]])
 (.cond 12 (.exit 3)
 .skip))
 (.seq (.dr [[],[],[1],[],[3],[2,4,2],[0,5,5],[6],[7],[7],[8,6,0,1,2,3,4,5,6,7,8],[9,10,0,1,2,3,4,5,6,7,8,9,10]] [jN 2 1,jL 2,jk 87 [.t 1],jv 5,jq (.bslice 1 1 [(.cv (.int .i64 0))] [(0,1)]) [.t 3],jq (.append 1 8) [.t 2,.t 4],jk 79 [.t 0,.t 5],jt 6,jx 0 7,jx 1 7,jt 8,jm 6 9])
 (.seq (.region [jv 6,jL 3,jw 13 (.bin .eql .int) [.t 0,.t 1]])
 (.cond 13 (.seq (.region [jL 2,jv 5,jq (.bslice 1 1 [(.cv (.int .i64 0))] [(0,1)]) [.t 1],jq (.append 1 8) [.t 0,.t 2],jq (.store 1) [.v 2,.t 3]])
 (.exit 1))
 .skip)))))
theorem ca75:QL Tryz.prog vs75 50 (nav [1,0,1,1,0,1,0,0,1,1,0,0,1,0,1,0,2] (Tryz.f75.body.getD .skip))=some ia75:=by kernel_rfl
theorem cb75:QL Tryz.prog vs75 50 (nav [1,0,1,1,0,1,0,0,1,1,0,0,1,0,1,0,3] (Tryz.f75.body.getD .skip))=some ib75:=by kernel_rfl
theorem renI (g:Nat→Nat) (zs:List Int):renO g (.cells (zs.map AV.i))=.cells (zs.map AV.i):=by
 have:=Qcb g (zs.map (.int .i64))
 rw[XW] at this
 simp only[renO]
 exact congrArg AObj.cells this
theorem le87t {σ:List AObj} {p:Nat} {zs:List Int} (hl:zs.length≤100) (hp:rowOf σ p=some (zs.map AV.i)):AC Tryz.prog 87 [.sl p 0 zs.length 1] σ fun r τ=>r=.sl σ.length 0 zs.length 1∧τ=σ++[.cells (zs.map AV.i)]:=by
 refine (le87 hl hp).tidy ?_
 rintro r τ ⟨rfl,rfl⟩
 refine ⟨fun l=>if l<σ.length then l else l+1,.sl σ.length 0 zs.length 1,σ++[.cells (zs.map AV.i)],⟨fun l h=>if_pos h,fun a b h1 h2=>?_,by simp,?_,?_,fun l o h=>?_⟩,rfl,rfl⟩
 ·show (if a<σ.length then a else a+1)<(if b<σ.length then b else b+1)
  split <;> split <;> omega
 ·simp only[ren,Nat.lt_irrefl,if_false]
 ·simp[QR]
 ·rcases ZB l σ.length with hlt | hge
  ·rw[QE hlt] at h
   exact .inl ⟨hlt,h,by rw[QE hlt];exact h⟩
  ·rw[QS hge] at h
   have h0:l-σ.length=0:=by
    rcases XF (l-σ.length) with h1 | h1
    ·exact h1
    ·rw[QN (by simp;omega)] at h;cases h
   have hle:l=σ.length:=by omega
   subst hle
   simp only[Nat.sub_self,List.getElem?_cons_zero,Option.some.injEq] at h
   subst h
   refine .inr ⟨objI _ _,?_⟩
   rw[renI]
   simp
theorem B8 (d:Dy):E5 d []=TH d:=by
 unfold E5 TH
 rw[show (tolL d.ls.length [] ([]:List Int).length).2=0 from rfl,ZV]
 refine V6 _ _ _ _ fun k hk=>?_
 have:gI (tolL d.ls.length [] ([]:List Int).length).1 k = -1:=by
  show gI (List.replicate d.ls.length (-1)) k = -1
  unfold gI;simp[hk]
 rw[this];rfl
structure NxH (d:Dy) (acc:AV) (L:List Int) (H:List AObj):Prop where
 r0:rowOf H 0=some [.cv (minR d.mi),.cv (lesR d.ls)]
 r1:rowOf H 1=some [acc]
 r2:rowOf H 2=some [.i (TH d)]
 a:VH 3 1 H acc L.length (L.map (.int .i64))
 len:3≤H.length
theorem NxH.app {d:Dy} {acc:AV} {L:List Int} {H:List AObj} (h:NxH d acc L H) (J:List AObj):NxH d acc L (H++J) :=
 ⟨ZH h.r0 J,ZH h.r1 J,ZH h.r2 J,h.a.imp id fun ⟨l,h1,h2,h3,h4⟩=>⟨l,h1,h2,h3,ZH h4 J⟩,by have:=h.len;simp;omega⟩
theorem NxH.loop {d:Dy} {acc:AV} {L:List Int} {H:List AObj} (h:NxH d acc L H) {N:Nat} {r r':XC} (hN:3≤N) (hl:H[N]? = some (.loop r)):NxH d acc L (H.set N (.loop r')):=by
 have hne:∀ l cs,rowOf H l=some cs→N≠l:=fun l cs h e=>by
  subst e
  rw[rowOf,hl] at h;cases h
 refine ⟨by rw[QX (by omega)];exact h.r0,by rw[QX (by omega)];exact h.r1,by rw[QX (by omega)];exact h.r2,h.a.imp id fun ⟨l,h1,h2,h3,h4⟩=>⟨l,h1,h2,h3,by rw[QX (hne l _ h4)];exact h4⟩,by simpa using h.len⟩
theorem NxH.push {d:Dy} {acc:AV} {L:List Int} {H:List AObj} (h:NxH d acc L H) (hL:L.length≤100) (z:Int) :
  ∃ (v':AV) (σ':List AObj),ZX 1 8 [acc,.sl H.length 0 1 1] (H++[.cells [.i z]])=some (v',σ')∧v'.isUndef=false∧v'.isSc=true∧cellsOf v'=[v']∧rowOf σ' 1=some [acc]∧NxH d v' (L++[z]) (σ'.set 1 (.cells [v']))∧∀ (i:Nat) (r:XC),H[i]? = some (.loop r)→(σ'.set 1 (.cells [v']))[i]? = some (.loop r):=by
 have h44:(2:Nat) ^ 44=17592186044416:=by decide
 obtain ⟨v',σ',h1,h2,h3,h4⟩:=K3 (by_:=8) (x:=[.int .i64 z]) h.len h.a rfl (by omega) (by omega)
 have hloop:∀ (i:Nat) (r:XC),H[i]? = some (.loop r)→σ'[i]? = some (.loop r):=by
  intro i r hi
  have hil:=(QH.1 hi).1
  rcases h.a with ⟨rfl,_,_⟩ | ⟨l,g1,rfl,g3,g4⟩
  ·have hnm:∀ J,(H++J)[i]? = some (.loop r):=fun J=>by rw[QE hil];exact hi
   simp only[ZX,QB] at h1
   obtain ⟨new,_,n,_,h1⟩:=h1
   split at h1
   ·cases h1;exact hnm _
   ·split at h1
    ·cases h1;rw[QW];exact hnm _
    ·cases h1
  ·have hne:l≠i:=fun e=>by subst e;rw[rowOf,hi] at g4;cases g4
   simp only[ZX,QB] at h1
   obtain ⟨cs,_,new,_,n,_,h1⟩:=h1
   split at h1
   ·cases h1
    rw[QE (by simp;omega),QU hne,QE hil]
    exact hi
   ·cases h1
 have hrow:∀ l cs,l<3→rowOf H l=some cs→rowOf σ' l=some cs:=fun l cs hl hr=>by
  rw[rowOf,h3 l hl];exact hr
 have hlen:=h.len
 refine ⟨v',σ',h1,h2.nu.1,h2.nu.2.1,h2.nu.2.2,hrow 1 _ (by omega) h.r1,⟨by rw[QX (by omega)];exact hrow 0 _ (by omega) h.r0,W0 (hrow 1 _ (by omega) h.r1),by rw[QX (by omega)];exact hrow 2 _ (by omega) h.r2,?_,by simp;omega⟩,fun i r hi=>?_⟩
 ·rw[QM,ZS]
  exact h2.imp id fun ⟨l,g1,g2,g3,g4⟩=>⟨l,g1,g2,g3,by rw[QX (by omega)];exact g4⟩
 ·have:1≠i:=fun e=>by
   subst e
   have:=h.r1;rw[rowOf,hi] at this;cases this
  rw[QU this]
  exact hloop i r hi
theorem Qex (G:List AObj) (z:Int):ZX 1 8 [.cv .nils,.sl G.length 0 1 1] (G++[.cells [.i z]])=some (.sl (G.length+1) 0 1 1,G++[.cells [.i z],.cells [.i z]]):=by
 have hs:Z9 (G++[AObj.cells [.i z]]) 1 (.sl G.length 0 1 1)=some [.i z]:=by
  simp only[Z9,if_true,WW,HE,Option.bind_some]
  rfl
 have h1:1*1=[AV.i z].length∧1*8≤2 ^ 44∧1≤2 ^ 44∧[AV.i z].all AV.isSc=true:=⟨rfl,by decide,by decide,rfl⟩
 simp only[ZX,hs,lenF,Option.bind_some]
 rw[if_neg (by decide),if_pos h1]
 simp
theorem clone_sl (G:List AObj) {L:List Int} (hl:L.length≤100) (z:Int):ZX 1 8 [.sl G.length 0 L.length 1,.sl (G.length+1) 0 1 1] (G++[.cells (L.map AV.i),.cells [.i z]])=some (.sl (G.length+2) 0 (L.length+1) 1,G++[.dead,.cells [.i z],.cells ((L++[z]).map AV.i)]):=by
 have hs:Z9 (G++[AObj.cells (L.map AV.i),.cells [.i z]]) 1 (.sl (G.length+1) 0 1 1)=some [.i z]:=by
  simp only[Z9,if_true,X9,MK,HE,Option.bind_some]
  rfl
 have h44:(2:Nat) ^ 44=17592186044416:=by decide
 have h1:True∧L.length*1≤(L.map AV.i).length∧1*1=[AV.i z].length∧(L.length+1)*8≤2 ^ 44∧L.length+1≤2 ^ 44∧[AV.i z].all AV.isSc=true:=⟨trivial,by simp,rfl,by omega,by omega,rfl⟩
 simp only[ZX,WW,HE,hs,lenF,Option.bind_some]
 rw[if_pos h1,VW]
 simp[Q5]
theorem le75 (d:Dy) (hd:DyOk d):PC Tryz.prog 75 [dyV d] (ints (nxtL d)):=by
 refine ⟨ZF (fok75 true) (QC rfl) ?_,rfl⟩
 have h12:=hd.l12
 obtain ⟨bef0,hm0⟩:=le79 d hd [] (QF _) (fun i h=>absurd h (W5 _))
 rw[B8] at hm0
 simp only[ic75,WI,cellsOf,evA,simprocAttr]
 refine hm0.call frz ?_
 simp only[evA,simprocAttr]
 refine ZW d.ls.length (fun i s=>∃ L B acc H v4 v5 v6 v9 v10 v11 v12 v13,(NxSt d i L B∨(d.ls.length=0∧i=0∧L=[]))∧NxH d acc L H∧s=⟨[dyV d,.ptr 0 0,.ptr 1 0,.ptr 2 0,v4,v5,v6,.i d.ls.length,.i i,v9,v10,v11,v12,v13],H⟩) ?_ 0 (QF _) ⟨[],fun _=>false,.cv .nils,_,_,_,_,_,_,_,_,_,(by
  rcases XF d.ls.length with h | h
  ·exact .inr ⟨h,rfl,rfl⟩
  ·exact .inl (Qeh h)),⟨rfl,rfl,rfl,.inl ⟨rfl,rfl,rfl⟩,QC rfl⟩,rfl⟩
 rintro i s hi ⟨L,B,acc,H,v4,v5,v6,v9,v10,v11,v12,v13,hst,hH,rfl⟩
 by_cases hin:i<d.ls.length
 ·have hst:NxSt d i L B:=by
   rcases hst with h | h
   ·exact h
   ·omega
  have hLl:=hst.len
  have hp63:(2:Nat) ^ 63=9223372036854775808:=by decide
  have r0:=fun J=>ZH hH.r0 J
  simp only[ic75l0,QJ,hin,hH.r0,evA,simprocAttr]
  refine (le74 d i).call ?_
  simp only[evA,simprocAttr]
  refine RW_g ia75 ib75 (gf:=121) (cap:=[.cv (.rp [minR d.mi,lesR d.ls] 0),.cv (.rp [.int .i64 i] 0)]) rfl (QC rfl) (fun l h=>by cases h) ca75 cb75 ?_
  intro R hR
  simp only[evA,simprocAttr] at hR ⊢
  have hNl:(H++[AObj.loop R])[H.length]? = some (.loop R):=by simp
  obtain ⟨C,hC⟩:∃ C,C=XQ (J2 (canB d) d.ls.length (d.ls.length-i-1) i B) d.ls.length 0:=⟨_,rfl⟩
  refine (Qdd d hd hin H.length (fun k τ=>NxH d acc L τ∧τ[H.length]? = some (.loop R)∧H.length+1≤τ.length∧XQ (J2 (canB d) d.ls.length (d.ls.length-i-1) i B) (d.ls.length-k) k=C)
   (fun τ=>0≤C∧∃ acc',NxH d acc' (L++[C]) τ∧τ[H.length]? = some (.loop (A8 R 1))) _ (by simp) ⟨hH.app _,hNl,by simp,hC.symm⟩ ?_ ?_).mono ?_
  ·rintro k τ hk hc ⟨h1,h2,h3,h4⟩
   refine ⟨h1,h2,h3,?_⟩
   obtain ⟨m,hm⟩:∃ m,d.ls.length-k=m+1:=⟨d.ls.length-k-1,by omega⟩
   rw[hm] at h4
   have hn:J2 (canB d) d.ls.length (d.ls.length-i-1) i B k=false:=by unfold J2;rw[hc];rfl
   rw[XQ,if_neg (by rw[hn];decide)] at h4
   rw[show d.ls.length-(k+1)=m by omega]
   exact h4
  ·rintro k τ hk hc ⟨h1,h2,h3,h4⟩ h5
   obtain ⟨m,hm⟩:∃ m,d.ls.length-k=m+1:=⟨d.ls.length-k-1,by omega⟩
   have hm2:d.ls.length-(k+1)=m:=by omega
   rw[hm,XQ] at h4
   refine YC_g hR h2 rfl (by decide) ?_
   have x24:vs75.idxOf? 24=some 11:=by decide
   simp only[ia75,JM,x24,QW,QM,WW,X9,VW,EZ,Qau,CH,get_nz,get_ns,evA,simprocAttr]
   refine Qan hR h2 ?_
   have g1:=h1.loop hH.len h2 (r':=KB R)
   have g2:(τ.set H.length (.loop (KB R)))[H.length]? = some (.loop (KB R)):=by simp[ZO];omega
   have g3:(τ.set H.length (.loop (KB R))).length=τ.length:=by simp
   simp only
   generalize hG:τ.set H.length (AObj.loop (KB R))=G at g1 g2 g3 ⊢
   simp only[ib75,g1.r1,evA,simprocAttr]
   refine (le76 L k (by omega)).call (.cons (GI g1.a.acc (fun _ _=>trivial)) (.cons (.c (.c _ trivial)) .nil)) ?_
   have hback:∀ J,(G++J).set H.length (.loop R)=G.set H.length (.loop R)++J:=fun J=>by rw[YG _ _ (by omega)]
   have cont:∀ J,XQ (J2 (canB d) d.ls.length (d.ls.length-i-1) i B) m (k+1)=C→∃ τ2 J',(G++J).set H.length (.loop R)=τ2++J'∧H.length+1≤τ2.length∧(J'=[]∨∀ o∈τ2,Z3 τ2.length o=true)∧NxH d acc L τ2∧τ2[H.length]? = some (.loop R)∧H.length+1≤τ2.length∧XQ (J2 (canB d) d.ls.length (d.ls.length-i-1) i B) (d.ls.length-(k+1)) (k+1)=C:=fun J h =>
    ⟨G.set H.length (.loop R)++J,[],by rw[hback,ZU],by simp;omega,.inl rfl,(g1.loop hH.len g2).app J,by rw[QE (by simp;omega)];simp[ZO];omega,by simp;omega,by rw[hm2];exact h⟩
   cases hcon:L.contains (k:Int) with
   | true =>
    have hn:J2 (canB d) d.ls.length (d.ls.length-i-1) i B k=false:=by
     unfold J2;rw[hst.bb k hk,hcon,hc];rfl
    rw[if_neg (by rw[hn];decide)] at h4
    simp only[evA,simprocAttr]
    refine RU hR g2 ?_
    have:=cont [] h4
    rw[ZU] at this
    exact .inl ⟨rfl,by simpa using this⟩
   | false =>
   have htest:=Qei hst hin hk hc hcon
   have hltL:∀ j,j<(L++[(k:Int)]).length→gI (L++[(k:Int)]) j<(d.ls.length:Int):=fun j _=>by
    rw[Qct]
    have:=hst.lt j
    split
    ·exact this
    ·split <;> omega
   obtain ⟨bef1,hm1⟩:=le79 d hd (L++[(k:Int)]) (by simp[hst.len];omega) hltL
   simp only[evA,simprocAttr]
   have e0:∀ J:List AObj,(G++J)[0]? = G[0]? := fun J=>QE (by omega)
   have g4:=g1.len
   have e2:∀ J:List AObj,(G++J)[1]? = G[1]? := fun J=>QE (by omega)
   have hacc:=g1.a
   rcases hacc with ⟨rfl,hL0,_⟩ | ⟨l,hl3,rfl,_,hrow⟩
   ·have hLn:L=[]:=ZT hL0
    refine DW_s [6] [(0,2),(0,4),(0,5),(1,4),(2,4),(4,2)] hmix (by kernel_rfl) rfl ?_
    simp only[g1.r0,g1.r1,evA,simprocAttr]
    refine MS (v:=.cv .nils) (τ:=G) (le87n G) (GH rfl rfl fun l o h1 h2=>absurd h1 h2) ?_
    simp only[Qex,evA,simprocAttr]
    refine YE (v:=.tup [ints bef1,.i (E5 d (L++[(k:Int)]))]) (hm1.call (.cons (GE (k:=0) _ rfl) (.cons (U4 (fun _=>trivial) (by rw[hLn];rfl) (by rw[X9,hLn];rfl)) .nil)) ⟨rfl,rfl⟩) rfl ?_
    obtain ⟨Q,hQ⟩:∃ Q,Q=G++[.cells [.i k],.cells [.i k]]:=⟨_,rfl⟩
    have q0:Q[0]? = G[0]? := by rw[hQ];exact e0 _
    have q00:Q[1]? = G[1]? := by rw[hQ];exact e2 _
    have q1:NxH d (.cv .nils) L Q:=by rw[hQ];exact g1.app _
    have q2:Q[H.length]? = some (.loop (KB R)):=by rw[hQ,QE (by omega)];exact g2
    have q3:XQ (J2 (canB d) d.ls.length (d.ls.length-i-1) i B) m (k+1)=C→∃ τ2 J',Q.set H.length (.loop R)=τ2++J'∧H.length+1≤τ2.length∧(J'=[]∨∀ o∈τ2,Z3 τ2.length o=true)∧NxH d (.cv .nils) L τ2∧τ2[H.length]? = some (.loop R)∧H.length+1≤τ2.length∧XQ (J2 (canB d) d.ls.length (d.ls.length-i-1) i B) (d.ls.length-(k+1)) (k+1)=C:=fun h=>by rw[hQ];exact cont _ h
    rw[← hQ]
    clear hQ
    simp only[e0,e2,q0,q00,q1.r2,htest,evA,simprocAttr]
    cases hcd:J2 (canB d) d.ls.length (d.ls.length-i-1) i B k with
    | false =>
     rw[hcd,if_neg (by decide)] at h4
     simp only[evA,simprocAttr]
     exact RU hR q2 (.inl ⟨rfl,q3 h4⟩)
    | true =>
     rw[hcd,if_pos rfl] at h4
     obtain ⟨v',σ',p1,p2,p3,p3b,p4,p5,p6⟩:=q1.push (by omega) (k:Int)
     simp only[q1.r1,p1,p2,p3,p3b,p4,evA,simprocAttr]
     refine Qdg (p6 _ _ q2) (.inr ⟨rfl,by omega,v',?_,?_⟩)
     ·rw[← h4]
      exact p5.loop hH.len (p6 _ _ q2)
     ·have:=(QH.1 (p6 _ _ q2)).1
      rw[Z2 this]
   ·refine DW_s [6] [(0,2),(0,4),(0,5),(1,4),(2,4),(4,2)] hmix (by kernel_rfl) rfl ?_
    simp only[g1.r0,g1.r1,evA,simprocAttr]
    rw[XW] at hrow
    refine MS (v:=.sl G.length 0 L.length 1) (τ:=G++[.cells (L.map AV.i)]) ?_ ?_ ?_
    ·exact le87t (by omega) hrow
    ·refine ⟨by simp[QR],by simp,fun l2 o h1 h2=>?_⟩
     rcases ZB l2 G.length with hlt | hge
     ·rw[QE hlt] at h1;exact absurd h1 h2
     ·rw[QS hge] at h1
      have ho:o=.cells (L.map AV.i):=by
       have:=QZ h1
       simpa using this
      subst ho
      exact ⟨objI _ _,fun _=>trivial⟩
    simp only[QW,QM,evA,simprocAttr]
    simp only[clone_sl G (show L.length≤100 by omega),evA,simprocAttr]
    refine YE (v:=.tup [ints bef1,.i (E5 d (L++[(k:Int)]))]) (hm1.call (.cons (GE (k:=0) _ rfl) (.cons (U4 (fun _=>trivial) (by simp) (by rw[X9];rfl)) .nil)) ⟨rfl,rfl⟩) rfl ?_
    obtain ⟨Q,hQ⟩:∃ Q,Q=G++[.dead,.cells [.i k],.cells ((L++[(k:Int)]).map AV.i)]:=⟨_,rfl⟩
    have q0:Q[0]? = G[0]? := by rw[hQ];exact e0 _
    have q00:Q[1]? = G[1]? := by rw[hQ];exact e2 _
    have q1:NxH d (.sl l 0 L.length 1) L Q:=by rw[hQ];exact g1.app _
    have q2:Q[H.length]? = some (.loop (KB R)):=by rw[hQ,QE (by omega)];exact g2
    have q3:XQ (J2 (canB d) d.ls.length (d.ls.length-i-1) i B) m (k+1)=C→∃ τ2 J',Q.set H.length (.loop R)=τ2++J'∧H.length+1≤τ2.length∧(J'=[]∨∀ o∈τ2,Z3 τ2.length o=true)∧NxH d (.sl l 0 L.length 1) L τ2∧τ2[H.length]? = some (.loop R)∧H.length+1≤τ2.length∧XQ (J2 (canB d) d.ls.length (d.ls.length-i-1) i B) (d.ls.length-(k+1)) (k+1)=C:=fun h=>by rw[hQ];exact cont _ h
    rw[← hQ]
    clear hQ
    simp only[e0,e2,q0,q00,q1.r2,htest,evA,simprocAttr]
    refine ⟨by rw[QN (by simp),QN (by omega)],?_⟩
    cases hcd:J2 (canB d) d.ls.length (d.ls.length-i-1) i B k with
    | false =>
     rw[hcd,if_neg (by decide)] at h4
     simp only[evA,simprocAttr]
     exact RU hR q2 (.inl ⟨rfl,q3 h4⟩)
    | true =>
     rw[hcd,if_pos rfl] at h4
     obtain ⟨v',σ',p1,p2,p3,p3b,p4,p5,p6⟩:=q1.push (by omega) (k:Int)
     simp only[q1.r1,p1,p2,p3,p3b,p4,evA,simprocAttr]
     refine Qdg (p6 _ _ q2) (.inr ⟨rfl,by omega,v',?_,?_⟩)
     ·rw[← h4]
      exact p5.loop hH.len (p6 _ _ q2)
     ·have:=(QH.1 (p6 _ _ q2)).1
      rw[Z2 this]
  ·rintro r τ ⟨rfl,h | h⟩
   ·obtain ⟨h1,h2,h3,h4⟩:=h
    rw[Nat.sub_self] at h4
    have hC1:C = -1:=h4.symm
    have hs:=AB hst hin
    rw[← hC,hC1] at hs
    refine M9 hR h2 ?_
    have g1:=h1.loop hH.len h2 (r':=Qby R)
    generalize τ.set H.length (.loop (Qby R))=G at g1
    obtain ⟨v',σ',p1,p2,p3,p3b,p4,p5,p6⟩:=g1.push (by omega) (-1)
    simp only[g1.r1,p1,p2,p3,p3b,p4,Q6 (show i+1<2 ^ 63 by omega),evA,simprocAttr]
    exact ZL (by first | trivial | omega) ⟨_,_,_,_,_,_,_,_,_,_,_,_,.inl hs,p5,rfl⟩
   ·obtain ⟨h0,acc',h1,h2⟩:=h
    have hs:=AB hst hin
    rw[← hC] at hs
    refine after_x (R:=R) h2 (QbM ?_)
    have g1:=h1.loop hH.len h2 (r':={ A8 R 1 with state:=.exhausted,pending:=some (.exit 1) })
    generalize τ.set H.length (.loop { A8 R 1 with state:=.exhausted,pending:=some (.exit 1) })=G at g1
    simp only[Q6 (show i+1<2 ^ 63 by omega),evA,simprocAttr]
    exact ZL (by first | trivial | omega) ⟨_,_,_,_,_,_,_,_,_,_,_,_,.inl hs,g1,rfl⟩
 ·have hin':i=d.ls.length:=by omega
  have hL:L=nxtL d:=by
   rcases hst with h | ⟨h1,h2,h3⟩
   ·have:=h.tl
    rw[hin',Nat.sub_self] at this
    simpa[nxL] using this.symm
   ·rw[h3]
    unfold nxtL
    rw[h1]
    rfl
  have hnu:=hH.a.nu
  have hset:rowOf (H.set 1 (.cells [acc])) 1=some [acc]:=W0 hH.r1
  subst hin'
  simp only[ic75l0,QJ,hin,hH.r1,hnu,hset,evA,simprocAttr]
  rw[← hL]
  exact GI (p:=scl) (e:=1) (hH.a.imp id fun ⟨l,h1,h2,h3,h4⟩=>⟨l,h2,h3,by rw[QX (by omega)];exact h4⟩) (sclI _)
def ia78:IC:=(.region [jw 4 .mv [.v 9]])
def ib78:IC:=(.block 3 (.region [jL 2,jL 3,jv 4,jq (.build [(.cv (.int .i64 0)),(.cv (.int .i64 0))] [(0,1),(1,1)]) [.t 1,.t 2],jq (.bslice 2 1 [(.cv (.int .i64 0)),(.cv (.int .i64 0))] [(0,2)]) [.t 3],jq (.append 2 16) [.t 0,.t 4],jq (.store 1) [.v 2,.t 5]]))
theorem ca78:QL Tryz.prog vs78 24 (nav [1,0,1,0,0,1,1,0,0,1,1,0,2] (Tryz.f78.body.getD .skip))=some ia78:=by kernel_rfl
theorem cb78:QL Tryz.prog vs78 24 (nav [1,0,1,0,0,1,1,0,0,1,1,0,3] (Tryz.f78.body.getD .skip))=some ib78:=by kernel_rfl
def prsK (d:Dy) (i k:Nat):List (Nat × Nat):=((List.range k).filter (canB d i)).map fun j=>(i,j)
def prsL (d:Dy) (i:Nat):List (Nat × Nat):=(List.range i).flatMap fun a=>prsK d a d.ls.length
abbrev prC (p:Nat × Nat):List CV:=[.int .i64 (p.1:Nat),.int .i64 (p.2:Nat)]
theorem S8 (d:Dy) (i k:Nat):prsK d i (k+1)=prsK d i k++if canB d i k=true then [(i,k)] else []:=by
 unfold prsK
 rw[WM,List.filter_append,ZS]
 congr 1
 by_cases h:canB d i k=true <;> simp[h]
theorem Qbc (d:Dy) (i k:Nat):(prsK d i k).length≤k:=by
 unfold prsK
 rw[ZK]
 have:=HC (canB d i) (List.range k)
 simpa using this
theorem S7 (d:Dy) (i:Nat):prsL d (i+1)=prsL d i++prsK d i d.ls.length:=by
 unfold prsL
 rw[WM,List.flatMap_append]
 simp
theorem IV (d:Dy):∀ i,(prsL d i).length≤i*d.ls.length
 | 0=>by simp[prsL]
 | i+1=>by
  rw[S7,QM,XJ]
  have:=IV d i
  have:=Qbc d i d.ls.length
  omega
theorem QbK {b e by_ n:Nat} {σ:List AObj} {v:AV} {cs x:List CV} (hb0:b≤σ.length) (h:VH b e σ v n cs) (hx:x.length=e) (hb:(n+1)*by_≤2 ^ 44) (hn:n+1≤2 ^ 44) :
  ∃ (v':AV) (σ':List AObj),ZX e by_ [v,.sl σ.length 0 1 e] (σ++[AObj.cells (x.map .cv)])=some (v',σ')∧VH b e σ' v' (n+1) (cs++x)∧(∀ i,i<b→σ'[i]? = σ[i]?)∧σ.length≤σ'.length∧∀ (i:Nat) (o:AObj),σ[i]? = some o→(∀ c,o=.cells c→c.length≠n*e)→σ'[i]? = some o:=by
 obtain ⟨v',σ',h1,h2,h3,h4⟩:=K3 (by_:=by_) hb0 h hx hb hn
 refine ⟨v',σ',h1,h2,h3,h4,fun i o hi ho=>?_⟩
 have hil:=(QH.1 hi).1
 rcases h with ⟨rfl,_,_⟩ | ⟨l,g1,rfl,g3,g4⟩
 ·have hnm:∀ J,(σ++J)[i]? = some o:=fun J=>by rw[QE hil];exact hi
  simp only[ZX,QB] at h1
  obtain ⟨new,_,m,_,h1⟩:=h1
  split at h1
  ·cases h1;exact hnm _
  ·split at h1
   ·cases h1;rw[QW];exact hnm _
   ·cases h1
 ·have hne:l≠i:=fun e=>by
   subst e
   have:=WO g4
   rw[hi] at this
   cases this
   exact ho _ rfl (by simp[g3])
  simp only[ZX,QB] at h1
  obtain ⟨cs,_,new,_,m,_,h1⟩:=h1
  split at h1
  ·cases h1
   rw[QE (by simp;omega),QU hne,QE hil]
   exact hi
  ·cases h1
structure PrH (d:Dy) (acc:AV) (ps:List (Nat × Nat)) (H:List AObj):Prop where
 r0:rowOf H 0=some [.cv (minR d.mi),.cv (lesR d.ls)]
 r1:rowOf H 1=some [acc]
 a:VH 2 2 H acc ps.length (ps.flatMap prC)
 len:2≤H.length
theorem PrH.app {d:Dy} {acc:AV} {ps:List (Nat × Nat)} {H:List AObj} (h:PrH d acc ps H) (J:List AObj):PrH d acc ps (H++J) :=
 ⟨ZH h.r0 J,ZH h.r1 J,h.a.imp id fun ⟨l,h1,h2,h3,h4⟩=>⟨l,h1,h2,h3,ZH h4 J⟩,by have:=h.len;simp;omega⟩
theorem PrH.loop {d:Dy} {acc:AV} {ps:List (Nat × Nat)} {H:List AObj} (h:PrH d acc ps H) {N:Nat} {r r':XC} (hN:2≤N) (hl:H[N]? = some (.loop r)):PrH d acc ps (H.set N (.loop r')):=by
 have hne:∀ l cs,rowOf H l=some cs→N≠l:=fun l cs h e=>by
  subst e
  rw[rowOf,hl] at h;cases h
 refine ⟨by rw[QX (by omega)];exact h.r0,by rw[QX (by omega)];exact h.r1,h.a.imp id fun ⟨l,h1,h2,h3,h4⟩=>⟨l,h1,h2,h3,by rw[QX (hne l _ h4)];exact h4⟩,by simpa using h.len⟩
theorem le78 (d:Dy) (hd:DyOk d):PC Tryz.prog 78 [dyV d] (.cv (.rsl ((prsL d d.ls.length).flatMap prC) (prsL d d.ls.length).length)):=by
 have h12:=hd.l12
 refine ⟨ZF (fok78 true) (QC rfl) ?_,rfl⟩
 simp only[ic78,WI,cellsOf,evA,simprocAttr]
 refine ZW d.ls.length (fun i s=>∃ acc H v3 v4 v7 v8 v9,PrH d acc (prsL d i) H∧s=⟨[dyV d,.ptr 0 0,.ptr 1 0,v3,v4,.i d.ls.length,.i i,v7,v8,v9],H⟩) ?_ 0 (QF _) ⟨.cv .nils,_,_,_,_,_,_,⟨rfl,rfl,.inl ⟨rfl,rfl,rfl⟩,QC rfl⟩,rfl⟩
 rintro i s hi ⟨acc,H,v3,v4,v7,v8,v9,hH,rfl⟩
 by_cases hin:i<d.ls.length
 ·have hpl:=IV d i
  have hp12:i*d.ls.length≤12*12:=Nat.mul_le_mul (by omega) h12
  have hp44:(2:Nat) ^ 44=17592186044416:=by decide
  have hp63:(2:Nat) ^ 63=9223372036854775808:=by decide
  have hH1:=hH.app [.cells [.i i]]
  have hlen:=hH.len
  simp only[ic78l0,QJ,hin,WW,VW,hH1.r0,evA,simprocAttr]
  refine (le74 d i).call ?_
  simp only[evA,simprocAttr]
  refine RW_g ia78 ib78 (gf:=121) (cap:=[.cv (.rp [minR d.mi,lesR d.ls] 0),.cv (.rp [.int .i64 i] 0)]) rfl (QC rfl) (fun l h=>by cases h) ca78 cb78 ?_
  intro R hR
  simp only[QW,QM,evA,simprocAttr] at hR ⊢
  refine (Qdd d hd hin (H.length+1) (fun k τ=>∃ acc',PrH d acc' (prsL d i++prsK d i k) τ∧τ[H.length]? = some (.cells [.i i])∧τ[H.length+1]? = some (.loop R)∧H.length+2≤τ.length) (fun _=>False) _ (by simp) ⟨acc,by rw[show prsK d i 0=[] from rfl,ZU];exact hH.app _,by simp,by simp,by simp⟩ ?_ ?_).mono ?_
  ·rintro k τ hk hc ⟨acc',h1,h2,h3,h4⟩
   refine ⟨acc',?_,h2,h3,h4⟩
   rw[S8,if_neg (by rw[hc];decide),ZU]
   exact h1
  ·rintro k τ hk hc ⟨acc',h1,h2,h3,h4⟩ _
   have hpk:=Qbc d i k
   refine YC_g hR h3 rfl (by decide) ?_
   have x15:vs78.idxOf? 15=some 9:=by decide
   simp only[ia78,JM,x15,QW,QM,WW,X9,VW,EZ,Qau,CH,get_nz,get_ns,evA,simprocAttr]
   refine Qan hR h3 ?_
   have g1:=h1.loop (N:=H.length+1) (by omega) h3 (r':=KB R)
   have g2:(τ.set (H.length+1) (.loop (KB R)))[H.length]? = some (.cells [.i i]):=by rw[QU (by omega)];exact h2
   have g3:(τ.set (H.length+1) (.loop (KB R)))[H.length+1]? = some (.loop (KB R)):=Z2 (by omega)
   have g4:(τ.set (H.length+1) (.loop (KB R))).length=τ.length:=by simp
   simp only
   generalize τ.set (H.length+1) (AObj.loop (KB R))=G at g1 g2 g3 g4 ⊢
   have g5:rowOf G H.length=some [.i i]:=by rw[rowOf,g2]
   obtain ⟨v',σ',p1,p2,p3,p4,p5⟩:=QbK (by_:=16) (x:=prC (i,k)) g1.len g1.a rfl (by rw[QM];omega) (by rw[QM];omega)
   have pn:=p2.nu
   have q1:rowOf σ' 1=some [acc']:=by rw[rowOf,p3 1 (by omega)];exact g1.r1
   simp only[Q0,WS] at p1
   simp only[ib78,g1.r1,g5,p1,pn,q1,evA,simprocAttr]
   have q2:(σ'.set 1 (.cells [v']))[H.length+1]? = some (.loop (KB R)):=by
    rw[QU (by omega)]
    exact p5 _ _ g3 (fun c h=>by cases h)
   have q3:(σ'.set 1 (.cells [v']))[H.length]? = some (.cells [.i i]):=by
    rw[QU (by omega)]
    exact p5 _ _ g2 (fun c h=>by cases h;simp;omega)
   refine RU hR q2 (.inl ⟨rfl,_,[],(ZU _).symm,by simp;omega,.inl rfl,v',?_,by rw[QU (by omega)];exact q3,Z2 (by simp;omega),by simp;omega⟩)
   have q4:PrH d v' (prsL d i++prsK d i (k+1)) (σ'.set 1 (.cells [v'])):=by
    rw[S8,if_pos hc,← QW]
    refine ⟨by rw[QX (by omega),rowOf,p3 0 (by omega)];exact g1.r0,W0 q1,?_,by simp;omega⟩
    rw[QM,List.flatMap_append]
    exact p2.imp id fun ⟨l,a1,a2,a3,a4⟩=>⟨l,a1,a2,a3,by rw[QX (by omega)];exact a4⟩
   exact q4.loop (by omega) q2
  ·rintro r τ ⟨rfl,h | h⟩
   ·obtain ⟨acc',h1,h2,h3,h4⟩:=h
    refine M9 hR h3 ?_
    have g1:=h1.loop (N:=H.length+1) (by omega) h3 (r':=Qby R)
    generalize τ.set (H.length+1) (.loop (Qby R))=G at g1
    rw[← S7] at g1
    simp only[Q6 (show i+1<2 ^ 63 by omega),evA,simprocAttr]
    exact ZL (by first | trivial | omega) ⟨_,_,_,_,_,_,_,g1,rfl⟩
   ·exact h.elim
 ·have hin':i=d.ls.length:=by omega
  have hnu:=hH.a.nu
  have hset:rowOf (H.set 1 (.cells [acc])) 1=some [acc]:=W0 hH.r1
  subst hin'
  simp only[ic78l0,QJ,hin,hnu,hH.r1,hset,evA,simprocAttr]
  refine GI (p:=scl) (e:=2) (hH.a.imp id fun ⟨l,h1,h2,h3,h4⟩=>⟨l,h2,h3,by rw[QX (by omega)];exact h4⟩) fun c hc=>?_
  obtain ⟨q,_,hq⟩:=YM.1 hc
  simp only[prC,ZD,WK,or_false] at hq
  rcases hq with rfl | rfl <;> trivial
theorem le129 (x y:Int):PC Tryz.prog 129 [.i x,.i y] (.b (decide (x<y))):=by
 refine ⟨ZF (fok129 true) (QC rfl) ?_,rfl⟩
 simp only[ic129,evA,simprocAttr]
 refine (c117 x).call frz ?_
 simp only[evA,simprocAttr]
 exact frz
theorem le85 (zs:List Int) (hz:zs.length<2 ^ 45):∃ b:Bool,(b=true↔∀ i,i+1<zs.length→gI zs i≤gI zs (i+1))∧PC Tryz.prog 85 [ints zs] (.b b):=by
 have hp:(2:Nat) ^ 45=35184372088832:=by decide
 by_cases hs:∀ i,i+1<zs.length→gI zs i≤gI zs (i+1)
 ·refine ⟨true,by simpa using hs,ZF (fok85 true) (QC rfl) ?_,rfl⟩
  have hw:IntKind.i64.wrap ((zs.length:Int)-1)=(zs.length:Int)-1:=ZC (by omega)
  simp only[ic85,hw,evA,simprocAttr]
  refine ZW zs.length (fun t s=>∃ v3 v4,s=⟨[ints zs,.b false,.i ((zs.length:Int)-1-t),v3,v4],[]⟩) ?_ 0 (QF _) ⟨.undef,.undef,by simp⟩
  rintro t s ht ⟨v3,v4,rfl⟩
  by_cases h:t+1<zs.length
  ·obtain ⟨i,hi⟩:∃ i:Nat,zs.length=t+1+(i+1):=⟨zs.length-t-2,by omega⟩
   have hb:decide ((zs.length:Int)-1-t>0)=true:=decide_eq_true (by omega)
   have he:(zs.length:Int)-1-t=((i+1:Nat):Int):=by omega
   have hw1:IntKind.i64.wrap (((i+1:Nat):Int)-1)=(i:Int):=by rw[ZC (by omega)];omega
   have hi1:i+1<zs.length:=by omega
   have hi0:i<zs.length:=by omega
   have hlt:decide (zs[i+1]?.getD 0<zs[i]?.getD 0)=false:=decide_eq_false (by have:=hs i hi1;show ¬ gI zs (i+1)<gI zs i;omega)
   have he2:((i:Nat):Int)=(zs.length:Int)-1-((t+1:Nat):Int):=by omega
   rw[he] at hb ⊢
   simp only[ic85l0,hb,evA,simprocAttr]
   refine DW_s [9] [] hmix (by kernel_rfl) rfl ?_
   simp only[hw1,J5 hi1,J4 hi1,J5 hi0,J4 hi0,WA,evA,simprocAttr]
   refine YE ((le129 _ _).call frz ⟨rfl,rfl⟩) rfl ?_
   simp only[hlt,hw1,evA,simprocAttr]
   refine ZL (by omega) ⟨.b true,.b false,?_⟩
   rw[← he2]
  ·have hb:decide ((zs.length:Int)-1-t>0)=false:=decide_eq_false (by omega)
   simp only[ic85l0,hb,evA,simprocAttr]
   exact frz
 ·have hex:∃ i,i+1<zs.length∧gI zs (i+1)<gI zs i∧∀ j,i<j→j+1<zs.length→gI zs j≤gI zs (j+1):=by
   have key:∀ m,(∀ j,m≤j→j+1<zs.length→gI zs j≤gI zs (j+1))∨∃ i,i+1<zs.length∧gI zs (i+1)<gI zs i∧∀ j,i<j→j+1<zs.length→gI zs j≤gI zs (j+1):=by
    intro m
    have gen:∀ t m,zs.length-m=t→(∀ j,m≤j→j+1<zs.length→gI zs j≤gI zs (j+1))∨∃ i,i+1<zs.length∧gI zs (i+1)<gI zs i∧∀ j,i<j→j+1<zs.length→gI zs j≤gI zs (j+1):=by
     intro t
     induction t with
     | zero=>intro m hm;exact .inl fun j h1 h2=>by omega
     | succ t ih =>
      intro m hm
      rcases ih (m+1) (by omega) with h | h
      ·by_cases hle:m+1<zs.length∧gI zs (m+1)<gI zs m
       ·exact .inr ⟨m,hle.1,hle.2,fun j hj=>h j (by omega)⟩
       ·refine .inl fun j h1 h2=>?_
        rcases Nat.eq_or_lt_of_le h1 with rfl | h3
        ·rcases Int.lt_or_le (gI zs (m+1)) (gI zs m) with h4 | h4
         ·exact absurd ⟨h2,h4⟩ hle
         ·exact h4
        ·exact h j h3 h2
      ·exact .inr h
    exact gen _ m rfl
   rcases key 0 with h | h
   ·exact absurd (fun i hi=>h i (QF _) hi) hs
   ·exact h
  obtain ⟨q,hq1,hq2,hq3⟩:=hex
  refine ⟨false,by simpa using hs,ZF (fok85 true) (QC rfl) ?_,rfl⟩
  have hw:IntKind.i64.wrap ((zs.length:Int)-1)=(zs.length:Int)-1:=ZC (by omega)
  simp only[ic85,hw,evA,simprocAttr]
  refine ZW (zs.length-q-2) (fun t s=>∃ v3 v4,s=⟨[ints zs,.b false,.i ((zs.length:Int)-1-t),v3,v4],[]⟩) ?_ 0 (QF _) ⟨.undef,.undef,by simp⟩
  rintro t s ht ⟨v3,v4,rfl⟩
  obtain ⟨i,hi⟩:∃ i:Nat,zs.length=t+1+(i+1):=⟨zs.length-t-2,by omega⟩
  have hb:decide (((i+1:Nat):Int)>0)=true:=decide_eq_true (by omega)
  have he:(zs.length:Int)-1-t=((i+1:Nat):Int):=by omega
  have hw1:IntKind.i64.wrap (((i+1:Nat):Int)-1)=(i:Int):=by rw[ZC (by omega)];omega
  have hi1:i+1<zs.length:=by omega
  have hi0:i<zs.length:=by omega
  have he2:((i:Nat):Int)=(zs.length:Int)-1-((t+1:Nat):Int):=by omega
  rw[he]
  simp only[ic85l0,hb,evA,simprocAttr]
  refine DW_s [9] [] hmix (by kernel_rfl) rfl ?_
  simp only[hw1,J5 hi1,J4 hi1,J5 hi0,J4 hi0,WA,evA,simprocAttr]
  refine YE ((le129 _ _).call frz ⟨rfl,rfl⟩) rfl ?_
  by_cases h:t<zs.length-q-2
  ·have hlt:decide (zs[i+1]?.getD 0<zs[i]?.getD 0)=false:=decide_eq_false (by have:=hq3 i (by omega) hi1;show ¬ gI zs (i+1)<gI zs i;omega)
   simp only[hlt,hw1,evA,simprocAttr]
   refine ZL h ⟨.b true,.b false,?_⟩
   rw[← he2]
  ·have hiq:i=q:=by omega
   subst hiq
   have hlt:decide (zs[i+1]?.getD 0<zs[i]?.getD 0)=true:=decide_eq_true hq2
   simp only[hlt,evA,simprocAttr]
   exact frz
theorem TA {p:Nat→Bool}:∀ (m off:Nat) (zs:List Int),∃ ws:List Int,setRange (zs.map AV.i) off (List.replicate m (.i 0))=ws.map AV.i∧ws.length=zs.length
 | 0,off,zs=>⟨zs,rfl,rfl⟩
 | m+1,off,zs=>by
  obtain ⟨ws,h1,h2⟩:=TA (p:=p) m (off+1) (zs.set off 0)
  refine ⟨ws,?_,by simpa using h2⟩
  rw[List.replicate_succ,BQ,← h1,List.map_set]
theorem le86 {σ:List AObj} {p:Nat} (zs:List Int) (hz:zs.length≤2 ^ 44) (hr:rowOf σ p=some (zs.map AV.i)) :
  AC Tryz.prog 86 [.sl p 0 zs.length 1] σ fun r τ=>((∀ i,i+1<zs.length→gI zs i≠gI zs (i+1))∧r=.sl p 0 zs.length 1∧τ=σ)∨((∃ i,i+1<zs.length∧gI zs i=gI zs (i+1))∧∃ (k:Nat) (ws:List Int),k<zs.length∧r=.sl p 0 k 1∧τ=σ.set p (.cells (ws.map AV.i))):=by
 have hp:(2:Nat) ^ 44=17592186044416:=by decide
 have hpl:=(QH.1 (WO hr)).1
 refine ZF (fok86 true) (QC rfl) ?_
 by_cases h2:(zs.length:Int)<2
 ·simp only[ic86,h2,evA,simprocAttr]
  exact .inl fun i hi=>by omega
 simp only[ic86,h2,evA,simprocAttr]
 refine ZW zs.length (fun t s=>(∀ i,i<t→i+1<zs.length→gI zs i≠gI zs (i+1))∧∃ v3 v4 v6 v7 v8 v9,s=⟨[.sl p 0 zs.length 1,.cv .nils,.i (t+1:Nat),v3,v4,.b false,v6,v7,v8,v9],σ⟩) ?_ 0 (QF _) ⟨fun i hi=>absurd hi (W5 _),_,_,_,_,_,_,rfl⟩
 rintro t s ht ⟨hall,v3,v4,v6,v7,v8,v9,rfl⟩
 have hcond:(((t+1:Nat):Int)<zs.length)↔t+1<zs.length:=QJ
 by_cases h:t+1<zs.length
 ·have hd:decide (((t+1:Nat):Int)<zs.length)=true:=decide_eq_true (hcond.2 h)
  have ht0:t<zs.length:=by omega
  have hw1:IntKind.i64.wrap (((t+1:Nat):Int)-1)=(t:Int):=by rw[ZC (by omega)];omega
  have ld1:=V1 h
  have ld0:=V1 ht0
  simp only[ic86l1,hd,evA,simprocAttr]
  refine DW_s [] [] hmix (by kernel_rfl) rfl ?_
  simp only[hw1,W9 h,W9 ht0,hr,ZV,ld1,ld0,evA,simprocAttr]
  by_cases heq:gI zs t=gI zs (t+1)
  ·have hb:(zs[t+1]?.getD 0 == zs[t]?.getD 0)=true:=beq_iff_eq.2 heq.symm
   have hsl:=BP (l:=p) h
   have hset0:σ=σ.set p (.cells (zs.map AV.i)):=by
    apply Z1
    intro j
    rw[ZO]
    by_cases hj:p=j
    ·subst hj;rw[if_pos rfl,if_pos hpl];exact WO hr
    ·rw[if_neg hj]
   simp only[hb,hsl,evA,simprocAttr]
   refine ZW (zs.length-(t+1)-1) (fun m s=>∃ (k:Nat) (ws:List Int) (v8 v9:AV),ws.length=zs.length∧k≤t+1+m∧t+1≤k∧(k=t+1∨k+1≤t+1+(m+1))∧s=⟨[.sl p 0 zs.length 1,.cv .nils,.i k,.sl p (t+1) (zs.length-(t+1)) 1,.i (m+1:Nat),.b false,.b true,.b true,v8,v9],σ.set p (.cells (ws.map AV.i))⟩) ?_ 0 (QF _) ⟨t+1,zs,_,_,rfl,by omega,by omega,.inl rfl,by rw[← hset0];rfl⟩
   rintro m s hm ⟨k,ws,v8,v9,hwl,hk1,hk2,hk3,rfl⟩
   have hrw:rowOf (σ.set p (.cells (ws.map AV.i))) p=some (ws.map AV.i):=W0 hr
   by_cases hml:m+1<zs.length-(t+1)
   ·have hd2:decide (((m+1:Nat):Int)<(zs.length-(t+1):Nat))=true:=decide_eq_true (QJ.2 hml)
    have hm0:m<zs.length-(t+1):=by omega
    have hw2:IntKind.i64.wrap (((m+1:Nat):Int)-1)=(m:Int):=by rw[ZC (by omega)];omega
    have hw3:IntKind.i64.wrap (((m+1:Nat):Int)+1)=((m+1+1:Nat):Int):=by rw[ZC (by omega)];omega
    have l1:=V1 (zs:=ws) (k:=t+1+(m+1)) (by omega)
    have l0:=V1 (zs:=ws) (k:=t+1+m) (by omega)
    simp only[ic86l0,hd2,evA,simprocAttr]
    refine DW_s [] [] hmix (by kernel_rfl) rfl ?_
    simp only[hw2,W9 hml,W9 hm0,hrw,l1,l0,evA,simprocAttr]
    cases hne:(ws[t+1+(m+1)]?.getD 0 != ws[t+1+m]?.getD 0) with
    | true =>
     have hkl:k<zs.length:=by omega
     have hkw:k+1≤ws.length:=by omega
     have hw4:IntKind.i64.wrap ((k:Int)+1)=((k+1:Nat):Int):=by rw[ZC (by omega)];omega
     simp only[W9 hml,W9 hkl,hrw,l1,ZV,ZK,hkw,GC,List.set_set,hw4,hw3,evA,simprocAttr]
     exact ZL (by omega) ⟨k+1,ws.set k _,_,_,by simp[hwl],by omega,by omega,.inr (by omega),rfl⟩
    | false =>
     simp only[hw3,evA,simprocAttr]
     exact ZL (by omega) ⟨k,ws,_,_,hwl,by omega,by omega,(by omega),rfl⟩
   ·have hd2:decide (((m+1:Nat):Int)<(zs.length-(t+1):Nat))=false:=decide_eq_false fun h=>hml (QJ.1 h)
    have hkn:k<zs.length:=by omega
    obtain ⟨us,u1,u2⟩:=TA (p:=fun _=>true) (zs.length-k) k ws
    have hcl:UN [.i 0] [.sl p k (zs.length-k) 1] (σ.set p (.cells (ws.map AV.i)))=some (.tup [],σ.set p (.cells (us.map AV.i))):=by
     have c1:1=[AV.i 0].length∧k+(zs.length-k)*1≤(ws.map AV.i).length∧[AV.i 0].all AV.isSc=true:=⟨rfl,by simp;omega,rfl⟩
     simp only[UN,hrw,Option.bind_some]
     rw[if_pos c1]
     simp only[YW]
     rw[u1,List.set_set]
    simp only[ic86l0,hd2,BP hkn,hcl,Qb1 (Nat.le_of_lt hkn),evA,simprocAttr]
    exact .inr ⟨⟨t,h,heq⟩,k,us,hkn,rfl,rfl⟩
  ·have hb:(zs[t+1]?.getD 0 == zs[t]?.getD 0)=false:=beq_eq_false_iff_ne.2 fun h=>heq h.symm
   have hw3:IntKind.i64.wrap (((t+1:Nat):Int)+1)=((t+1+1:Nat):Int):=by rw[ZC (by omega)];omega
   simp only[hb,hw3,evA,simprocAttr]
   refine ZL (by omega) ⟨fun i hi hl=>?_,_,_,_,_,_,_,rfl⟩
   rcases QQ.1 hi with hi | rfl
   ·exact hall i hi hl
   ·exact heq
 ·have hd:decide (((t+1:Nat):Int)<zs.length)=false:=decide_eq_false fun h'=>h (hcond.1 h')
  simp only[ic86l1,hd,evA,simprocAttr]
  exact .inl fun i hi=>hall i (by omega) hi
theorem le86n (σ:List AObj):AC Tryz.prog 86 [.cv .nils] σ fun r τ=>r=.cv .nils∧τ=σ:=by
 refine ZF (fok86 true) (QC rfl) ?_
 simp only[ic86,evA,simprocAttr]
def prCs (ps:List (Nat × Nat)):List CV:=ps.flatMap prC
theorem Qd4 (p:Nat × Nat):(prC p).length=2:=rfl
theorem prCs_len (l:List (Nat × Nat)):(prCs l).length=l.length*2:=UG Qd4 l
theorem pr_ld {l:List (Nat × Nat)} {k:Nat} (h:k<l.length) (σ:List AObj):YF 2 [.cv (.rp (prCs l) (k*2))] σ=some (.agg [.i ((l[k]!).1:Nat),.i ((l[k]!).2:Nat)],σ):=by
 have h1:k*2+2≤(prCs l).length:=by rw[prCs_len];omega
 have h2:=G3 Qd4 h
 simp only[YF,h1,if_true]
 unfold prCs;rw[h2];rfl
theorem LC {d:Dy} {p:Nat × Nat}:p∈prsL d d.ls.length↔p.1<d.ls.length∧p.2<d.ls.length∧canB d p.1 p.2=true:=by
 unfold prsL prsK
 simp only[YM,ZI,ZP,YB]
 constructor
 ·rintro ⟨a,ha,j,⟨hj,hc⟩,rfl⟩
  exact ⟨ha,hj,hc⟩
 ·rintro ⟨h1,h2,h3⟩
  exact ⟨p.1,h1,p.2,⟨h2,h3⟩,rfl⟩
def opnP (p q:List Int) (x:Nat × Nat):Bool:=!p.contains (x.1:Int) && !q.contains (x.2:Int)
def SlV (v:AV) (zs:List Int):Prop:=(v=ints zs∧zs≠[])∨(v=.cv .nils∧zs=[])
theorem SlV.frz {v:AV} {zs:List Int} (h:SlV v zs) (σ:List AObj):FrzV anyC σ v (ints zs):=by
 rcases h with ⟨rfl,_⟩ | ⟨rfl,rfl⟩
 ·exact .c (.c _ trivial)
 ·exact RY
theorem le89 {p q:List Int} {pv qv:CV} (hp:SlV (.cv pv) p) (hq:SlV (.cv qv) q) (lp:p.length<2 ^ 63) (lq:q.length<2 ^ 63) (x:Nat × Nat) (σ:List AObj):AC Tryz.prog 89 [.agg [.i (x.1:Nat),.i (x.2:Nat)],.cv (.rp [pv] 0),.cv (.rp [qv] 0)] σ fun r τ=>r=.b (opnP p q x)∧τ=σ:=by
 refine AC.cutF ?_ rfl
 refine ZF (fok89 true) (QC rfl) ?_
 simp only[ic89,WI,cellsOf,WW,evA,simprocAttr]
 refine (le76 p x.1 lp).call (.cons (hp.frz _) (.cons (.c (.c _ trivial)) .nil)) ?_
 unfold opnP
 cases h1:p.contains (x.1:Int) with
 | true =>
  simp only[Y2,Bool.false_and,evA,simprocAttr]
  exact ⟨_,rfl⟩
 | false =>
  simp only[ZY,XI,WW,evA,simprocAttr]
  refine (le76 q x.2 lq).call (.cons (hq.frz _) (.cons (.c (.c _ trivial)) .nil)) ?_
  simp only[evA,simprocAttr]
  exact ⟨_,rfl⟩
theorem le130 (ps:List (Nat × Nat)) (fv:AV) (g:Nat × Nat→Bool) (hz:ps.length<2 ^ 63) (hf:∀ x σ,X0 Tryz.prog fv [.agg [.i (x.1:Nat),.i (x.2:Nat)]] σ fun r τ=>r=.b (g x)∧τ=σ) (σ:List AObj) :
  AC Tryz.prog 130 [.cv (.rsl (prCs ps) ps.length),fv] σ fun r τ=>(∃ z:Int,r=.i z∧decide (z≥0)=ps.any g)∧τ=σ:=by
 refine ZF (fok130 true) (QC rfl) ?_
 simp only[ic130,evA,simprocAttr]
 refine ZW ps.length (fun i s=>(∀ j,j<i→g ps[j]! = false)∧∃ v2 v3 v6 v7,s=⟨[.cv (.rsl (prCs ps) ps.length),fv,v2,v3,.i ps.length,.i i,v6,v7],σ⟩) ?_ 0 (QF _) ⟨by omega,_,_,_,_,rfl⟩
 rintro i s hi ⟨hall,v2,v3,v6,v7,rfl⟩
 by_cases h:i<ps.length
 ·simp only[ic130l0,QJ,h,XP h,pr_ld h,evA,simprocAttr]
  refine (hf _ _).run ?_
  cases hp:g ps[i]!
  ·simp only[evA,simprocAttr]
   refine ZL (by first | trivial | omega) ⟨fun j hj=>?_,_,_,_,_,by rw[ZC (by omega)];rfl⟩
   rcases QQ.1 hj with hj | rfl
   ·exact hall j hj
   ·exact hp
  ·simp only[evA,simprocAttr]
   have:ps.any g=true:=ZZ.2 ⟨ps[i]!,by rw[getElem!_pos ps i h];exact Q2 _,hp⟩
   rw[this];exact decide_eq_true (by omega)
 ·have:i=ps.length:=by omega
  subst this
  simp only[ic130l0,QJ,h,evA,simprocAttr]
  have:ps.any g=false:=by
   rw[W6]
   intro x hx
   obtain ⟨j,hj,rfl⟩:=WN.1 hx
   have:=hall j hj
   rw[getElem!_pos ps j hj] at this
   rw[this];decide
  rw[this]
theorem le88 (ps:List (Nat × Nat)) (fv:AV) (g:Nat × Nat→Bool) (hz:ps.length<2 ^ 63) (hf:∀ x σ,X0 Tryz.prog fv [.agg [.i (x.1:Nat),.i (x.2:Nat)]] σ fun r τ=>r=.b (g x)∧τ=σ) (σ:List AObj) :
  AC Tryz.prog 88 [.cv (.rsl (prCs ps) ps.length),fv] σ fun r τ=>r=.b (ps.any g)∧τ=σ:=by
 refine ZF (fok88 true) (QC rfl) ?_
 simp only[ic88,evA,simprocAttr]
 refine (le130 ps fv g hz hf _).mono ?_
 rintro r τ ⟨⟨z,rfl,hz⟩,rfl⟩
 simp only[hz,evA,simprocAttr]
theorem le87c {v:AV} {zs:List Int} (h:SlV v zs) (hl:zs.length<2 ^ 40) (σ:List AObj):AC Tryz.prog 87 [v] σ fun r τ=>(r=.cv .nils∧zs=[]∧τ=σ)∨(zs≠[]∧r=.sl (σ.length+1) 0 zs.length 1∧τ=σ++[.dead,.cells (zs.map AV.i)]):=by
 rcases h with ⟨rfl,hne⟩ | ⟨rfl,rfl⟩
 ·refine ZF (fok87 true) (QC rfl) ?_
  obtain ⟨m,hm⟩:∃ m,zs.length=m+1:=⟨zs.length-1,by have:=List.length_pos_iff.2 hne;omega⟩
  have hb:binF .eql .slc (ints zs) (.cv .nils)=some (.b false):=by
   unfold ints
   rw[hm]
   rfl
  have h40:(2:Nat) ^ 40=1099511627776:=by decide
  have ha:ZX 1 8 [.sl σ.length 0 0 1,ints zs] (σ++[.cells []])=some (.sl (σ.length+1) 0 zs.length 1,σ++[.dead,.cells (zs.map AV.i)]):=by
   have hs:Z9 (σ++[AObj.cells []]) 1 (ints zs)=some (zs.map AV.i):=by
    simp only[Z9,ZK,W3,if_true,XW]
    rfl
   have h2:True∧0*1≤([]:List AV).length∧zs.length*1=(zs.map AV.i).length∧(0+zs.length)*8≤2 ^ 44∧0+zs.length≤2 ^ 44∧(zs.map AV.i).all AV.isSc=true:=by
    have:(2:Nat) ^ 44=17592186044416:=by decide
    exact ⟨trivial,by simp,by simp,by omega,by omega,Qa3 zs⟩
   simp only[ZX,WW,HE,hs,lenF,Option.bind_some]
   rw[if_pos h2,VW]
   simp
  simp only[ic87,hb,ha,evA,simprocAttr]
  exact .inr hne
 ·exact (le87n σ).mono fun r τ ⟨h1,h2⟩=>.inl ⟨h1,rfl,h2⟩
theorem BW {zs:List Int}:HT zs=true↔∀ i,i+1<zs.length→gI zs i<gI zs (i+1):=by
 unfold HT
 rw[Q1]
 constructor
 ·intro h i hi
  exact of_decide_eq_true (h i (by simp;omega))
 ·intro h i hi
  have:i<zs.length-1:=by simpa using hi
  exact decide_eq_true (h i (by omega))
theorem open_any (d:Dy) (p q:List Int):openB d p q=(prsL d d.ls.length).any (opnP p q):=by
 unfold openB opnP
 rw[Q8]
 simp only[ZZ,ZI,QD,LC,Prod.exists]
 constructor
 ·rintro ⟨i,hi,k,hk,⟨hc,h1⟩,h2⟩
  exact ⟨i,k,⟨hi,hk,hc⟩,h1,h2⟩
 ·rintro ⟨i,k,⟨hi,hk,hc⟩,h1,h2⟩
  exact ⟨i,hi,k,hk,⟨hc,h1⟩,h2⟩
theorem Qad (x:Int):(if x>0 then x else 0)=max 0 x:=by split <;> omega
theorem le33 (d:Dy) (hd:DSz d) {p q:List Int} {pv qv:CV} (hp:SlV (.cv pv) p) (hq:SlV (.cv qv) q) (lp:p.length<2 ^ 39) (lq:q.length<2 ^ 39):PC Tryz.prog 33 [dyV d,.cv pv,.cv qv] (proA d p q):=by
 have h39:(2:Nat) ^ 39=549755813888:=by decide
 have h44:(2:Nat) ^ 44=17592186044416:=by decide
 have h45:(2:Nat) ^ 45=35184372088832:=by decide
 have h40:(2:Nat) ^ 40=1099511627776:=by decide
 have h63:(2:Nat) ^ 63=9223372036854775808:=by decide
 refine ⟨ZF (fok33 true) (QC rfl) ?_,rfl⟩
 simp only[ic33,WI,cellsOf,evA,simprocAttr]
 refine (le72 d hd).call ?_
 unfold proA proL
 by_cases he:(dyE d).2.2=0
 ·have hb:((dyE d).2.2 != 0)=false:=by simpa using he
  have hok:=LO he
  have h12:=hok.l12
  have hw:IntKind.i64.wrap ((d.ls.length:Int)-1)=(d.ls.length:Int)-1:=ZC (by omega)
  rw[if_neg (fun h=>h he)]
  simp only[hb,he,hw,evA,simprocAttr]
  refine (le63 0 ((d.ls.length:Int)-1) p (by omega)).call (.cons (.c (.c _ trivial)) (.cons (.c (.c _ trivial)) (.cons (hp.frz _) .nil))) ?_
  cases h1:outF 0 ((d.ls.length:Int)-1) p with
  | true =>
   simp only[US,evA,simprocAttr]
   exact frz
  | false =>
  simp only[Y3,evA,simprocAttr]
  refine (le63 0 ((d.ls.length:Int)-1) q (by omega)).call (.cons (.c (.c _ trivial)) (.cons (.c (.c _ trivial)) (.cons (hq.frz _) .nil))) ?_
  cases h2:outF 0 ((d.ls.length:Int)-1) q with
  | true =>
   simp only[evA,simprocAttr]
   exact frz
  | false =>
  simp only[evA,simprocAttr]
  have rise_of:∀ zs:List Int,(∀ i,i+1<zs.length→gI zs i≤gI zs (i+1))→(∀ i,i+1<zs.length→gI zs i≠gI zs (i+1))→HT zs=true:=fun zs a b=>BW.2 fun i hi=>by
   have:=a i hi
   have:=b i hi
   omega
  have hnr:∀ zs:List Int,(zs=p∨zs=q)→HT zs=false→(HT p&&HT q)=false:=by
   rintro zs (rfl | rfl) h <;> simp[h]
  refine ZW 2 (fun i s=>(1≤i→HT p=true)∧(2≤i→HT q=true)∧∃ v10 v16 v17,s=⟨[dyV d,.cv pv,.cv qv,.ptr 0 0,.ptr 1 0,.ptr 2 0,.i 0,.i 0,.ptr 3 0,.i ((d.ls.length:Int)-1),v10,.b false,.b false,.sl 4 0 2 1,.i 2,.i i,v16,v17,.undef],[.cells [.cv (minR d.mi),.cv (lesR d.ls)],.cells [.cv pv],.cells [.cv qv],.cells [.cv (minR d.mi),.cv (lesR d.ls)],.cells [.cv pv,.cv qv]]⟩) ?_ 0 (QF _) ⟨by omega,by omega,_,_,_,rfl⟩
  rintro i s hi ⟨hi1,hi2,v10,v16,v17,rfl⟩
  have hob:∀ o∈[AObj.cells [.cv (minR d.mi),.cv (lesR d.ls)],.cells [.cv pv],.cells [.cv qv],.cells [.cv (minR d.mi),.cv (lesR d.ls)],.cells [.cv pv,.cv qv]],Z3 5 o=true:=by
   intro o ho
   simp only[ZD,WK,or_false] at ho
   rcases ho with rfl | rfl | rfl | rfl | rfl <;> rfl
  by_cases h:i<2
  ·obtain ⟨v,zs,g1,g2,g3,g4,g5⟩:∃ (v:CV) (zs:List Int),([AV.cv pv,.cv qv])[i]? = some (.cv v)∧SlV (.cv v) zs∧zs.length<2 ^ 39∧(zs=p∨zs=q)∧(HT zs=true→(1≤i+1→HT p=true)∧(2≤i+1→HT q=true)):=by
    match i,h with
    | 0,_=>exact ⟨pv,p,rfl,hp,lp,.inl rfl,fun h=>⟨fun _=>h,fun h=>by omega⟩⟩
    | 1,_=>exact ⟨qv,q,rfl,hq,lq,.inr rfl,fun h=>⟨fun _=>hi1 (by omega),fun _=>h⟩⟩
   have hd:decide ((i:Int)<2)=true:=decide_eq_true (by omega)
   have hw2:IntKind.i64.wrap ((i:Int)+1)=((i+1:Nat):Int):=by rw[ZC (by omega)];rfl
   obtain ⟨b,hbi,h85⟩:=le85 zs (by omega)
   simp only[ic33l0,hd,W9 h,ZV,g1,evA,simprocAttr]
   refine h85.call (.cons (g2.frz _) .nil) ?_
   cases b with
   | false =>
    have hr:HT zs=false:=by
     cases hr:HT zs with
     | false=>rfl
     | true=>exact absurd (hbi.2 fun i hi=>Int.le_of_lt (BW.1 hr i hi)) (by decide)
    rw[if_pos (hnr zs g4 hr)]
    simp only[ZY,evA,simprocAttr]
    exact frz
   | true =>
   simp only[Y2,evA,simprocAttr]
   refine (le87c g2 (by omega) _).mono ?_
   rintro r τ (⟨rfl,hz,rfl⟩ | ⟨hne,rfl,rfl⟩)
   ·rcases g2 with ⟨_,hn⟩ | ⟨hv,_⟩
    ·exact absurd hz hn
    cases hv
    simp only[evA,simprocAttr]
    refine (le86n _).run ?_
    simp only[hw2,evA,simprocAttr]
    have hr:HT zs=true:=by rw[hz];rfl
    exact ZL (by first | trivial | omega) ⟨fun _=>(g5 hr).1 (by omega),fun _=>(g5 hr).2 (by omega),_,_,_,rfl⟩
   ·rcases g2 with ⟨hv,_⟩ | ⟨_,hn⟩
    ·cases hv
     simp only[evA,simprocAttr]
     refine (le86 (p:=6) zs (by omega) rfl).mono ?_
     rintro r τ (⟨ha,rfl,rfl⟩ | ⟨⟨j,hj,he2⟩,k,ws,hk,rfl,rfl⟩)
     ·have hlt:decide ((zs.length:Int)<zs.length)=false:=decide_eq_false (by omega)
      simp only[hlt,hw2,evA,simprocAttr]
      have hr:=rise_of zs (hbi.1 rfl) ha
      refine W1 [.cells [.cv (minR d.mi),.cv (lesR d.ls)],.cells [.cv pv],.cells [.cv qv],.cells [.cv (minR d.mi),.cv (lesR d.ls)],.cells [.cv pv,.cv qv]] _ rfl (by first | trivial | omega) (QF _) hob ⟨fun _=>(g5 hr).1 (by omega),fun _=>(g5 hr).2 (by omega),_,_,_,rfl⟩
     ·have hlt:decide ((k:Int)<zs.length)=true:=decide_eq_true (by omega)
      have hr:HT zs=false:=by
       cases hr:HT zs with
       | false=>rfl
       | true=>have:=BW.1 hr j hj;omega
      rw[if_pos (hnr zs g4 hr)]
      simp only[hlt,evA,simprocAttr]
      exact frz
    ·exact absurd hn hne
  ·have hie:i=2:=by omega
   subst hie
   have r1:=hi1 (by omega)
   have r2:=hi2 (by omega)
   rw[r1,r2,if_neg (by decide),open_any]
   simp only[ic33l0,evA,simprocAttr]
   refine (le78 d hok).call frz ?_
   have hpl:=IV d d.ls.length
   have hpl2:d.ls.length*d.ls.length≤12*12:=Nat.mul_le_mul h12 h12
   simp only[evA,simprocAttr]
   have h88:PC Tryz.prog 88 [.cv (.rsl (prCs (prsL d d.ls.length)) (prsL d d.ls.length).length),.fn (.func 89) [.cv (.rp [pv] 0),.cv (.rp [qv] 0)]] (.b ((prsL d d.ls.length).any (opnP p q))) :=
    ⟨(le88 (prsL d d.ls.length) (.fn (.func 89) [.cv (.rp [pv] 0),.cv (.rp [qv] 0)]) (opnP p q) (by omega) (fun x σ=>le89 hp hq (by omega) (by omega) x σ) []).mono fun r τ h=>by rw[h.1];exact .c (.c _ trivial),rfl⟩
   refine h88.call (.cons (.c (.c _ trivial)) (.cons (.fn (.cons (.c (.ptr 1 0 _ _ rfl (.cons (.c _ trivial) .nil))) (.cons (.c (.ptr 2 0 _ _ rfl (.cons (.c _ trivial) .nil))) .nil))) .nil)) ?_
   cases hop:(prsL d d.ls.length).any (opnP p q) with
   | true =>
    simp only[evA,simprocAttr]
    exact frz
   | false =>
    have hw1:IntKind.i64.wrap ((d.ls.length:Int)-p.length)=(d.ls.length:Int)-p.length:=ZC (by omega)
    have hw2:IntKind.i64.wrap ((d.ls.length:Int)-p.length-q.length)=(d.ls.length:Int)-p.length-q.length:=ZC (by omega)
    rcases hp with ⟨hv,_⟩ | ⟨hv,rfl⟩ <;> rcases hq with ⟨hv2,_⟩ | ⟨hv2,rfl⟩ <;> cases hv <;> cases hv2
    ·simp only[hw1,hw2,Qad,evA,simprocAttr]
     exact .tup (.cons (.c (.c _ trivial)) (.cons (.c (.c _ trivial)) .nil))
    ·simp only[hw1,evA,simprocAttr]
     have:IntKind.i64.wrap ((d.ls.length:Int)-p.length-0)=(d.ls.length:Int)-p.length-0:=ZC (by omega)
     simp only[this,Qad,evA,simprocAttr]
     exact .tup (.cons (.c (.c _ trivial)) (.cons (.c (.c _ trivial)) .nil))
    ·have h0:IntKind.i64.wrap ((d.ls.length:Int)-0)=(d.ls.length:Int)-0:=ZC (by omega)
     have h1:IntKind.i64.wrap ((d.ls.length:Int)-0-q.length)=(d.ls.length:Int)-0-q.length:=ZC (by omega)
     simp only[h0,h1,Qad,evA,simprocAttr]
     exact .tup (.cons (.c (.c _ trivial)) (.cons (.c (.c _ trivial)) .nil))
    ·have h0:IntKind.i64.wrap ((d.ls.length:Int)-0)=(d.ls.length:Int)-0:=ZC (by omega)
     have h1:IntKind.i64.wrap ((d.ls.length:Int)-0-0)=(d.ls.length:Int)-0-0:=ZC (by omega)
     simp only[h0,h1,Qad,evA,simprocAttr]
     exact .tup (.cons (.c (.c _ trivial)) (.cons (.c (.c _ trivial)) .nil))
 ·have hb:((dyE d).2.2 != 0)=true:=by simpa using he
  rw[if_pos he]
  simp only[hb,evA,simprocAttr]
  exact frz
theorem aw_few:fewL exP [2,1,1]=([2,3,3],600,0):=by decide +kernel
theorem aw_flo:floL exP [2,1,1] [1000,0,1000]=(3,0):=by decide +kernel
theorem aw_flo2:floL exP [2,1,1] [600,500,0]=(0,2):=by decide +kernel
theorem QdI:(dyE exD).2.2=0:=by decide +kernel
theorem aw_fol:folL exD=[[1,3],[3],[3],[]]:=by decide +kernel
theorem aw_cha:chaL exD=[[0,1,3],[2]]:=by decide +kernel
theorem aw_bef:cvBef exD=[]:=by decide +kernel
theorem aw_beh:cvBeh exD=[1,3]:=by decide +kernel
theorem aw_pro:proL exD [0] [3]=(2,0):=by decide +kernel
theorem aw_pln:plnE exL=0:=by decide +kernel
theorem aw_brk:brL exL=(5,1,2):=by decide +kernel
theorem aw_h1:hrF (·.le) exL.le.length exL.day.ls exL.day.ls.length=[60,60,45,60]:=by decide +kernel
theorem aw_h2:hrF (·.te) exL.te.length exL.day.ls exL.day.ls.length=[225]:=by decide +kernel
theorem aw_h3:hrF (·.ca) exL.ca.length exL.day.ls exL.day.ls.length=[60,60,45,60]:=by decide +kernel
theorem exDz:DSz exD:=⟨by decide,by decide,by decide +kernel⟩
theorem exSz:SSz exS:=⟨by decide,by decide,by decide +kernel,by decide +kernel,by decide +kernel⟩
theorem exLz:PSz exL:=⟨exSz,by decide,by decide,by decide,by decide +kernel,exDz⟩
end Go.Proofs.YtgkidpolomhghaaGreatDoor.AM
namespace Go.Proofs.YtgkidpolomhghaaGreatDoor.AM
open Go
def FO:List Int:=[0,1,56,2,57,49,28,3,61,58,42,50,38,29,17,4,62,47,59,36,45,43,51,22,53,39,33,30,24,18,12,5,63,55,48,27,60,41,37,16,46,35,44,21,52,32,23,11,54,26,40,15,34,20,31,10,25,14,19,9,13,8,7,6]
instance drLes:Dr:=⟨False,[(1,FO.map (.int .u8))]⟩
abbrev vs155:List Nat:=[0,2,4]
def ic155:IC:=(.seq (.region [jz 1 0])
 (.seq (.seq (.region [jv 0,jw 2 (.bin .eql .int) [.t 0,.c (.cv (.int .u64 0))]])
 (.cond 2 (.seq (.region [jz 1 64])
 .ret)
 .skip))
 (.seq (.region [jv 0,jv 0,jq (.bin .sub .int) [.t 1],jq (.bin .and .int) [.t 0,.t 2],jq (.bin .mul .int) [.t 3,.c (.cv (.int .u64 285870213051353865))],jq (.bin .shr .int) [.t 4,.c (.cv (.int .u64 58))],jq (.iaA 64 1) [.c (.cv (.rp (FO.map (.int .u8)) 0)),.t 5],jl 6,jq (.conv .i64) [.t 7],jm 1 8])
 .ret)))
abbrev rs155:List RC:=[(.v 1)]
theorem fok155 (p:Bool):FnOk Tryz.prog 155 ⟨ic155,vs155,14,rs155,p⟩:=.mk2 Tryz.func155 (by kernel_rfl) (by kernel_rfl) (by kernel_rfl) (by kernel_rfl) (by kernel_rfl)
end Go.Proofs.YtgkidpolomhghaaGreatDoor.AM
namespace Go.Proofs.YtgkidpolomhghaaGreatDoor.AM
open Go Pl
def W64 (n:Nat):Nat:=n % 18446744073709551616
theorem FM (a:Nat):IntKind.u64.wrap (a:Int)=((W64 a:Nat):Int):=by
 unfold IntKind.wrap W64
 simp[IntKind.bits,IntKind.signed]
theorem uand (a b:Nat):IntKind.u64.wrap ((BitVec.ofInt IntKind.u64.bits (a:Int) &&& BitVec.ofInt IntKind.u64.bits (b:Int)).toNat:Int)=((W64 a &&& W64 b:Nat):Int):=by
 show IntKind.u64.wrap (((BitVec.ofInt 64 (a:Int) &&& BitVec.ofInt 64 (b:Int)).toNat:Nat):Int)=_
 rw[BitVec.ofInt_natCast,BitVec.ofInt_natCast,FM,BitVec.toNat_and,BitVec.toNat_ofNat,BitVec.toNat_ofNat]
 show ((W64 (W64 a &&& W64 b):Nat):Int)=_
 congr 1
 refine Nat.mod_eq_of_lt (WJ Nat.and_le_left ?_)
 exact Nat.mod_lt _ (by decide)
theorem uadd (a b:Nat):IntKind.u64.wrap ((a:Int)+(b:Int))=((W64 (a+b):Nat):Int):=FM (a+b)
theorem umul (a b:Nat):IntKind.u64.wrap ((a:Int)*(b:Int))=((W64 (a*b):Nat):Int):=FM (a*b)
theorem uneg (a:Nat):IntKind.u64.wrap (0-(a:Int))=((W64 (18446744073709551616-W64 a):Nat):Int):=by
 unfold IntKind.wrap W64
 simp only[IntKind.bits,IntKind.signed,Bool.false_and,QT,if_false]
 omega
theorem ushr (a k:Nat) (hk:k≤64):VK .shr .u64 (a:Int) (k:Int)=some (.cv (.int .u64 ((a >>> k:Nat):Int))):=by
 have h0:¬ ((k:Int)<0):=by omega
 have h1:min (k:Int).toNat IntKind.u64.bits=k:=by rw[Int.toNat_natCast];exact VD hk
 simp only[VK]
 rw[if_neg h0,h1]
 have:(a:Int).fdiv (2 ^ k)=((a >>> k:Nat):Int):=by
  rw[Int.fdiv_eq_ediv_of_nonneg _ (Int.pow_nonneg (by decide)),JR]
  push_cast
  rfl
 rw[this]
theorem i_and127 (a:Nat):IntKind.i64.wrap ((BitVec.ofInt IntKind.i64.bits (IntKind.i64.wrap (a:Int)) &&& BitVec.ofInt IntKind.i64.bits 127).toNat:Int)=((W64 a &&& 127:Nat):Int):=by
 show IntKind.i64.wrap (((BitVec.ofInt 64 (IntKind.i64.wrap (a:Int)) &&& BitVec.ofInt 64 127).toNat:Nat):Int)=_
 have h1:BitVec.ofInt 64 (IntKind.i64.wrap (a:Int))=BitVec.ofNat 64 a:=by
  apply BitVec.eq_of_toNat_eq
  rw[BitVec.toNat_ofInt,BitVec.toNat_ofNat]
  unfold IntKind.wrap
  simp only[IntKind.bits,IntKind.signed,XI]
  split <;> omega
 have h2:BitVec.ofInt 64 127=BitVec.ofNat 64 127:=by decide
 rw[h1,h2,BitVec.toNat_and,BitVec.toNat_ofNat,BitVec.toNat_ofNat]
 show IntKind.i64.wrap (((W64 a &&& 127:Nat)):Int)=_
 have:W64 a &&& 127≤127:=Nat.and_le_right
 exact ZC (by omega)
def popN:Nat→Nat→Nat
 | 0,_=>0
 | k+1,x=>popN k x+if x.testBit k then 1 else 0
def QcL (p:Nat→Bool):Nat→Bool
 | 0=>true
 | n+1=>p n&&QcL p n
theorem C2 {p:Nat→Bool}:∀ {n:Nat},QcL p n=true→∀ x,x<n→p x=true
 | n+1,h,x,hx=>by
  rw[QcL,QD] at h
  rcases QQ.1 hx with h1 | rfl
  ·exact C2 h.2 x h1
  ·exact h.1
def p1 (x:Nat):Nat:=W64 ((W64 (x >>> 1) &&& W64 6148914691236517205)+(W64 x &&& W64 6148914691236517205))
def p2 (x:Nat):Nat:=W64 ((W64 (x >>> 2) &&& W64 3689348814741910323)+(W64 x &&& W64 3689348814741910323))
def p3 (x:Nat):Nat:=W64 (W64 (x >>> 4+x)) &&& W64 1085102592571150095
def p4 (k x:Nat):Nat:=W64 (x+x >>> k)
def popF (x:Nat):Nat:=W64 (p4 32 (p4 16 (p4 8 (p3 (p2 (p1 x)))))) &&& 127
theorem pop_chk:QcL (fun x=>Nat.beq (popF x) (popN 12 x)) 4096=true:=by decide +kernel
theorem Qdy (x:Nat):∀ k,cnt k (bit (x:Int))=popN k x
 | 0=>rfl
 | k+1=>by
  rw[cnt,popN,Qdy x k]
  rfl
theorem le127 (x:Nat) (h:x<4096):PC Tryz.prog 127 [.cv (.int .u64 x)] (.i (cnt 12 (bit x))):=by
 refine ⟨ZF (fok127 true) (QC rfl) ?_,rfl⟩
 have he:popF x=popN 12 x:=ZJ (C2 pop_chk x h)
 have s1:∀ a:Nat,VK .shr .u64 (a:Int) 1=some (.cv (.int .u64 ((a >>> 1:Nat):Int))):=fun a=>ushr a 1 (by decide)
 have s2:∀ a:Nat,VK .shr .u64 (a:Int) 2=some (.cv (.int .u64 ((a >>> 2:Nat):Int))):=fun a=>ushr a 2 (by decide)
 have s4:∀ a:Nat,VK .shr .u64 (a:Int) 4=some (.cv (.int .u64 ((a >>> 4:Nat):Int))):=fun a=>ushr a 4 (by decide)
 have s8:∀ a:Nat,VK .shr .u64 (a:Int) 8=some (.cv (.int .u64 ((a >>> 8:Nat):Int))):=fun a=>ushr a 8 (by decide)
 have s16:∀ a:Nat,VK .shr .u64 (a:Int) 16=some (.cv (.int .u64 ((a >>> 16:Nat):Int))):=fun a=>ushr a 16 (by decide)
 have s32:∀ a:Nat,VK .shr .u64 (a:Int) 32=some (.cv (.int .u64 ((a >>> 32:Nat):Int))):=fun a=>ushr a 32 (by decide)
 have m1:∀ a:Nat,IntKind.u64.wrap ((BitVec.ofInt IntKind.u64.bits (a:Int) &&& BitVec.ofInt IntKind.u64.bits 6148914691236517205).toNat:Int)=((W64 a &&& W64 6148914691236517205:Nat):Int):=fun a=>uand a 6148914691236517205
 have m2:∀ a:Nat,IntKind.u64.wrap ((BitVec.ofInt IntKind.u64.bits (a:Int) &&& BitVec.ofInt IntKind.u64.bits 3689348814741910323).toNat:Int)=((W64 a &&& W64 3689348814741910323:Nat):Int):=fun a=>uand a 3689348814741910323
 have m3:∀ a:Nat,IntKind.u64.wrap ((BitVec.ofInt IntKind.u64.bits (a:Int) &&& BitVec.ofInt IntKind.u64.bits 1085102592571150095).toNat:Int)=((W64 a &&& W64 1085102592571150095:Nat):Int):=fun a=>uand a 1085102592571150095
 rw[Qdy,← he]
 simp only[ic127,s1,s2,s4,s8,s16,s32,m1,m2,m3,uadd,i_and127,evA,simprocAttr]
 exact frz
theorem le80 (x:Nat) (h:x<4096):PC Tryz.prog 80 [.cv (.int .u64 x)] (.i (cnt 12 (bit x))):=by
 refine ⟨ZF (fok80 true) (QC rfl) ?_,rfl⟩
 simp only[ic80,evA,simprocAttr]
 refine (le127 x h).call frz ?_
 simp only[evA,simprocAttr]
 exact frz
def tzE (x:Nat):Nat:=W64 ((W64 x &&& W64 (W64 (18446744073709551616-W64 x)))*285870213051353865) >>> 58
def tzN (x:Nat):Nat:=(FO.getD (tzE x) 0).toNat
def TX:Nat→Nat→List Nat
 | 0,_=>[]
 | k+1,x=>TX k x++if x.testBit k then [k] else []
def eqL:List Nat→List Nat→Bool
 | [],[]=>true
 | a::as_,b::bs=>Nat.beq a b&&eqL as_ bs
 | _,_=>false
theorem Qdu:∀ {a b:List Nat},eqL a b=true→a=b
 | [],[],_=>rfl
 | a::as_,b::bs,h=>by
  simp only[eqL,QD] at h
  rw[ZJ h.1,Qdu h.2]
 | [],_::_,h=>by simp[eqL] at h
 | _::_,[],h=>by simp[eqL] at h
def chkT (x:Nat):Bool:=Nat.beq x 0||(Nat.blt (tzE x) 64&&eqL (TX 12 x) (tzN x::TX 12 (x &&& (x-1)))&&Nat.beq (popN 12 (x &&& (x-1))+1) (popN 12 x))
theorem tz_chk:QcL chkT 4096=true:=by decide +kernel
theorem tz_at {x:Nat} (h0:0<x) (h:x<4096):tzE x<64∧TX 12 x=tzN x::TX 12 (x &&& (x-1))∧popN 12 (x &&& (x-1))+1=popN 12 x:=by
 have h1:=C2 tz_chk x h
 unfold chkT at h1
 have h2:Nat.beq x 0=false:=by
  cases hb:Nat.beq x 0 with
  | false=>rfl
  | true=>have:=ZJ hb;omega
 rw[h2,Y3,QD,QD] at h1
 exact ⟨(Nat.blt_eq ▸ h1.1.1:tzE x<64),Qdu h1.1.2,ZJ h1.2⟩
theorem CZ (x:Nat):∀ k,YS k (bit (x:Int))=(TX k x).map fun (j:Nat)=>(j:Int)
 | 0=>rfl
 | k+1=>by
  have hb:bit (x:Int) k=x.testBit k:=rfl
  rw[ET,TX,ZS,CZ x k,hb]
  by_cases h:x.testBit k=true <;> simp[h]
theorem tab_nn:∀ z∈FO,0≤z:=by decide
theorem tab_tz {x:Nat} (h:tzE x<64):FO[tzE x]? = some ((tzN x:Nat):Int):=by
 have hl:FO.length=64:=rfl
 have hi:tzE x<FO.length:=by omega
 have hm:=tab_nn _ (Q2 hi)
 rw[QI hi]
 unfold tzN
 rw[WA,QI hi,Option.getD_some,VI hm]
theorem tz_lt (x:Nat):tzN x<64:=by
 have hz:∀ z∈FO,z<64:=by decide
 unfold tzN
 rw[WA]
 rcases ZB (tzE x) FO.length with h | h
 ·rw[QI h,Option.getD_some]
  have:=hz _ (Q2 h)
  omega
 ·rw[QN h];decide
theorem le155 (x:Nat) (h0:0<x) (h:x<4096):PC Tryz.prog 155 [.cv (.int .u64 x)] (.i (tzN x)):=by
 refine ⟨ZF (fok155 true) (QC rfl) ?_,rfl⟩
 have hb:((x:Int) == 0)=false:=beq_eq_false_iff_ne.2 (by omega)
 have s58:∀ a:Nat,VK .shr .u64 (a:Int) 58=some (.cv (.int .u64 ((a >>> 58:Nat):Int))):=fun a=>ushr a 58 (by decide)
 have hm:∀ a:Nat,IntKind.u64.wrap ((a:Int)*285870213051353865)=((W64 (a*285870213051353865):Nat):Int):=fun a=>umul a 285870213051353865
 have ht:=(tz_at h0 h).1
 have hia:∀ σ,PD 64 1 [.cv (.rp (FO.map (.int .u8)) 0),.cv (.int .u64 (tzE x:Nat))] σ=some (.cv (.rp (FO.map (.int .u8)) (tzE x)),σ):=fun σ=>by
  have h1:0≤((tzE x:Nat):Int)∧((tzE x:Nat):Int)<(64:Nat):=by omega
  simp only[PD]
  rw[if_pos h1,Int.toNat_natCast,W3,ZV]
 have hld:(FO.map (CV.int .u8))[tzE x]? = some (.int .u8 ((tzN x:Nat):Int)):=by rw[ZR,tab_tz ht];rfl
 have hw:IntKind.i64.wrap ((tzN x:Nat):Int)=((tzN x:Nat):Int):=by have:=tz_lt x;exact ZC (by omega)
 have hE:W64 ((W64 x &&& W64 (W64 (18446744073709551616-W64 x)))*285870213051353865) >>> 58=tzE x:=rfl
 simp only[ic155,hb,uneg,uand,hm,s58,hE,hia,hld,hw,evA,simprocAttr]
 exact frz
theorem le128 (x:Nat) (h0:0<x) (h:x<4096):PC Tryz.prog 128 [.cv (.int .u64 x)] (.i (tzN x)):=by
 refine ⟨ZF (fok128 true) (QC rfl) ?_,rfl⟩
 simp only[ic128,evA,simprocAttr]
 refine (le155 x h0 h).call frz ?_
 simp only[evA,simprocAttr]
 exact frz
theorem pop_le (x:Nat):∀ k,popN k x≤k
 | 0=>QG _
 | k+1=>by
  have:=pop_le x k
  unfold popN
  split <;> omega
theorem le81 (x:Nat) (h:x<4096):PC Tryz.prog 81 [.cv (.int .u64 x)] (ints (YS 12 (bit (x:Int)))):=by
 refine ⟨ZF (fok81 true) (QC rfl) ?_,rfl⟩
 simp only[ic81,evA,simprocAttr]
 refine ZW 12 (fun t s=>∃ (y:Nat) (acc:List Int) (v1 v2:AV) (H:List AObj),y<4096∧popN 12 y+t=popN 12 x∧acc++(TX 12 y).map (fun (j:Nat)=>(j:Int))=YS 12 (bit (x:Int))∧SB H v1 acc∧s=⟨[.cv (.int .u64 y),v1,v2],H⟩) ?_ 0 (QF _) ⟨x,[],_,_,_,h,rfl,by rw[CZ];rfl,.nil _,rfl⟩
 rintro t s ht ⟨y,acc,v1,v2,H,hy,hpop,hacc,hA,rfl⟩
 by_cases h0:y=0
 ·subst h0
  have hb:decide (((0:Nat):Int)>0)=false:=by decide
  simp only[ic81l0,hb,evA,simprocAttr]
  have hz:(TX 12 0).map (fun (j:Nat)=>(j:Int))=[]:=by decide
  rw[hz,ZU] at hacc
  rw[← hacc]
  exact acc_frz (fun _=>trivial) hA
 ·have hb:decide ((y:Int)>0)=true:=decide_eq_true (by omega)
  obtain ⟨t1,t2,t3⟩:=tz_at (by omega) hy
  have hal:acc.length≤12:=by
   have:=congrArg List.length hacc
   rw[QM] at this
   have:=M7 (m:=12) (p:=bit (x:Int))
   omega
  simp only[ic81l0,hb,evA,simprocAttr]
  refine (le128 y (by omega) hy).call frz ?_
  obtain ⟨v',σ',g1,g2⟩:=QdK (tzN y:Int) hA (WJ hal (by decide))
  have hs:IntKind.u64.wrap ((y:Int)-1)=((y-1:Nat):Int):=by
   have:(y:Int)-1=((y-1:Nat):Int):=by omega
   rw[this,FM]
   congr 1
   exact Nat.mod_eq_of_lt (by omega)
  have hw1:W64 y=y:=Nat.mod_eq_of_lt (by omega)
  have hw2:W64 (y-1)=y-1:=Nat.mod_eq_of_lt (by omega)
  simp only[g1,hs,uand,hw1,hw2,evA,simprocAttr]
  have:=pop_le x 12
  refine ZL (by omega) ⟨y &&& (y-1),acc++[(tzN y:Int)],v',_,σ',WJ Nat.and_le_left hy,by omega,?_,g2,rfl⟩
  rw[← hacc,t2]
  simp
def ndF (S:Nat) (ps:List (Nat × Nat)):Nat→Nat
 | 0=>0
 | j+1=>if S.testBit (ps[j]!).1 then ndF S ps j else ndF S ps j ||| 2 ^ (ps[j]!).2
theorem Qcj {S:Nat} {ps:List (Nat × Nat)} (h:∀ p∈ps,p.2<12):∀ j,j≤ps.length→ndF S ps j<4096
 | 0,_=>by show 0<4096;omega
 | j+1,hj=>by
  have ih:=Qcj (S:=S) h j (by omega)
  unfold ndF
  split
  ·exact ih
  ·have h2:(ps[j]!).2<12:=h _ (by rw[getElem!_pos ps j (by omega)];exact Q2 _)
   exact Nat.or_lt_two_pow (n:=12) ih (Nat.pow_lt_pow_right (by decide) h2)
theorem Qab {S:Nat} {ps:List (Nat × Nat)} {k:Nat}:∀ j,j≤ps.length→((ndF S ps j).testBit k=true↔∃ a,a<j∧(ps[a]!).2=k∧S.testBit (ps[a]!).1=false)
 | 0,_=>by simp[ndF]
 | j+1,hj=>by
  have ih:=Qab (S:=S) (ps:=ps) (k:=k) j (by omega)
  unfold ndF
  split
  ·rename_i h
   rw[ih]
   constructor
   ·rintro ⟨a,h1,h2⟩;exact ⟨a,by omega,h2⟩
   ·rintro ⟨a,h1,h2,h3⟩
    rcases QQ.1 h1 with h4 | rfl
    ·exact ⟨a,h4,h2,h3⟩
    ·rw[h] at h3;cases h3
  ·rename_i h
   rw[Nat.testBit_or,WR,ih,Nat.testBit_two_pow]
   constructor
   ·rintro (⟨a,h1,h2⟩ | h1)
    ·exact ⟨a,by omega,h2⟩
    ·exact ⟨j,by omega,of_decide_eq_true h1,by simpa using h⟩
   ·rintro ⟨a,h1,h2,h3⟩
    rcases QQ.1 h1 with h4 | rfl
    ·exact .inl ⟨a,h4,h2,h3⟩
    ·exact .inr (decide_eq_true h2)
theorem nd_need {d:Dy} {S k:Nat} (hk:k<d.ls.length):bit (ndF S (prsL d d.ls.length) (prsL d d.ls.length).length:Nat) k=L0 (canB d) d.ls.length (S:Nat) k:=by
 have h1:bit (ndF S (prsL d d.ls.length) (prsL d d.ls.length).length:Nat) k=(ndF S (prsL d d.ls.length) (prsL d d.ls.length).length).testBit k:=rfl
 have h2:∀ i,bit (S:Nat) i=S.testBit i:=fun i=>rfl
 rw[Q8,h1,Qab _ (QG _),O5]
 constructor
 ·rintro ⟨a,ha,e1,e2⟩
  have:=LC.1 (show (prsL d d.ls.length)[a]!∈prsL d d.ls.length by rw[getElem!_pos _ a ha];exact Q2 _)
  rw[e1] at this
  exact ⟨_,this.1,this.2.2,by rw[h2];exact e2⟩
 ·rintro ⟨i,hi,hc,hb⟩
  obtain ⟨a,ha,e⟩:=WN.1 (show (i,k)∈prsL d d.ls.length from LC.2 ⟨hi,hk,hc⟩)
  refine ⟨a,ha,?_,?_⟩
  ·rw[getElem!_pos _ a ha,e]
  ·rw[getElem!_pos _ a ha,e];exact hb
theorem nd_hi {d:Dy} {S k:Nat} (hk:d.ls.length≤k):bit (ndF S (prsL d d.ls.length) (prsL d d.ls.length).length:Nat) k=false:=by
 cases h:bit (ndF S (prsL d d.ls.length) (prsL d d.ls.length).length:Nat) k with
 | false=>rfl
 | true =>
  obtain ⟨a,ha,e1,e2⟩:=(Qab _ (QG _)).1 (show (ndF S (prsL d d.ls.length) (prsL d d.ls.length).length).testBit k=true from h)
  have:=LC.1 (show (prsL d d.ls.length)[a]!∈prsL d d.ls.length by rw[getElem!_pos _ a ha];exact Q2 _)
  omega
theorem Qay {P:Nat→Bool} {n:Nat}:∀ m,n≤m→(∀ k,n≤k→P k=false)→cnt m P=cnt n P
 | 0, h, _ => by have:n=0:=by omega
                 subst this;rfl
 | m+1,h,hp=>by
  rcases Nat.eq_or_lt_of_le h with rfl | h1
  ·rfl
  ·rw[cnt,Qay m (by omega) hp,hp m (by omega)]
   simp
theorem NL {P:Nat→Bool} {n:Nat}:∀ m,n≤m→(∀ k,n≤k→P k=false)→YS m P=YS n P
 | 0, h, _ => by have:n=0:=by omega
                 subst this;rfl
 | m+1,h,hp=>by
  rcases Nat.eq_or_lt_of_le h with rfl | h1
  ·rfl
  ·rw[ET,NL m (by omega) hp,hp m (by omega)]
   simp
theorem QeF {S n k:Nat} (h:S<2 ^ n) (hk:n≤k):bit (S:Nat) k=false:=by
 show S.testBit k=false
 exact UQ (Z6 h (Nat.pow_le_pow_right (by omega) hk))
theorem QdC {n:Nat} {P Q:Nat→Bool} (h:∀ k,k<n→P k=Q k):cnt n P=cnt n Q:=by
 refine Nat.le_antisymm (cnt_mono fun k hk e=>by rw[← h k hk];exact e) (cnt_mono fun k hk e=>by rw[h k hk];exact e)
theorem uor (a b:Nat):IntKind.u64.wrap ((BitVec.ofInt IntKind.u64.bits (a:Int) ||| BitVec.ofInt IntKind.u64.bits (b:Int)).toNat:Int)=((W64 (W64 a ||| W64 b):Nat):Int):=by
 show IntKind.u64.wrap (((BitVec.ofInt 64 (a:Int) ||| BitVec.ofInt 64 (b:Int)).toNat:Nat):Int)=_
 rw[BitVec.ofInt_natCast,BitVec.ofInt_natCast,FM,BitVec.toNat_or,BitVec.toNat_ofNat,BitVec.toNat_ofNat]
 rfl
theorem FH {a:Nat} (h:a<4096):W64 a=a:=Nat.mod_eq_of_lt (by omega)
theorem u_bit {S i:Nat} (hS:S<4096):(((W64 (S >>> i) &&& W64 1:Nat):Int) == 0) = !S.testBit i:=by
 have h1:W64 (S >>> i)=S >>> i:=FH (by rw[JR];exact WJ (Nat.div_le_self _ _) hS)
 have h2:W64 1=1:=rfl
 rw[h1,h2]
 have:S.testBit i=((S >>> i) &&& 1 != 0):=by rw[Nat.testBit,Nat.and_comm]
 rw[this,Nat.and_one_is_mod]
 rcases Nat.mod_two_eq_zero_or_one (S >>> i) with h | h <;> rw[h] <;> rfl
theorem le30 (d:Dy) (hd:DSz d):PA Tryz.prog 30 [dyV d] (cvA d):=by
 refine ⟨ZF (fok30 true) (QC rfl) ?_,rfl,rfl⟩
 simp only[ic30,WI,cellsOf,evA,simprocAttr]
 refine (le72 d hd).call ?_
 unfold cvA cvBef cvBeh
 by_cases he:(dyE d).2.2=0
 ·have hb:((dyE d).2.2 != 0)=false:=by simpa using he
  have hok:=LO he
  have h12:=hok.l12
  rw[if_neg (fun h=>h he),if_neg (fun h=>h he)]
  simp only[hb,he,evA,simprocAttr]
  refine (le78 d hok).call frz ?_
  obtain ⟨bef0,hm0⟩:=le79 d hok [] (QF _) (fun i h=>absurd h (W5 _))
  rw[B8] at hm0
  simp only[evA,simprocAttr]
  refine hm0.call frz ?_
  simp only[evA,simprocAttr]
  have hpl:=IV d d.ls.length
  have hpl2:d.ls.length*d.ls.length≤12*12:=Nat.mul_le_mul h12 h12
  have hps:∀ p∈prsL d d.ls.length,p.1<d.ls.length∧p.2<d.ls.length:=fun p hp=>⟨(LC.1 hp).1,(LC.1 hp).2.1⟩
  have hnd:=fun S k hk=>nd_need (d:=d) (S:=S) (k:=k) hk
  have hnh:=fun S k hk=>nd_hi (d:=d) (S:=S) (k:=k) hk
  obtain ⟨b1,b2,b3⟩:=QbG (can:=canB d) (n:=d.ls.length)
  have hS:(2:Nat) ^ d.ls.length≤2 ^ 12:=Nat.pow_le_pow_right (by decide) h12
  have hp12:(2:Nat) ^ 12=4096:=by decide
  have hps2:∀ p∈prsL d d.ls.length,p.2<12:=fun p hp=>by have:=(hps p hp).2;omega
  have hpla:(prsL d d.ls.length).length<2 ^ 63:=WJ hpl (WJ hpl2 (by decide))
  rw[show (prsL d d.ls.length).flatMap prC=prCs (prsL d d.ls.length) from rfl]
  unfold covS
  unfold cvrN at b2 b3
  rw[show prF (canB d) d.ls.length d.ls.length 0 (fun _=>false)=TH d from rfl] at b2 b3
  generalize hSS:G7 (canB d) d.ls.length=SS at *
  generalize prsL d d.ls.length=ps at *
  refine ZW SS (fun S s=>∃ v9 v10 v12 v13 v14 v15 v16 v17,s=⟨[dyV d,.ptr 0 0,.cv .nils,.cv .nils,.i 0,.ptr 1 0,.cv (.rsl (prCs ps) ps.length),.i (TH d),.cv (.int .u64 S),v9,v10,.b false,v12,v13,v14,v15,v16,v17],[.cells [.cv (minR d.mi),.cv (lesR d.ls)],.cells [.cv (minR d.mi),.cv (lesR d.ls)]]⟩) ?_ 0 (QF _) ⟨_,_,_,_,_,_,_,_,rfl⟩
  rintro S s hSle ⟨v9,v10,v12,v13,v14,v15,v16,v17,rfl⟩
  have hS4:S<4096:=by omega
  simp only[ic30l1,evA,simprocAttr]
  refine ZW ps.length (fun j s=>∃ v10 v15 v16 v17,s=⟨[dyV d,.ptr 0 0,.cv .nils,.cv .nils,.i 0,.ptr 1 0,.cv (.rsl (prCs ps) ps.length),.i (TH d),.cv (.int .u64 S),.cv (.int .u64 (ndF S ps j:Nat)),v10,.b false,.cv (.rsl (prCs ps) ps.length),.i ps.length,.i j,v15,v16,v17],[.cells [.cv (minR d.mi),.cv (lesR d.ls)],.cells [.cv (minR d.mi),.cv (lesR d.ls)]]⟩) ?_ 0 (QF _) ⟨_,_,_,_,rfl⟩
  rintro j s hj ⟨v10,v15,v16,v17,rfl⟩
  by_cases hjl:j<ps.length
  ·have hmem:ps[j]!∈ps:=by rw[getElem!_pos ps j hjl];exact Q2 _
   have hp2:=hps _ hmem
   have hld:=pr_ld hjl
   have hst:ndF S ps (j+1)=if S.testBit (ps[j]!).1 then ndF S ps j else ndF S ps j ||| 2 ^ (ps[j]!).2:=rfl
   have hnl:=Qcj (S:=S) hps2 j hj
   rw[hst]
   generalize ps[j]! = p at *
   obtain ⟨a,k⟩:=p
   simp only at hp2 hld ⊢
   have hshr:=ushr S a (by omega)
   have hand:∀ x:Nat,IntKind.u64.wrap ((BitVec.ofInt IntKind.u64.bits (x:Int) &&& BitVec.ofInt IntKind.u64.bits 1).toNat:Int)=((W64 x &&& W64 1:Nat):Int):=fun x=>uand x 1
   have hub:=u_bit (i:=a) hS4
   have hj63:j+1<2 ^ 63:=by omega
   have hpk:2 ^ k<4096:=by rw[← hp12];exact Nat.pow_lt_pow_right (by decide) (by omega)
   have hshl:VK .shl .u64 1 (k:Int)=some (.cv (.int .u64 ((2 ^ k:Nat):Int))):=by
    have h0:¬ ((k:Int)<0):=by omega
    have h1:min (k:Int).toNat IntKind.u64.bits=k:=by rw[Int.toNat_natCast];exact VD (by show k≤64;omega)
    simp only[VK]
    rw[if_neg h0,h1]
    have h2:(1:Int)*2 ^ k=((2 ^ k:Nat):Int):=by push_cast;omega
    rw[h2,FM,FH hpk]
   have hor:W64 (W64 (ndF S ps j) ||| W64 (2 ^ k))=ndF S ps j ||| 2 ^ k:=by
    rw[FH hnl,FH hpk,FH (Nat.or_lt_two_pow (n:=12) hnl (by rw[hp12];exact hpk))]
   simp only[ic30l0,QJ,hjl,XP hjl,hld,hshr,hand,hub,evA,simprocAttr]
   cases htb:S.testBit a with
   | true =>
    rw[if_pos rfl]
    simp only[Y2,Q6 hj63,evA,simprocAttr]
    exact W1 [.cells [.cv (minR d.mi),.cv (lesR d.ls)],.cells [.cv (minR d.mi),.cv (lesR d.ls)]] _ rfl (by first | trivial | omega) (QF _) (by
     intro o ho
     simp only[ZD,WK,or_false] at ho
     rcases ho with rfl | rfl <;> rfl) ⟨_,_,_,_,rfl⟩
   | false =>
    rw[if_neg (by decide)]
    simp only[ZY,hshl,uor,hor,Q6 hj63,evA,simprocAttr]
    exact W1 [.cells [.cv (minR d.mi),.cv (lesR d.ls)],.cells [.cv (minR d.mi),.cv (lesR d.ls)]] _ rfl (by first | trivial | omega) (QF _) (by
     intro o ho
     simp only[ZD,WK,or_false] at ho
     rcases ho with rfl | rfl <;> rfl) ⟨_,_,_,_,rfl⟩
  ·have hje:j=ps.length:=by omega
   subst hje
   have hN:=Qcj (S:=S) hps2 ps.length (QG _)
   have hS2:S<2 ^ d.ls.length:=by omega
   have c1:cnt 12 (bit (S:Nat))=cnt d.ls.length (bit (S:Nat)):=Qay 12 h12 fun k hk=>QeF hS2 hk
   have c2:cnt 12 (bit (ndF S ps ps.length:Nat))=cnt d.ls.length (L0 (canB d) d.ls.length (S:Nat)):=by
    rw[Qay 12 h12 fun k hk=>hnh S k hk]
    exact QdC fun k hk=>hnd S k hk
   have l1:YS 12 (bit (S:Nat))=YS d.ls.length (bit (S:Nat)):=NL 12 h12 fun k hk=>QeF hS2 hk
   have l2:YS 12 (bit (ndF S ps ps.length:Nat))=YS d.ls.length (L0 (canB d) d.ls.length (S:Nat)):=by
    rw[NL 12 h12 fun k hk=>hnh S k hk]
    exact QdE fun k hk=>hnd S k hk
   simp only[ic30l0,QJ,hjl,evA,simprocAttr]
   refine (le80 S hS4).call frz ?_
   simp only[evA,simprocAttr]
   refine (le80 _ hN).call frz ?_
   have q1:=P7 (n:=12) (P:=bit (S:Nat))
   have q2:=P7 (n:=12) (P:=bit (ndF S ps ps.length:Nat))
   have hw:IntKind.i64.wrap ((cnt 12 (bit (S:Nat)):Nat)+(cnt 12 (bit (ndF S ps ps.length:Nat)):Nat):Int)=((cnt d.ls.length (bit (S:Nat))+cnt d.ls.length (L0 (canB d) d.ls.length (S:Nat)):Nat):Int):=by
    rw[← c1,← c2];exact ZC (by omega)
   simp only[hw,evA,simprocAttr]
   rcases ZB S SS with hlt | hge
   ·have hne:=b3 S hlt
    have hbq:((((cnt d.ls.length (bit (S:Nat))+cnt d.ls.length (L0 (canB d) d.ls.length (S:Nat)):Nat)):Int) == (TH d:Int))=false:=beq_eq_false_iff_ne.2 (by omega)
    have hw2:IntKind.u64.wrap ((S:Int)+1)=((S+1:Nat):Int):=by
     have:(S:Int)+1=((S+1:Nat):Int):=by omega
     rw[this,FM,FH (by omega)]
    simp only[hbq,hw2,evA,simprocAttr]
    exact ZL (by omega) ⟨_,_,_,_,_,_,_,_,rfl⟩
   ·have hSe:S=SS:=by omega
    subst hSe
    have hbq:((((cnt d.ls.length (bit (S:Nat))+cnt d.ls.length (L0 (canB d) d.ls.length (S:Nat)):Nat)):Int) == (TH d:Int))=true:=beq_iff_eq.2 (by omega)
    simp only[hbq,evA,simprocAttr]
    refine (le81 S hS4).call frz ?_
    simp only[evA,simprocAttr]
    refine (le81 _ hN).call frz ?_
    simp only[evA,simprocAttr]
    rw[l1,l2]
    exact .tup (.cons (.c (.c _ trivial)) (.cons (.c (.c _ trivial)) (.cons (.c (.c _ trivial)) .nil)))
 ·have hb:((dyE d).2.2 != 0)=true:=by simpa using he
  rw[if_pos he,if_pos he]
  simp only[hb,evA,simprocAttr]
  exact .tup (.cons (.c .nl) (.cons (.c .nl) (.cons (.c (.c _ trivial)) .nil)))
end Go.Proofs.YtgkidpolomhghaaGreatDoor.AM
namespace Go.Proofs.YtgkidpolomhghaaGreatDoor.AM
variable [Dr]
open Go Pl
def EO (g:Nat→List Int) (n i:Nat):List AV:=(List.range n).map fun j=>if j<i then ints (g j) else .cv .nils
theorem Qcz (g:Nat→List Int) (n:Nat):EO g n 0=List.replicate n (.cv .nils):=by
 unfold EO
 apply Y1 <;> simp
theorem NH (g:Nat→List Int) (n i:Nat):(EO g n i).length=n:=by simp[EO]
theorem Qeu (g:Nat→List Int) {n i:Nat} (hi:i<n):(EO g n i).set i (ints (g i))=EO g n (i+1):=by
 unfold EO
 apply Z1
 intro j
 rw[ZO]
 by_cases hj:i=j
 ·subst hj
  simp[hi]
 ·rw[if_neg hj]
  by_cases hjn:j<n
  ·simp only[ZR,List.getElem?_range hjn,Option.map_some]
   by_cases h1:j<i
   ·simp[h1,show j<i+1 by omega]
   ·simp[h1,show ¬ j<i+1 by omega]
  ·rw[QN (by simp;omega),QN (by simp;omega)]
theorem Qcv {σ:List AObj} (g:Nat→List Int) (n:Nat):HL anyC σ (EO g n n) (((List.range n).map g).map rowC):=by
 unfold EO
 rw[XW]
 have key:∀ l:List Nat,(∀ x∈l,x<n)→HL anyC σ (l.map fun j=>if j<n then ints (g j) else .cv .nils) (l.map (rowC ∘ g)):=by
  intro l
  induction l with
  | nil=>intro _;exact .nil
  | cons a l ih =>
   intro h
   simp only[Q0,if_pos (h a (by simp))]
   exact .cons (.c _ trivial) (ih fun x hx=>h x (by simp[hx]))
 exact key _ fun x hx=>by simpa using hx
theorem frz_fill {σ:List AObj} (g:Nat→List Int) {n l:Nat} (hr:rowOf σ l=some (EO g n n)):FrzV anyC σ (.sl l 0 n 1) (.cv (minR ((List.range n).map g))):=by
 have h1:=FrzC.sl (p:=anyC) (σ:=σ) l 0 n 1 (EO g n n) (((List.range n).map g).map rowC) hr (by rw[NH];omega) (by
  rw[YO,Q5 (by rw[NH];omega)]
  exact Qcv g n)
 have:((List.range n).map g).length=n:=by simp
 unfold minR
 rw[this]
 exact .c h1
theorem le25 (d:Dy) (hd:DSz d):PA Tryz.prog 25 [dyV d] (folA d):=by
 refine ⟨ZF (fok25 true) (QC rfl) ?_,rfl,rfl⟩
 simp only[ic25,WI,cellsOf,evA,simprocAttr]
 refine (le72 d hd).call ?_
 unfold folA
 by_cases he:(dyE d).2.2=0
 ·have hb:((dyE d).2.2 != 0)=false:=by simpa using he
  have hok:=LO he
  have h12:=hok.l12
  rw[if_neg (fun h=>h he)]
  simp only[hb,he,evA,simprocAttr]
  have hmk:=fun σ=>Qd8 (n:=d.ls.length) (WJ h12 (by decide)) σ
  simp only[hmk,evA,simprocAttr]
  rw[← Qcz (behL d)]
  refine ZW d.ls.length (fun i s=>∃ v7 v11,s=⟨[dyV d,.ptr 0 0,.cv .nils,.i 0,.ptr 1 0,.i 0,.sl 2 0 d.ls.length 1,v7,.b false,.i d.ls.length,.i i,v11],[.cells [.cv (minR d.mi),.cv (lesR d.ls)],.cells [.cv (minR d.mi),.cv (lesR d.ls)],.cells (EO (behL d) d.ls.length i)]⟩) ?_ 0 (QF _) ⟨_,_,rfl⟩
  rintro i s hi ⟨v7,v11,rfl⟩
  by_cases hin:i<d.ls.length
  ·simp only[ic25l0,QJ,hin,evA,simprocAttr]
   refine (le74 d i).call ?_
   simp only[evA,simprocAttr]
   refine (le73 d hok hin).call ?_
   have hle:i+1≤(EO (behL d) d.ls.length i).length:=by rw[NH];exact hin
   simp only[W9 hin,hle,Qeu (behL d) hin,Q6 (show i+1<2 ^ 63 by omega),evA,simprocAttr]
   exact ZL (by first | trivial | omega) ⟨_,_,rfl⟩
  ·have hin':i=d.ls.length:=by omega
   subst hin'
   simp only[ic25l0,QJ,hin,evA,simprocAttr]
   exact .tup (.cons (frz_fill (behL d) rfl) (.cons (.c (.c _ trivial)) .nil))
 ·have hb:((dyE d).2.2 != 0)=true:=by simpa using he
  rw[if_pos he]
  simp only[hb,evA,simprocAttr]
  exact .tup (.cons (.c .nl) (.cons (.c (.c _ trivial)) .nil))
theorem nxW {d:Dy} (hd:DyOk d):NxW (canB d) (fun i=>(d.ls[i]!).b) d.ls.length (nxtL d):=by
 have h:=nx_ok (can:=canB d) (n:=d.ls.length) d.ls.length 0 (fun _=>false) (by omega)
 have hl:(nxtL d).length=d.ls.length:=Pl.nx_len _ _ _
 have hok:=h.ok
 have hinj:=h.inj
 rw[show nxL (canB d) d.ls.length d.ls.length 0 (fun _=>false)=nxtL d from rfl,hl] at hok hinj
 refine ⟨hl,fun j hj=>?_,fun j j' hj hj'=>hinj j j' hj hj',fun i k hi hk hc=>canB_lt hd hi hk hc⟩
 rcases hok j hj with h1 | ⟨k,h1,h2,h3,_⟩
 ·exact .inl h1
 ·rw[ZV] at h3
  exact .inr ⟨k,h1,h2,h3⟩
def AccR (σ:List AObj) (v:AV) (cs:List (List Int)):Prop :=
 (v=.cv .nils∧cs=[])∨∃ l xs,v=.sl l 0 cs.length 1∧cs≠[]∧rowOf σ l=some xs∧xs.length=cs.length∧∀ (j:Nat) (c:List Int),cs[j]? = some c→c≠[]∧∃ p:Nat,xs[j]? = some (AV.sl p 0 c.length 1)∧rowOf σ p=some (c.map AV.i)
theorem AccR.nu {σ:List AObj} {v:AV} {cs:List (List Int)} (h:AccR σ v cs):v.isUndef=false∧v.isSc=true∧cellsOf v=[v]:=by
 rcases h with ⟨rfl,_⟩ | ⟨l,xs,rfl,_⟩ <;> exact ⟨rfl,rfl,rfl⟩
theorem AccR.same {σ τ:List AObj} {v:AV} {cs:List (List Int)} (h:AccR σ v cs) (hs:∀ l,l<σ.length→τ[l]? = σ[l]?):AccR τ v cs:=by
 have hr:∀ l xs,rowOf σ l=some xs→rowOf τ l=some xs:=fun l xs hx=>by
  have h1:=WO hx
  have h2:=(QH.1 h1).1
  rw[rowOf,hs l h2,h1]
 exact h.imp id fun ⟨l,xs,h1,h2,h3,h4,h5⟩=>⟨l,xs,h1,h2,hr _ _ h3,h4,fun j c hc=>let ⟨g1,p,g2,g3⟩:=h5 j c hc;⟨g1,p,g2,hr _ _ g3⟩⟩
theorem QcN {σ:List AObj} {v:AV} {cs:List (List Int)} {c:List Int} {p:Nat} (h:AccR σ v cs) (hn:cs.length≤100) (hc:c≠[]) (hp:rowOf σ p=some (c.map AV.i)) :
  ∃ v' σ',ZX 1 24 [v,.sl σ.length 0 1 1] (σ++[.cells [.sl p 0 c.length 1]])=some (v',σ')∧AccR σ' v' (cs++[c]):=by
 have hs:Z9 (σ++[AObj.cells [.sl p 0 c.length 1]]) 1 (.sl σ.length 0 1 1)=some [.sl p 0 c.length 1]:=by
  simp only[Z9,if_true,WW,HE,Option.bind_some]
  rfl
 have h44:(2:Nat) ^ 44=17592186044416:=by decide
 rcases h with ⟨rfl,rfl⟩ | ⟨l,xs,rfl,hne,hr,hxl,hall⟩
 ·have h1:1*1=[AV.sl p 0 c.length 1].length∧1*24≤2 ^ 44∧1≤2 ^ 44∧[AV.sl p 0 c.length 1].all AV.isSc=true:=⟨rfl,by decide,by decide,rfl⟩
  refine ⟨.sl (σ++[AObj.cells [.sl p 0 c.length 1]]).length 0 1 1,(σ++[AObj.cells [.sl p 0 c.length 1]])++[.cells [.sl p 0 c.length 1]],?_,.inr ⟨_,[.sl p 0 c.length 1],rfl,by simp,XH _ _,rfl,fun j c' hj=>?_⟩⟩
  ·simp only[ZX,hs,lenF,Option.bind_some]
   rw[if_neg (by decide),if_pos h1]
  ·rcases XF j with rfl | h0
   ·simp only[List.nil_append,List.getElem?_cons_zero,Option.some.injEq] at hj
    subst hj
    exact ⟨hc,p,rfl,ZH (ZH hp _) _⟩
   ·rw[QN (by simp;omega)] at hj;cases hj
 ·have hll:=(QH.1 (WO hr)).1
  have hcl:0<cs.length:=List.length_pos_iff.2 hne
  have hlp:∀ p' (c':List Int),c'≠[]→rowOf σ p'=some (c'.map AV.i)→l≠p':=fun p' c' h1 h2 e=>by
   subst e
   rw[hr] at h2
   cases h2
   obtain ⟨_,q,hq,_⟩:=hall 0 _ (QI hcl)
   have:0<c'.length:=List.length_pos_iff.2 h1
   rw[ZR,QI this] at hq
   cases hq
  have h1:True∧cs.length*1≤xs.length∧1*1=[AV.sl p 0 c.length 1].length∧(cs.length+1)*24≤2 ^ 44∧cs.length+1≤2 ^ 44∧[AV.sl p 0 c.length 1].all AV.isSc=true:=⟨trivial,by omega,rfl,by omega,by omega,rfl⟩
  have hkeep:∀ q (c':List Int),c'≠[]→rowOf σ q=some (c'.map AV.i)→rowOf ((σ++[AObj.cells [.sl p 0 c.length 1]]).set l .dead++[.cells (xs++[.sl p 0 c.length 1])]) q=some (c'.map AV.i):=fun q c' g1 g2=>by
   refine ZH ?_ _
   rw[QX (hlp q c' g1 g2)]
   exact ZH g2 _
  refine ⟨.sl (σ++[AObj.cells [.sl p 0 c.length 1]]).length 0 (cs.length+1) 1,(σ++[AObj.cells [.sl p 0 c.length 1]]).set l .dead++[.cells (xs++[.sl p 0 c.length 1])],?_,.inr ⟨(σ++[AObj.cells [.sl p 0 c.length 1]]).length,xs++[.sl p 0 c.length 1],by simp,by simp,?_,by simp[hxl],fun j c' hj=>?_⟩⟩
  ·simp only[ZX,ZH hr,hs,lenF,Option.bind_some]
   rw[if_pos h1,W3,Q5 (by omega)]
  ·have:(σ++[AObj.cells [.sl p 0 c.length 1]]).length=((σ++[AObj.cells [.sl p 0 c.length 1]]).set l .dead).length:=by simp
   rw[this,XH]
  ·rcases ZB j cs.length with hjl | hjl
   ·rw[QE hjl] at hj
    obtain ⟨g1,q,g2,g3⟩:=hall j c' hj
    exact ⟨g1,q,by rw[QE (by omega)];exact g2,hkeep q c' g1 g3⟩
   ·rw[QS hjl] at hj
    have h0:j-cs.length=0:=by
     rcases XF (j-cs.length) with h | h
     ·exact h
     ·rw[QN (by simp;omega)] at hj;cases hj
    rw[h0] at hj
    simp only[List.getElem?_cons_zero,Option.some.injEq] at hj
    subst hj
    refine ⟨hc,p,?_,hkeep p c hc hp⟩
    rw[QS (by omega),show j-xs.length=0 by omega]
    rfl
theorem accR_frz {σ:List AObj} {v:AV} {cs:List (List Int)} (h:AccR σ v cs):FrzV scl σ v (.cv (minR cs)):=by
 rcases h with ⟨rfl,rfl⟩ | ⟨l,xs,rfl,hne,hr,hxl,hall⟩
 ·exact .c .nl
 ·refine .c (FrzC.sl l 0 cs.length 1 xs _ hr (by omega) ?_)
  rw[YO,W3,Q5 (by omega)]
  clear hr hne
  induction cs generalizing xs with
  | nil =>
   have:xs=[]:=ZT hxl
   subst this;exact .nil
  | cons c cs ih =>
   match xs,hxl with
   | x::xs,hxl =>
    obtain ⟨_,p,g2,g3⟩:=hall 0 c rfl
    simp only[List.getElem?_cons_zero,Option.some.injEq] at g2
    subst g2
    refine .cons ?_ (ih xs (by simpa using hxl) fun j c' hj=>hall (j+1) c' hj)
    have:=TN (p:=scl) (fun _=>trivial) g3
    cases this with
    | c h=>exact h
theorem le28 (d:Dy) (hd:DSz d):PC Tryz.prog 28 [dyV d] (chaA d):=by
 refine ⟨ZF (fok28 true) (QC rfl) ?_,rfl⟩
 simp only[ic28,WI,cellsOf,evA,simprocAttr]
 refine (le72 d hd).call ?_
 unfold chaA
 by_cases he:(dyE d).2.2=0
 ·have hb:((dyE d).2.2 != 0)=false:=by simpa using he
  have hok:=LO he
  have h12:=hok.l12
  rw[if_neg (fun h=>h he)]
  simp only[hb,he,evA,simprocAttr]
  refine (le75 d hok).call frz ?_
  have hW:=nxW hok
  have hnl:=hW.len
  have hup:=hW.up
  unfold chaL LQ DD
  generalize nxtL d=nx at *
  obtain ⟨n,hn⟩:∃ n,n=d.ls.length:=⟨_,rfl⟩
  rw[← hn] at hW hnl h12 ⊢
  simp only[hnl,evA,simprocAttr]
  refine ZW n (fun i s=>∃ v2 v6 v7 v8 v12 v13 v14 H,AccR H v2 ((((List.range i).filter (V3 nx)).map (chF nx (n+1))).map HG)∧s=⟨[dyV d,.ptr 0 0,v2,.i 0,.ptr 1 0,ints nx,v6,v7,v8,.b false,.i n,.i i,v12,v13,v14],H⟩) ?_ 0 (QF _) ⟨_,_,_,_,_,_,_,_,.inl ⟨rfl,rfl⟩,rfl⟩
  rintro i s hi ⟨v2,v6,v7,v8,v12,v13,v14,H,hA,rfl⟩
  have hp63:(2:Nat) ^ 63=9223372036854775808:=by decide
  by_cases hin:i<n
  ·simp only[ic28l1,QJ,hin,evA,simprocAttr]
   refine (le76 nx i (by omega)).call (.cons (.c (.c _ trivial)) (.cons (.c (.c _ trivial)) .nil)) ?_
   have hfl:(List.range (i+1)).filter (V3 nx)=(List.range i).filter (V3 nx)++if V3 nx i=true then [i] else []:=by
    rw[WM,List.filter_append]
    by_cases h:V3 nx i=true <;> simp[h]
   cases hc:nx.contains (i:Int) with
   | true =>
    have hh:V3 nx i=false:=by unfold V3;rw[hc];rfl
    rw[hh,if_neg (by decide),ZU] at hfl
    simp only[Q6 (show i+1<2 ^ 63 by omega),evA,simprocAttr]
    exact ZL (by first | trivial | omega) ⟨_,_,_,_,_,_,_,_,by rw[hfl];exact hA,rfl⟩
   | false =>
    have hh:V3 nx i=true:=by unfold V3;rw[hc];rfl
    rw[hh,if_pos rfl] at hfl
    simp only[evA,simprocAttr]
    refine ZW (n+1) (fun t s=>∃ (v7:AV) (z:Int) (v14:AV) (H2:List AObj) (c:List Int),(∀ l,l<H.length→H2[l]? = H[l]?)∧H.length≤H2.length∧VH H.length 1 H2 v7 c.length (c.map (.int .i64))∧c.length=t∧((z<0∧HG (chF nx (n+1) i)=c∧c≠[])∨∃ kk:Nat,kk<n∧z=(kk:Int)∧muK (fun i=>(d.ls[i]!).b) n kk<n+1-t∧HG (chF nx (n+1) i)=c++HG (chF nx (n+1-t) kk)) ∧
     s=⟨[dyV d,.ptr 0 0,v2,.i 0,.ptr 1 0,ints nx,.i i,v7,.i z,.b false,.i n,.i i,.b true,.b false,v14],H2⟩) ?_ 0 (QF _) ⟨.cv .nils,(i:Int),_,H,[],fun _ _=>rfl,QG _,.inl ⟨rfl,rfl,rfl⟩,rfl,.inr ⟨i,hin,rfl,by have:=mu_le (rk:=fun i=>(d.ls[i]!).b) (n:=n) (k:=i);omega,rfl⟩,rfl⟩
    rintro t s ht ⟨v7,z,v14,H2,c,hs1,hs2,hac,hct,hz,rfl⟩
    rcases hz with ⟨hz0,hch,hcne⟩ | ⟨kk,hkn,rfl,hmu,hch⟩
    ·have hb:decide (z≥0)=false:=decide_eq_false (by omega)
     have hA2:=hA.same hs1
     rcases hac with ⟨_,_,h⟩ | ⟨p,hp1,rfl,_,hp3⟩
     ·exact absurd (by simpa using h) hcne
     rw[XW] at hp3
     have hcs:((((List.range i).filter (V3 nx)).map (chF nx (n+1))).map HG).length≤100:=by
      have:=HC (V3 nx) (List.range i)
      simp only[ZK,List.length_range] at this ⊢
      omega
     obtain ⟨v',σ',g1,g2⟩:=QcN hA2 hcs hcne hp3
     have gnu:=g2.nu
     simp only[ic28l0,hb,g1,gnu,Q6 (show i+1<2 ^ 63 by omega),evA,simprocAttr]
     refine ZL (by first | trivial | omega) ⟨_,_,_,_,_,_,_,_,?_,rfl⟩
     rw[hfl,ZS,ZS]
     simp only[Q0,WS]
     rw[hch]
     exact g2
    ·have hb:decide ((kk:Int)≥0)=true:=decide_eq_true (by omega)
     have h44:(2:Nat) ^ 44=17592186044416:=by decide
     obtain ⟨v',σ',g1,g2,g3,g4⟩:=K3 (by_:=8) (x:=[.int .i64 kk]) hs2 hac rfl (by omega) (by omega)
     have gnu:=g2.nu
     have hkl:kk<nx.length:=by omega
     have hst:chF nx (n+1-t) kk=kk::if gI nx kk<0 then [] else chF nx (n-t) (gI nx kk).toNat:=by
      rw[show n+1-t=n-t+1 by omega];rfl
     simp only[QW,QM,WW,X9,VW,EZ,Qau,CH,get_nz,get_ns,Q0,WS] at g1
     simp only[ic28l0,hb,g1,gnu,J5 hkl,J4 hkl,WA,evA,simprocAttr]
     refine ZL (by omega) ⟨v',gI nx kk,_,σ',c++[(kk:Int)],fun l hl=>by rw[g3 l hl];exact hs1 l hl,by omega,by rw[QM,ZS];exact g2,by simp[hct],?_,rfl⟩
     rw[hst] at hch
     rcases hW.ok kk hkn with h1 | ⟨k2,h1,h2,h3⟩
     ·rw[if_pos (by omega)] at hch
      exact .inl ⟨by omega,by rw[hch];simp[HG],by simp⟩
     ·have hlt:=Qd6 (rk:=fun i=>(d.ls[i]!).b) h2 (hW.up kk k2 hkn h2 h3)
      rw[if_neg (by omega),h1,Int.toNat_natCast] at hch
      refine .inr ⟨k2,h2,h1,by omega,?_⟩
      rw[hch]
      simp[HG]
  ·have hin':i=n:=by omega
   subst hin'
   have hnu:=hA.nu
   simp only[ic28l1,QJ,hin,hnu,evA,simprocAttr]
   exact .tup (.cons (accR_frz hA) (.cons (.c (.c _ trivial)) .nil))
 ·have hb:((dyE d).2.2 != 0)=true:=by simpa using he
  rw[if_pos he]
  simp only[hb,evA,simprocAttr]
  exact .tup (.cons (.c .nl) (.cons (.c (.c _ trivial)) .nil))
end Go.Proofs.YtgkidpolomhghaaGreatDoor.AM
namespace Go.Proofs.YtgkidpolomhghaaGreatDoor.AM
variable [Dr]
open Go
abbrev vs22:List Nat:=[0,1,2,3,4,5,6,7,8,9,10,11,12,13,14,15,16,17,19]
def ic22:IC:=(.seq (.region [jw 0 .mv [jB false]])
 (.seq (.region [jk 39 [],jq (.bslice 1 3 [(.cv (.int .i64 0)),(.cv (.int .i64 0)),(.cv (.int .i64 0))] [(0,1),(1,1),(2,1)]) [jn 2,jn 1,jn 1],jk 17 [.t 0,.t 1],jt 2,jx 0 3,jx 1 3,jw 1 (.alloc [(.cv .nils),(.cv (.int .i64 0))]) [],jq (.store 2) [.v 1,.t 4],jm 2 5])
 (.seq (.region [jk 39 [],jq (.bslice 1 3 [(.cv (.int .i64 0)),(.cv (.int .i64 0)),(.cv (.int .i64 0))] [(0,1),(1,1),(2,1)]) [jn 2,jn 1,jn 1],jq (.bslice 1 3 [(.cv (.int .i64 0)),(.cv (.int .i64 0)),(.cv (.int .i64 0))] [(0,1),(1,1),(2,1)]) [jn 1000,jn 0,jn 1000],jk 20 [.t 0,.t 1,.t 2],jt 3,jx 0 4,jx 1 4,jm 3 5,jm 4 6])
 (.seq (.region [jk 40 [],jk 25 [.t 0],jt 1,jx 0 2,jx 1 2,jm 5 3,jm 6 4])
 (.seq (.region [jk 40 [],jk 28 [.t 0],jt 1,jx 0 2,jx 1 2,jm 7 3,jm 8 4])
 (.seq (.region [jk 40 [],jk 30 [.t 0],jt 1,jx 0 2,jx 1 2,jx 2 2,jm 9 3,jm 10 4,jm 11 5])
 (.seq (.region [jk 40 [],jq (.bslice 1 1 [(.cv (.int .i64 0))] [(0,1)]) [jn 0],jq (.bslice 1 1 [(.cv (.int .i64 0))] [(0,1)]) [jn 3],jk 33 [.t 0,.t 1,.t 2],jt 3,jx 0 4,jx 1 4,jm 12 5,jm 13 6])
 (.seq (.region [jk 65 [],jk 35 [.t 0],jt 1,jx 0 2,jx 1 2,jw 14 (.alloc [(.cv (.int .i64 0)),(.cv (.int .i64 0)),(.cv (.int .i64 0))]) [],jq (.store 3) [.v 14,.t 3],jm 15 4])
 (.seq (.region [jk 65 [],jk 37 [.t 0],jt 1,jx 0 2,jx 1 2,jw 16 (.alloc [(.cv .nils),(.cv .nils),(.cv .nils)]) [],jq (.store 3) [.v 16,.t 3],jm 17 4])
 (.seq (.region [jk 39 [],jq (.bslice 1 3 [(.cv (.int .i64 0)),(.cv (.int .i64 0)),(.cv (.int .i64 0))] [(0,1),(1,1),(2,1)]) [jn 2,jn 1,jn 1],jq (.bslice 1 3 [(.cv (.int .i64 0)),(.cv (.int .i64 0)),(.cv (.int .i64 0))] [(0,1),(1,1),(2,1)]) [jn 600,jn 500,jn 0],jk 20 [.t 0,.t 1,.t 2],jt 3,jx 0 4,jx 1 4,jt 5,jm 18 6])
 (.seq (.dr [[],[0],[1],[2],[3,2],[2,4],[5,2],[6],[7,6],[6,8],[9,6],[10],[11,10],[10,12],[13,10],[14],[15,14],[14,16],[17,14],[18],[19,18],[18,20],[21,18],[22],[23,22],[22,24],[25,22],[26],[27,26],[26,28],[29,26],[30],[31,30],[30,32],[33,30],[34],[34],[36,34,34],[35,37,37,34],[34,38],[39,38],[40],[41,40],[40,42],[43,40],[44],[44],[44],[44],[46,47,48,44],[45,49,44,44],[44,50],[51,50],[52],[52],[52],[54,55,52],[53,56,52,52],[52,57],[58,57],[59],[60,59],[61,59],[59,62],[63,59],[64],[64],[65,66,64,64],[64,67],[68,67],[69],[70,69],[69,71],[72,69],[73],[73],[74,75,73],[73,76],[77,73],[78],[79,78],[78],[80,81,78,78],[78,82],[83,82],[84],[85,84],[84],[86,87,84,84],[84,88],[89,88],[90],[91,90],[90],[92,93,90,90],[90,94],[95,94,0,1,2,3,4,5,6,7,8,9,10,11,12,13,14,15,16,17,18,19,20,21,22,23,24,25,26,27,28,29,30,31,32,33,34,35,36,37,38,39,40,41,42,43,44,45,46,47,48,49,50,51,52,53,54,55,56,57,58,59,60,61,62,63,64,65,66,67,68,69,70,71,72,73,74,75,76,77,78,79,80,81,82,83,84,85,86,87,88,89,90,91,92,93,94,95]] [jv 2,jq (.bin .eql .int) [.t 0,jn 0],jt 1,jh 2 true 4,jg 2 true (.bin .eql .int) [.t 3,jn 0],jq .pick [.t 2,.t 4,jB false],jt 5,jh 6 true 6,jg 6 true (.bin .eql .int) [.t 7,jn 0],jq .pick [.t 6,.t 8,jB false],jt 9,jh 10 true 8,jg 10 true (.bin .eql .int) [.t 11,jn 0],jq .pick [.t 10,.t 12,jB false],jt 13,jh 14 true 11,jg 14 true (.bin .eql .int) [.t 15,jn 0],jq .pick [.t 14,.t 16,jB false],jt 17,jh 18 true 13,jg 18 true (.bin .eql .int) [.t 19,jn 0],jq .pick [.t 18,.t 20,jB false],jt 21,jh 22 true 15,jg 22 true (.bin .eql .int) [.t 23,jn 0],jq .pick [.t 22,.t 24,jB false],jt 25,jh 26 true 17,jg 26 true (.bin .eql .int) [.t 27,jn 0],jq .pick [.t 26,.t 28,jB false],jt 29,jh 30 true 18,jg 30 true (.bin .eql .int) [.t 31,jn 2],jq .pick [.t 30,.t 32,jB false],jt 33,jg 34 true (.loadN 2) [.v 1],jg 34 true (.bslice 1 3 [(.cv (.int .i64 0)),(.cv (.int .i64 0)),(.cv (.int .i64 0))] [(0,1),(1,1),(2,1)]) [jn 2,jn 3,jn 3],jf 34 true 41 [jn 600,.t 36],jf 34 true 19 [.t 35,.t 37],jq .pick [.t 34,.t 38,jB false],jt 39,jh 40 true 3,jg 40 true (.bin .eql .int) [.t 41,jn 3],jq .pick [.t 40,.t 42,jB false],jt 43,jh 44 true 5,jg 44 true (.bslice 1 2 [(.cv (.int .i64 0)),(.cv (.int .i64 0))] [(0,1),(1,1)]) [jn 1,jn 3],jg 44 true (.bslice 1 1 [(.cv (.int .i64 0))] [(0,1)]) [jn 3],jg 44 true (.bslice 1 1 [(.cv (.int .i64 0))] [(0,1)]) [jn 3],jg 44 true (.bslice 1 4 [(.cv .nils),(.cv .nils),(.cv .nils),(.cv .nils)] [(0,1),(1,1),(2,1),(3,1)]) [.t 46,.t 47,.t 48,jS],jf 44 true 27 [.t 45,.t 49],jq .pick [.t 44,.t 50,jB false],jt 51,jh 52 true 7,jg 52 true (.bslice 1 3 [(.cv (.int .i64 0)),(.cv (.int .i64 0)),(.cv (.int .i64 0))] [(0,1),(1,1),(2,1)]) [jn 0,jn 1,jn 3],jg 52 true (.bslice 1 1 [(.cv (.int .i64 0))] [(0,1)]) [jn 2],jg 52 true (.bslice 1 2 [(.cv .nils),(.cv .nils)] [(0,1),(1,1)]) [.t 54,.t 55],jf 52 true 27 [.t 53,.t 56],jq .pick [.t 52,.t 57,jB false],jt 58,jh 59 true 9,jg 59 true (.len false) [.t 60],jg 59 true (.bin .eql .int) [.t 61,jn 0],jq .pick [.t 59,.t 62,jB false],jt 63,jh 64 true 10,jg 64 true (.bslice 1 2 [(.cv (.int .i64 0)),(.cv (.int .i64 0))] [(0,1),(1,1)]) [jn 1,jn 3],jf 64 true 32 [.t 65,.t 66],jq .pick [.t 64,.t 67,jB false],jt 68,jh 69 true 12,jg 69 true (.bin .eql .int) [.t 70,jn 2],jq .pick [.t 69,.t 71,jB false],jt 72,jg 73 true (.loadN 3) [.v 14],jg 73 true (.build [(.cv (.int .i64 0)),(.cv (.int .i64 0)),(.cv (.int .i64 0))] [(0,1),(1,1),(2,1)]) [jn 5,jn 1,jn 2],jg 73 true (.eqS false (true,[(.int .i64),(.int .i64),(.int .i64)])) [.t 74,.t 75],jq .pick [.t 73,.t 76,jB false],jt 77,jg 78 true (.fadd 0) [.v 16],ji 78 true 79,jg 78 true (.bslice 1 4 [(.cv (.int .i64 0)),(.cv (.int .i64 0)),(.cv (.int .i64 0)),(.cv (.int .i64 0))] [(0,1),(1,1),(2,1),(3,1)]) [jn 60,jn 60,jn 45,jn 60],jf 78 true 32 [.t 80,.t 81],jq .pick [.t 78,.t 82,jB false],jt 83,jg 84 true (.fadd 1) [.v 16],ji 84 true 85,jg 84 true (.bslice 1 1 [(.cv (.int .i64 0))] [(0,1)]) [jn 225],jf 84 true 32 [.t 86,.t 87],jq .pick [.t 84,.t 88,jB false],jt 89,jg 90 true (.fadd 2) [.v 16],ji 90 true 91,jg 90 true (.bslice 1 4 [(.cv (.int .i64 0)),(.cv (.int .i64 0)),(.cv (.int .i64 0)),(.cv (.int .i64 0))] [(0,1),(1,1),(2,1),(3,1)]) [jn 60,jn 60,jn 45,jn 60],jf 90 true 32 [.t 92,.t 93],jq .pick [.t 90,.t 94,jB false],jm 0 95])
 .ret)))))))))))
abbrev rs22:List RC:=[(.v 0)]
theorem fok22 (p:Bool):FnOk Tryz.prog 22 ⟨ic22,vs22,169,rs22,p⟩:=.mk2 Tryz.func22 (by kernel_rfl) (by kernel_rfl) (by kernel_rfl) (by kernel_rfl) (by kernel_rfl)
end Go.Proofs.YtgkidpolomhghaaGreatDoor.AM
namespace Go.Proofs.YtgkidpolomhghaaGreatDoor.AM
open Go Pl
theorem awake:PC Tryz.prog 22 [] (.b true):=by
 have h17:=le17 exP [2,1,1] (by decide) (by decide)
 rw[show fewA exP [2,1,1]=.tup [chV [2,3,3] 600,.i 0] by unfold fewA;rw[aw_few]] at h17
 have h20:=le20 exP [2,1,1] [1000,0,1000] (by decide) (by decide) (by decide)
 rw[show floA exP [2,1,1] [1000,0,1000]=.tup [.i 3,.i 0] by unfold floA;rw[aw_flo]] at h20
 have h20b:=le20 exP [2,1,1] [600,500,0] (by decide) (by decide) (by decide)
 rw[show floA exP [2,1,1] [600,500,0]=.tup [.i 0,.i 2] by unfold floA;rw[aw_flo2]] at h20b
 have h25:=le25 exD exDz
 rw[show folA exD=.tup [.cv (minR [[1,3],[3],[3],[]]),.i 0] by unfold folA;rw[QdI,if_neg (by decide),aw_fol]] at h25
 have h28:=le28 exD exDz
 rw[show chaA exD=.tup [.cv (minR [[0,1,3],[2]]),.i 0] by unfold chaA;rw[QdI,if_neg (by decide),aw_cha]] at h28
 have h30:=le30 exD exDz
 rw[show cvA exD=.tup [ints [],ints [1,3],.i 0] by unfold cvA;rw[QdI,aw_bef,aw_beh]] at h30
 have h33:=le33 exD exDz (p:=[0]) (q:=[3]) (.inl ⟨rfl,by decide⟩) (.inl ⟨rfl,by decide⟩) (by decide) (by decide)
 rw[show proA exD [0] [3]=.tup [.i 2,.i 0] by unfold proA;rw[aw_pro]] at h33
 have h35:=le35 exL exLz
 rw[show brA exL=.tup [brV (5,1,2),.i 0] by unfold brA;rw[if_neg (fun h=>h aw_pln),aw_brk]] at h35
 have h37:=le37 exL exLz
 rw[show hrsA exL=.tup [.agg [ints [60,60,45,60],ints [225],ints [60,60,45,60]],.i 0] by unfold hrsA hrsV;rw[if_neg (fun h=>h aw_pln),aw_h1,aw_h2,aw_h3]] at h37
 have h19:=le19 [2,3,3] [2,3,3] 600 600 (by decide) (by decide)
 rw[show (decide ([(2:Int),3,3]=[2,3,3])&&(600:Int) == 600)=true by decide] at h19
 have h27a:=le27 [[1,3],[3],[3],[]] [[1,3],[3],[3],[]] (by decide) (by decide) (by decide +kernel) (by decide +kernel)
 rw[show decide ([[(1:Int),3],[3],[3],[]]=[[1,3],[3],[3],[]])=true by decide] at h27a
 have h27b:=le27 [[0,1,3],[2]] [[0,1,3],[2]] (by decide) (by decide) (by decide +kernel) (by decide +kernel)
 rw[show decide ([[(0:Int),1,3],[2]]=[[0,1,3],[2]])=true by decide] at h27b
 have h32a:=c45 [1,3] [1,3] (by decide) (by decide)
 rw[show decide ([(1:Int),3]=[1,3])=true by decide] at h32a
 have h32b:=c45 [60,60,45,60] [60,60,45,60] (by decide) (by decide)
 rw[show decide ([(60:Int),60,45,60]=[60,60,45,60])=true by decide] at h32b
 have h32c:=c45 [225] [225] (by decide) (by decide)
 rw[show decide ([(225:Int)]=[225])=true by decide] at h32c
 refine ⟨ZF (fok22 true) (QC rfl) ?_,rfl⟩
 simp only[ic22,evA,simprocAttr]
 refine le39.call .nil ?_
 simp only[evA,simprocAttr]
 refine h17.call (by (repeat' (first | exact HL.nil | exact KS.nil | exact FrzC.nl | exact FrzC.c _ trivial | apply HL.cons | apply KS.cons | apply FrzV.agg | apply FrzV.tup | apply FrzV.c | refine FrzC.sl _ _ _ _ _ _ rfl (QC rfl) ?_))) ?_
 simp only[evA,simprocAttr]
 refine le39.call .nil ?_
 simp only[evA,simprocAttr]
 refine h20.call (by (repeat' (first | exact HL.nil | exact KS.nil | exact FrzC.nl | exact FrzC.c _ trivial | apply HL.cons | apply KS.cons | apply FrzV.agg | apply FrzV.tup | apply FrzV.c | refine FrzC.sl _ _ _ _ _ _ rfl (QC rfl) ?_))) ?_
 simp only[evA,simprocAttr]
 refine le40.call .nil ?_
 simp only[evA,simprocAttr]
 refine h25.call ?_
 simp only[evA,simprocAttr]
 refine le40.call .nil ?_
 simp only[evA,simprocAttr]
 refine h28.call (by (repeat' (first | exact HL.nil | exact KS.nil | exact FrzC.nl | exact FrzC.c _ trivial | apply HL.cons | apply KS.cons | apply FrzV.agg | apply FrzV.tup | apply FrzV.c | refine FrzC.sl _ _ _ _ _ _ rfl (QC rfl) ?_))) ?_
 simp only[evA,simprocAttr]
 refine le40.call .nil ?_
 simp only[evA,simprocAttr]
 refine h30.call ?_
 simp only[evA,simprocAttr]
 refine le40.call .nil ?_
 simp only[evA,simprocAttr]
 refine h33.call (by (repeat' (first | exact HL.nil | exact KS.nil | exact FrzC.nl | exact FrzC.c _ trivial | apply HL.cons | apply KS.cons | apply FrzV.agg | apply FrzV.tup | apply FrzV.c | refine FrzC.sl _ _ _ _ _ _ rfl (QC rfl) ?_))) ?_
 simp only[evA,simprocAttr]
 refine le65.call ?_
 simp only[evA,simprocAttr]
 refine h35.call (by (repeat' (first | exact HL.nil | exact KS.nil | exact FrzC.nl | exact FrzC.c _ trivial | apply HL.cons | apply KS.cons | apply FrzV.agg | apply FrzV.tup | apply FrzV.c | refine FrzC.sl _ _ _ _ _ _ rfl (QC rfl) ?_))) ?_
 simp only[evA,simprocAttr]
 refine le65.call ?_
 simp only[evA,simprocAttr]
 refine h37.call (by (repeat' (first | exact HL.nil | exact KS.nil | exact FrzC.nl | exact FrzC.c _ trivial | apply HL.cons | apply KS.cons | apply FrzV.agg | apply FrzV.tup | apply FrzV.c | refine FrzC.sl _ _ _ _ _ _ rfl (QC rfl) ?_))) ?_
 simp only[evA,simprocAttr]
 refine le39.call .nil ?_
 simp only[evA,simprocAttr]
 refine h20b.call (by (repeat' (first | exact HL.nil | exact KS.nil | exact FrzC.nl | exact FrzC.c _ trivial | apply HL.cons | apply KS.cons | apply FrzV.agg | apply FrzV.tup | apply FrzV.c | refine FrzC.sl _ _ _ _ _ _ rfl (QC rfl) ?_))) ?_
 simp only[evA,simprocAttr]
 refine DW_s [38,50,57,67,82,88,94] [(35,36),(35,37),(46,47),(46,48),(47,46),(47,48),(48,46),(48,47),(54,55),(55,54),(80,81),(86,87),(92,93)] hmix (by kernel_rfl) rfl ?_
 simp only[evA,simprocAttr]
 refine MS (v:=.agg [.sl 10 0 3 1,.i 600]) (le41 600 (.sl 10 0 3 1) ⟨rfl,rfl,rfl⟩ _ rfl) (GH rfl rfl fun l o h1 h2=>absurd h1 h2) ?_
 simp only[evA,simprocAttr]
 refine YE (h19.call (by (repeat' (first | exact HL.nil | exact KS.nil | exact FrzC.nl | exact FrzC.c _ trivial | apply HL.cons | apply KS.cons | apply FrzV.agg | apply FrzV.tup | apply FrzV.c | refine FrzC.sl _ _ _ _ _ _ rfl (QC rfl) ?_))) ⟨rfl,rfl⟩) rfl ?_
 simp only[evA,simprocAttr]
 refine YE (h27a.call (by (repeat' (first | exact HL.nil | exact KS.nil | exact FrzC.nl | exact FrzC.c _ trivial | apply HL.cons | apply KS.cons | apply FrzV.agg | apply FrzV.tup | apply FrzV.c | refine FrzC.sl _ _ _ _ _ _ rfl (QC rfl) ?_))) ⟨rfl,rfl⟩) rfl ?_
 simp only[evA,simprocAttr]
 refine YE (h27b.call (by (repeat' (first | exact HL.nil | exact KS.nil | exact FrzC.nl | exact FrzC.c _ trivial | apply HL.cons | apply KS.cons | apply FrzV.agg | apply FrzV.tup | apply FrzV.c | refine FrzC.sl _ _ _ _ _ _ rfl (QC rfl) ?_))) ⟨rfl,rfl⟩) rfl ?_
 simp only[evA,simprocAttr]
 refine YE (h32a.call (by (repeat' (first | exact HL.nil | exact KS.nil | exact FrzC.nl | exact FrzC.c _ trivial | apply HL.cons | apply KS.cons | apply FrzV.agg | apply FrzV.tup | apply FrzV.c | refine FrzC.sl _ _ _ _ _ _ rfl (QC rfl) ?_))) ⟨rfl,rfl⟩) rfl ?_
 have hk:JW (true,[.int .i64,.int .i64,.int .i64]) (.agg [.i 5,.i 1,.i 2]) (.agg [.i 5,.i 1,.i 2])=some true:=by kernel_rfl
 simp only[hk,evA,simprocAttr]
 refine YE (h32b.call (by (repeat' (first | exact HL.nil | exact KS.nil | exact FrzC.nl | exact FrzC.c _ trivial | apply HL.cons | apply KS.cons | apply FrzV.agg | apply FrzV.tup | apply FrzV.c | refine FrzC.sl _ _ _ _ _ _ rfl (QC rfl) ?_))) ⟨rfl,rfl⟩) rfl ?_
 simp only[evA,simprocAttr]
 refine YE (h32c.call (by (repeat' (first | exact HL.nil | exact KS.nil | exact FrzC.nl | exact FrzC.c _ trivial | apply HL.cons | apply KS.cons | apply FrzV.agg | apply FrzV.tup | apply FrzV.c | refine FrzC.sl _ _ _ _ _ _ rfl (QC rfl) ?_))) ⟨rfl,rfl⟩) rfl ?_
 simp only[evA,simprocAttr]
 refine YE (h32b.call (by (repeat' (first | exact HL.nil | exact KS.nil | exact FrzC.nl | exact FrzC.c _ trivial | apply HL.cons | apply KS.cons | apply FrzV.agg | apply FrzV.tup | apply FrzV.c | refine FrzC.sl _ _ _ _ _ _ rfl (QC rfl) ?_))) ⟨rfl,rfl⟩) rfl ?_
 simp only[evA,simprocAttr]
 (repeat' (first | exact HL.nil | exact KS.nil | exact FrzC.nl | exact FrzC.c _ trivial | apply HL.cons | apply KS.cons | apply FrzV.agg | apply FrzV.tup | apply FrzV.c | refine FrzC.sl _ _ _ _ _ _ rfl (QC rfl) ?_))
end Go.Proofs.YtgkidpolomhghaaGreatDoor.AM
